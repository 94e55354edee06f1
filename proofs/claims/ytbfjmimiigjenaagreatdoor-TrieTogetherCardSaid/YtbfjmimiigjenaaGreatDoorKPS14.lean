/-
A part of the proofs of the laws of a seat: contracts of functions and lemmas on them; the listed package variables hold what the program's text lays. No further condition.
-/
import Derived.Test.YtbfjmimiigjenaaGreatDoorKPS9
import Derived.Test.YtbfjmimiigjenaaGreatDoorKVKey
set_option linter.unusedVariables false
set_option linter.unusedSectionVars false
set_option linter.unusedSimpArgs false
namespace Go.Proofs.YtbfjmimiigjenaaGreatDoor
open Go V

/-- What is wrong with a namespace, a kind, and a path. -/
def askE (t y : List Entry) (k : Int) (l : List Str) : Int := if kindE t y k = 0 then pathsE l else kindE t y k

def findE (t y : List Entry) (k : Int) (x : Str) : Int := if askE t y k [x] = 0 then (if foundL (kList k t y) x = [] then 6 else 0) else askE t y k [x]
def findL (t y : List Entry) (k : Int) (x : Str) : List Entry := if askE t y k [x] = 0 then foundL (kList k t y) x else []

def plainE (t y : List Entry) (k : Int) (x : Str) : Int := if findE t y k x = 0 then (if oneB (findL t y k x) = true then 0 else 7) else findE t y k x
end Go.Proofs.YtbfjmimiigjenaaGreatDoor

namespace Go.Proofs.YtbfjmimiigjenaaGreatDoor
open Go V

abbrev Zr := List (Sum × (Option Addr × Nat))

end Go.Proofs.YtbfjmimiigjenaaGreatDoor

namespace Go.Proofs.YtbfjmimiigjenaaGreatDoor
open Go V

theorem V.RunH.free {P : Program} {f : Fr} {n : Nat} {S : Stops} {R : Ending → World → Prop} {tb : TT} {B0 : Nat} {I : World → Prop} {H : Heap} {nx m : Nat} {env : SEnv} {todo : List Item} {i : Nat} {x : HE} (hx : lookH H i = some x)
    (h : RunH P f n tb B0 S R todo env ((i, none) :: H) nx m (fun u => I u ∧ x.holds tb B0 u)) : RunH P f n tb B0 S R todo env H nx m I :=
  fun w hm hst => h w hm (hst.free hx)

end Go.Proofs.YtbfjmimiigjenaaGreatDoor
