/-
A part of the proofs of the laws of a seat: contracts of functions and lemmas on them; the listed package variables hold what the program's text lays. No further condition.
-/
import Derived.Test.YtagnkcdhenilbaaGreatDoorKPS10
import Derived.Test.YtagnkcdhenilbaaGreatDoorKSPath
set_option linter.unusedVariables false
set_option linter.unusedSectionVars false
set_option linter.unusedSimpArgs false
/-
The ends of a path, held against a text; no program.
-/
namespace Go.Proofs.YtagnkcdhenilbaaGreatDoor
open V

end Go.Proofs.YtagnkcdhenilbaaGreatDoor

namespace Go.Proofs.YtagnkcdhenilbaaGreatDoor
open Go V

theorem V.RunD.pureS {P : Program} {f : Fr} {n : Nat} {tb : TT} {B0 : Nat} {S : Stops} {R : Ending → World → Prop} {k : List Item} {ops : Array Oper} {G : Heap} {I0 : World → Prop} {fuel : Nat} {l : List Bool} {env : SEnv} {H : Heap} {nx m : Nat} {I : World → Prop} {p : Prop}
    (h : ∀ w, St tb B0 H I w → p) (hr : p → RunD P f n tb B0 S R k ops G I0 fuel l env H nx m I) : RunD P f n tb B0 S R k ops G I0 fuel l env H nx m I :=
  fun w a hm hst => hr (h w hst) w a hm hst


end Go.Proofs.YtagnkcdhenilbaaGreatDoor
