/-
A part of the proofs of the laws of a seat: contracts of functions and lemmas on them; the listed package variables hold what the program's text lays. No further condition.
-/
import Derived.Test.YtagnkcdhenilbaaGreatDoorKP07f
import Derived.Test.YtagnkcdhenilbaaGreatDoorKPS5
set_option linter.unusedVariables false
set_option linter.unusedSectionVars false
set_option linter.unusedSimpArgs false
namespace Go.Proofs.YtagnkcdhenilbaaGreatDoor
open Go V

def undL (e : Int) (l : List Entry) : List Entry := if e = 0 then l else []

/-- The program's Under, whatever comes in. -/
theorem Under_all (s : Spc) (p : Str) (h1 : s.t.l.length ≤ 1000000) (h2 : s.y.l.length ≤ 1000000) (hp : p.length ≤ 1000000) :
    Does Tryz.prog tb 33 [s.ev.v, strV p] [] (fun u => MaxLen u ∧ s.ok u)
      (fun z : (Option Addr × Nat) × (Option Addr × Nat) => .tuple #[.agg #[.slice z.1.1 (undL (undE s.t.l s.y.l p) (underL p s.t.l)).length z.1.2, .slice z.2.1 (undL (undE s.t.l s.y.l p) (underL p s.y.l)).length z.2.2], intV (undE s.t.l s.y.l p)])
      (fun z => [(0, rowE kEntry z.1.1 z.1.2 (undL (undE s.t.l s.y.l p) (underL p s.t.l))), (1, rowE kEntry z.2.1 z.2.2 (undL (undE s.t.l s.y.l p) (underL p s.y.l)))]) (fun _ _ _ => True) := by
  have hl : lim = 140737488351232 := rfl
  by_cases he : undE s.t.l s.y.l p = 0
  · have := Under_ok s p he h1 h2 hp
    rw [he]
    exact this
  · refine Does.enter tb_ok [(0, s.ev), (1, strE p)] Tryz.func33 rfl Tryz.ntmps33 rfl rfl 0 ?_
    intro B0 m0 K
    generalize hre : undE s.t.l s.y.l p = e at *
    have hT0 : ∀ l, undL e l = [] := fun l => if_neg he
    refine RunH.adv tb_ok [] rfl rfl (by simp <;> omega) ?_
    refine RunH.gives (ho := rfl) (hw := rfl) (hd := rfl) (hf := rfl) (hes := rfl) (hc := Tryz.call19) (e := intE (checkE s.t.l s.y.l)) (hC := fun u hu => space_Check u hu.fact.2.1 s hu.fact.2.2) ?_
    intro m1 hm1
    by_cases hc : checkE s.t.l s.y.l = 0
    · have hE : e = pathsE [p] := by rw [← hre]; exact if_pos hc
      have hq : pathsE [p] ≠ 0 := by rw [← hE]; exact he
      refine RunH.adv tb_ok [false] rfl rfl (by simp [hc] <;> omega) ?_
      refine RunH.gives (ho := rfl) (hw := rfl) (hd := rfl) (hf := rfl) (hes := rfl) (hc := Tryz.call85) (e := intE (pathsE [p])) (hC := fun u hu => space_paths u hu.fact.2.1 _ _ [p] (Sl.own (B := B0) (hu.row (κ := kStr) (l := [p]) (id := 2) rfl) (by simp [hl]))) ?_
      intro m2 hm2
      refine RunH.adv tb_ok [true] rfl rfl (by simp [hq] <;> omega) ?_
      refine RunH.nilrow 20 kEntry.T kEntry.sz 21 ?_
      refine RunH.nilrow 21 kEntry.T kEntry.sz 22 ?_
      refine RunH.retBoxT tb_ok nilSp Tryz.func33 rfl rfl rfl rfl rfl fun w hst => ⟨((none, 0), (none, 0)), by rw [hT0, hT0, hE]; rfl, by rw [hT0, hT0]; exact hst.out [(0, 20), (1, 21)] rfl rfl fun u h => ⟨h.1, trivial⟩⟩
    · have hE : e = checkE s.t.l s.y.l := by rw [← hre]; exact if_neg hc
      refine RunH.adv tb_ok [true] rfl rfl (by simp [hc] <;> omega) ?_
      refine RunH.nilrow 20 kEntry.T kEntry.sz 21 ?_
      refine RunH.nilrow 21 kEntry.T kEntry.sz 22 ?_
      refine RunH.retBoxT tb_ok nilSp Tryz.func33 rfl rfl rfl rfl rfl fun w hst => ⟨((none, 0), (none, 0)), by rw [hT0, hT0, hE]; rfl, by rw [hT0, hT0]; exact hst.out [(0, 20), (1, 21)] rfl rfl fun u h => ⟨h.1, trivial⟩⟩
end Go.Proofs.YtagnkcdhenilbaaGreatDoor
