/-
A part of the proofs of the laws of a seat: contracts of functions and lemmas on them; the listed package variables hold what the program's text lays. No further condition.
-/
import Derived.Test.YtagnkcdhenilbaaGreatDoorKPS10
import Derived.Test.YtagnkcdhenilbaaGreatDoorKSPath
set_option linter.unusedVariables false
set_option linter.unusedSectionVars false
set_option linter.unusedSimpArgs false
/-
The ends of a path, held against a text; no program.
-/
namespace Go.Proofs.YtagnkcdhenilbaaGreatDoor
open V

end Go.Proofs.YtagnkcdhenilbaaGreatDoor

namespace Go.Proofs.YtagnkcdhenilbaaGreatDoor
open Go V

theorem V.RunD.pureS {P : Program} {f : Fr} {n : Nat} {tb : TT} {B0 : Nat} {S : Stops} {R : Ending → World → Prop} {k : List Item} {ops : Array Oper} {G : Heap} {I0 : World → Prop} {fuel : Nat} {l : List Bool} {env : SEnv} {H : Heap} {nx m : Nat} {I : World → Prop} {p : Prop}
    (h : ∀ w, St tb B0 H I w → p) (hr : p → RunD P f n tb B0 S R k ops G I0 fuel l env H nx m I) : RunD P f n tb B0 S R k ops G I0 fuel l env H nx m I :=
  fun w a hm hst => hr (h w hst) w a hm hst


theorem r07_At (w : World) (A : Option Addr) (c : Nat) (l : List Entry) (h : Sl kEntry w A c l) (p : Str) : Gives Tryz.prog 107 [.slice A l.length c, strV p] w (atV l p) := by
  have hl : lim = 140737488351232 := rfl
  have hsm := h.small
  have hpl : posOf l p ≤ l.length := tw_le _ _
  refine enterH tb_ok [(0, slE A l.length c), (1, strE p)] Tryz.func107 rfl Tryz.ntmps107 rfl rfl ?_
  refine RunH.adv tb_ok [] rfl rfl (by simp <;> omega) ?_
  refine RunH.loop (α := Nat) (fun i => [(0, slE A l.length c), (1, strE p), (6, intE i)]) (fun _ => []) (fun i w' => Ext w w' ∧ i ≤ posOf l p) (fun i => l.length - i) 0
    rfl rfl (fun w' h => ⟨h, Nat.zero_le _⟩) ?_
  intro i m
  refine RunH.pure (fun w' h => h.2) fun hi => ?_
  by_cases hlt : i < l.length
  · refine RunH.adv tb_ok [true] rfl rfl (by simp [h.ptr hlt] <;> omega) ?_
    refine RunH.load (strE l[i].path) rfl rfl rfl rfl (fun w' h' => (h.ext h'.1).path hlt) ?_
    by_cases hb : Op.bytesLess l[i].path p = true
    · refine RunH.adv tb_ok [true] rfl rfl (by simp [hb] <;> omega) ?_
      refine RunH.again (i + 1) (.head _) rfl rfl (by omega) fun w' h => ⟨h.1, ?_⟩
      rcases Nat.lt_or_ge i (posOf l p) with h1 | h1
      · exact h1
      · have e : posOf l p = i := by omega
        have := tw_at (before p) l (by unfold posOf at e; omega)
        simp only [show (l.takeWhile (before p)).length = i from e] at this
        unfold before at this
        rw [hb] at this; cases this
    · have e : posOf l p = i := by
        rcases Nat.lt_or_ge i (posOf l p) with h1 | h1
        · exact absurd (tw_lt (before p) l i hlt h1) hb
        · omega
      have hat : isAt l p = decide (l[i].path = p) := by
        unfold isAt
        simp [e, hlt, pathAt_eq]
      refine RunH.adv tb_ok [false] rfl rfl (by simp [hb] <;> omega) ?_
      refine RunH.draw rfl [] rfl 16 rfl rfl ?_
      refine RunD.adv tb_ok (by kernel_rfl) [true] rfl rfl (by simp [h.ptr hlt] <;> omega) ?_
      refine RunD.load (by kernel_rfl) (i := 10) (strE l[i].path) rfl rfl rfl rfl rfl rfl (fun w' h' => (h.ext h'.1).path hlt) ?_
      refine RunD.adv tb_ok (by kernel_rfl) [] rfl rfl (by simp <;> omega) ?_
      refine RunD.done (.inl rfl) (by kernel_rfl) ?_
      refine RunH.adv tb_ok [] rfl rfl (by simp <;> omega) ?_
      refine RunH.ret2 Tryz.func107 rfl rfl rfl fun w' hst => ⟨by rw [atV, e, hat]; rfl, hst.fact.1⟩
  · have e : posOf l p = i := by omega
    have hat : isAt l p = false := by
      unfold isAt
      simp; omega
    refine RunH.adv tb_ok [false] rfl rfl (by simp <;> omega) ?_
    refine RunH.draw rfl [] rfl 16 rfl rfl ?_
    refine RunD.adv tb_ok (by kernel_rfl) [false] rfl rfl (by simp <;> omega) ?_
    refine RunD.done (.inl rfl) (by kernel_rfl) ?_
    refine RunH.adv tb_ok [] rfl rfl (by simp <;> omega) ?_
    refine RunH.ret2 Tryz.func107 rfl rfl rfl fun w' hst => ⟨by rw [atV, e, hat]; rfl, hst.fact.1⟩

theorem bigL_small {l : List Entry} (h : bigL l = false) : l.length ≤ 310 ∧ ∀ x ∈ l, x.path.length ≤ 80 := by
  unfold bigL at h
  rw [Bool.or_eq_false_iff] at h
  refine ⟨by simpa using h.1, fun x hx => ?_⟩
  have h2 := h.2
  rw [List.any_eq_false] at h2
  have := h2 x hx
  unfold bigE at this
  simpa using this
end Go.Proofs.YtagnkcdhenilbaaGreatDoor
