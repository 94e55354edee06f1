/-
A part of the proofs of the laws of a seat: contracts of functions and lemmas on them; the listed package variables hold what the program's text lays. No further condition.
-/
import Derived.Test.YtagnkcdhenilbaaGreatDoorKP07f
import Derived.Test.YtagnkcdhenilbaaGreatDoorKPS5
set_option linter.unusedVariables false
set_option linter.unusedSectionVars false
set_option linter.unusedSimpArgs false
namespace Go.Proofs.YtagnkcdhenilbaaGreatDoor
open Go V

end Go.Proofs.YtagnkcdhenilbaaGreatDoor

namespace Go.Proofs.YtagnkcdhenilbaaGreatDoor
open Go V

/-- The stepper's operation, the region's last, on which all others lead. -/
theorem V.RunD.lastStep {P : Program} {f : Fr} {n : Nat} {S : Stops} {R : Ending → World → Prop} {tb : TT} {B0 : Nat} {I : World → Prop} {H : Heap} {nx m : Nat} {env : SEnv} {k : List Item} {ops : Array Oper} {i : Nat} {l : List Bool} {G0 : Heap} {I0 : World → Prop} {o : Oper} (hk : tb.Ok P) {v : Option EV} {H' : Heap} {nx' m' : Nat} {ob : List Ob} {eq : List Eqn}
    (ho : ops.toList[i]? = some o) (hr : Region.ready .any ops l.toArray = [i]) (hw : wantE env ops o.guard = .yes) (hf : finB ops i = true) (hl : Region.ready .any ops (l.set i true).toArray = [])
    (hs : stepOp tb env H nx m [] [] o.op = some (v, H', nx', m', ob, eq)) (heq : AllEqn eq) (hob : AllOb ob) (hm : m ≤ m') {env' : SEnv} (hv : OutOk n v o.dst env env')
    (h : ∀ m1, m ≤ m1 → RunH P f n tb B0 S R k env' H' nx' m1 I) : RunD P f n tb B0 S R k ops G0 I0 (0 + 1) l env H nx m I := by
  refine RunD.last (E := fun _ : Unit => env') (G := fun _ => H') (F := fun _ => I) ho hr hw hf ?_ nx' hl fun _ m1 hm1 => h m1 hm1
  intro w a hmw hst ha
  unfold OutOk at hv
  obtain ⟨w', q1, q2, q3, _⟩ := stepOp_ok hk ha hst hmw hs hob heq
  unfold Oper.wp
  rw [q1]
  cases v with
  | none =>
    cases hd : o.dst with
    | none =>
      rw [hd] at hv
      have hv : env' = env := hv
      subst hv
      exact ⟨(), by rw [hd]; exact ha, by omega, q2⟩
    | some d => rw [hd] at hv; exact hv.elim
  | some e =>
    cases hd : o.dst with
    | none => rw [hd] at hv; exact hv.elim
    | some d =>
      rw [hd] at hv
      obtain ⟨hdn, rfl⟩ := hv
      refine ⟨(), ?_, by omega, q2⟩
      rw [kn_cons, hd]
      exact ha.put (Nat.lt_of_lt_of_le (Nat.lt_succ_self d) (Nat.le_of_ble_eq_true hdn)) _

end Go.Proofs.YtagnkcdhenilbaaGreatDoor
