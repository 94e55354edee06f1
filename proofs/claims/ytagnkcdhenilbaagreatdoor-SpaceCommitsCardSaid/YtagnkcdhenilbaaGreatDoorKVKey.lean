/-
A part of the proofs of the laws of a seat: contracts of functions and lemmas on them; the listed package variables hold what the program's text lays. No further condition.
-/
import Derived.Test.YtagnkcdhenilbaaGreatDoorKVMap
set_option linter.unusedVariables false
set_option linter.unusedSectionVars false
set_option linter.unusedSimpArgs false
/-
Digests and strings as keys of maps; no condition.
-/
namespace Go.Proofs.YtagnkcdhenilbaaGreatDoor.V
open Go Go.RowKit

theorem check_one {P : Program} (b : Bool) (n : Nat) {T : TypeId} {d : TypeDesc} (hd : P.underlying T = some d) (h : d.isRow = false) (hi : ∀ m, d ≠ .interface m) (v : Value) (w : World) : (Instr.checkKey b (n + 1) T v).run P w = .ok () w := by
  rw [Instr.checkKey, Sem.run_bind, run_underlying hd w, Result.andThen_ok]
  cases d <;> first | rfl | (exact absurd rfl (hi _)) | cases h

theorem check_bytes {P : Program} (b : Bool) (n : Nat) {T e : TypeId} {l : Nat} (hT : P.underlying T = some (.array l e)) (he : P.underlying e = some (.int .u8)) (hs : ∀ w, (sizeOf e).run P w = .ok 1 w) (xs : List UInt8) (hx : xs.length = l) (w : World) :
    (Instr.checkKey b (n + 2) T (.agg (xs.map u8V).toArray)).run P w = .ok () w := by
  rw [show n + 2 = (n + 1) + 1 from rfl, Instr.checkKey, Sem.run_bind, run_underlying hT w, Result.andThen_ok]
  simp only []
  rw [Std.Legacy.Range.forIn_eq_forIn_range']
  have hr : List.range' ([:l] : Std.Legacy.Range).start ([:l] : Std.Legacy.Range).size ([:l] : Std.Legacy.Range).step = List.range' 0 l 1 := by simp [Std.Legacy.Range.size]
  rw [hr]
  have key : ∀ (m k : Nat), k + m = l → (forIn (List.range' k m 1) PUnit.unit fun i (_ : PUnit) => (do
      Instr.checkKey b (n + 1) e (← part e (xs.map u8V).toArray (i * (← sizeOf e)))
      pure (ForInStep.yield PUnit.unit) : Sem _)).run P w = .ok PUnit.unit w := by
    intro m
    induction m with
    | zero => intro k _; rfl
    | succ m ih =>
      intro k hk
      rw [List.range'_succ, List.forIn_cons]
      simp only [Sem.run_bind, hs, Result.andThen_ok, Nat.mul_one, part_u8 w he xs k (by omega), check_one b n he rfl (fun _ => nofun), Sem.run_pure]
      exact ih (k + 1) (by omega)
  rw [Sem.run_bind, key l 0 (by omega)]; rfl

theorem same_u8 (n : Nat) : ∀ xs : List UInt8, (((xs.map u8V).zip (xs.map u8V)).all fun p => Instr.sameBits (n + 1) p.1 p.2) = true
  | [] => rfl
  | x :: r => by
    rw [List.map_cons, List.zip_cons_cons, List.all_cons, same_u8 n r]
    simp [u8V, Instr.sameBits]

theorem key_sum : MKey Tryz.prog 39 sumV where
  check b w k := check_bytes b 9998 (tb_ok.und und_sum) (tb_ok.und (d := .int .u8) rfl) (fun w => run_tsize tb_ok (i := Tryz.t5) rfl) k.l k.h w
  eq w a b := eq_sum w 9998 a b
  stays k := by
    show Instr.sameBits (9999 + 1) (.agg _) (.agg _) = true
    rw [Instr.sameBits]
    simp only [Bool.and_eq_true, beq_self_eq_true, true_and]
    exact same_u8 9998 k.l
  now d _ a b r h := by cases d <;> cases h
  und := ⟨_, tb_ok.und und_sum⟩

end Go.Proofs.YtagnkcdhenilbaaGreatDoor.V
