/-
A part of the proofs of the laws of a seat: contracts of functions and lemmas on them; the listed package variables hold what the program's text lays. No further condition.
-/
import Derived.Test.YtagnkcdhenilbaaGreatDoorKVRaw
set_option linter.unusedVariables false
set_option linter.unusedSectionVars false
set_option linter.unusedSimpArgs false
/-
append of a make, where there is no room; no condition.
-/
namespace Go.Proofs.YtagnkcdhenilbaaGreatDoor.V
open Go Go.RowKit
theorem run_append_make {P : Program} (w : World) (t tx ty e : TypeId) (i : TypeInfo) (z : Value) (ht : P.underlying t = some (.slice e)) (htx : P.underlying tx = some (.int .i64)) (hi : P.info? e = some i) (hz : i.zero = some z) (hsz : 0 < i.size)
    (b : Addr) (sLen sCap : Nat) (olds : List Value) (hlo : olds.length = sLen * i.size) (holds : ∀ j v, olds[j]? = some v → w.cell? (b.add j) = some v)
    (n : Nat) (hn0 : 0 < n) (hg : sCap < sLen + n) (h63 : ((sLen + n : Nat) : Int) ≤ 9223372036854775807) (hfit : Builtin.nextslicecap (sLen + n) sCap * i.bytes ≤ 281474976710656) (hby : n * i.bytes ≤ 281474976710656) :
    (Builtin.append_ #[t, tx] ty #[.slice (some b) sLen sCap, .int .i64 n]).run P w =
      .ok (.slice (some ⟨w.heap.size, 0, none⟩) (sLen + n) (grownCap w (sLen + n) sCap e))
        (w.drew.alloc (.cells (olds.toArray ++ Builtin.zeroCells z.cells n ++ Builtin.zeroCells z.cells (grownCap w (sLen + n) sCap e - (sLen + n))) e)) := by
  have hn : ¬ (sLen + n ≤ sCap) := by omega
  have h63' : ¬ (9223372036854775807 < ((sLen : Int) + (n : Int))) := by omega
  have h48' : ¬ (281474976710656 < Builtin.nextslicecap (sLen + n) sCap * i.bytes) := by omega
  have hfo := run_firstCells_some (P := P) w.drew i.size sLen b sLen sCap olds hlo (by simpa using holds)
  have hw : IntKind.i64.wrap (n : Int) = n := wrap64_of (by omega)
  have hneg : ¬ ((n : Int) < 0) := by omega
  have hbig : ¬ (281474976710656 < (n : Int) * (i.bytes : Int)) := by
    have : (n : Int) * (i.bytes : Int) = ((n * i.bytes : Nat) : Int) := by simp
    omega
  have hns : ¬ (n = 0 ∨ i.size = 0) := by omega
  simp [Builtin.append_, run_underlying ht, run_underlying htx, sizeOf, typeInfo, zeroValue, hi, hz, asInt, asIntOf, hw, hneg, hbig, hn, h63', h48', hns, Question.forced, hfo, newRow, grownCap]
  intro h0
  have := Nat.mul_pos hn0 hsz
  omega

section
variable {P : Program} {n : Nat} {tb : TT} {B0 : Nat} {I : World → Prop} {H : Heap} {m : Nat} {env : SEnv}
/-- append of a make: a new block. y: its capacity. -/
theorem OpGo.appendMake (hk : tb.Ok P) {d id : Nat} {s x : Operand} {T T2 e : TypeId} {ty : TypeId} {ps : String} {af : Array Edge} {gd : Option (Nat × Bool)} {es : EV} {b : Addr} {sl cap q : Nat} {i : TypeInfo} {z : Value} {olds : List Value}
    (hd : Nat.blt d n = true) (hT : tb.und T = some (.slice e)) (hT2 : tb.und T2 = some (.int .i64)) (hi : tb.get e = some i) (hz : i.zero = some z) (hsz : 0 < i.size) (hzs : z.cells.size = i.size)
    (hs : evE env s = some es) (hsv : es.v = .slice (some b) sl cap) (hx : evE env x = some (.av (.val (.int .i64 q))))
    (hlo : olds.length = sl * i.size) (hold : ∀ w, St tb B0 H I w → ∀ j v, olds[j]? = some v → w.cell? (b.add j) = some v) (hq : 0 < q) (hg : cap < sl + q) (hb : (sl + q) * i.bytes ≤ 140737488355328) (h63 : sl + q ≤ maxLen) :
    OpGo P tb B0 n ⟨some d, .call ⟨.builtin .append, #[s, x], #[T, T2]⟩, ty, ps, af, gd⟩ env H m I (fun y : Nat × Array Value => (d, .av (.val (.slice (some ⟨m, 0, none⟩) (sl + q) y.1))) :: env)
      (fun y => (id, some (.obj m (.cells y.2 e))) :: H) (fun y w => I w ∧ (sl + q ≤ y.1 ∧ y.1 ≤ maxLen ∧ y.2.size = y.1 * i.size ∧ y.2.toList.take (sl * i.size) = olds)) := by
  intro w a hm hst ha
  have hdn : d < n := Nat.lt_of_lt_of_le (Nat.lt_succ_self d) (Nat.le_of_ble_eq_true hd)
  have hmx : sl + q ≤ 9223372036854775807 := by simp only [maxLen] at h63; omega
  have hrun := run_append_make (P := P) w T T2 ty e i z (hk.und hT) (hk.und hT2) (hk.get hi) hz hsz b sl cap olds hlo (hold w hst) q hq hg (by omega) (growslice_fits hg hb)
    (Nat.le_trans (Nat.mul_le_mul_right _ (Nat.le_add_left q sl)) (by omega))
  have hsv' : a.eval s = .slice (some b) sl cap := (ev_run ha hs).trans hsv
  have hxv' : a.eval x = .int .i64 q := ev_run ha hx
  have hge := grownCap_ge w (sl + q) cap e
  have hle := grownCap_le_maxLen w (sl + q) cap e h63
  unfold Oper.wp
  have : (execOp a.eval ⟨some d, .call ⟨.builtin .append, #[s, x], #[T, T2]⟩, ty, ps, af, gd⟩).run P w = .ok (.value (.slice (some ⟨w.heap.size, 0, none⟩) (sl + q) (grownCap w (sl + q) cap e)))
      (w.drew.alloc (.cells (olds.toArray ++ Builtin.zeroCells z.cells q ++ Builtin.zeroCells z.cells (grownCap w (sl + q) cap e - (sl + q))) e)) := by
    simp only [execOp, resolve, invoke, builtin, Sem.run_bind, Sem.run_pure, Result.andThen_ok, List.map_toArray, List.map_cons, List.map_nil, hsv', hxv', hrun]
  rw [this]
  subst hm
  have hd1 := hst.ext (drew_ext w)
  have hp := hd1.push (ext_alloc w.drew (.cells (olds.toArray ++ Builtin.zeroCells z.cells q ++ Builtin.zeroCells z.cells (grownCap w (sl + q) cap e - (sl + q))) e)) id (.obj w.heap.size (.cells (olds.toArray ++ Builtin.zeroCells z.cells q ++ Builtin.zeroCells z.cells (grownCap w (sl + q) cap e - (sl + q))) e))
    ⟨hst.base, heap_alloc_new w.drew _⟩ (fun k hk => by
      have : w.heap.size = k := by injection hk
      subst this; exact Nat.le_refl _)
  refine ⟨(grownCap w (sl + q) cap e, olds.toArray ++ Builtin.zeroCells z.cells q ++ Builtin.zeroCells z.cells (grownCap w (sl + q) cap e - (sl + q))), ?_, by simp, hp.mono fun u _ hu => ⟨hu, hge, hle, ?_, ?_⟩⟩
  · rw [kn_cons]; exact ha.put hdn _
  · simp only [Array.size_append, List.size_toArray, size_zeroCells, hzs, hlo, ← Nat.add_mul]
    congr 1; omega
  · simp only [Array.toList_append, List.append_assoc]
    exact List.take_left' hlo
end
end Go.Proofs.YtagnkcdhenilbaaGreatDoor.V
