/-
Contracts of functions, and lemmas on them. No condition.
-/
import Derived.Test.YtbfjmimiigjenaaGreatDoorKSPath
import Derived.Test.YtbfjmimiigjenaaGreatDoorKVRaw
set_option linter.unusedVariables false
set_option linter.unusedSectionVars false
set_option linter.unusedSimpArgs false
namespace Go.Proofs.YtbfjmimiigjenaaGreatDoor
open Go V
theorem cloneB (A : Option Addr) (c : Nat) (l : List UInt8) (hb : l.length * 1 ≤ 140737488355328) : Does Tryz.prog tb 90 [.slice A l.length c] [] (fun u => Sl kByte u A c l) (fun y : Option Addr × Nat => .slice y.1 l.length y.2) (fun y => [(0, rowE kByte y.1 y.2 l)]) (fun _ _ _ => True) := by
  refine Does.enter tb_ok [(0, slE A l.length c)] Tryz.func90 rfl Tryz.ntmps90 rfl rfl 0 ?_
  intro B0 m K
  refine RunH.pure (fun u h => And.intro h.2.nil h.2.small) fun ⟨hnil, hsm⟩ => ?_
  cases hA : A.isNone with
  | true =>
    have hn : A = none := Option.isNone_iff_eq_none.1 hA
    obtain ⟨rfl, rfl⟩ := hnil hn
    subst hn
    refine RunH.adv tb_ok [true] rfl rfl (by simp <;> omega) ?_
    refine RunH.ret1 Tryz.func90 rfl rfl fun w hst => ⟨(none, 0), rfl, (hst.nilrow 0 kByte).out [] rfl rfl fun u h => ⟨h.1, trivial⟩⟩
  | false =>
    refine RunH.adv tb_ok [false] rfl rfl ⟨hA, trivial⟩ ?_
    refine RunH.appendK (κ := kByte) (id := 0) (l := []) (r := l) rfl rfl rfl rfl rfl rfl elt_byte rfl rfl (fun w hst => hst.fact.2.lies) (by simp; omega) (by simp; omega) ?_
    intro A' c' m' hm'
    refine RunH.adv tb_ok [] rfl rfl (by simp <;> omega) ?_
    refine RunH.ret1 Tryz.func90 rfl rfl fun w hst => ⟨(A', c'), rfl, hst.out [] rfl rfl fun u h => ⟨h.1, trivial⟩⟩
def wkE (b : Nat) (v1 v2 : Value) : Option HE := some (.obj b (.cells #[v1, v2] 266))
def kOff (k : Int) : Nat := if k = 1 then 0 else 1
theorem load_wk {w : World} {b : Nat} {A B : Option Addr} {n c n2 c2 : Nat} (h : w.heap[b]? = some (.cells #[.slice A n c, .slice B n2 c2] 266)) (k : Int) :
    (loadVar 129 ⟨b, kOff k, none⟩).run Tryz.prog w = .ok (if k = 1 then .slice A n c else .slice B n2 c2) w := by
  refine V.run_load tb_ok ?_ ?_
  · split <;> exact ⟨rfl, Tryz.t129, rfl, rfl⟩
  · refine range_of_blk h fun j v hj => ?_
    unfold kOff
    split at hj
    · rename_i hk
      cases j with
      | zero => simpa [hk, Value.cells] using hj
      | succ j => simp [Value.cells] at hj
    · rename_i hk
      cases j with
      | zero => simpa [hk, Value.cells] using hj
      | succ j => simp [Value.cells] at hj
abbrev slV (A : Option Addr) (n c : Nat) : Value := .slice A n c
abbrev wkG (t y : List Entry) (x : Nat × (Option Addr × Nat) × (Option Addr × Nat)) : Heap :=
  [(0, wkE x.1 (slV x.2.1.1 t.length x.2.1.2) (slV x.2.2.1 y.length x.2.2.2)), (1, rowE kEntry x.2.1.1 x.2.1.2 t), (2, rowE kEntry x.2.2.1 x.2.2.2 y)]
def kList (k : Int) (t y : List Entry) : List Entry := if k = 1 then t else y
def kindE (t y : List Entry) (k : Int) : Int := if checkE t y = 0 then (if k = 1 ∨ k = 2 then 0 else 3) else checkE t y
end Go.Proofs.YtbfjmimiigjenaaGreatDoor
namespace Go.Proofs.YtbfjmimiigjenaaGreatDoor
open Go V
def hasPre (s p : Str) : Bool := decide (p.length ≤ s.length) && decide (s.take p.length = p)
theorem HasPrefix_spec (w : World) (s p : Str) : Gives Tryz.prog 185 [strV s, strV p] w (boolE (hasPre s p)) := by
  refine enterH tb_ok [(0, strE s), (1, strE p)] Tryz.func185 rfl Tryz.ntmps185 rfl rfl ?_
  by_cases h : p.length ≤ s.length
  · refine RunH.adv tb_ok [true] rfl rfl (by simp <;> omega) ?_
    refine RunH.ret1 Tryz.func185 rfl rfl fun w' hst => ⟨by simp [hasPre, h, EV.v, AV.v], hst.fact⟩
  · refine RunH.adv tb_ok [false] rfl rfl (by simp <;> omega) ?_
    refine RunH.ret1 Tryz.func185 rfl rfl fun w' hst => ⟨by simp [hasPre, h, EV.v, AV.v], hst.fact⟩
def cutS (s p : Str) : Str := if hasPre s p = true then s.drop p.length else s
abbrev cutV (s p : Str) : EV := .av (.val (.tuple #[strV (cutS s p), .bool (hasPre s p)]))
theorem CutPre0_spec (w : World) (s p : Str) : Gives Tryz.prog 101 [strV s, strV p] w (cutV s p) := by
  refine enterH tb_ok [(0, strE s), (1, strE p)] Tryz.func101 rfl Tryz.ntmps101 rfl rfl ?_
  refine RunH.adv tb_ok [] rfl rfl (by simp <;> omega) ?_
  refine RunH.gives (boolE (hasPre s p)) rfl rfl rfl rfl rfl Tryz.call185 (fun w' _ => HasPrefix_spec w' s p) ?_
  intro m hm
  by_cases h : hasPre s p = true
  · have hle : p.length ≤ s.length := by
      unfold hasPre at h
      simp only [Bool.and_eq_true, decide_eq_true_eq] at h
      exact h.1
    refine RunH.adv tb_ok [false] rfl rfl (by simp [h] <;> omega) ?_
    refine RunH.ret2 Tryz.func101 rfl rfl rfl fun w' hst => ⟨by simp [cutS, h, EV.v, AV.v], hst.fact⟩
  · refine RunH.adv tb_ok [true] rfl rfl (by simp [h] <;> omega) ?_
    refine RunH.ret2 Tryz.func101 rfl rfl rfl fun w' hst => ⟨by simp [cutS, h, EV.v, AV.v], hst.fact⟩
theorem CutPre_spec (w : World) (s p : Str) : Gives Tryz.prog 32 [strV s, strV p] w (cutV s p) := by
  refine enterH tb_ok [(0, strE s), (1, strE p)] Tryz.func32 rfl Tryz.ntmps32 rfl rfl ?_
  refine RunH.adv tb_ok [] rfl rfl (by simp <;> omega) ?_
  refine RunH.gives (cutV s p) rfl rfl rfl rfl rfl Tryz.call101 (fun w' _ => CutPre0_spec w' s p) ?_
  intro m hm
  refine RunH.adv tb_ok [] rfl rfl (by simp <;> omega) ?_
  refine RunH.ret2 Tryz.func32 rfl rfl rfl fun w' hst => ⟨rfl, hst.fact⟩
end Go.Proofs.YtbfjmimiigjenaaGreatDoor
namespace Go.Proofs.YtbfjmimiigjenaaGreatDoor
open Go V
def oneB (l : List Entry) : Bool := l.all fun x => decide (x.sum = (l.getD 0 zeroE).sum)
theorem build_zero (w : World) : (Instr.build 40 #[]).run Tryz.prog w = .ok (sumV Sum.zero) w := by
  refine run_build w _ _ _ ?_
  kernel_rfl
theorem Sl.take {α : Type} {κ : Kd α} {w : World} {A : Option Addr} {c : Nat} {l : List α} (h : Sl κ w A c l) (i : Nat) (hi : i ≤ l.length) : Sl κ w A c (l.take i) := by
  have hlen : (l.take i).length = i := by rw [List.length_take]; omega
  refine ⟨by rw [hlen]; exact Nat.le_trans hi h.cap, by rw [hlen]; exact Nat.le_trans hi h.small, fun hn => h.addr fun e => hn (by rw [e, List.take_nil]), ?_, fun e => ?_⟩
  · intro j v hj
    refine h.cells j v ?_
    have e : l.flatMap κ.cs = (l.take i).flatMap κ.cs ++ (l.drop i).flatMap κ.cs := by rw [← List.flatMap_append, List.take_append_drop]
    rw [e, List.getElem?_append_left (List.getElem?_eq_some_iff.1 hj).1]
    exact hj
  · obtain ⟨rfl, h2⟩ := h.nil e
    exact ⟨List.take_nil, h2⟩
end Go.Proofs.YtbfjmimiigjenaaGreatDoor
namespace Go.Proofs.YtbfjmimiigjenaaGreatDoor
open Go V
end Go.Proofs.YtbfjmimiigjenaaGreatDoor
namespace Go.Proofs.YtbfjmimiigjenaaGreatDoor
open Go V
theorem putC_take {X : Array Value} {o : Nat} {cs : List Value} (h : o ≤ X.size) : (putC X o cs).toList.take o = X.toList.take o := by
  have hl : (X.toList.take o).length = o := by rw [List.length_take, Array.length_toList]; omega
  show ((X.toList.take o ++ cs) ++ X.toList.drop (o + cs.length)).take o = _
  rw [List.append_assoc, List.take_left' hl]
theorem putC_take2 {X : Array Value} {o : Nat} {cs : List Value} (h : o ≤ X.size) : (putC X o cs).toList.take (o + cs.length) = X.toList.take o ++ cs := by
  have hl : (X.toList.take o).length = o := by rw [List.length_take, Array.length_toList]; omega
  show ((X.toList.take o ++ cs) ++ X.toList.drop (o + cs.length)).take _ = _
  rw [List.take_left' (by rw [List.length_append, hl])]
end Go.Proofs.YtbfjmimiigjenaaGreatDoor
namespace Go.Proofs.YtbfjmimiigjenaaGreatDoor
open Go V
abbrev dropV (l : List Entry) (p : Str) : Value := .tuple #[sumV (l.getD (posOf l p) zeroE).sum, .bool true]
end Go.Proofs.YtbfjmimiigjenaaGreatDoor
namespace Go.Proofs.YtbfjmimiigjenaaGreatDoor
open Go V
abbrev nilSp : EV := .st [.val (.slice none 0 0), .val (.slice none 0 0)]
end Go.Proofs.YtbfjmimiigjenaaGreatDoor
