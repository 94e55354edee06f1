/-
Contracts of functions, and lemmas on them. No condition.
-/
import Derived.Test.YtbfjmimiigjenaaGreatDoorShelf
import Derived.Lib.SplitLaws
import Derived.Test.YtbfjmimiigjenaaGreatDoorKVData
import Derived.Test.YtbfjmimiigjenaaGreatDoorKVRow
set_option linter.unusedVariables false
set_option linter.unusedSectionVars false
set_option linter.unusedSimpArgs false
namespace Go.Proofs.YtbfjmimiigjenaaGreatDoor
open V
def low (b : UInt8) : Bool := decide (97 ≤ b.toNat ∧ b.toNat ≤ 122)
def words : Str → List Str
  | [] => [[]]
  | b :: r => if b = 46 then [] :: words r else match words r with
    | [] => [[b]]
    | w :: ws => (b :: w) :: ws
def grow (l : List Str) (b : UInt8) : List Str := l.set (l.length - 1) (l.getD (l.length - 1) [] ++ [b])
def okB (b : UInt8) : Bool := decide (b = 46) || low b
def okW (w : Str) : Bool := decide (1 ≤ w.length ∧ w.length ≤ 10)
def pathOk (t : Str) : Bool := t.all okB && decide ((words t).length ≤ 5) && (words t).all okW
end Go.Proofs.YtbfjmimiigjenaaGreatDoor
namespace Go.Proofs.YtbfjmimiigjenaaGreatDoor
open V
def pathsE (l : List Str) : Int := if l.all pathOk = true then 0 else 4
def leS (a b : Str) : Bool := Go.Op.bytesLess a b || decide (a = b)
theorem less_irrefl : ∀ a : Str, Go.Op.bytesLess a a = false
  | [] => rfl
  | x :: r => by simp [Go.Op.bytesLess, less_irrefl r]
theorem less_trans : ∀ {a b c : Str}, Go.Op.bytesLess a b = true → Go.Op.bytesLess b c = true → Go.Op.bytesLess a c = true
  | [], [], _, h, _ => by simp [Go.Op.bytesLess] at h
  | _ :: _, [], _, h, _ => by simp [Go.Op.bytesLess] at h
  | [], _ :: _, [], _, h => by simp [Go.Op.bytesLess] at h
  | [], _ :: _, _ :: _, _, _ => rfl
  | _ :: _, _ :: _, [], _, h => by simp [Go.Op.bytesLess] at h
  | x :: a, y :: b, z :: c, h1, h2 => by
    simp only [Go.Op.bytesLess, Bool.or_eq_true, decide_eq_true_eq, Bool.and_eq_true, beq_iff_eq, UInt8.lt_iff_toNat_lt] at h1 h2 ⊢
    rcases h1 with h1 | ⟨rfl, h1⟩
    · rcases h2 with h2 | ⟨rfl, h2⟩
      · exact .inl (by omega)
      · exact .inl h1
    · rcases h2 with h2 | ⟨rfl, h2⟩
      · exact .inl h2
      · exact .inr ⟨rfl, less_trans h1 h2⟩
theorem less_total : ∀ {a b : Str}, Go.Op.bytesLess a b = false → Go.Op.bytesLess b a = false → a = b
  | [], [], _, _ => rfl
  | [], _ :: _, h, _ => by simp [Go.Op.bytesLess] at h
  | _ :: _, [], _, h => by simp [Go.Op.bytesLess] at h
  | x :: a, y :: b, h1, h2 => by
    simp only [Go.Op.bytesLess, Bool.or_eq_false_iff, decide_eq_false_iff_not, Bool.and_eq_false_imp, beq_iff_eq, UInt8.lt_iff_toNat_lt] at h1 h2
    have hxy : x = y := UInt8.toNat_inj.1 (by omega)
    subst hxy
    rw [less_total (h1.2 rfl) (h2.2 rfl)]
theorem leS_false {a b : Str} (h : leS a b = false) : Go.Op.bytesLess b a = true := by
  unfold leS at h
  simp only [Bool.or_eq_false_iff, decide_eq_false_iff_not] at h
  cases hb : Go.Op.bytesLess b a with
  | true => rfl
  | false => exact absurd (less_total h.1 hb) h.2
def zeroE : Entry := ⟨[], Sum.zero⟩
def pathAt (l : List Entry) (i : Nat) : Str := (l.getD i zeroE).path
def rises (l : List Entry) : Bool := (List.range (l.length - 1)).all fun i => !leS (pathAt l (i + 1)) (pathAt l i)
def before (t : Str) (x : Entry) : Bool := Go.Op.bytesLess x.path t
def posOf (l : List Entry) (t : Str) : Nat := (l.takeWhile (before t)).length
def isAt (l : List Entry) (t : Str) : Bool := decide (posOf l t < l.length) && decide (pathAt l (posOf l t) = t)
theorem tw_le {α : Type} (p : α → Bool) (l : List α) : (l.takeWhile p).length ≤ l.length := by
  induction l with
  | nil => simp
  | cons x r ih => rw [List.takeWhile_cons]; split <;> simp; exact ih
def goodE (x : Entry) : Bool := pathOk x.path
def listE (l : List Entry) : Int := if 300 < l.length then 12 else if l.all goodE = true then (if rises l = true then 0 else 15) else 4
def checkE (t y : List Entry) : Int := if listE t = 0 then listE y else listE t
end Go.Proofs.YtbfjmimiigjenaaGreatDoor
namespace Go.Proofs.YtbfjmimiigjenaaGreatDoor
open Go V
def MaxLen (w : World) : Prop := ∃ m, w.cell? ⟨3, 0, none⟩ = some (.int .i64 m)
theorem MaxLen.ext {w w' : World} (h : MaxLen w) (he : Ext w w') : MaxLen w' := by
  obtain ⟨m, hm⟩ := h
  have hlt : 3 < w.heap.size := World.block_lt_of_cell? w ⟨3, 0, none⟩ hm
  exact ⟨m, by rw [← hm]; exact World.cell?_of_block (he.block 3 hlt)⟩
end Go.Proofs.YtbfjmimiigjenaaGreatDoor
namespace Go.Proofs.YtbfjmimiigjenaaGreatDoor
open Go V
theorem equalS_spec (w : World) (A B : Option Addr) (ca cb : Nat) (la lb : List Str) (ha : Sl kStr w A ca la) (hb : Sl kStr w B cb lb) :
    Gives Tryz.prog 28 [.slice A la.length ca, .slice B lb.length cb] w (boolE (decide (la = lb))) := by
  have sa := ha.small
  have hl : lim = 140737488351232 := rfl
  refine enterH tb_ok [(0, slE A la.length ca), (1, slE B lb.length cb)] Tryz.func28 rfl Tryz.ntmps28 rfl rfl ?_
  by_cases hlen : la.length = lb.length
  · refine RunH.adv tb_ok [false] rfl rfl (by simp [hlen] <;> omega) ?_
    refine RunH.loop (α := Nat) (fun i => [(0, slE A la.length ca), (1, slE B lb.length cb), (13, intE i), (12, intE la.length)]) (fun _ => []) (fun i w' => Ext w w' ∧ i ≤ la.length ∧ la.take i = lb.take i) (fun i => la.length - i) 0
      rfl rfl (fun w' h => ⟨h, Nat.zero_le _, rfl⟩) ?_
    intro i m
    refine RunH.pure (fun w' h => h.2) fun ⟨hi, hpre⟩ => ?_
    by_cases hlt : i < la.length
    · have hltb : i < lb.length := by omega
      refine RunH.adv tb_ok [true] rfl rfl (by simp <;> omega) ?_
      refine RunH.draw rfl [] rfl 9 rfl rfl ?_
      refine RunD.adv tb_ok (by kernel_rfl) [] rfl rfl (by simp [ha.ptr hlt, hb.ptr hltb] <;> omega) ?_
      refine RunD.load (by kernel_rfl) (i := 3) (strE la[i]) rfl rfl rfl rfl rfl rfl (fun w' h => (ha.ext h.1).load hlt) ?_
      refine RunD.load (by kernel_rfl) (i := 7) (strE lb[i]) rfl rfl rfl rfl rfl rfl (fun w' h => (hb.ext h.1).load hltb) ?_
      refine RunD.adv tb_ok (by kernel_rfl) [] rfl rfl (by simp <;> omega) ?_
      refine RunD.done (.inl rfl) (by kernel_rfl) ?_
      by_cases he : la[i] = lb[i]
      · refine RunH.adv tb_ok [false] rfl rfl (by simp [he] <;> omega) ?_
        refine RunH.again (i + 1) (.head _) rfl rfl (by omega) fun w' h => ⟨h.1, by omega, ?_⟩
        rw [List.take_succ_eq_append_getElem hlt, List.take_succ_eq_append_getElem hltb, hpre, he]
      · refine RunH.adv tb_ok [true] rfl rfl (by simp [he] <;> omega) ?_
        refine RunH.ret1 Tryz.func28 rfl rfl fun w' hst => ⟨?_, hst.fact.1⟩
        have : la ≠ lb := fun e => he (by subst e; rfl)
        simp [this, EV.v, AV.v]
    · refine RunH.adv tb_ok [false] rfl rfl (by simp <;> omega) ?_
      refine RunH.ret1 Tryz.func28 rfl rfl fun w' hst => ⟨?_, hst.fact.1⟩
      have : la = lb := by
        rw [← List.take_of_length_le (l := la) (i := i) (by omega), hpre, List.take_of_length_le (by omega)]
      simp [this, EV.v, AV.v]
  · refine RunH.adv tb_ok [true] rfl rfl (by simp [hlen] <;> omega) ?_
    refine RunH.ret1 Tryz.func28 rfl rfl fun w' hst => ⟨?_, hst.fact⟩
    have : la ≠ lb := fun e => hlen (by rw [e])
    simp [this, EV.v, AV.v]
def idxOf {α : Type} (p : α → Bool) : List α → Nat → Int
  | [], _ => -1
  | x :: r, i => if p x = true then i else idxOf p r (i + 1)
theorem idxOf_ge {α : Type} (p : α → Bool) : ∀ (l : List α) (i : Nat), 0 ≤ idxOf p l i ↔ l.any p = true
  | [], i => by simp [idxOf]
  | x :: r, i => by
    unfold idxOf
    by_cases h : p x = true
    · simp [h]
    · simp [h, idxOf_ge p r]
theorem idxOf_none {α : Type} (p : α → Bool) : ∀ (l : List α) (i : Nat), l.any p = false → idxOf p l i = -1
  | [], i, _ => rfl
  | x :: r, i, h => by
    simp only [List.any_cons, Bool.or_eq_false_iff] at h
    unfold idxOf
    rw [if_neg (by simp [h.1]), idxOf_none p r (i + 1) h.2]
theorem idxOf_at {α : Type} (p : α → Bool) : ∀ (l : List α) (i k : Nat) (h : k < l.length), (l.take k).any p = false → p l[k] = true → idxOf p l i = (i + k : Nat)
  | [], _, _, h, _, _ => by cases h
  | x :: r, i, 0, _, _, h => by
    have h : p x = true := h
    unfold idxOf; rw [if_pos h]; rfl
  | x :: r, i, k + 1, hk, hn, h => by
    simp only [List.take_succ_cons, List.any_cons, Bool.or_eq_false_iff] at hn
    unfold idxOf
    rw [if_neg (by simp [hn.1]), idxOf_at p r (i + 1) k (by simpa using hk) hn.2 (by simpa using h)]
    congr 1; omega
structure Fun1 {α : Type} (κ : Kd α) (w : World) (g : FuncId) (f1 c1 : List Value) (l : List α) (p : α → Bool) : Prop where
  enter : ∀ (xs : Array Value) w, (callFunc g xs).run Tryz.prog w = .ok (.enter g xs) w
  says : ∀ x ∈ l, ∀ u, Ext w u → Gives Tryz.prog g (f1 ++ [(κ.ev x).v] ++ c1) u (boolE (p x))
theorem Fun1.ext {α : Type} {κ : Kd α} {w w' : World} {g : FuncId} {f1 c1 : List Value} {l : List α} {p : α → Bool} (h : Fun1 κ w g f1 c1 l p) (he : Ext w w') : Fun1 κ w' g f1 c1 l p :=
  ⟨h.enter, fun x hx u hu => h.says x hx u (he.trans' hu)⟩
end Go.Proofs.YtbfjmimiigjenaaGreatDoor
namespace Go.Proofs.YtbfjmimiigjenaaGreatDoor
open Go V
end Go.Proofs.YtbfjmimiigjenaaGreatDoor
namespace Go.Proofs.YtbfjmimiigjenaaGreatDoor
open Go V
def Spc.at_ (s : Spc) (k : Nat) : Row Entry := if k = 0 then s.t else s.y
theorem Spc.ok.at_ {w : World} {s : Spc} (h : s.ok w) (k : Nat) : (Spc.at_ s k).ok kEntry w := by
  unfold Spc.at_; split
  · exact h.t
  · exact h.y
end Go.Proofs.YtbfjmimiigjenaaGreatDoor
namespace Go.Proofs.YtbfjmimiigjenaaGreatDoor
open Go V
theorem isNaN_spec (w : World) (s : Str) : Gives Tryz.prog 253 [strV s] w .ff := by
  refine enterH tb_ok [(0, strE s)] Tryz.func253 rfl Tryz.ntmps253 rfl rfl ?_
  refine RunH.adv tb_ok [] rfl rfl (by simp <;> omega) ?_
  refine RunH.ret1 Tryz.func253 rfl rfl fun w' hst => ⟨by simp [EV.v, AV.v], hst.fact⟩
def cmpS3 (a b : Str) : Int := if Op.bytesLess a b = true then -1 else if leS a b = true then 0 else 1
theorem Compare_spec (w : World) (a b : Str) : Gives Tryz.prog 195 [strV a, strV b] w (intE (cmpS3 a b)) := by
  refine enterH tb_ok [(0, strE a), (1, strE b)] Tryz.func195 rfl Tryz.ntmps195 rfl rfl ?_
  refine RunH.adv tb_ok [] rfl rfl (by simp <;> omega) ?_
  refine RunH.gives .ff rfl rfl rfl rfl rfl Tryz.call253 (fun w' _ => isNaN_spec w' a) ?_
  intro m1 h1
  refine RunH.adv tb_ok [] rfl rfl (by simp <;> omega) ?_
  refine RunH.gives .ff rfl rfl rfl rfl rfl Tryz.call253 (fun w' _ => isNaN_spec w' b) ?_
  intro m2 h2
  by_cases hl : Op.bytesLess a b = true
  · refine RunH.adv tb_ok [true] rfl rfl (by simp [hl] <;> omega) ?_
    refine RunH.ret1 Tryz.func195 rfl rfl fun w' hst => ⟨by simp [cmpS3, hl, EV.v, AV.v], hst.fact⟩
  · by_cases hle : leS a b = true
    · refine RunH.adv tb_ok [false, false] rfl rfl ⟨?_, by simpa [Ob.P] using hl, trivial⟩ ?_
      · unfold leS at hle; simp only [Ob.P, hle]; rfl
      refine RunH.ret1 Tryz.func195 rfl rfl fun w' hst => ⟨by simp [cmpS3, hl, hle, EV.v, AV.v], hst.fact⟩
    · have hle2 : leS a b = false := by simpa using hle
      refine RunH.adv tb_ok [false, true] rfl rfl ⟨?_, by simpa [Ob.P] using hl, trivial⟩ ?_
      · unfold leS at hle2; simp only [Ob.P, hle2]; rfl
      refine RunH.ret1 Tryz.func195 rfl rfl fun w' hst => ⟨by simp [cmpS3, hl, hle, EV.v, AV.v], hst.fact⟩
structure Fun2 (w : World) (g : FuncId) (f1 c1 : List Value) (l : List Entry) (t : Str) (F : Entry → Int) : Prop where
  enter : ∀ (xs : Array Value) w, (callFunc g xs).run Tryz.prog w = .ok (.enter g xs) w
  says : ∀ x ∈ l, ∀ u, Ext w u → Gives Tryz.prog g (f1 ++ [(kEntry.ev x).v, strV t] ++ c1) u (intE (F x))
theorem cmpS3_neg (a b : Str) : cmpS3 a b < 0 ↔ Op.bytesLess a b = true := by
  unfold cmpS3
  split
  · simp [*]
  · split <;> simp [*]
theorem cmpS3_zero (a b : Str) : cmpS3 a b = 0 ↔ a = b := by
  unfold cmpS3
  split
  · rename_i h
    constructor
    · intro h; cases h
    · rintro rfl; rw [less_irrefl] at h; cases h
  · rename_i h
    split
    · rename_i h2
      unfold leS at h2
      simp only [Bool.or_eq_true, decide_eq_true_eq] at h2
      rcases h2 with h2 | h2
      · exact absurd h2 h
      · simp [h2]
    · rename_i h2
      constructor
      · intro h; cases h
      · rintro rfl; unfold leS at h2; simp at h2
abbrev atV (l : List Entry) (t : Str) : EV := .av (.val (.tuple #[intV (posOf l t), .bool (isAt l t)]))
end Go.Proofs.YtbfjmimiigjenaaGreatDoor
