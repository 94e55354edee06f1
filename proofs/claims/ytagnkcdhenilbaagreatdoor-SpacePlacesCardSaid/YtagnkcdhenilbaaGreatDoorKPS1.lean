/-
A part of the proofs of the laws of a seat: contracts of functions and lemmas on them; the listed package variables hold what the program's text lays. No further condition.
-/
import Derived.Test.YtagnkcdhenilbaaGreatDoorKVRow
import Derived.Test.YtagnkcdhenilbaaGreatDoorKSPath
set_option linter.unusedVariables false
set_option linter.unusedSectionVars false
set_option linter.unusedSimpArgs false
namespace Go.Proofs.YtagnkcdhenilbaaGreatDoor
open Go V
theorem word_spec (w : World) (s : Str) (hs : s.length ≤ 1000000) : Gives Tryz.prog 84 [strV s] w (boolE (wordOk s)) := by
  refine enterH tb_ok [(0, strE s)] Tryz.func84 rfl Tryz.ntmps84 rfl rfl ?_
  refine RunH.adv tb_ok [] rfl rfl (by simp <;> omega) ?_
  refine RunH.range 0 1 tb_ok rfl rfl rfl rfl rfl ?_
  intro m1 hm1
  refine RunH.adv tb_ok [] rfl rfl (by simp <;> omega) ?_
  refine RunH.loop (α := Nat) (fun _ => [(0, strE s), (6, .av (.box 0 w.heap.size 0))]) (fun p => [(0, some (.obj w.heap.size (.stringIter ⟨⟨s⟩⟩ p)))]) (fun p w' => Ext w w' ∧ p ≤ s.length ∧ (s.take p).all low = true) (fun p => s.length - p) 0
    rfl rfl (fun w' h => ⟨h, Nat.zero_le _, rfl⟩) ?_
  intro p m
  refine RunH.pure (fun w' h => h.2) fun ⟨hp, hpre⟩ => ?_
  have hsz : (ByteArray.mk ⟨s⟩).size = s.length := rfl
  by_cases hlt : p < s.length
  · have hts : s.take (p + 1) = s.take p ++ [s[p]] := List.take_succ_eq_append_getElem hlt
    have hbad : low s[p] = false → wordOk s = false := fun h => by
      have : s.all low = false := by rw [List.all_eq_false]; exact ⟨_, List.getElem_mem hlt, by simp [h]⟩
      simp [wordOk, this]
    refine RunH.adv tb_ok [] rfl rfl (by simp <;> omega) ?_
    by_cases ha : s[p].toNat < 128
    · have hdec : Utf8.decode ⟨⟨s⟩⟩ p = (s[p].toNat, 1) := decode_ascii ⟨⟨s⟩⟩ p hlt ha
      refine RunH.next rfl rfl rfl rfl rfl hlt hdec ?_
      intro m' hm'
      by_cases h1 : s[p].toNat < 97
      · refine RunH.adv tb_ok [true, true] rfl rfl (by simp <;> omega) ?_
        refine RunH.ret1 Tryz.func84 rfl rfl fun w' hst => ⟨by rw [hbad (by simp [low]; omega)]; rfl, hst.fact.1⟩
      · by_cases h2 : 122 < s[p].toNat
        · refine RunH.adv tb_ok [true, false, true] rfl rfl (by simp <;> omega) ?_
          refine RunH.ret1 Tryz.func84 rfl rfl fun w' hst => ⟨by rw [hbad (by simp [low]; omega)]; rfl, hst.fact.1⟩
        · refine RunH.adv tb_ok [true, false, false] rfl rfl (by simp <;> omega) ?_
          refine RunH.again (p + 1) (.head _) rfl rfl (by omega) fun w' h => ⟨h.1, by omega, ?_⟩
          rw [hts, List.all_append, hpre]; simp [low]; omega
    · have hdec := decode_high ⟨⟨s⟩⟩ p hlt (by show 128 ≤ s[p].toNat; omega)
      have hle := decode_le ⟨⟨s⟩⟩ p
      refine RunH.next (r := (Utf8.decode ⟨⟨s⟩⟩ p).1) (q := (Utf8.decode ⟨⟨s⟩⟩ p).2) rfl rfl rfl rfl rfl hlt rfl ?_
      intro m' hm'
      refine RunH.adv tb_ok [true, false, true] rfl rfl (by simp <;> omega) ?_
      refine RunH.ret1 Tryz.func84 rfl rfl fun w' hst => ⟨by rw [hbad (by simp [low]; omega)]; rfl, hst.fact.1⟩
  · rw [List.take_of_length_le (by omega)] at hpre
    refine RunH.adv tb_ok [] rfl rfl (by simp <;> omega) ?_
    refine RunH.nextEnd rfl rfl rfl rfl rfl hlt ?_
    intro m' hm'
    by_cases h1 : 1 ≤ s.length
    · refine RunH.adv tb_ok [false, true] rfl rfl (by simp <;> omega) ?_
      refine RunH.ret1 Tryz.func84 rfl rfl fun w' hst => ⟨?_, hst.fact.1⟩
      simp [wordOk, hpre, okW, h1, EV.v, AV.v]
      omega
    · refine RunH.adv tb_ok [false, false] rfl rfl (by simp <;> omega) ?_
      refine RunH.ret1 Tryz.func84 rfl rfl fun w' hst => ⟨?_, hst.fact.1⟩
      simp [wordOk, okW, h1, EV.v, AV.v]

theorem equalE_spec (w : World) (A B : Option Addr) (ca cb : Nat) (la lb : List Entry) (ha : Sl kEntry w A ca la) (hb : Sl kEntry w B cb lb) :
    Gives Tryz.prog 28 [.slice A la.length ca, .slice B lb.length cb] w (boolE (decide (la = lb))) := by
  have sa := ha.small
  have hl : lim = 140737488351232 := rfl
  refine enterH tb_ok [(0, slE A la.length ca), (1, slE B lb.length cb)] Tryz.func28 rfl Tryz.ntmps28 rfl rfl ?_
  by_cases hlen : la.length = lb.length
  · refine RunH.adv tb_ok [false] rfl rfl (by simp [hlen] <;> omega) ?_
    refine RunH.loop (α := Nat) (fun i => [(0, slE A la.length ca), (1, slE B lb.length cb), (13, intE i), (12, intE la.length)]) (fun _ => []) (fun i w' => Ext w w' ∧ i ≤ la.length ∧ la.take i = lb.take i) (fun i => la.length - i) 0
      rfl rfl (fun w' h => ⟨h, Nat.zero_le _, rfl⟩) ?_
    intro i m
    refine RunH.pure (fun w' h => h.2) fun ⟨hi, hpre⟩ => ?_
    by_cases hlt : i < la.length
    · have hltb : i < lb.length := by omega
      refine RunH.adv tb_ok [true] rfl rfl (by simp <;> omega) ?_
      refine RunH.draw rfl [] rfl 9 rfl rfl ?_
      refine RunD.adv tb_ok (by kernel_rfl) [] rfl rfl (by simp [ha.ptr hlt, hb.ptr hltb] <;> omega) ?_
      refine RunD.load (by kernel_rfl) (i := 3) (.st (entryF la[i])) rfl rfl rfl rfl rfl rfl (fun w' h => (ha.ext h.1).load hlt) ?_
      refine RunD.load (by kernel_rfl) (i := 7) (.st (entryF lb[i])) rfl rfl rfl rfl rfl rfl (fun w' h => (hb.ext h.1).load hltb) ?_
      refine RunD.read (by kernel_rfl) (i := 8) (boolE (!decide (la[i] = lb[i]))) rfl rfl rfl rfl rfl rfl (fun w' a h hag => op_neq hag rfl rfl rfl rfl rfl (by kernel_rfl) (eq_entry w' 9997 _ _)) ?_
      refine RunD.done (.inl rfl) (by kernel_rfl) ?_
      by_cases he : la[i] = lb[i]
      · refine RunH.adv tb_ok [false] rfl rfl (by simp [he] <;> omega) ?_
        refine RunH.again (i + 1) (.head _) rfl rfl (by omega) fun w' h => ⟨h.1, by omega, ?_⟩
        rw [List.take_succ_eq_append_getElem hlt, List.take_succ_eq_append_getElem hltb, hpre, he]
      · refine RunH.adv tb_ok [true] rfl rfl (by simp [he] <;> omega) ?_
        refine RunH.ret1 Tryz.func28 rfl rfl fun w' hst => ⟨?_, hst.fact.1⟩
        have : la ≠ lb := fun e => he (by subst e; rfl)
        simp [this, EV.v, AV.v]
    · refine RunH.adv tb_ok [false] rfl rfl (by simp <;> omega) ?_
      refine RunH.ret1 Tryz.func28 rfl rfl fun w' hst => ⟨?_, hst.fact.1⟩
      have : la = lb := by
        rw [← List.take_of_length_le (l := la) (i := i) (by omega), hpre, List.take_of_length_le (by omega)]
      simp [this, EV.v, AV.v]
  · refine RunH.adv tb_ok [true] rfl rfl (by simp [hlen] <;> omega) ?_
    refine RunH.ret1 Tryz.func28 rfl rfl fun w' hst => ⟨?_, hst.fact⟩
    have : la ≠ lb := fun e => hlen (by rw [e])
    simp [this, EV.v, AV.v]

theorem equalD_spec (w : World) (A B : Option Addr) (ca cb : Nat) (la lb : List Sum) (ha : Sl kSum w A ca la) (hb : Sl kSum w B cb lb) :
    Gives Tryz.prog 62 [.slice A la.length ca, .slice B lb.length cb] w (boolE (decide (la = lb))) := by
  have sa := ha.small
  have hl : lim = 140737488351232 := rfl
  refine enterH tb_ok [(0, slE A la.length ca), (1, slE B lb.length cb)] Tryz.func62 rfl Tryz.ntmps62 rfl rfl ?_
  by_cases hlen : la.length = lb.length
  · refine RunH.adv tb_ok [false] rfl rfl (by simp [hlen] <;> omega) ?_
    refine RunH.loop (α := Nat) (fun i => [(0, slE A la.length ca), (1, slE B lb.length cb), (13, intE i), (12, intE la.length)]) (fun _ => []) (fun i w' => Ext w w' ∧ i ≤ la.length ∧ la.take i = lb.take i) (fun i => la.length - i) 0
      rfl rfl (fun w' h => ⟨h, Nat.zero_le _, rfl⟩) ?_
    intro i m
    refine RunH.pure (fun w' h => h.2) fun ⟨hi, hpre⟩ => ?_
    by_cases hlt : i < la.length
    · have hltb : i < lb.length := by omega
      refine RunH.adv tb_ok [true] rfl rfl (by simp <;> omega) ?_
      refine RunH.draw rfl [] rfl 9 rfl rfl ?_
      refine RunD.adv tb_ok (by kernel_rfl) [] rfl rfl (by simp [ha.ptr hlt, hb.ptr hltb] <;> omega) ?_
      refine RunD.load (by kernel_rfl) (i := 3) (sumE la[i]) rfl rfl rfl rfl rfl rfl (fun w' h => (ha.ext h.1).load hlt) ?_
      refine RunD.load (by kernel_rfl) (i := 7) (sumE lb[i]) rfl rfl rfl rfl rfl rfl (fun w' h => (hb.ext h.1).load hltb) ?_
      refine RunD.read (by kernel_rfl) (i := 8) (boolE (!decide (la[i] = lb[i]))) rfl rfl rfl rfl rfl rfl (fun w' a h hag => op_neq hag rfl rfl rfl rfl rfl (by kernel_rfl) (eq_sum w' 9998 _ _)) ?_
      refine RunD.done (.inl rfl) (by kernel_rfl) ?_
      by_cases he : la[i] = lb[i]
      · refine RunH.adv tb_ok [false] rfl rfl (by simp [he] <;> omega) ?_
        refine RunH.again (i + 1) (.head _) rfl rfl (by omega) fun w' h => ⟨h.1, by omega, ?_⟩
        rw [List.take_succ_eq_append_getElem hlt, List.take_succ_eq_append_getElem hltb, hpre, he]
      · refine RunH.adv tb_ok [true] rfl rfl (by simp [he] <;> omega) ?_
        refine RunH.ret1 Tryz.func62 rfl rfl fun w' hst => ⟨?_, hst.fact.1⟩
        have : la ≠ lb := fun e => he (by subst e; rfl)
        simp [this, EV.v, AV.v]
    · refine RunH.adv tb_ok [false] rfl rfl (by simp <;> omega) ?_
      refine RunH.ret1 Tryz.func62 rfl rfl fun w' hst => ⟨?_, hst.fact.1⟩
      have : la = lb := by
        rw [← List.take_of_length_le (l := la) (i := i) (by omega), hpre, List.take_of_length_le (by omega)]
      simp [this, EV.v, AV.v]
  · refine RunH.adv tb_ok [true] rfl rfl (by simp [hlen] <;> omega) ?_
    refine RunH.ret1 Tryz.func62 rfl rfl fun w' hst => ⟨?_, hst.fact⟩
    have : la ≠ lb := fun e => hlen (by rw [e])
    simp [this, EV.v, AV.v]

theorem space_Same (w : World) (s t : Spc) (hs : s.ok w) (ht : t.ok w) : Gives Tryz.prog 21 [s.ev.v, t.ev.v] w (boolE (decide (s.t.l = t.t.l) && decide (s.y.l = t.y.l))) := by
  refine enterH tb_ok [(0, s.ev), (1, t.ev)] Tryz.func21 rfl Tryz.ntmps21 rfl rfl ?_
  refine RunH.adv tb_ok [] rfl rfl (by simp <;> omega) ?_
  refine RunH.gives (boolE (decide (s.t.l = t.t.l))) rfl rfl rfl rfl rfl Tryz.call28 (fun w' hst => equalE_spec w' _ _ _ _ _ _ (hs.t.ext hst.fact) (ht.t.ext hst.fact)) ?_
  intro m' hm'
  by_cases h1 : s.t.l = t.t.l
  · refine RunH.adv tb_ok [true] rfl rfl (by simp [h1] <;> omega) ?_
    refine RunH.gives (boolE (decide (s.y.l = t.y.l))) rfl rfl rfl rfl rfl Tryz.call28 (fun w' hst => equalE_spec w' _ _ _ _ _ _ (hs.y.ext hst.fact) (ht.y.ext hst.fact)) ?_
    intro m2 hm2
    refine RunH.adv tb_ok [] rfl rfl (by simp <;> omega) ?_
    refine RunH.ret1 Tryz.func21 rfl rfl fun w' hst => ⟨by simp [h1, EV.v, AV.v], hst.fact⟩
  · refine RunH.adv tb_ok [false] rfl rfl (by simp [h1] <;> omega) ?_
    refine RunH.ret1 Tryz.func21 rfl rfl fun w' hst => ⟨by simp [h1, EV.v, AV.v], hst.fact⟩

theorem Path1_spec (w : World) (s : Str) (hs : s.length ≤ 1000000) : Gives Tryz.prog 83 [strV s] w (boolE (!wordOk s)) := by
  refine enterH tb_ok [(0, strE s)] Tryz.func83 rfl Tryz.ntmps83 rfl rfl ?_
  refine RunH.adv tb_ok [] rfl rfl (by simp <;> omega) ?_
  refine RunH.gives (boolE (wordOk s)) rfl rfl rfl rfl rfl Tryz.call84 (fun w' _ => word_spec w' s hs) ?_
  intro m hm
  refine RunH.adv tb_ok [] rfl rfl (by simp <;> omega) ?_
  refine RunH.ret1 Tryz.func83 rfl rfl fun w' hst => ⟨rfl, hst.fact⟩

/-- The index of the first one. -/
def idxOf {α : Type} (p : α → Bool) : List α → Nat → Int
  | [], _ => -1
  | x :: r, i => if p x = true then i else idxOf p r (i + 1)

theorem idxOf_ge {α : Type} (p : α → Bool) : ∀ (l : List α) (i : Nat), 0 ≤ idxOf p l i ↔ l.any p = true
  | [], i => by simp [idxOf]
  | x :: r, i => by
    unfold idxOf
    by_cases h : p x = true
    · simp [h]
    · simp [h, idxOf_ge p r]

theorem idxOf_none {α : Type} (p : α → Bool) : ∀ (l : List α) (i : Nat), l.any p = false → idxOf p l i = -1
  | [], i, _ => rfl
  | x :: r, i, h => by
    simp only [List.any_cons, Bool.or_eq_false_iff] at h
    unfold idxOf
    rw [if_neg (by simp [h.1]), idxOf_none p r (i + 1) h.2]

theorem idxOf_at {α : Type} (p : α → Bool) : ∀ (l : List α) (i k : Nat) (h : k < l.length), (l.take k).any p = false → p l[k] = true → idxOf p l i = (i + k : Nat)
  | [], _, _, h, _, _ => by cases h
  | x :: r, i, 0, _, _, h => by
    have h : p x = true := h
    unfold idxOf; rw [if_pos h]; rfl
  | x :: r, i, k + 1, hk, hn, h => by
    simp only [List.take_succ_cons, List.any_cons, Bool.or_eq_false_iff] at hn
    unfold idxOf
    rw [if_neg (by simp [hn.1]), idxOf_at p r (i + 1) k (by simpa using hk) hn.2 (by simpa using h)]
    congr 1; omega

/-- A function that says yes or no. -/
structure Fun1 {α : Type} (κ : Kd α) (w : World) (g : FuncId) (f1 c1 : List Value) (l : List α) (p : α → Bool) : Prop where
  enter : ∀ (xs : Array Value) w, (callFunc g xs).run Tryz.prog w = .ok (.enter g xs) w
  says : ∀ x ∈ l, ∀ u, Ext w u → Gives Tryz.prog g (f1 ++ [(κ.ev x).v] ++ c1) u (boolE (p x))

theorem Fun1.ext {α : Type} {κ : Kd α} {w w' : World} {g : FuncId} {f1 c1 : List Value} {l : List α} {p : α → Bool} (h : Fun1 κ w g f1 c1 l p) (he : Ext w w') : Fun1 κ w' g f1 c1 l p :=
  ⟨h.enter, fun x hx u hu => h.says x hx u (he.trans' hu)⟩

theorem idxFuncS (w : World) (A : Option Addr) (c : Nat) (l : List Str) (h : Sl kStr w A c l) (g : FuncId) (f1 c1 : List Value) (p : Str → Bool) (hf : Fun1 kStr w g f1 c1 l p) :
    Gives Tryz.prog 148 [.slice A l.length c, .func (.func g) f1.toArray c1.toArray] w (intE (idxOf p l 0)) := by
  have hl : lim = 140737488351232 := rfl
  have hsm := h.small
  refine enterH tb_ok [(0, slE A l.length c), (1, .av (.val (.func (.func g) f1.toArray c1.toArray)))] Tryz.func148 rfl Tryz.ntmps148 rfl rfl ?_
  refine RunH.adv tb_ok [] rfl rfl (by simp <;> omega) ?_
  refine RunH.loop (α := Nat) (fun i => [(0, slE A l.length c), (1, .av (.val (.func (.func g) f1.toArray c1.toArray))), (7, intE l.length), (8, intE i)]) (fun _ => []) (fun i w' => Ext w w' ∧ i ≤ l.length ∧ (l.take i).any p = false) (fun i => l.length - i) 0
    rfl rfl (fun w' h => ⟨h, Nat.zero_le _, rfl⟩) ?_
  intro i m
  refine RunH.pure (fun w' h => h.2) fun ⟨hi, hpre⟩ => ?_
  by_cases hlt : i < l.length
  · have hts : l.take (i + 1) = l.take i ++ [l[i]] := List.take_succ_eq_append_getElem hlt
    refine RunH.adv tb_ok [true] rfl rfl (by simp [h.ptr hlt] <;> omega) ?_
    refine RunH.load (strE l[i]) rfl rfl rfl rfl (fun w' h' => (h.ext h'.1).load hlt) ?_
    refine RunH.gives (g := g) (f1 := f1) (c1 := c1) (boolE (p l[i])) rfl rfl rfl rfl rfl hf.enter (fun w' hst => hf.says _ (List.getElem_mem hlt) w' hst.fact.1) ?_
    intro m' hm'
    by_cases hp : p l[i] = true
    · refine RunH.adv tb_ok [true] rfl rfl (by simp [hp] <;> omega) ?_
      refine RunH.ret1 Tryz.func148 rfl rfl fun w' hst => ⟨?_, hst.fact.1⟩
      rw [idxOf_at p l 0 i hlt hpre hp, Nat.zero_add]
    · refine RunH.adv tb_ok [false] rfl rfl (by simp [hp] <;> omega) ?_
      refine RunH.again (i + 1) (.head _) rfl rfl (by omega) fun w' h => ⟨h.1, by omega, ?_⟩
      rw [hts, List.any_append, hpre]; simp [hp]
  · rw [List.take_of_length_le (by omega)] at hpre
    refine RunH.adv tb_ok [false] rfl rfl (by simp <;> omega) ?_
    refine RunH.ret1 Tryz.func148 rfl rfl fun w' hst => ⟨?_, hst.fact.1⟩
    rw [idxOf_none p l 0 hpre]

theorem containsFuncS (w : World) (A : Option Addr) (c : Nat) (l : List Str) (h : Sl kStr w A c l) (g : FuncId) (f1 c1 : List Value) (p : Str → Bool) (hf : Fun1 kStr w g f1 c1 l p) :
    Gives Tryz.prog 82 [.slice A l.length c, .func (.func g) f1.toArray c1.toArray] w (boolE (l.any p)) := by
  refine enterH tb_ok [(0, slE A l.length c), (1, .av (.val (.func (.func g) f1.toArray c1.toArray)))] Tryz.func82 rfl Tryz.ntmps82 rfl rfl ?_
  refine RunH.adv tb_ok [] rfl rfl (by simp <;> omega) ?_
  refine RunH.gives (intE (idxOf p l 0)) rfl rfl rfl rfl rfl Tryz.call148 (fun w' hst => idxFuncS w' A c l (h.ext hst.fact) g f1 c1 p (hf.ext hst.fact)) ?_
  intro m' hm'
  refine RunH.adv tb_ok [] rfl rfl (by simp <;> omega) ?_
  refine RunH.ret1 Tryz.func82 rfl rfl fun w' hst => ⟨?_, hst.fact⟩
  have : decide (0 ≤ idxOf p l 0) = l.any p := by rw [Bool.eq_iff_iff]; simp only [decide_eq_true_eq]; exact idxOf_ge p l 0
  simp [this, EV.v, AV.v]

theorem idxFuncD (w : World) (A : Option Addr) (c : Nat) (l : List Sum) (h : Sl kSum w A c l) (g : FuncId) (f1 c1 : List Value) (p : Sum → Bool) (hf : Fun1 kSum w g f1 c1 l p) :
    Gives Tryz.prog 169 [.slice A l.length c, .func (.func g) f1.toArray c1.toArray] w (intE (idxOf p l 0)) := by
  have hl : lim = 140737488351232 := rfl
  have hsm := h.small
  refine enterH tb_ok [(0, slE A l.length c), (1, .av (.val (.func (.func g) f1.toArray c1.toArray)))] Tryz.func169 rfl Tryz.ntmps169 rfl rfl ?_
  refine RunH.adv tb_ok [] rfl rfl (by simp <;> omega) ?_
  refine RunH.loop (α := Nat) (fun i => [(0, slE A l.length c), (1, .av (.val (.func (.func g) f1.toArray c1.toArray))), (7, intE l.length), (8, intE i)]) (fun _ => []) (fun i w' => Ext w w' ∧ i ≤ l.length ∧ (l.take i).any p = false) (fun i => l.length - i) 0
    rfl rfl (fun w' h => ⟨h, Nat.zero_le _, rfl⟩) ?_
  intro i m
  refine RunH.pure (fun w' h => h.2) fun ⟨hi, hpre⟩ => ?_
  by_cases hlt : i < l.length
  · have hts : l.take (i + 1) = l.take i ++ [l[i]] := List.take_succ_eq_append_getElem hlt
    refine RunH.adv tb_ok [true] rfl rfl (by simp [h.ptr hlt] <;> omega) ?_
    refine RunH.load (sumE l[i]) rfl rfl rfl rfl (fun w' h' => (h.ext h'.1).load hlt) ?_
    refine RunH.gives (g := g) (f1 := f1) (c1 := c1) (boolE (p l[i])) rfl rfl rfl rfl rfl hf.enter (fun w' hst => hf.says _ (List.getElem_mem hlt) w' hst.fact.1) ?_
    intro m' hm'
    by_cases hp : p l[i] = true
    · refine RunH.adv tb_ok [true] rfl rfl (by simp [hp] <;> omega) ?_
      refine RunH.ret1 Tryz.func169 rfl rfl fun w' hst => ⟨?_, hst.fact.1⟩
      rw [idxOf_at p l 0 i hlt hpre hp, Nat.zero_add]
    · refine RunH.adv tb_ok [false] rfl rfl (by simp [hp] <;> omega) ?_
      refine RunH.again (i + 1) (.head _) rfl rfl (by omega) fun w' h => ⟨h.1, by omega, ?_⟩
      rw [hts, List.any_append, hpre]; simp [hp]
  · rw [List.take_of_length_le (by omega)] at hpre
    refine RunH.adv tb_ok [false] rfl rfl (by simp <;> omega) ?_
    refine RunH.ret1 Tryz.func169 rfl rfl fun w' hst => ⟨?_, hst.fact.1⟩
    rw [idxOf_none p l 0 hpre]

theorem containsFuncD (w : World) (A : Option Addr) (c : Nat) (l : List Sum) (h : Sl kSum w A c l) (g : FuncId) (f1 c1 : List Value) (p : Sum → Bool) (hf : Fun1 kSum w g f1 c1 l p) :
    Gives Tryz.prog 129 [.slice A l.length c, .func (.func g) f1.toArray c1.toArray] w (boolE (l.any p)) := by
  refine enterH tb_ok [(0, slE A l.length c), (1, .av (.val (.func (.func g) f1.toArray c1.toArray)))] Tryz.func129 rfl Tryz.ntmps129 rfl rfl ?_
  refine RunH.adv tb_ok [] rfl rfl (by simp <;> omega) ?_
  refine RunH.gives (intE (idxOf p l 0)) rfl rfl rfl rfl rfl Tryz.call169 (fun w' hst => idxFuncD w' A c l (h.ext hst.fact) g f1 c1 p (hf.ext hst.fact)) ?_
  intro m' hm'
  refine RunH.adv tb_ok [] rfl rfl (by simp <;> omega) ?_
  refine RunH.ret1 Tryz.func129 rfl rfl fun w' hst => ⟨?_, hst.fact⟩
  have : decide (0 ≤ idxOf p l 0) = l.any p := by rw [Bool.eq_iff_iff]; simp only [decide_eq_true_eq]; exact idxOf_ge p l 0
  simp [this, EV.v, AV.v]
end Go.Proofs.YtagnkcdhenilbaaGreatDoor

namespace Go.Proofs.YtagnkcdhenilbaaGreatDoor
open Go V
theorem space_Path (t : Str) : Does Tryz.prog tb 17 [strV t] [] MaxLen (fun y : Option Addr × Nat => .tuple #[.slice y.1 (pathL t).length y.2, intV (pathE t)]) (fun y => [(0, rowE kStr y.1 y.2 (pathL t))]) (fun _ _ _ => True) := by
  have hl : lim = 140737488351232 := rfl
  refine Does.enter tb_ok [(0, strE t)] Tryz.func17 rfl Tryz.ntmps17 rfl rfl 0 ?_
  intro B0 m K
  have hbad : ∀ {w : World} {H : Heap} {I : World → Prop}, pathOk t = false → (∀ u, I u → K u) → St tb B0 H I w → ∃ x : Option Addr × Nat, Ending.returned (.tuple #[.slice none 0 0, intV 4]) = .returned (.tuple #[.slice x.1 (pathL t).length x.2, intV (pathE t)]) ∧ St tb B0 [(0, rowE kStr x.1 x.2 (pathL t))] (fun u => K u ∧ True) w := by
    intro w H I h1 h2 hst
    refine ⟨(none, 0), ?_, ?_⟩
    · simp [pathL, pathE, h1]
    · rw [pathL, if_neg (by simp [h1])]
      exact (hst.nilrow 0 kStr).out [] rfl rfl fun u hu => ⟨h2 u hu, trivial⟩
  by_cases hlong : 55 < t.length
  · have hno : pathOk t = false := by
      cases h : pathOk t with
      | false => rfl
      | true => have := pathOk_len h; omega
    refine RunH.adv tb_ok [true] rfl rfl (by simp <;> omega) ?_
    refine RunH.ret2 Tryz.func17 rfl rfl rfl fun w hst => hbad hno (fun u h => h.1) hst
  · have hwl := words_len t
    refine RunH.adv tb_ok [false] rfl rfl (by simp <;> omega) ?_
    refine RunH.does [] (fun y : Option Addr × Nat => rowS 0 y.1 (words t).length y.2) (fun y => [(0, rowE kStr y.1 y.2 (words t))]) [] 1 rfl rfl rfl rfl rfl Tryz.call81 (split_dot t (by omega)) rfl rfl (fun u hu => hu.fact.2) (fun _ => rfl) (fun _ => rfl) (fun _ => rfl) ?_
    rintro ⟨A, c⟩ m1 hm1
    have hpw := pathOk_words t
    by_cases h5 : (words t).length ≤ 5
    · refine RunH.adv tb_ok [false] rfl rfl (by simp <;> omega) ?_
      refine RunH.gives (boolE ((words t).any fun s => !wordOk s)) rfl rfl rfl rfl rfl Tryz.call82 (fun w hst => containsFuncS w A c (words t) (Sl.own (hst.row (κ := kStr) (id := 0) rfl) (by omega)) 83 [] [] (fun s => !wordOk s) ⟨Tryz.call83, fun x hx u _ => Path1_spec u x (by have := words_each t x hx; omega)⟩) ?_
      intro m2 hm2
      by_cases hany : ((words t).any fun s => !wordOk s) = true
      · have hno : pathOk t = false := by
          rw [hpw]
          have : (words t).all wordOk = false := by
            rw [List.any_eq_true] at hany
            obtain ⟨x, hx, hx2⟩ := hany
            rw [List.all_eq_false]; exact ⟨x, hx, by simpa using hx2⟩
          simp [this]
        refine RunH.adv tb_ok [true] rfl rfl (by simp [hany] <;> omega) ?_
        refine RunH.ret2 Tryz.func17 rfl rfl rfl fun w hst => hbad hno (fun u h => h.1.1) hst
      · have hok : pathOk t = true := by
          rw [hpw]
          have : (words t).all wordOk = true := by
            rw [List.all_eq_true]
            intro x hx
            cases hw : wordOk x with
            | true => rfl
            | false => exact absurd (List.any_eq_true.2 ⟨x, hx, by simp [hw]⟩) hany
          simp [this, h5]
        have hpl : pathL t = words t := if_pos hok
        refine RunH.adv tb_ok [false] rfl rfl ⟨by simpa [Ob.P] using hany, trivial⟩ ?_
        refine RunH.ret2 Tryz.func17 rfl rfl rfl fun w hst => ⟨(A, c), ?_, ?_⟩
        · rw [hpl, pathE, if_pos hok]; rfl
        · rw [hpl]; exact hst.out [] rfl rfl fun u h => ⟨h.1.1, trivial⟩
    · have hno : pathOk t = false := by rw [hpw]; simp [h5]
      refine RunH.adv tb_ok [true] rfl rfl (by simp <;> omega) ?_
      refine RunH.ret2 Tryz.func17 rfl rfl rfl fun w hst => hbad hno (fun u h => h.1.1) hst

theorem space_paths (w : World) (hM : MaxLen w) (A : Option Addr) (c : Nat) (l : List Str) (h : Sl kStr w A c l) : Gives Tryz.prog 85 [.slice A l.length c] w (intE (pathsE l)) := by
  have hl : lim = 140737488351232 := rfl
  have hsm := h.small
  refine enterH tb_ok [(0, slE A l.length c)] Tryz.func85 rfl Tryz.ntmps85 rfl rfl ?_
  refine RunH.adv tb_ok [] rfl rfl (by simp <;> omega) ?_
  refine RunH.loop (α := Nat) (fun i => [(7, slE A l.length c), (8, intE l.length), (9, intE i)]) (fun _ => []) (fun i w' => Ext w w' ∧ i ≤ l.length ∧ (l.take i).all pathOk = true) (fun i => l.length - i) 0
    rfl rfl (fun w' h => ⟨h, Nat.zero_le _, rfl⟩) ?_
  intro i m
  refine RunH.pure (fun w' h => h.2) fun ⟨hi, hpre⟩ => ?_
  by_cases hlt : i < l.length
  · have hts : l.take (i + 1) = l.take i ++ [l[i]] := List.take_succ_eq_append_getElem hlt
    refine RunH.adv tb_ok [true] rfl rfl (by simp [h.ptr hlt] <;> omega) ?_
    refine RunH.load (strE l[i]) rfl rfl rfl rfl (fun w' h' => (h.ext h'.1).load hlt) ?_
    refine RunH.adv tb_ok [] rfl rfl (by simp <;> omega) ?_
    refine RunH.does (α := Option Addr × Nat) [] (fun y => .av (.val (.tuple #[.slice y.1 (pathL l[i]).length y.2, intV (pathE l[i])]))) (fun _ => []) [] 0 rfl rfl rfl rfl rfl Tryz.call17 (space_Path l[i]) rfl rfl (fun u hu => hM.ext hu.fact.1) (fun _ => rfl) (fun _ => rfl) (fun _ => rfl) ?_
    rintro ⟨A', c'⟩ m' hm'
    by_cases hok : pathOk l[i] = true
    · have he : pathE l[i] = 0 := if_pos hok
      refine RunH.adv tb_ok [false] rfl rfl (by simp [he] <;> omega) ?_
      refine RunH.again (i + 1) (.head _) rfl rfl (by omega) fun w' h => ⟨h.1.1, by omega, ?_⟩
      rw [hts, List.all_append, hpre]; simp [hok]
    · have he : pathE l[i] = 4 := if_neg hok
      refine RunH.adv tb_ok [true] rfl rfl (by simp [he] <;> omega) ?_
      refine RunH.ret1 Tryz.func85 rfl rfl fun w' hst => ⟨?_, hst.fact.1.1⟩
      rw [he]
      have : l.all pathOk = false := by rw [List.all_eq_false]; exact ⟨_, List.getElem_mem hlt, hok⟩
      simp [pathsE, this]
  · refine RunH.adv tb_ok [false] rfl rfl (by simp <;> omega) ?_
    refine RunH.ret1 Tryz.func85 rfl rfl fun w' hst => ⟨?_, hst.fact.1⟩
    rw [List.take_of_length_le (by omega)] at hpre
    simp [pathsE, hpre]
end Go.Proofs.YtagnkcdhenilbaaGreatDoor

namespace Go.Proofs.YtagnkcdhenilbaaGreatDoor
open Go V
def Spc.at_ (s : Spc) (k : Nat) : Row Entry := if k = 0 then s.t else s.y
theorem Spc.ok.at_ {w : World} {s : Spc} (h : s.ok w) (k : Nat) : (Spc.at_ s k).ok kEntry w := by
  unfold Spc.at_; split
  · exact h.t
  · exact h.y

theorem checkE_at (s : Spc) {k : Nat} (hk : k < 2) (h : ∀ j, j < k → listE (Spc.at_ s j).l = 0) {e : Int} (he : listE (Spc.at_ s k).l = e) (hne : e ≠ 0) : checkE s.t.l s.y.l = e := by
  have : k = 0 ∨ k = 1 := by omega
  unfold checkE
  rcases this with rfl | rfl
  · have he : listE s.t.l = e := he
    rw [if_neg (by rw [he]; exact hne), he]
  · have h0 : listE s.t.l = 0 := h 0 (by omega)
    have he : listE s.y.l = e := he
    rw [if_pos h0, he]

theorem build_lists (w : World) (A B : Option Addr) (n c m d : Nat) : (Instr.build 114 #[(0, .slice A n c), (1, .slice B m d)]).run Tryz.prog w = .ok (.agg #[.slice A n c, .slice B m d]) w := by
  refine run_build w _ _ _ ?_
  unfold Program.built
  rw [tb_ok.get (show tb.get 114 = some Tryz.t114 from rfl), tb_ok.und (show tb.und 114 = some (.array 2 22) from rfl)]
  simp only []
  rw [tb_ok.get (show tb.get 22 = some Tryz.t22 from rfl)]
  rfl

theorem index_lists (w : World) (A B : Option Addr) (n c m d k : Nat) (hk : k < 2) (v : Value) (hv : [Value.slice A n c, .slice B m d][k]? = some v) :
    (Instr.index 114 (.agg #[.slice A n c, .slice B m d]) (.int .i64 k)).run Tryz.prog w = .ok v w := by
  unfold Instr.index
  have h1 : (underlying 114).run Tryz.prog w = .ok (.array 2 22) w := run_underlying (tb_ok.und rfl) w
  have h2 : (sizeOf 22).run Tryz.prog w = .ok 1 w := run_tsize tb_ok (i := Tryz.t22) rfl
  have h3 := part_one (P := Tryz.prog) w (e := 22) (tb_ok.und rfl) rfl [Value.slice A n c, .slice B m d] k v hv
  simp only [asIntOf, Sem.run_bind, Sem.run_pure, Result.andThen_ok, h1]
  rw [if_pos ⟨by omega, by omega⟩]
  simp only [Sem.run_bind, h2, Result.andThen_ok, Int.toNat_natCast, Nat.mul_one]
  exact h3

theorem space_Check (w : World) (hM : MaxLen w) (s : Spc) (hs : s.ok w) : Gives Tryz.prog 19 [s.ev.v] w (intE (checkE s.t.l s.y.l)) := by
  have hl : lim = 140737488351232 := rfl
  refine enterH tb_ok [(0, s.ev)] Tryz.func19 rfl Tryz.ntmps19 rfl rfl ?_
  refine RunH.adv tb_ok [] rfl rfl (by simp <;> omega) ?_
  refine RunH.read (.st [s.t.av, s.y.av]) rfl rfl rfl rfl (fun w' a _ ha => ?_) ?_
  · have h1 : a.eval (.tmp 10) = .slice s.t.A s.t.l.length s.t.c := ev_run (e := .av s.t.av) ha rfl
    have h2 : a.eval (.tmp 12) = .slice s.y.A s.y.l.length s.y.c := ev_run (e := .av s.y.av) ha rfl
    simp only [execOp, List.map_toArray, List.map_cons, List.map_nil, h1, h2, build_lists, Sem.run_bind, Result.andThen_ok, Sem.run_pure]
    rfl
  refine RunH.adv tb_ok [] rfl rfl (by simp <;> omega) ?_
  refine RunH.loop (α := Nat) (fun k => [(1, .av (.box 0 w.heap.size 0)), (13, .st [s.t.av, s.y.av]), (14, intE k)]) (fun _ => []) (fun k w' => Ext w w' ∧ k ≤ 2 ∧ ∀ j, j < k → listE (Spc.at_ s j).l = 0) (fun k => 2 - k) 0
    rfl rfl (fun w' h => ⟨h, by decide, fun j hj => by cases hj⟩) ?_
  intro k m
  refine RunH.pure (fun w' h => h.2) fun ⟨hk, hz⟩ => ?_
  by_cases hk2 : k < 2
  · have hr : ∀ w', Ext w w' → Sl kEntry w' (Spc.at_ s k).A (Spc.at_ s k).c (Spc.at_ s k).l := fun w' h => Spc.ok.at_ (hs.ext h) k
    generalize hrk : Spc.at_ s k = r at hr
    have h := hr w (Ext.rfl' w)
    have hsm := h.small
    have hgoal : ∀ e, listE r.l = e → e ≠ 0 → checkE s.t.l s.y.l = e := fun e he hne => checkE_at s hk2 hz (by rw [hrk]; exact he) hne
    have hv : [Value.slice s.t.A s.t.l.length s.t.c, .slice s.y.A s.y.l.length s.y.c][k]? = some (.slice r.A r.l.length r.c) := by
      subst hrk
      have : k = 0 ∨ k = 1 := by omega
      rcases this with rfl | rfl <;> rfl
    refine RunH.adv tb_ok [true] rfl rfl (by simp <;> omega) ?_
    refine RunH.read (slE r.A r.l.length r.c) rfl rfl rfl rfl (fun w' a _ ha => ?_) ?_
    · have h1 : a.eval (.tmp 13) = .agg #[.slice s.t.A s.t.l.length s.t.c, .slice s.y.A s.y.l.length s.y.c] := ev_run (e := .st [s.t.av, s.y.av]) ha rfl
      have h2 : a.eval (.tmp 14) = .int .i64 k := ev_run (e := intE k) ha rfl
      simp only [execOp, h1, h2, index_lists w' _ _ _ _ _ _ k hk2 _ hv, Sem.run_bind, Result.andThen_ok, Sem.run_pure]
      rfl
    by_cases hbig : 300 < r.l.length
    · refine RunH.adv tb_ok [true] rfl rfl (by simp <;> omega) ?_
      refine RunH.ret1 Tryz.func19 rfl rfl fun w' hst => ⟨by rw [hgoal 12 (by simp [listE, hbig]) (by decide)], hst.fact.1⟩
    · refine RunH.adv tb_ok [false] rfl rfl (by simp <;> omega) ?_
      refine RunH.loop (α := Nat) (fun i => [(1, .av (.box 0 w.heap.size 0)), (13, .st [s.t.av, s.y.av]), (14, intE k), (4, slE r.A r.l.length r.c), (20, slE r.A r.l.length r.c), (21, intE r.l.length), (22, intE i)]) (fun _ => [])
        (fun i w' => Ext w w' ∧ i ≤ r.l.length ∧ (r.l.take i).all goodE = true) (fun i => r.l.length - i) 0
        rfl rfl (fun w' h => ⟨h.1, Nat.zero_le _, rfl⟩) ?_
      intro i m
      refine RunH.pure (fun w' h => h.2) fun ⟨hi, hpre⟩ => ?_
      by_cases hlt : i < r.l.length
      · have hts : r.l.take (i + 1) = r.l.take i ++ [r.l[i]] := List.take_succ_eq_append_getElem hlt
        refine RunH.adv tb_ok [true] rfl rfl (by simp [h.ptr hlt] <;> omega) ?_
        refine RunH.load (.st (entryF r.l[i])) rfl rfl rfl rfl (fun w' h' => (hr w' h'.1).load hlt) ?_
        refine RunH.adv tb_ok [] rfl rfl (by simp <;> omega) ?_
        refine RunH.gives (intE (pathsE [r.l[i].path])) rfl rfl rfl rfl rfl Tryz.call85 (fun w' hst => space_paths w' (hM.ext hst.fact.1) _ _ [r.l[i].path] (Sl.own (B := w.heap.size) (hst.row (κ := kStr) (l := [r.l[i].path]) (id := 2) rfl) (by simp [hl]))) ?_
        intro m' hm'
        by_cases hok : pathOk r.l[i].path = true
        · have he : pathsE [r.l[i].path] = 0 := by simp [pathsE, hok]
          refine RunH.adv tb_ok [false] rfl rfl (by simp [he] <;> omega) ?_
          refine RunH.again (i + 1) (.head _) rfl rfl (by omega) fun w' h => ⟨h.1, by omega, ?_⟩
          rw [hts, List.all_append, hpre]; simp [goodE, hok]
        · have he : pathsE [r.l[i].path] = 4 := by simp [pathsE, hok]
          refine RunH.adv tb_ok [true] rfl rfl (by simp [he] <;> omega) ?_
          refine RunH.ret1 Tryz.func19 rfl rfl fun w' hst => ⟨?_, hst.fact.1⟩
          have : r.l.all goodE = false := by rw [List.all_eq_false]; exact ⟨_, List.getElem_mem hlt, hok⟩
          rw [he, hgoal 4 (by simp [listE, hbig, this]) (by decide)]
      · rw [List.take_of_length_le (by omega)] at hpre
        refine RunH.adv tb_ok [false] rfl rfl (by simp <;> omega) ?_
        refine RunH.loop (α := Nat) (fun i => [(1, .av (.box 0 w.heap.size 0)), (13, .st [s.t.av, s.y.av]), (14, intE k), (4, slE r.A r.l.length r.c), (8, intE i)]) (fun _ => []) (fun i w' => Ext w w' ∧ 1 ≤ i ∧ ∀ j, j + 1 < i → j + 1 < r.l.length → leS (pathAt r.l (j + 1)) (pathAt r.l j) = false) (fun i => r.l.length - i) 1
          rfl rfl (fun w' h => ⟨h.1, Nat.le_refl _, by omega⟩) ?_
        intro i m
        refine RunH.pure (fun w' h => h.2) fun ⟨hi, hri⟩ => ?_
        by_cases hlt : i < r.l.length
        · have hi1 : ((i : Int) - 1).toNat = i - 1 := by omega
          have hp1 := pathAt_eq r.l i hlt
          have hp2 := pathAt_eq r.l (i - 1) (by omega)
          have hii : i - 1 + 1 = i := by omega
          refine RunH.adv tb_ok [true] rfl rfl (by simp <;> omega) ?_
          refine RunH.draw rfl [] rfl 12 rfl rfl ?_
          refine RunD.adv tb_ok (by kernel_rfl) [] rfl rfl (by simp [h.ptr hlt] <;> omega) ?_
          refine RunD.load (by kernel_rfl) (i := 4) (strE (pathAt r.l i)) rfl rfl rfl rfl rfl rfl (fun w' h' => by rw [hp1]; exact (h.ext h'.1).path hlt) ?_
          refine RunD.load (by kernel_rfl) (i := 10) (strE (pathAt r.l (i - 1))) rfl rfl rfl rfl rfl rfl (fun w' h' => by rw [hp2, hi1]; exact (h.ext h'.1).path (by omega)) ?_
          refine RunD.adv tb_ok (by kernel_rfl) [] rfl rfl (by simp <;> omega) ?_
          refine RunD.done (.inl rfl) (by kernel_rfl) ?_
          by_cases hle : leS (pathAt r.l i) (pathAt r.l (i - 1)) = true
          · refine RunH.adv tb_ok [true] rfl rfl ⟨hle, trivial⟩ ?_
            refine RunH.ret1 Tryz.func19 rfl rfl fun w' hst => ⟨?_, hst.fact.1⟩
            have : rises r.l = false := rises_not (i := i - 1) (by omega) (by rw [hii]; exact hle)
            rw [hgoal 15 (by simp [listE, hbig, hpre, this]) (by decide)]
          · have hle : leS (pathAt r.l i) (pathAt r.l (i - 1)) = false := by simpa using hle
            refine RunH.adv tb_ok [false] rfl rfl ⟨by simp [Ob.P]; omega, hle, trivial⟩ ?_
            refine RunH.again (i + 1) (.head _) rfl rfl (by omega) fun w' h => ⟨h.1, by omega, fun j hj hjl => ?_⟩
            by_cases hji : j + 1 = i
            · have : j = i - 1 := by omega
              subst this
              rw [hii]; exact hle
            · exact hri j (by omega) hjl
        · have hok : listE r.l = 0 := by
            have : rises r.l = true := rises_of fun j hj => hri j (by omega) hj
            simp [listE, hbig, hpre, this]
          refine RunH.adv tb_ok [false] rfl rfl (by simp <;> omega) ?_
          refine RunH.again (k + 1) (.tail _ (.tail _ (.head _))) rfl rfl (by omega) fun w' h => ⟨h.1, by omega, fun j hj => ?_⟩
          by_cases hjk : j = k
          · subst hjk; rw [hrk]; exact hok
          · exact hz j (by omega)
  · have hk3 : k = 2 := by omega
    refine RunH.adv tb_ok [false] rfl rfl (by simp <;> omega) ?_
    refine RunH.ret1 Tryz.func19 rfl rfl fun w' hst => ⟨?_, hst.fact.1⟩
    have h0 : listE s.t.l = 0 := hz 0 (by omega)
    have h1 : listE s.y.l = 0 := hz 1 (by omega)
    simp [checkE, h0, h1]
end Go.Proofs.YtagnkcdhenilbaaGreatDoor

namespace Go.Proofs.YtagnkcdhenilbaaGreatDoor
open Go V
theorem isNaN_spec (w : World) (s : Str) : Gives Tryz.prog 152 [strV s] w .ff := by
  refine enterH tb_ok [(0, strE s)] Tryz.func152 rfl Tryz.ntmps152 rfl rfl ?_
  refine RunH.adv tb_ok [] rfl rfl (by simp <;> omega) ?_
  refine RunH.ret1 Tryz.func152 rfl rfl fun w' hst => ⟨by simp [EV.v, AV.v], hst.fact⟩

def cmpS3 (a b : Str) : Int := if Op.bytesLess a b = true then -1 else if leS a b = true then 0 else 1

theorem Compare_spec (w : World) (a b : Str) : Gives Tryz.prog 98 [strV a, strV b] w (intE (cmpS3 a b)) := by
  refine enterH tb_ok [(0, strE a), (1, strE b)] Tryz.func98 rfl Tryz.ntmps98 rfl rfl ?_
  refine RunH.adv tb_ok [] rfl rfl (by simp <;> omega) ?_
  refine RunH.gives .ff rfl rfl rfl rfl rfl Tryz.call152 (fun w' _ => isNaN_spec w' a) ?_
  intro m1 h1
  refine RunH.adv tb_ok [] rfl rfl (by simp <;> omega) ?_
  refine RunH.gives .ff rfl rfl rfl rfl rfl Tryz.call152 (fun w' _ => isNaN_spec w' b) ?_
  intro m2 h2
  by_cases hl : Op.bytesLess a b = true
  · refine RunH.adv tb_ok [true] rfl rfl (by simp [hl] <;> omega) ?_
    refine RunH.ret1 Tryz.func98 rfl rfl fun w' hst => ⟨by simp [cmpS3, hl, EV.v, AV.v], hst.fact⟩
  · by_cases hle : leS a b = true
    · refine RunH.adv tb_ok [false, false] rfl rfl ⟨?_, by simpa [Ob.P] using hl, trivial⟩ ?_
      · unfold leS at hle; simp only [Ob.P, hle]; rfl
      refine RunH.ret1 Tryz.func98 rfl rfl fun w' hst => ⟨by simp [cmpS3, hl, hle, EV.v, AV.v], hst.fact⟩
    · have hle2 : leS a b = false := by simpa using hle
      refine RunH.adv tb_ok [false, true] rfl rfl ⟨?_, by simpa [Ob.P] using hl, trivial⟩ ?_
      · unfold leS at hle2; simp only [Ob.P, hle2]; rfl
      refine RunH.ret1 Tryz.func98 rfl rfl fun w' hst => ⟨by simp [cmpS3, hl, hle, EV.v, AV.v], hst.fact⟩

/-- A function of an entry and a text. -/
structure Fun2 (w : World) (g : FuncId) (f1 c1 : List Value) (l : List Entry) (t : Str) (F : Entry → Int) : Prop where
  enter : ∀ (xs : Array Value) w, (callFunc g xs).run Tryz.prog w = .ok (.enter g xs) w
  says : ∀ x ∈ l, ∀ u, Ext w u → Gives Tryz.prog g (f1 ++ [(kEntry.ev x).v, strV t] ++ c1) u (intE (F x))

theorem bsearch_spec (w : World) (A : Option Addr) (c : Nat) (l : List Entry) (h : Sl kEntry w A c l) (t : Str) (g : FuncId) (f1 c1 : List Value) (F : Entry → Int) (hf : Fun2 w g f1 c1 l t F) (p : Nat) (hp : p ≤ l.length) (hs : ∀ i (hi : i < l.length), F l[i] < 0 ↔ i < p) :
    Gives Tryz.prog 111 [.slice A l.length c, strV t, .func (.func g) f1.toArray c1.toArray] w (.av (.val (.tuple #[intV p, .bool (decide (p < l.length) && decide (F (l.getD p zeroE) = 0))]))) := by
  have hl : lim = 140737488351232 := rfl
  have hsm := h.small
  refine enterH tb_ok [(0, slE A l.length c), (1, strE t), (2, .av (.val (.func (.func g) f1.toArray c1.toArray)))] Tryz.func111 rfl Tryz.ntmps111 rfl rfl ?_
  refine RunH.adv tb_ok [] rfl rfl (by simp <;> omega) ?_
  refine RunH.loop (α := Nat × Nat) (fun x => [(0, slE A l.length c), (1, strE t), (2, .av (.val (.func (.func g) f1.toArray c1.toArray))), (8, intE l.length), (9, intE x.1), (10, intE x.2)]) (fun _ => []) (fun x w' => Ext w w' ∧ x.1 ≤ p ∧ p ≤ x.2 ∧ x.2 ≤ l.length) (fun x => x.2 - x.1) (0, l.length)
    rfl rfl (fun w' h => ⟨h, Nat.zero_le _, hp, Nat.le_refl _⟩) ?_
  rintro ⟨i, j⟩ m
  refine RunH.pure (fun w' h => h.2) fun ⟨hi, hpj, hj⟩ => ?_
  dsimp only at hi hpj hj
  by_cases hij : i < j
  · have hh : Int.fdiv (((i : Int) + j) % 18446744073709551616) (2 ^ min (Int.toNat 1) (IntKind.bits .u64)) = (((i + j) / 2 : Nat) : Int) := by
      rw [Int.emod_eq_of_lt (by omega) (by omega)]
      rw [show (2 : Int) ^ min (Int.toNat 1) (IntKind.bits .u64) = 2 from rfl, Int.fdiv_eq_ediv_of_nonneg _ (by decide)]
      omega
    have hk : (i + j) / 2 < l.length := by omega
    have hkn : ((((i + j) / 2 : Nat) : Int)).toNat = (i + j) / 2 := by omega
    refine RunH.adv tb_ok [true] rfl rfl ?_ ?_
    · simp only [AllOb, Ob.P, hh]
      refine ⟨h.ptr hk, by omega, by omega, by omega, by omega, by simp; omega, trivial⟩
    dsimp only
    rw [hh, hkn]
    refine RunH.load (.st (entryF l[(i + j) / 2])) rfl rfl rfl rfl (fun w' h' => (h.ext h'.1).load hk) ?_
    refine RunH.adv tb_ok [] rfl rfl (by simp <;> omega) ?_
    refine RunH.gives (g := g) (f1 := f1) (c1 := c1) (intE (F l[(i + j) / 2])) rfl rfl rfl rfl rfl hf.enter (fun w' hst => hf.says _ (List.getElem_mem hk) w' hst.fact.1) ?_
    intro m' hm'
    by_cases hlt : F l[(i + j) / 2] < 0
    · have := (hs _ hk).1 hlt
      refine RunH.adv tb_ok [true] rfl rfl (by simp <;> omega) ?_
      refine RunH.again ((i + j) / 2 + 1, j) (.head _) rfl rfl (by dsimp only; omega) fun w' h => ⟨h.1, by dsimp only; omega, hpj, hj⟩
    · have : ¬ (i + j) / 2 < p := fun e => hlt ((hs _ hk).2 e)
      refine RunH.adv tb_ok [false] rfl rfl (by simp <;> omega) ?_
      refine RunH.again (i, (i + j) / 2) (.head _) rfl rfl (by dsimp only; omega) fun w' h => ⟨h.1, hi, by dsimp only; omega, by dsimp only; omega⟩
  · have hip : i = p := by omega
    subst hip
    by_cases hn : i < l.length
    · have hg : l.getD i zeroE = l[i] := by rw [List.getD_eq_getElem?_getD, List.getElem?_eq_getElem hn]; rfl
      refine RunH.adv tb_ok [false, true] rfl rfl (by simp [h.ptr hn] <;> omega) ?_
      refine RunH.load (.st (entryF l[i])) rfl rfl rfl rfl (fun w' h' => (h.ext h'.1).load hn) ?_
      refine RunH.adv tb_ok [] rfl rfl (by simp <;> omega) ?_
      refine RunH.gives (g := g) (f1 := f1) (c1 := c1) (intE (F l[i])) rfl rfl rfl rfl rfl hf.enter (fun w' hst => hf.says _ (List.getElem_mem hn) w' hst.fact.1) ?_
      intro m' hm'
      refine RunH.adv tb_ok [] rfl rfl (by simp <;> omega) ?_
      refine RunH.ret2 Tryz.func111 rfl rfl rfl fun w' hst => ⟨by simp only [hg]; simp [hn, EV.v, AV.v], hst.fact.1⟩
    · refine RunH.adv tb_ok [false, false] rfl rfl (by simp <;> omega) ?_
      refine RunH.ret2 Tryz.func111 rfl rfl rfl fun w' hst => ⟨by simp [hn, EV.v, AV.v], hst.fact.1⟩

theorem at1_spec (w : World) (x : Entry) : Gives Tryz.prog 175 [(kEntry.ev x).v] w (strE x.path) := by
  refine enterH tb_ok [(0, .st (entryF x))] Tryz.func175 rfl Tryz.ntmps175 rfl rfl ?_
  refine RunH.adv tb_ok [] rfl rfl (by simp <;> omega) ?_
  refine RunH.ret1 Tryz.func175 rfl rfl fun w' hst => ⟨rfl, hst.fact⟩

theorem place1_spec (w : World) (b : Nat) (x : Entry) (t : Str) (hx : ∀ w', Ext w w' → (loadVar 218 ⟨b, 0, none⟩).run Tryz.prog w' = .ok (.func (.func 175) #[] #[]) w') :
    Gives Tryz.prog 190 [(kEntry.ev x).v, strV t, .pointer (some ⟨b, 0, none⟩)] w (intE (cmpS3 x.path t)) := by
  refine enterH tb_ok [(0, .st (entryF x)), (1, strE t), (2, .av (.val (.pointer (some ⟨b, 0, none⟩))))] Tryz.func190 rfl Tryz.ntmps190 rfl rfl ?_
  refine RunH.adv tb_ok [] rfl rfl (by simp <;> omega) ?_
  refine RunH.load (.av (.val (.func (.func 175) #[] #[]))) rfl rfl rfl rfl (fun w' h => hx w' h) ?_
  refine RunH.adv tb_ok [] rfl rfl (by simp <;> omega) ?_
  refine RunH.gives (strE x.path) rfl rfl rfl rfl rfl Tryz.call175 (fun w' _ => at1_spec w' x) ?_
  intro m1 h1
  refine RunH.adv tb_ok [] rfl rfl (by simp <;> omega) ?_
  refine RunH.gives (intE (cmpS3 x.path t)) rfl rfl rfl rfl rfl Tryz.call98 (fun w' _ => Compare_spec w' _ _) ?_
  intro m2 h2
  refine RunH.adv tb_ok [] rfl rfl (by simp <;> omega) ?_
  refine RunH.ret1 Tryz.func190 rfl rfl fun w' hst => ⟨rfl, hst.fact⟩

theorem cmpS3_neg (a b : Str) : cmpS3 a b < 0 ↔ Op.bytesLess a b = true := by
  unfold cmpS3
  split
  · simp [*]
  · split <;> simp [*]

theorem cmpS3_zero (a b : Str) : cmpS3 a b = 0 ↔ a = b := by
  unfold cmpS3
  split
  · rename_i h
    constructor
    · intro h; cases h
    · rintro rfl; rw [less_irrefl] at h; cases h
  · rename_i h
    split
    · rename_i h2
      unfold leS at h2
      simp only [Bool.or_eq_true, decide_eq_true_eq] at h2
      rcases h2 with h2 | h2
      · exact absurd h2 h
      · simp [h2]
    · rename_i h2
      constructor
      · intro h; cases h
      · rintro rfl; unfold leS at h2; simp at h2

abbrev atV (l : List Entry) (t : Str) : EV := .av (.val (.tuple #[intV (posOf l t), .bool (isAt l t)]))

theorem place_spec (w : World) (A : Option Addr) (c : Nat) (l : List Entry) (h : Sl kEntry w A c l) (hr : rises l = true) (t : Str) :
    Gives Tryz.prog 174 [.slice A l.length c, strV t, .func (.func 175) #[] #[]] w (atV l t) := by
  refine enterH tb_ok [(0, slE A l.length c), (1, strE t), (2, .av (.val (.func (.func 175) #[] #[])))] Tryz.func174 rfl Tryz.ntmps174 rfl rfl ?_
  refine RunH.adv tb_ok [] rfl rfl (by simp <;> omega) ?_
  refine RunH.gives (atV l t) rfl rfl rfl rfl rfl Tryz.call111 (fun w' hst => ?_) ?_
  · have hF : ∀ i (hi : i < l.length), cmpS3 l[i].path t < 0 ↔ i < posOf l t := fun i hi => (cmpS3_neg _ _).trans (posOf_iff hr t i hi)
    have hb := bsearch_spec w' A c l (h.ext hst.fact) t 190 [] [.pointer (some ⟨w.heap.size, 0, none⟩)] (fun x => cmpS3 x.path t)
      ⟨Tryz.call190, fun x _ u hu => place1_spec u _ x t fun u' hu' => hst.loadBox (id := 0) (e := .av (.val (.func (.func 175) #[] #[]))) tb_ok rfl rfl u' (hu.trans' hu')⟩ (posOf l t) (tw_le _ l) hF
    have e : (decide (posOf l t < l.length) && decide (cmpS3 (l.getD (posOf l t) zeroE).path t = 0)) = isAt l t := by
      unfold isAt pathAt
      congr 1
      rw [Bool.eq_iff_iff]; simp only [decide_eq_true_eq]; exact cmpS3_zero _ _
    rw [e] at hb
    exact hb
  intro m' hm'
  refine RunH.adv tb_ok [] rfl rfl (by simp <;> omega) ?_
  refine RunH.ret2 Tryz.func174 rfl rfl rfl fun w' hst => ⟨rfl, hst.fact⟩

theorem at_spec (w : World) (A : Option Addr) (c : Nat) (l : List Entry) (h : Sl kEntry w A c l) (hr : rises l = true) (t : Str) :
    Gives Tryz.prog 149 [.slice A l.length c, strV t] w (atV l t) := by
  refine enterH tb_ok [(0, slE A l.length c), (1, strE t)] Tryz.func149 rfl Tryz.ntmps149 rfl rfl ?_
  refine RunH.adv tb_ok [] rfl rfl (by simp <;> omega) ?_
  refine RunH.gives (atV l t) rfl rfl rfl rfl rfl Tryz.call174 (fun w' hst => place_spec w' A c l (h.ext hst.fact) hr t) ?_
  intro m hm
  refine RunH.adv tb_ok [] rfl rfl (by simp <;> omega) ?_
  refine RunH.ret2 Tryz.func149 rfl rfl rfl fun w' hst => ⟨rfl, hst.fact⟩
end Go.Proofs.YtagnkcdhenilbaaGreatDoor
