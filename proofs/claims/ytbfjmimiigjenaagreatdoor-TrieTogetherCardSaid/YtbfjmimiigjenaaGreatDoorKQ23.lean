/-
A part of the proofs of the laws of a seat: contracts of functions and lemmas on them; the listed package variables hold what the program's text lays. No further condition.
-/
import Derived.Test.YtbfjmimiigjenaaGreatDoorKQ17
import Derived.Test.YtbfjmimiigjenaaGreatDoorKVKey
set_option linter.unusedVariables false
set_option linter.unusedSectionVars false
set_option linter.unusedSimpArgs false
/-
Drop of a map: no such name, or the map without it.
-/
namespace Go.Proofs.YtbfjmimiigjenaaGreatDoor
open Go V RowKit

theorem DropOk.all {M : Nat} (hM : M ≤ 900000000) : ∀ (n : Nat) (name : Str), name.length ≤ n → ∀ t : Tree, t.wf → t.low 1000 → t.many ≤ M → (t.get name).isSome = true → DropOk t name := by
  intro n
  induction n with
  | zero =>
    intro name h0 t hw hl hm hg L
    have : name = [] := List.length_eq_zero_iff.1 (by omega)
    subst this
    cases t with
    | node s v k =>
      obtain ⟨x, hx⟩ := Option.isSome_iff_exists.1 hg
      obtain ⟨r, hr⟩ := get_pre hx
      have hs : s = [] := (List.append_eq_nil_iff.1 hr.symm).1
      subst hs
      have := drop_go [] [] v k hw hl hM hm hg (fun t' _ _ _ c r' h => by cases h) none k (.inl ⟨rfl, rfl, rfl⟩) L
      exact this
  | succ n ih =>
    intro name h0 t hw hl hm hg L
    cases t with
    | node s v k =>
      obtain ⟨x, hx⟩ := Option.isSome_iff_exists.1 hg
      obtain ⟨r, rfl⟩ := get_pre hx
      cases r with
      | nil => exact drop_go s [] v k hw hl hM hm hg (fun t' _ _ _ c r' h => by cases h) none k (.inl ⟨rfl, rfl, rfl⟩) L
      | cons c r =>
        refine drop_go s (c :: r) v k hw hl hM hm hg (fun t' h1 h2 h3 c' r' h h4 => ?_) v (k.drop c r) (.inr ⟨c, r, rfl, rfl, rfl⟩) L
        injection h with e1 e2
        subst e2
        exact ih r (by simp at h0; omega) t' h1 h2 h3 h4

theorem drop_ok (po : Option Plot) (t : Option Tree) (ht : okO t) (hl : lowO 1000 t) (name : Str) (hg : (getO t name).isSome = true) :
    Does Tryz.prog tb 95 [ptrO po, strV name] [] (fun u => Glob u ∧ IsO u po t) (fun o : Option Plot => ptrO o) (fun _ => []) (fun o => Late (fun u => IsO u po t) (fun u => IsO u o (dropO t name))) := by
  cases t with
  | none => cases hg
  | some t =>
    cases po with
    | none =>
      intro B0 w K hst hp
      exact ((hp w hst.fact).2).elim
    | some L => exact DropOk.all (M := 900000000) (Nat.le_refl _) name.length name (Nat.le_refl _) t ht.1 hl ht.2.2 hg L

theorem find_isSome {w : World} {po : Option Plot} {t : Option Tree} (h : IsO w po t) (ht : okO t) (name : Str) : (findO po t name).isSome = (getO t name).isSome := by
  have hs := findO_spec h ht name
  cases hf : findO po t name with
  | none =>
    rw [hf] at hs
    have hs : getO t name = none := hs
    rw [hs]; rfl
  | some L => rw [hf] at hs; obtain ⟨_, v, _, _, hg⟩ := hs; rw [hg]; rfl

set_option maxRecDepth 10000 in
theorem Drop_none (w : World) (po : Option Plot) (t : Option Tree) (h : IsO w po t) (ht : okO t) (name : Str) (hn : name.length ≤ 1000) (hg : getO t name = none) : Gives Tryz.prog 22 [(mapE po).v, strV name] w (.av (.val (.tuple #[.agg #[.pointer none], intV 6]))) := by
  have hs := findO_spec h ht name
  refine enterH tb_ok [(0, mapE po), (1, strE name)] Tryz.func22 rfl Tryz.ntmps22 rfl rfl ?_
  refine RunH.adv tb_ok [] rfl rfl (by simp <;> omega) ?_
  refine RunH.gives (ho := rfl) (hw := rfl) (hd := rfl) (hf := rfl) (hes := rfl) (hc := Tryz.call93) (e := .av (.val (ptrO (findO po t name)))) (hC := fun u hu => get_ok u po t (h.ext hu.fact) ht name hn) ?_
  intro m1 hm1
  cases hf : findO po t name with
  | some L =>
    rw [hf] at hs
    obtain ⟨s, v, k, hL, hg2⟩ := hs
    rw [hg] at hg2; cases hg2
  | none =>
    refine RunH.read (.av (.val (.bool (none : Option Addr).isNone))) rfl rfl rfl rfl (fun u q _ ha => op_eqPtr ha rfl rfl rfl rfl) ?_
    refine RunH.adv tb_ok [true] rfl rfl (by simp <;> omega) ?_
    exact RunH.retBoxT tb_ok (.st [.val (.pointer none)]) Tryz.func22 rfl rfl rfl rfl rfl fun w' hst => ⟨rfl, hst.fact⟩

set_option maxRecDepth 10000 in
theorem Drop_ok (po : Option Plot) (t : Option Tree) (ht : okO t) (hl : lowO 1000 t) (name : Str) (hn : name.length ≤ 1000) (hg : (getO t name).isSome = true) :
    Does Tryz.prog tb 22 [(mapE po).v, strV name] [] (fun u => Glob u ∧ IsO u po t) (fun o : Option Plot => .tuple #[.agg #[ptrO o], intV 0]) (fun _ => []) (fun o => Late (fun u => IsO u po t) (fun u => IsO u o (dropO t name))) := by
  refine V.Does.enter0 [(0, mapE po), (1, strE name)] Tryz.func22 rfl Tryz.ntmps22 rfl rfl 0 ?_
  intro m0 K
  refine RunH.pure (fun u hu => (find_isSome hu.2.2 ht name : (findO po t name).isSome = (getO t name).isSome)) fun hs => ?_
  rw [hg] at hs
  have hz31 : (Tryz.t31).size = 1 := by kernel_rfl
  refine RunH.adv tb_ok [] rfl rfl (by simp <;> omega) ?_
  refine RunH.gives (ho := rfl) (hw := rfl) (hd := rfl) (hf := rfl) (hes := rfl) (hc := Tryz.call93) (e := .av (.val (ptrO (findO po t name)))) (hC := fun u hu => get_ok u po t hu.fact.2.2 ht name hn) ?_
  intro m1 hm1
  cases hf : findO po t name with
  | none =>
    rw [hf] at hs; cases hs
  | some L =>
    refine RunH.read (.av (.val (.bool (some (⟨L.b, 0, none⟩ : Addr)).isNone))) rfl rfl rfl rfl (fun u q _ ha => op_eqPtr ha rfl rfl rfl rfl) ?_
    refine RunH.adv tb_ok [false] rfl rfl (by simp <;> omega) ?_
    refine RunH.doesB [] 5 (hc := Tryz.call95) (ho := rfl) (hw := rfl) (hd := rfl) (hf := rfl) (hes := rfl) (hσ := rfl) (hn := rfl) (hV := fun _ => rfl) (hG := fun _ => rfl) (e := fun o : Option Plot => .av (.val (ptrO o))) (hC := drop_ok po t ht hl name hg) (hp := fun u hu => hu.fact.2) ?_
    rintro o m2 hm2
    refine RunH.adv tb_ok [] rfl rfl (by simp [hz31, Value.oneCell'] <;> omega) ?_
    exact RunH.retBoxT tb_ok (mapE o) Tryz.func22 rfl rfl rfl rfl rfl fun w' hst => ⟨o, rfl, hst.out [] rfl rfl fun u h => ⟨h.1.1, fun v hv hp => h.2.up (by omega) hv hp⟩⟩
end Go.Proofs.YtbfjmimiigjenaaGreatDoor

/-
Entries of a trie: whether two lists are the same, where one is; whether two maps are the same.
-/
namespace Go.Proofs.YtbfjmimiigjenaaGreatDoor
open Go V RowKit

abbrev entF (e : Str × Sum) : List AV := [.val (strV e.1), .val (sumV e.2)]
def fName : Field := { name := "name", type := 9, offset := 0, embedded := false, tag := "", pkgPath := "hoarstone/trie", byteOffset := 0 }
def fSumT : Field := { name := "sum", type := 40, offset := 1, embedded := false, tag := "", pkgPath := "hoarstone/trie", byteOffset := 16 }
theorem fields_ent : (Tryz.prog.fieldsOf 155).toList = [fName, fSumT] := by kernel_rfl
theorem stood_ent : Tryz.prog.stoodInHeld 155 = false := by kernel_rfl
theorem undf_ent : Tryz.prog.underlying 155 = some (.struct (Tryz.prog.fieldsOf 155)) := by kernel_rfl
theorem ent_cells (e : Str × Sum) : (EV.st (entF e)).v = .agg (strV e.1 :: (e.2.l.map u8V)).toArray := by
  simp [EV.v, AV.v, flat, Value.cells, sumV]

theorem eq_ent (w : World) (d : Nat) (a b : Str × Sum) : (Op.equalIn (d + 3) 155 (EV.st (entF a)).v (EV.st (entF b)).v).run Tryz.prog w = .ok (decide (a = b)) w := by
  rw [ent_cells, ent_cells, run_equalIn_struct w (d + 2) _ _ _ undf_ent stood_ent, fields_ent]
  have hs : ∀ e : Str × Sum, (part 40 (strV e.1 :: (e.2.l.map u8V)).toArray 1).run Tryz.prog w = .ok (sumV e.2) w := fun e => by
    rw [part_row w (tb_ok.und und_sum) rfl (run_tsize tb_ok (i := Tryz.t40) rfl)]
    have hlen : (e.2.l.map u8V).length = 32 := by simp [e.2.h]
    have : ((strV e.1 :: (e.2.l.map u8V)).take (1 + Tryz.t40.size)).drop 1 = e.2.l.map u8V := by
      show ((strV e.1 :: (e.2.l.map u8V)).take (32 + 1)).drop 1 = _
      rw [List.take_succ_cons, List.drop_succ_cons, List.drop_zero, List.take_of_length_le (by omega)]
    rw [this]
    rfl
  rw [eq_two w (d + 2) fName fSumT (by decide) (by decide) _ _ (part_one w (tb_ok.und (d := .string) rfl) rfl _ 0 (strV a.1) rfl) (part_one w (tb_ok.und (d := .string) rfl) rfl _ 0 (strV b.1) rfl) (eq_str w (d + 1) a.1 b.1)
    (hs a) (hs b) (eq_sum w d a.2 b.2)]
  congr 1
  rw [Bool.eq_iff_iff]
  simp only [Bool.and_eq_true, decide_eq_true_iff]
  constructor
  · rintro ⟨h1, h2⟩; cases a; cases b; simp_all
  · rintro rfl; exact ⟨rfl, rfl⟩

theorem equalT_spec (w : World) (A B : Option Addr) (ca cb : Nat) (la lb : List (Str × Sum)) (ha : Sl kEnt w A ca la) (hb : Sl kEnt w B cb lb) :
    Gives Tryz.prog 96 [.slice A la.length ca, .slice B lb.length cb] w (boolE (decide (la = lb))) := by
  have sa := ha.small
  have hl : lim = 140737488351232 := rfl
  refine enterH tb_ok [(0, slE A la.length ca), (1, slE B lb.length cb)] Tryz.func96 rfl Tryz.ntmps96 rfl rfl ?_
  by_cases hlen : la.length = lb.length
  · refine RunH.adv tb_ok [false] rfl rfl (by simp [hlen] <;> omega) ?_
    refine RunH.loop (α := Nat) (fun i => [(0, slE A la.length ca), (1, slE B lb.length cb), (13, intE i), (12, intE la.length)]) (fun _ => []) (fun i w' => Ext w w' ∧ i ≤ la.length ∧ la.take i = lb.take i) (fun i => la.length - i) 0
      rfl rfl (fun w' h => ⟨h, Nat.zero_le _, rfl⟩) ?_
    intro i m
    refine RunH.pure (fun w' h => h.2) fun ⟨hi, hpre⟩ => ?_
    by_cases hlt : i < la.length
    · have hltb : i < lb.length := by omega
      refine RunH.adv tb_ok [true] rfl rfl (by simp <;> omega) ?_
      refine RunH.draw rfl [] rfl 9 rfl rfl ?_
      refine RunD.adv tb_ok (by kernel_rfl) [] rfl rfl (by simp [ha.ptr hlt, hb.ptr hltb] <;> omega) ?_
      refine RunD.load (by kernel_rfl) (i := 3) (.st (entF la[i])) rfl rfl rfl rfl rfl rfl (fun w' h => (ha.ext h.1).load hlt) ?_
      refine RunD.load (by kernel_rfl) (i := 7) (.st (entF lb[i])) rfl rfl rfl rfl rfl rfl (fun w' h => (hb.ext h.1).load hltb) ?_
      refine RunD.read (by kernel_rfl) (i := 8) (boolE (!decide (la[i] = lb[i]))) rfl rfl rfl rfl rfl rfl (fun w' a h hag => op_neq hag rfl rfl rfl rfl rfl (by kernel_rfl) (eq_ent w' 9997 _ _)) ?_
      refine RunD.done (.inl rfl) (by kernel_rfl) ?_
      by_cases he : la[i] = lb[i]
      · refine RunH.adv tb_ok [false] rfl rfl (by simp [he] <;> omega) ?_
        refine RunH.again (i + 1) (.head _) rfl rfl (by omega) fun w' h => ⟨h.1, by omega, ?_⟩
        rw [List.take_succ_eq_append_getElem hlt, List.take_succ_eq_append_getElem hltb, hpre, he]
      · refine RunH.adv tb_ok [true] rfl rfl (by simp [he] <;> omega) ?_
        refine RunH.ret1 Tryz.func96 rfl rfl fun w' hst => ⟨?_, hst.fact.1⟩
        have : la ≠ lb := fun e => he (by subst e; rfl)
        simp [this, EV.v, AV.v]
    · refine RunH.adv tb_ok [false] rfl rfl (by simp <;> omega) ?_
      refine RunH.ret1 Tryz.func96 rfl rfl fun w' hst => ⟨?_, hst.fact.1⟩
      have : la = lb := by
        rw [← List.take_of_length_le (l := la) (i := i) (by omega), hpre, List.take_of_length_le (by omega)]
      simp [this, EV.v, AV.v]
  · refine RunH.adv tb_ok [true] rfl rfl (by simp [hlen] <;> omega) ?_
    refine RunH.ret1 Tryz.func96 rfl rfl fun w' hst => ⟨?_, hst.fact⟩
    have : la ≠ lb := fun e => hlen (by rw [e])
    simp [this, EV.v, AV.v]

theorem idxFuncT (w : World) (A : Option Addr) (c : Nat) (l : List (Str × Sum)) (h : Sl kEnt w A c l) (g : FuncId) (f1 c1 : List Value) (p : Str × Sum → Bool) (hf : Fun1 kEnt w g f1 c1 l p) :
    Gives Tryz.prog 186 [.slice A l.length c, .func (.func g) f1.toArray c1.toArray] w (intE (idxOf p l 0)) := by
  have hl : lim = 140737488351232 := rfl
  have hsm := h.small
  refine enterH tb_ok [(0, slE A l.length c), (1, .av (.val (.func (.func g) f1.toArray c1.toArray)))] Tryz.func186 rfl Tryz.ntmps186 rfl rfl ?_
  refine RunH.adv tb_ok [] rfl rfl (by simp <;> omega) ?_
  refine RunH.loop (α := Nat) (fun i => [(0, slE A l.length c), (1, .av (.val (.func (.func g) f1.toArray c1.toArray))), (7, intE l.length), (8, intE i)]) (fun _ => []) (fun i w' => Ext w w' ∧ i ≤ l.length ∧ (l.take i).any p = false) (fun i => l.length - i) 0
    rfl rfl (fun w' h => ⟨h, Nat.zero_le _, rfl⟩) ?_
  intro i m
  refine RunH.pure (fun w' h => h.2) fun ⟨hi, hpre⟩ => ?_
  by_cases hlt : i < l.length
  · have hts : l.take (i + 1) = l.take i ++ [l[i]] := List.take_succ_eq_append_getElem hlt
    refine RunH.adv tb_ok [true] rfl rfl (by simp [h.ptr hlt] <;> omega) ?_
    refine RunH.load (.st (entF l[i])) rfl rfl rfl rfl (fun w' h' => (h.ext h'.1).load hlt) ?_
    refine RunH.gives (g := g) (f1 := f1) (c1 := c1) (boolE (p l[i])) rfl rfl rfl rfl rfl hf.enter (fun w' hst => hf.says _ (List.getElem_mem hlt) w' hst.fact.1) ?_
    intro m' hm'
    by_cases hp : p l[i] = true
    · refine RunH.adv tb_ok [true] rfl rfl (by simp [hp] <;> omega) ?_
      refine RunH.ret1 Tryz.func186 rfl rfl fun w' hst => ⟨?_, hst.fact.1⟩
      rw [idxOf_at p l 0 i hlt hpre hp, Nat.zero_add]
    · refine RunH.adv tb_ok [false] rfl rfl (by simp [hp] <;> omega) ?_
      refine RunH.again (i + 1) (.head _) rfl rfl (by omega) fun w' h => ⟨h.1, by omega, ?_⟩
      rw [hts, List.any_append, hpre]; simp [hp]
  · rw [List.take_of_length_le (by omega)] at hpre
    refine RunH.adv tb_ok [false] rfl rfl (by simp <;> omega) ?_
    refine RunH.ret1 Tryz.func186 rfl rfl fun w' hst => ⟨?_, hst.fact.1⟩
    rw [idxOf_none p l 0 hpre]

theorem containsFuncT (w : World) (A : Option Addr) (c : Nat) (l : List (Str × Sum)) (h : Sl kEnt w A c l) (g : FuncId) (f1 c1 : List Value) (p : Str × Sum → Bool) (hf : Fun1 kEnt w g f1 c1 l p) :
    Gives Tryz.prog 102 [.slice A l.length c, .func (.func g) f1.toArray c1.toArray] w (boolE (l.any p)) := by
  refine enterH tb_ok [(0, slE A l.length c), (1, .av (.val (.func (.func g) f1.toArray c1.toArray)))] Tryz.func102 rfl Tryz.ntmps102 rfl rfl ?_
  refine RunH.adv tb_ok [] rfl rfl (by simp <;> omega) ?_
  refine RunH.gives (intE (idxOf p l 0)) rfl rfl rfl rfl rfl Tryz.call186 (fun w' hst => idxFuncT w' A c l (h.ext hst.fact) g f1 c1 p (hf.ext hst.fact)) ?_
  intro m' hm'
  refine RunH.adv tb_ok [] rfl rfl (by simp <;> omega) ?_
  refine RunH.ret1 Tryz.func102 rfl rfl fun w' hst => ⟨?_, hst.fact⟩
  have : decide (0 ≤ idxOf p l 0) = l.any p := by rw [Bool.eq_iff_iff]; simp only [decide_eq_true_eq]; exact idxOf_ge p l 0
  simp [this, EV.v, AV.v]


theorem TSame_spec (w : World) (po : Option Plot) (t : Option Tree) (qo : Option Plot) (s : Option Tree) (h1 : IsO w po t) (ht : okO t) (hl1 : lowO 1000 t) (h2 : IsO w qo s) (hs : okO s) (hl2 : lowO 1000 s) :
    Gives Tryz.prog 23 [(mapE po).v, (mapE qo).v] w (boolE (decide (entsO t = entsO s))) := by
  have hlim : lim = 140737488351232 := rfl
  have hml : ∀ t, okO t → (entsO t).length ≤ 900000000 := by
    intro t ht
    cases t with
    | none => simp [entsO]
    | some t => show (t.ents []).length ≤ _; rw [many_ents]; exact ht.2.2
  have hm1 := hml t ht
  have hm2 := hml s hs
  refine enterH tb_ok [(0, mapE po), (1, mapE qo)] Tryz.func23 rfl Tryz.ntmps23 rfl rfl ?_
  refine RunH.adv tb_ok [] rfl rfl (by simp <;> omega) ?_
  refine RunH.draw rfl [(0, some (.box w.heap.size [.val (ptrO po)] 31)), (1, some (.box (w.heap.size + 1) [.val (ptrO qo)] 31))] rfl 8 rfl rfl ?_
  refine RunD.adv tb_ok (by kernel_rfl) [] rfl rfl (by simp <;> omega) ?_
  refine RunD.doesB (i := 2) [] 10 (fun y : Option Addr × Nat => rowS 2 y.1 (entsO t).length y.2) rfl (by kernel_rfl) rfl rfl rfl rfl Tryz.call97 (entries_O po t 1000 ht hl1 (Nat.le_refl _)) rfl rfl (fun _ => rfl) (fun _ => rfl) (fun u hu => h1.ext hu.fact) (fun _ => rfl) (fun _ h => h) ?_
  rintro ⟨A1, c1⟩ m1 hm1'
  refine RunD.adv tb_ok (by kernel_rfl) [] rfl rfl (by simp <;> omega) ?_
  refine RunD.doesB (i := 5) [] 20 (fun y : Option Addr × Nat => rowS 10 y.1 (entsO s).length y.2) rfl (by kernel_rfl) rfl rfl rfl rfl Tryz.call97 (entries_O qo s 1000 hs hl2 (Nat.le_refl _)) rfl rfl (fun _ => rfl) (fun _ => rfl) (fun u hu => h2.ext hu.fact.1) (fun _ => rfl) (fun _ h => h.1) ?_
  rintro ⟨A2, c2⟩ m2 hm2'
  refine RunD.adv tb_ok (by kernel_rfl) [] rfl rfl (by simp <;> omega) ?_
  refine RunD.gives (i := 6) (boolE (decide (entsO t = entsO s))) rfl (by kernel_rfl) rfl rfl rfl rfl Tryz.call96 (fun u hu => equalT_spec u A1 A2 c1 c2 (entsO t) (entsO s) (Sl.own (hu.row (κ := kEnt) (l := entsO t) (id := 2) rfl) (by omega)) (Sl.own (hu.row (κ := kEnt) (l := entsO s) (id := 10) rfl) (by omega))) rfl (fun _ h => h.1.1) ?_
  intro m3 hm3
  refine RunD.adv tb_ok (by kernel_rfl) [] rfl rfl (by simp <;> omega) ?_
  refine RunD.done (.inl rfl) (by kernel_rfl) ?_
  refine RunH.ret1 Tryz.func23 rfl rfl fun w' hst => ⟨rfl, hst.fact.1.1⟩
end Go.Proofs.YtbfjmimiigjenaaGreatDoor

/-
Below: the map of what stands behind a beginning.
-/
namespace Go.Proofs.YtbfjmimiigjenaaGreatDoor
open Go V RowKit

def below1 (p : Str) (e : Str × Sum) : List (Str × Sum) := if hasPre e.1 p = true then [(cutS e.1 p, e.2)] else []
def belowL (p : Str) (l : List (Str × Sum)) : List (Str × Sum) := l.flatMap (below1 p)
theorem below_len (p : Str) : ∀ l, (belowL p l).length ≤ l.length
  | [] => Nat.le_refl _
  | x :: r => by
    have := below_len p r
    unfold belowL at this ⊢
    rw [List.flatMap_cons, List.length_append, List.length_cons]
    have : (below1 p x).length ≤ 1 := by unfold below1; split <;> simp
    omega
theorem cutS_len (s p : Str) : (cutS s p).length ≤ s.length := by
  unfold cutS
  split
  · rw [List.length_drop]; omega
  · exact Nat.le_refl _
theorem below_short {N : Nat} {p : Str} {l : List (Str × Sum)} (h : ∀ e ∈ l, e.1.length ≤ N) : ∀ e ∈ belowL p l, e.1.length ≤ N := by
  intro e he
  unfold belowL at he
  rw [List.mem_flatMap] at he
  obtain ⟨x, hx, hm⟩ := he
  unfold below1 at hm
  split at hm
  · rw [List.mem_singleton] at hm
    subst hm
    exact Nat.le_trans (cutS_len _ _) (h x hx)
  · cases hm
theorem ents_short {t : Option Tree} {N : Nat} (ht : okO t) (hl : lowO N t) : ∀ e ∈ entsO t, e.1.length ≤ N := by
  intro e he
  have hw : wfO t := by
    cases t with
    | none => trivial
    | some t => exact ht.1
  exact hl e.1 e.2 ((mem_entsO hw e.1 e.2).1 he)
theorem ents_many {t : Option Tree} (ht : okO t) : (entsO t).length ≤ 900000000 := by
  cases t with
  | none => simp [entsO]
  | some t => show (t.ents []).length ≤ _; rw [many_ents]; exact ht.2.2

set_option maxRecDepth 10000 in
theorem Below_spec (po : Option Plot) (t : Option Tree) (ht : okO t) (hl : lowO 1000 t) (beg : Str) (hb : beg.length ≤ 1000) :
    Does Tryz.prog tb 31 [(mapE po).v, strV beg] [] (fun u => Glob u ∧ IsO u po t) (fun o : Option Plot => .tuple #[.agg #[ptrO o], intV (if belowL beg (entsO t) = [] then 6 else 0)]) (fun _ => []) (fun o => Late (fun _ => True) (fun u => IsO u o (fromO (belowL beg (entsO t))))) := by
  have hlim : lim = 140737488351232 := rfl
  have hml := ents_many ht
  have hsh := below_short (p := beg) (ents_short ht hl)
  have hent := entries_O
  refine V.Does.enter0 [(0, mapE po), (1, strE beg)] Tryz.func31 rfl Tryz.ntmps31 rfl rfl 0 ?_
  intro m0 K
  refine RunH.adv tb_ok [] rfl rfl (by simp <;> omega) ?_
  refine RunH.doesB [] 10 (hc := Tryz.call97) (ho := rfl) (hw := rfl) (hd := rfl) (hf := rfl) (hes := rfl) (hσ := rfl) (hn := rfl) (hV := fun _ => rfl) (hG := fun _ => rfl) (e := fun y : Option Addr × Nat => rowS 2 y.1 (entsO t).length y.2) (hC := entries_O po t 1000 ht hl (by omega)) (hp := fun u hu => hu.fact.2.2) ?_
  rintro ⟨A1, c1⟩ m1 hm1
  refine RunH.drop ?_
  refine RunH.adv tb_ok [] rfl rfl (by simp <;> omega) ?_
  dsimp only
  generalize entsO t = l at *
  have hlen := below_len beg l
  refine RunH.nilrow 50 kEnt.T kEnt.sz 51 ?_
  refine RunH.loop (α := Nat × (Option Addr × Nat)) (fun y => [(1, strE beg), (4, .av (.box 1 (m0 + 1) 0)), (13, rowS 2 A1 l.length c1), (14, intE l.length), (15, intE y.1), (6, rowS 50 y.2.1 (belowL beg (l.take y.1)).length y.2.2)]) (fun y => [(1, some (.box (m0 + 1) [.val (.pointer none)] 31)), (2, rowE kEnt A1 c1 l), (50, rowE kEnt y.2.1 y.2.2 (belowL beg (l.take y.1)))]) (fun y u => (K u ∧ Glob u) ∧ y.1 ≤ l.length) (fun y => l.length - y.1) (0, (none, 0)) rfl rfl (fun u hu => ⟨⟨hu.1, hu.2.1⟩, Nat.zero_le _⟩) ?_
  rintro ⟨i, A2, c2⟩ m2
  refine RunH.pure (fun u hu => hu.2) fun hi => ?_
  dsimp only at hi ⊢
  by_cases hlt : i < l.length
  · have hts : belowL beg (l.take (i + 1)) = belowL beg (l.take i) ++ below1 beg l[i] := by
      rw [List.take_succ_eq_append_getElem hlt]; unfold belowL; rw [List.flatMap_append, List.flatMap_cons, List.flatMap_nil, List.append_nil]
    have hlt2 := below_len beg (l.take i)
    rw [List.length_take] at hlt2
    refine RunH.pureS (fun u hu => hu.ptr (id := 2) (κ := kEnt) (l := l) rfl (by intro e; rw [e] at hlt; cases hlt)) fun hptr => ?_
    refine RunH.adv tb_ok [true] rfl rfl (by simp [hptr] <;> omega) ?_
    refine RunH.loadS (.st [.val (strV l[i].1), .val (sumV l[i].2)]) rfl rfl rfl rfl (fun u hu => (Sl.own (B := m0) (hu.row (κ := kEnt) (l := l) (id := 2) rfl) (by omega)).load hlt) ?_
    refine RunH.adv tb_ok [] rfl rfl (by simp) ?_
    refine RunH.gives (ho := rfl) (hw := rfl) (hd := rfl) (hf := rfl) (hes := rfl) (hc := Tryz.call32) (e := cutV l[i].1 beg) (hC := fun u _ => CutPre_spec u _ _) ?_
    intro m3 hm3
    by_cases hp : hasPre l[i].1 beg = true
    · have hb1 : below1 beg l[i] = [(cutS l[i].1 beg, l[i].2)] := by unfold below1; rw [if_pos hp]
      rw [hb1] at hts
      refine RunH.adv tb_ok [true] rfl rfl (by simp [hp]) ?_
      refine RunH.appendK (κ := kEnt) (id := 50) (l := belowL beg (l.take i)) (r := [(cutS l[i].1 beg, l[i].2)]) rfl rfl rfl rfl rfl rfl elt_ent rfl rfl (fun u hu => hu.liesRow (κ := kEnt) (l := [(cutS l[i].1 beg, l[i].2)]) (id := 52) rfl (by simp [hlim])) (by simp; omega) (by simp [hlim]; omega) ?_
      intro A3 c3 m4 hm4
      rw [← hts]
      refine RunH.adv tb_ok [] rfl rfl (by simp <;> omega) ?_
      exact RunH.again (i + 1, (A3, c3)) (.head _) rfl rfl (by show l.length - (i + 1) < l.length - i; omega) fun u hu => ⟨hu.1, hlt⟩
    · have hb1 : below1 beg l[i] = [] := by unfold below1; rw [if_neg hp]
      rw [hb1, List.append_nil] at hts
      refine RunH.adv tb_ok [false] rfl rfl (by simp [hp] <;> omega) ?_
      rw [← hts]
      exact RunH.again (i + 1, (A2, c2)) (.head _) rfl rfl (by show l.length - (i + 1) < l.length - i; omega) fun u hu => ⟨hu.1, hlt⟩
  · have hi' : i = l.length := by omega
    subst hi'
    rw [List.take_length]
    cases hbl : belowL beg l with
    | nil =>
      refine RunH.adv tb_ok [false, true] rfl rfl (by simp) ?_
      exact RunH.retBoxT tb_ok (.st [.val (.pointer none)]) Tryz.func31 rfl rfl rfl rfl rfl fun w' hst => ⟨none, rfl, hst.out [] rfl rfl fun u h => ⟨h.1.1, fun v _ _ => trivial⟩⟩
    | cons e0 r0 =>
      have hne : ¬ (e0 :: r0 = []) := by simp
      rw [← hbl]
      have hnl : 0 < (belowL beg l).length := by rw [hbl]; simp
      have hne2 : ¬ belowL beg l = [] := by rw [hbl]; exact hne
      refine RunH.above (id := 1) rfl rfl fun hz1 hz2 => ?_
      refine RunH.adv tb_ok [false, false] rfl rfl (by simp [hne2] <;> omega) ?_
      refine RunH.doesB [] 60 (hc := Tryz.call92) (ho := rfl) (hw := rfl) (hd := rfl) (hf := rfl) (hes := rfl) (hσ := rfl) (hn := rfl) (hV := fun _ => rfl) (hG := fun _ => rfl) (e := fun o : Option Plot => mapE o) (hC := from_spec A2 c2 (belowL beg l) hsh (from_okO _ (Nat.le_refl 1000) hsh (by omega))) (hp := fun u hu => ⟨hu.fact.1.2, Sl.own (B := m0) (hu.row (κ := kEnt) (l := belowL beg l) (id := 50) rfl) (by omega)⟩) ?_
      rintro o m5 hm5
      refine RunH.adv tb_ok [] rfl rfl (by simp) ?_
      exact RunH.retBoxT tb_ok (mapE o) Tryz.func31 rfl rfl rfl rfl rfl fun w' hst => ⟨o, by rw [if_neg (by rw [hbl]; exact hne)]; rfl, hst.out [] rfl rfl fun u h => ⟨h.1.1.1, fun v hv hp => h.2.up (by omega) hv hp⟩⟩
end Go.Proofs.YtbfjmimiigjenaaGreatDoor

/-
From: the map of names and digests, or the error.
-/
namespace Go.Proofs.YtbfjmimiigjenaaGreatDoor
open Go V RowKit

/-- A set of names, as a map. -/
def isN (is : List Str) : List (Str × Value) := is.map fun s => (s, Value.bool true)
def hasN (is : List Str) (x : Str) : Bool := is.any fun s => decide (s = x)

theorem findI_isN (x : Str) : ∀ (is : List Str) (n : Nat), (findI x (isN is) n).isSome = hasN is x ∧ (∀ p, findI x (isN is) n = some p → p.2 = .bool true)
  | [], n => ⟨rfl, fun _ h => by cases h⟩
  | s :: r, n => by
    have ih := findI_isN x r (n + 1)
    unfold isN hasN at *
    rw [List.map_cons, List.any_cons]
    unfold findI
    by_cases h : s = x
    · simp [h]
    · have h2 : ¬ x = s := fun e => h e.symm
      simp only [h, h2, decide_false, Bool.false_or, if_false]
      exact ih
theorem getM_isN (is : List Str) (x : Str) : (getM (isN is) x).getD (.bool false) = .bool (hasN is x) := by
  have h := findI_isN x is 0
  unfold getM
  cases hf : findI x (isN is) 0 with
  | none => rw [hf] at h; simp at h; simp [h]
  | some p => rw [hf] at h; simp at h; simp [h]
theorem setM_isN (is : List Str) (x : Str) (hx : hasN is x = false) : setM (isN is) x (.bool true) = isN (is ++ [x]) := by
  have h := (findI_isN x is 0).1
  rw [hx] at h
  unfold setM
  cases hf : findI x (isN is) 0 with
  | none => simp [isN]
  | some p => rw [hf] at h; cases h
theorem und_isN : Tryz.prog.underlying 152 = some (.map 9 4) := tb_ok.und (by kernel_rfl)
theorem zero_boolN : ∀ w, (zeroValue 4).run Tryz.prog w = .ok (.bool false) w := fun w => by
  have hi : Tryz.prog.info? 4 = some Tryz.t4 := tb_ok.get (by kernel_rfl)
  have hz : (Tryz.t4).zero = some (.bool false) := by kernel_rfl
  simp [zeroValue, typeInfo, hi, hz]

/-- The error of a list of names behind others. -/
def scanN : List Str → List Str → Int
  | _, [] => 0
  | met, n :: r => if 60 < n.length then 11 else if hasN met n = true then 5 else scanN (met ++ [n]) r
def fromE (names : List Str) (sums : List Sum) : Int := if names.length ≠ sums.length then 7 else if 600 < names.length then 12 else scanN [] names

theorem scan_long {met r : List Str} {n : Str} (h : 60 < n.length) : scanN met (n :: r) = 11 := if_pos h
theorem scan_twice {met r : List Str} {n : Str} (h : ¬ 60 < n.length) (h2 : hasN met n = true) : scanN met (n :: r) = 5 := by
  unfold scanN; rw [if_neg h, if_pos h2]
theorem scan_next {met r : List Str} {n : Str} (h : ¬ 60 < n.length) (h2 : ¬ hasN met n = true) : scanN met (n :: r) = scanN (met ++ [n]) r := by
  conv => lhs; unfold scanN
  rw [if_neg h, if_neg h2]
theorem scan_ok : ∀ (r met : List Str), scanN met r = 0 → ∀ n ∈ r, n.length ≤ 60
  | [], _, _, n, h => by cases h
  | a :: r, met, hs, n, h => by
    by_cases h1 : 60 < a.length
    · rw [scan_long h1] at hs; cases hs
    · by_cases h2 : hasN met a = true
      · rw [scan_twice h1 h2] at hs; cases hs
      · rw [scan_next h1 h2] at hs
        rcases List.mem_cons.1 h with rfl | h
        · omega
        · exact scan_ok r _ hs n h

set_option maxRecDepth 10000 in
theorem From_spec (A : Option Addr) (c : Nat) (names : List Str) (B : Option Addr) (d : Nat) (sums : List Sum) :
    Does Tryz.prog tb 17 [.slice A names.length c, .slice B sums.length d] [] (fun u => Glob u ∧ Sl kStr u A c names ∧ Sl kSum u B d sums) (fun o : Option Plot => .tuple #[.agg #[ptrO o], intV (fromE names sums)]) (fun _ => [])
      (fun o => Late (fun _ => True) (fun u => IsO u o (if fromE names sums = 0 then fromO (names.zip sums) else none))) := by
  have hlim : lim = 140737488351232 := rfl
  have hz31 : (Tryz.t31).size = 1 := by kernel_rfl
  refine V.Does.enter0 [(0, slE A names.length c), (1, slE B sums.length d)] Tryz.func17 rfl Tryz.ntmps17 rfl rfl 0 ?_
  intro m0 K
  refine RunH.pure (fun u h => (⟨h.2.2.1.small, h.2.2.2.small⟩ : names.length ≤ lim ∧ sums.length ≤ lim)) fun ⟨hsn, hss⟩ => ?_
  by_cases h1 : names.length = sums.length
  · by_cases h2 : 600 < names.length
    · have he : fromE names sums = 12 := by unfold fromE; rw [if_neg (by simpa using h1), if_pos h2]
      rw [he]
      refine RunH.adv tb_ok [false, true] rfl rfl (by simp [hz31, h1] <;> omega) ?_
      exact RunH.retBoxT tb_ok (.st [.val (.pointer none)]) Tryz.func17 rfl rfl rfl rfl rfl fun w' hst => ⟨none, rfl, hst.out [] rfl rfl fun u h => ⟨h.1, fun v _ _ => trivial⟩⟩
    · have he : fromE names sums = scanN [] names := by unfold fromE; rw [if_neg (by simpa using h1), if_neg h2]
      rw [he]
      refine RunH.adv tb_ok [false, false] rfl rfl (by simp [hz31, h1] <;> omega) ?_
      refine RunH.go rfl rfl (OpGo.makeMap 3 strV rfl) 4 ?_
      rintro ⟨⟩ m1 hm1
      refine RunH.adv tb_ok [] rfl rfl (by simp <;> omega) ?_
      refine RunH.nilrow 50 kEnt.T kEnt.sz 51 ?_
      refine RunH.loop (α := Nat × (Option Addr × Nat)) (fun y => [(1, slE B sums.length d), (4, .av (.box 0 m0 0)), (6, .av (.val (.map (some (m0 + 1))))), (23, slE A names.length c), (24, intE names.length), (25, intE y.1), (7, rowS 50 y.2.1 ((names.zip sums).take y.1).length y.2.2)])
        (fun y => [(0, some (.box m0 [.val (.pointer none)] 31)), (3, V.mapE (m0 + 1) strV (isN (names.take y.1))), (50, rowE kEnt y.2.1 y.2.2 ((names.zip sums).take y.1))])
        (fun y u => (K u ∧ Glob u ∧ Sl kStr u A c names ∧ Sl kSum u B d sums) ∧ y.1 ≤ names.length ∧ scanN [] names = scanN (names.take y.1) (names.drop y.1)) (fun y => names.length - y.1) (0, (none, 0)) rfl rfl (fun u hu => ⟨hu, Nat.zero_le _, rfl⟩) ?_
      rintro ⟨i, A2, c2⟩ m2
      refine RunH.pure (fun u hu => hu.2) fun ⟨hi, hsc⟩ => ?_
      dsimp only at hi hsc ⊢
      have hzl : (names.zip sums).length = names.length := by rw [List.length_zip]; omega
      by_cases hlt : i < names.length
      · have hlts : i < sums.length := by omega
        have hts : names.take (i + 1) = names.take i ++ [names[i]] := List.take_succ_eq_append_getElem hlt
        have hdr : names.drop i = names[i] :: names.drop (i + 1) := List.drop_eq_getElem_cons hlt
        have hzi : (names.zip sums)[i]'(by omega) = (names[i], sums[i]) := by rw [List.getElem_zip]
        have htz : (names.zip sums).take (i + 1) = (names.zip sums).take i ++ [(names[i], sums[i])] := by rw [List.take_succ_eq_append_getElem (by omega), hzi]
        rw [hdr] at hsc
        refine RunH.pure (fun u hu => (⟨hu.1.2.2.1.ptr hlt, hu.1.2.2.2.ptr hlts⟩ : Ptr A ∧ Ptr B)) fun ⟨hptr, hptrB⟩ => ?_
        refine RunH.adv tb_ok [true] rfl rfl (by simp [hptr] <;> omega) ?_
        refine RunH.loadS (strE names[i]) rfl rfl rfl rfl (fun u hu => hu.fact.1.2.2.1.load hlt) ?_
        by_cases hlong : 60 < names[i].length
        · rw [hsc, scan_long hlong]
          refine RunH.adv tb_ok [true] rfl rfl (by simp [hz31] <;> omega) ?_
          exact RunH.retBoxT tb_ok (.st [.val (.pointer none)]) Tryz.func17 rfl rfl rfl rfl rfl fun w' hst => ⟨none, rfl, hst.out [] rfl rfl fun u h => ⟨h.1.1, fun v _ _ => trivial⟩⟩
        · refine RunH.adv tb_ok [false] rfl rfl (by simp <;> omega) ?_
          refine RunH.go rfl rfl (OpGo.lookupV (es := isN (names.take i)) (k := names[i]) (.bool (hasN (names.take i) names[i])) key_str und_isN zero_boolN rfl rfl rfl rfl rfl (fun u hu => (hu.holds 3 _ rfl).2) (getM_isN _ _)) 52 ?_
          rintro ⟨⟩ m3 hm3
          by_cases hin : hasN (names.take i) names[i] = true
          · rw [hsc, scan_twice hlong hin]
            refine RunH.adv tb_ok [true] rfl rfl (by simp [hz31, hin] <;> omega) ?_
            exact RunH.retBoxT tb_ok (.st [.val (.pointer none)]) Tryz.func17 rfl rfl rfl rfl rfl fun w' hst => ⟨none, rfl, hst.out [] rfl rfl fun u h => ⟨h.1.1, fun v _ _ => trivial⟩⟩
          · refine RunH.adv tb_ok [false] rfl rfl (by simp [hin] <;> omega) ?_
            refine RunH.go rfl rfl (OpGo.mapUpdate (id := 3) (k := names[i]) key_str und_isN rfl rfl rfl rfl rfl rfl) 53 ?_
            rintro ⟨⟩ m4 hm4
            have hset : setM (isN (names.take i)) names[i] EV.tt.v = isN (names.take i ++ [names[i]]) := setM_isN _ _ (by simpa using hin)
            rw [hset, ← hts]
            refine RunH.adv tb_ok [] rfl rfl (by simp [hptrB] <;> omega) ?_
            refine RunH.loadS (sumE sums[i]) rfl rfl rfl rfl (fun u hu => hu.fact.1.2.2.2.load hlts) ?_
            refine RunH.adv tb_ok [] rfl rfl (by simp <;> omega) ?_
            refine RunH.appendK (κ := kEnt) (id := 50) (l := (names.zip sums).take i) (r := [(names[i], sums[i])]) rfl rfl rfl rfl rfl rfl elt_ent rfl rfl (fun u hu => hu.liesRow (κ := kEnt) (l := [(names[i], sums[i])]) (id := 53) rfl (by simp [hlim])) (by simp; omega) (by simp [hlim]; omega) ?_
            intro A3 c3 m5 hm5
            rw [← htz]
            refine RunH.adv tb_ok [] rfl rfl (by simp <;> omega) ?_
            exact RunH.again (i + 1, (A3, c3)) (.head _) rfl rfl (by show names.length - (i + 1) < names.length - i; omega) fun u hu => ⟨hu.1, hlt, by rw [hsc, scan_next hlong hin, ← hts]⟩
      · have hi' : i = names.length := by omega
        have hsc0 : scanN [] names = 0 := by rw [hsc, hi', List.drop_length]; rfl
        have htk : (names.zip sums).take i = names.zip sums := by rw [hi', ← hzl, List.take_length]
        rw [htk]
        have hsh : ∀ e ∈ names.zip sums, e.1.length ≤ 60 := fun e he => scan_ok names [] hsc0 e.1 (List.of_mem_zip he).1
        refine RunH.above (id := 0) rfl rfl fun hz1 hz2 => ?_
        refine RunH.adv tb_ok [false] rfl rfl (by simp <;> omega) ?_
        refine RunH.doesB [] 60 (hc := Tryz.call92) (ho := rfl) (hw := rfl) (hd := rfl) (hf := rfl) (hes := rfl) (hσ := rfl) (hn := rfl) (hV := fun _ => rfl) (hG := fun _ => rfl) (e := fun o : Option Plot => mapE o) (hC := from_spec A2 c2 (names.zip sums) (fun e he => Nat.le_trans (hsh e he) (by decide)) (from_okO _ (by decide : 60 ≤ 1000) hsh (by omega))) (hp := fun u hu => ⟨hu.fact.1.2.1, Sl.own (B := m0) (hu.row (κ := kEnt) (l := names.zip sums) (id := 50) rfl) (by omega)⟩) ?_
        rintro o m5 hm5
        refine RunH.adv tb_ok [] rfl rfl (by simp) ?_
        rw [hsc0]
        exact RunH.retBoxT tb_ok (mapE o) Tryz.func17 rfl rfl rfl rfl rfl fun w' hst => ⟨o, rfl, hst.out [] rfl rfl fun u h => ⟨h.1.1.1, fun v hv hp => h.2.up (by omega) hv hp⟩⟩
  · have he : fromE names sums = 7 := by unfold fromE; rw [if_pos h1]
    rw [he]
    refine RunH.adv tb_ok [true] rfl rfl (by simp [hz31, h1] <;> omega) ?_
    exact RunH.retBoxT tb_ok (.st [.val (.pointer none)]) Tryz.func17 rfl rfl rfl rfl rfl fun w' hst => ⟨none, rfl, hst.out [] rfl rfl fun u h => ⟨h.1, fun v _ _ => trivial⟩⟩
end Go.Proofs.YtbfjmimiigjenaaGreatDoor

/-
Union: the map of both maps' names, or the error.
-/
namespace Go.Proofs.YtbfjmimiigjenaaGreatDoor
open Go V RowKit

def unionE (s t : Option Tree) : Int := if ((entsO t).any fun e => (getO s e.1).isSome) = true then 5 else if 600 < (entsO t).length + manyO s then 12 else 0

set_option maxRecDepth 10000 in
theorem Union1_spec (w : World) (b : Nat) (po : Option Plot) (t : Option Tree) (fr : Nat × Nat) (hb : w.heap[b]? = some (.cells #[ptrO po] 31 fr)) (h : IsO w po t) (ht : okO t) (e : Str × Sum) (he : e.1.length ≤ 1000) :
    Gives Tryz.prog 103 [(EV.st (entF e)).v, ptrV b] w (boolE (getO t e.1).isSome) := by
  have hfs := find_isSome h ht e.1
  refine enterH tb_ok [(0, .st (entF e)), (1, ptrAt b)] Tryz.func103 rfl Tryz.ntmps103 rfl rfl ?_
  refine RunH.adv tb_ok [] rfl rfl (by simp <;> omega) ?_
  refine RunH.loadS (.av (.val (ptrO po))) rfl rfl rfl rfl (fun u hu => load_root (by rw [hu.fact.block b (Array.getElem?_eq_some_iff.1 hb).1]; exact hb)) ?_
  refine RunH.adv tb_ok [] rfl rfl (by simp <;> omega) ?_
  refine RunH.gives (ho := rfl) (hw := rfl) (hd := rfl) (hf := rfl) (hes := rfl) (hc := Tryz.call93) (e := .av (.val (ptrO (findO po t e.1)))) (hC := fun u hu => get_ok u po t (h.ext hu.fact) ht e.1 he) ?_
  intro m1 hm1
  refine RunH.read (.av (.val (.bool (!((findO po t e.1).map fun L => (⟨L.b, 0, none⟩ : Addr)).isNone)))) rfl rfl rfl rfl (fun u q _ ha => op_neqPtr ha rfl rfl rfl rfl) ?_
  refine RunH.adv tb_ok [] rfl rfl (by simp <;> omega) ?_
  refine RunH.ret1 Tryz.func103 rfl rfl fun w' hst => ⟨?_, hst.fact⟩
  rw [← hfs]
  cases findO po t e.1 <;> rfl

set_option maxRecDepth 10000 in
theorem Union_spec (po : Option Plot) (s : Option Tree) (qo : Option Plot) (t : Option Tree) (hs : okO s) (hls : lowO 1000 s) (ht : okO t) (hlt : lowO 1000 t) (hm1 : manyO s ≤ 100000) (hm2 : manyO t ≤ 100000) :
    Does Tryz.prog tb 34 [(mapE po).v, (mapE qo).v] [] (fun u => Glob u ∧ IsO u po s ∧ IsO u qo t) (fun o : Option Plot => .tuple #[.agg #[ptrO o], intV (unionE s t)]) (fun _ => [])
      (fun o => Late (fun _ => True) (fun u => IsO u o (if unionE s t = 0 then fromO (entsO s ++ entsO t) else none))) := by
  have hlim : lim = 140737488351232 := rfl
  have hz31 : (Tryz.t31).size = 1 := by kernel_rfl
  have e1 := entsO_many s
  have e2 := entsO_many t
  have hsh : ∀ e ∈ entsO s ++ entsO t, e.1.length ≤ 1000 := fun e he => by
    rcases List.mem_append.1 he with h | h
    · exact ents_short hs hls e h
    · exact ents_short ht hlt e h
  refine V.Does.enter0 [(0, mapE po), (1, mapE qo)] Tryz.func34 rfl Tryz.ntmps34 rfl rfl 0 ?_
  intro m0 K
  refine RunH.adv tb_ok [] rfl rfl (by simp <;> omega) ?_
  refine RunH.doesB [] 10 (hc := Tryz.call97) (ho := rfl) (hw := rfl) (hd := rfl) (hf := rfl) (hes := rfl) (hσ := rfl) (hn := rfl) (hV := fun _ => rfl) (hG := fun _ => rfl) (e := fun y : Option Addr × Nat => rowS 3 y.1 (entsO t).length y.2) (hC := entries_O qo t 1000 ht hlt (by omega)) (hp := fun u hu => hu.fact.2.2.2) ?_
  rintro ⟨A1, c1⟩ m1 hm1'
  refine RunH.drop ?_
  refine RunH.adv tb_ok [] rfl rfl (by simp <;> omega) ?_
  dsimp only
  refine RunH.gives (ho := rfl) (hw := rfl) (hd := rfl) (hf := rfl) (hes := rfl) (hc := Tryz.call102) (e := boolE ((entsO t).any fun e => (getO s e.1).isSome)) (hC := fun u hu => containsFuncT u A1 c1 (entsO t) (Sl.own (B := m0) (hu.row (κ := kEnt) (l := entsO t) (id := 3) rfl) (by omega)) 103 [] [ptrV m0] (fun e => (getO s e.1).isSome) ⟨fun xs w => Tryz.call103 xs w, fun e he u' hu' => Union1_spec u' m0 po s (0, 0) (by
      rw [hu'.block m0 (Array.getElem?_eq_some_iff.1 (hu.holds 0 _ rfl).2.1).1]
      exact (hu.holds 0 _ rfl).2.1) (hu.fact.2.2.1.ext hu') hs e (hsh e (List.mem_append_right _ he))⟩) ?_
  intro m2 hm2'
  by_cases h1 : ((entsO t).any fun e => (getO s e.1).isSome) = true
  · have hE : unionE s t = 5 := if_pos h1
    rw [hE]
    refine RunH.adv tb_ok [true] rfl rfl (by simp [hz31, h1] <;> omega) ?_
    exact RunH.retBoxT tb_ok (.st [.val (.pointer none)]) Tryz.func34 rfl rfl rfl rfl rfl fun w' hst => ⟨none, rfl, hst.out [] rfl rfl fun u h => ⟨h.1, fun v _ _ => trivial⟩⟩
  · refine RunH.adv tb_ok [false] rfl rfl (by simp [hz31, h1] <;> omega) ?_
    refine RunH.gives (ho := rfl) (hw := rfl) (hd := rfl) (hf := rfl) (hes := rfl) (hc := Tryz.call25) (e := intE (manyO s)) (hC := fun u hu => Many_spec u po s hu.fact.2.2.1) ?_
    intro m3 hm3
    by_cases h2 : 600 < (entsO t).length + manyO s
    · have hE : unionE s t = 12 := by unfold unionE; rw [if_neg h1, if_pos h2]
      rw [hE]
      refine RunH.adv tb_ok [true] rfl rfl (by simp [hz31] <;> omega) ?_
      exact RunH.retBoxT tb_ok (.st [.val (.pointer none)]) Tryz.func34 rfl rfl rfl rfl rfl fun w' hst => ⟨none, rfl, hst.out [] rfl rfl fun u h => ⟨h.1, fun v _ _ => trivial⟩⟩
    · have hE : unionE s t = 0 := by unfold unionE; rw [if_neg h1, if_neg h2]
      rw [hE]
      refine RunH.adv tb_ok [false] rfl rfl (by simp [hz31] <;> omega) ?_
      refine RunH.doesB [] 20 (hc := Tryz.call97) (ho := rfl) (hw := rfl) (hd := rfl) (hf := rfl) (hes := rfl) (hσ := rfl) (hn := rfl) (hV := fun _ => rfl) (hG := fun _ => rfl) (e := fun y : Option Addr × Nat => rowS 10 y.1 (entsO s).length y.2) (hC := entries_O po s 1000 hs hls (by omega)) (hp := fun u hu => hu.fact.2.2.1) ?_
      rintro ⟨A2, c2⟩ m4 hm4
      refine RunH.drop ?_
      refine RunH.adv tb_ok [] rfl rfl (by simp <;> omega) ?_
      dsimp only
      refine RunH.appendK (κ := kEnt) (id := 10) (l := entsO s) (r := entsO t) rfl rfl rfl rfl rfl rfl elt_ent rfl rfl (fun u hu => hu.liesRow (κ := kEnt) (l := entsO t) (id := 3) rfl (by omega)) (by omega) (by omega) ?_
      intro A3 c3 m5 hm5
      refine RunH.adv tb_ok [] rfl rfl (by simp <;> omega) ?_
      refine RunH.doesB [] 30 (hc := Tryz.call92) (ho := rfl) (hw := rfl) (hd := rfl) (hf := rfl) (hes := rfl) (hσ := rfl) (hn := rfl) (hV := fun _ => rfl) (hG := fun _ => rfl) (e := fun o : Option Plot => mapE o) (hC := from_spec A3 c3 (entsO s ++ entsO t) hsh (from_okO _ (Nat.le_refl 1000) hsh (by rw [List.length_append]; omega))) (hp := fun u hu => ⟨hu.fact.2.1, Sl.own (B := m0) (hu.row (κ := kEnt) (l := entsO s ++ entsO t) (id := 10) rfl) (by rw [List.length_append]; omega)⟩) ?_
      rintro o m6 hm6
      refine RunH.adv tb_ok [] rfl rfl (by simp [hz31, Value.oneCell'] <;> omega) ?_
      exact RunH.retBoxT tb_ok (mapE o) Tryz.func34 rfl rfl rfl rfl rfl fun w' hst => ⟨o, rfl, hst.out [] rfl rfl fun u h => ⟨h.1.1, fun v hv hp => h.2.up (by omega) hv hp⟩⟩
end Go.Proofs.YtbfjmimiigjenaaGreatDoor
