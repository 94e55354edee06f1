/-
Contracts of functions, and lemmas on them. No condition.
-/
import Derived.Test.YtbfjmimiigjenaaGreatDoorKQ15
import Derived.Test.YtbfjmimiigjenaaGreatDoorKVKey
set_option linter.unusedVariables false
set_option linter.unusedSectionVars false
set_option linter.unusedSimpArgs false
namespace Go.Proofs.YtbfjmimiigjenaaGreatDoor
open Go V RowKit
abbrev entF (e : Str × Sum) : List AV := [.val (strV e.1), .val (sumV e.2)]
def fName : Field := { name := "name", type := 9, offset := 0, embedded := false, tag := "", pkgPath := "hoarstone/trie", byteOffset := 0 }
def fSumT : Field := { name := "sum", type := 40, offset := 1, embedded := false, tag := "", pkgPath := "hoarstone/trie", byteOffset := 16 }
theorem fields_ent : (Tryz.prog.fieldsOf 155).toList = [fName, fSumT] := by kernel_rfl
theorem stood_ent : Tryz.prog.stoodInHeld 155 = false := by kernel_rfl
theorem undf_ent : Tryz.prog.underlying 155 = some (.struct (Tryz.prog.fieldsOf 155)) := by kernel_rfl
theorem ent_cells (e : Str × Sum) : (EV.st (entF e)).v = .agg (strV e.1 :: (e.2.l.map u8V)).toArray := by
  simp [EV.v, AV.v, flat, Value.cells, sumV]
theorem eq_ent (w : World) (d : Nat) (a b : Str × Sum) : (Op.equalIn (d + 3) 155 (EV.st (entF a)).v (EV.st (entF b)).v).run Tryz.prog w = .ok (decide (a = b)) w := by
  rw [ent_cells, ent_cells, run_equalIn_struct w (d + 2) _ _ _ undf_ent stood_ent, fields_ent]
  have hs : ∀ e : Str × Sum, (part 40 (strV e.1 :: (e.2.l.map u8V)).toArray 1).run Tryz.prog w = .ok (sumV e.2) w := fun e => by
    rw [part_row w (tb_ok.und und_sum) rfl (run_tsize tb_ok (i := Tryz.t40) rfl)]
    have hlen : (e.2.l.map u8V).length = 32 := by simp [e.2.h]
    have : ((strV e.1 :: (e.2.l.map u8V)).take (1 + Tryz.t40.size)).drop 1 = e.2.l.map u8V := by
      show ((strV e.1 :: (e.2.l.map u8V)).take (32 + 1)).drop 1 = _
      rw [List.take_succ_cons, List.drop_succ_cons, List.drop_zero, List.take_of_length_le (by omega)]
    rw [this]
    rfl
  rw [eq_two w (d + 2) fName fSumT (by decide) (by decide) _ _ (part_one w (tb_ok.und (d := .string) rfl) rfl _ 0 (strV a.1) rfl) (part_one w (tb_ok.und (d := .string) rfl) rfl _ 0 (strV b.1) rfl) (eq_str w (d + 1) a.1 b.1)
    (hs a) (hs b) (eq_sum w d a.2 b.2)]
  congr 1
  rw [Bool.eq_iff_iff]
  simp only [Bool.and_eq_true, decide_eq_true_iff]
  constructor
  · rintro ⟨h1, h2⟩; cases a; cases b; simp_all
  · rintro rfl; exact ⟨rfl, rfl⟩
theorem equalT_spec (w : World) (A B : Option Addr) (ca cb : Nat) (la lb : List (Str × Sum)) (ha : Sl kEnt w A ca la) (hb : Sl kEnt w B cb lb) :
    Gives Tryz.prog 96 [.slice A la.length ca, .slice B lb.length cb] w (boolE (decide (la = lb))) := by
  have sa := ha.small
  have hl : lim = 140737488351232 := rfl
  refine enterH tb_ok [(0, slE A la.length ca), (1, slE B lb.length cb)] Tryz.func96 rfl Tryz.ntmps96 rfl rfl ?_
  by_cases hlen : la.length = lb.length
  · refine RunH.adv tb_ok [false] rfl rfl (by simp [hlen] <;> omega) ?_
    refine RunH.loop (α := Nat) (fun i => [(0, slE A la.length ca), (1, slE B lb.length cb), (13, intE i), (12, intE la.length)]) (fun _ => []) (fun i w' => Ext w w' ∧ i ≤ la.length ∧ la.take i = lb.take i) (fun i => la.length - i) 0
      rfl rfl (fun w' h => ⟨h, Nat.zero_le _, rfl⟩) ?_
    intro i m
    refine RunH.pure (fun w' h => h.2) fun ⟨hi, hpre⟩ => ?_
    by_cases hlt : i < la.length
    · have hltb : i < lb.length := by omega
      refine RunH.adv tb_ok [true] rfl rfl (by simp <;> omega) ?_
      refine RunH.draw rfl [] rfl 9 rfl rfl ?_
      refine RunD.adv tb_ok (by kernel_rfl) [] rfl rfl (by simp [ha.ptr hlt, hb.ptr hltb] <;> omega) ?_
      refine RunD.load (by kernel_rfl) (i := 3) (.st (entF la[i])) rfl rfl rfl rfl rfl rfl (fun w' h => (ha.ext h.1).load hlt) ?_
      refine RunD.load (by kernel_rfl) (i := 7) (.st (entF lb[i])) rfl rfl rfl rfl rfl rfl (fun w' h => (hb.ext h.1).load hltb) ?_
      refine RunD.read (by kernel_rfl) (i := 8) (boolE (!decide (la[i] = lb[i]))) rfl rfl rfl rfl rfl rfl (fun w' a h hag => op_neq hag rfl rfl rfl rfl rfl (by kernel_rfl) (eq_ent w' 9997 _ _)) ?_
      refine RunD.done (.inl rfl) (by kernel_rfl) ?_
      by_cases he : la[i] = lb[i]
      · refine RunH.adv tb_ok [false] rfl rfl (by simp [he] <;> omega) ?_
        refine RunH.again (i + 1) (.head _) rfl rfl (by omega) fun w' h => ⟨h.1, by omega, ?_⟩
        rw [List.take_succ_eq_append_getElem hlt, List.take_succ_eq_append_getElem hltb, hpre, he]
      · refine RunH.adv tb_ok [true] rfl rfl (by simp [he] <;> omega) ?_
        refine RunH.ret1 Tryz.func96 rfl rfl fun w' hst => ⟨?_, hst.fact.1⟩
        have : la ≠ lb := fun e => he (by subst e; rfl)
        simp [this, EV.v, AV.v]
    · refine RunH.adv tb_ok [false] rfl rfl (by simp <;> omega) ?_
      refine RunH.ret1 Tryz.func96 rfl rfl fun w' hst => ⟨?_, hst.fact.1⟩
      have : la = lb := by
        rw [← List.take_of_length_le (l := la) (i := i) (by omega), hpre, List.take_of_length_le (by omega)]
      simp [this, EV.v, AV.v]
  · refine RunH.adv tb_ok [true] rfl rfl (by simp [hlen] <;> omega) ?_
    refine RunH.ret1 Tryz.func96 rfl rfl fun w' hst => ⟨?_, hst.fact⟩
    have : la ≠ lb := fun e => hlen (by rw [e])
    simp [this, EV.v, AV.v]
theorem TSame_spec (w : World) (po : Option Plot) (t : Option Tree) (qo : Option Plot) (s : Option Tree) (h1 : IsO w po t) (ht : okO t) (hl1 : lowO 1000 t) (h2 : IsO w qo s) (hs : okO s) (hl2 : lowO 1000 s) :
    Gives Tryz.prog 23 [(mapE po).v, (mapE qo).v] w (boolE (decide (entsO t = entsO s))) := by
  have hlim : lim = 140737488351232 := rfl
  have hml : ∀ t, okO t → (entsO t).length ≤ 900000000 := by
    intro t ht
    cases t with
    | none => simp [entsO]
    | some t => show (t.ents []).length ≤ _; rw [many_ents]; exact ht.2.2
  have hm1 := hml t ht
  have hm2 := hml s hs
  refine enterH tb_ok [(0, mapE po), (1, mapE qo)] Tryz.func23 rfl Tryz.ntmps23 rfl rfl ?_
  refine RunH.adv tb_ok [] rfl rfl (by simp <;> omega) ?_
  refine RunH.draw rfl [(0, some (.box w.heap.size [.val (ptrO po)] 31)), (1, some (.box (w.heap.size + 1) [.val (ptrO qo)] 31))] rfl 8 rfl rfl ?_
  refine RunD.adv tb_ok (by kernel_rfl) [] rfl rfl (by simp <;> omega) ?_
  refine RunD.doesB (i := 2) [] 10 (fun y : Option Addr × Nat => rowS 2 y.1 (entsO t).length y.2) rfl (by kernel_rfl) rfl rfl rfl rfl Tryz.call97 (entries_O po t 1000 ht hl1 (Nat.le_refl _)) rfl rfl (fun _ => rfl) (fun _ => rfl) (fun u hu => h1.ext hu.fact) (fun _ => rfl) (fun _ h => h) ?_
  rintro ⟨A1, c1⟩ m1 hm1'
  refine RunD.adv tb_ok (by kernel_rfl) [] rfl rfl (by simp <;> omega) ?_
  refine RunD.doesB (i := 5) [] 20 (fun y : Option Addr × Nat => rowS 10 y.1 (entsO s).length y.2) rfl (by kernel_rfl) rfl rfl rfl rfl Tryz.call97 (entries_O qo s 1000 hs hl2 (Nat.le_refl _)) rfl rfl (fun _ => rfl) (fun _ => rfl) (fun u hu => h2.ext hu.fact.1) (fun _ => rfl) (fun _ h => h.1) ?_
  rintro ⟨A2, c2⟩ m2 hm2'
  refine RunD.adv tb_ok (by kernel_rfl) [] rfl rfl (by simp <;> omega) ?_
  refine RunD.gives (i := 6) (boolE (decide (entsO t = entsO s))) rfl (by kernel_rfl) rfl rfl rfl rfl Tryz.call96 (fun u hu => equalT_spec u A1 A2 c1 c2 (entsO t) (entsO s) (Sl.own (hu.row (κ := kEnt) (l := entsO t) (id := 2) rfl) (by omega)) (Sl.own (hu.row (κ := kEnt) (l := entsO s) (id := 10) rfl) (by omega))) rfl (fun _ h => h.1.1) ?_
  intro m3 hm3
  refine RunD.adv tb_ok (by kernel_rfl) [] rfl rfl (by simp <;> omega) ?_
  refine RunD.done (.inl rfl) (by kernel_rfl) ?_
  refine RunH.ret1 Tryz.func23 rfl rfl fun w' hst => ⟨rfl, hst.fact.1.1⟩
end Go.Proofs.YtbfjmimiigjenaaGreatDoor
namespace Go.Proofs.YtbfjmimiigjenaaGreatDoor
open Go V RowKit
def below1 (p : Str) (e : Str × Sum) : List (Str × Sum) := if hasPre e.1 p = true then [(cutS e.1 p, e.2)] else []
def belowL (p : Str) (l : List (Str × Sum)) : List (Str × Sum) := l.flatMap (below1 p)
theorem below_len (p : Str) : ∀ l, (belowL p l).length ≤ l.length
  | [] => Nat.le_refl _
  | x :: r => by
    have := below_len p r
    unfold belowL at this ⊢
    rw [List.flatMap_cons, List.length_append, List.length_cons]
    have : (below1 p x).length ≤ 1 := by unfold below1; split <;> simp
    omega
theorem cutS_len (s p : Str) : (cutS s p).length ≤ s.length := by
  unfold cutS
  split
  · rw [List.length_drop]; omega
  · exact Nat.le_refl _
theorem below_short {N : Nat} {p : Str} {l : List (Str × Sum)} (h : ∀ e ∈ l, e.1.length ≤ N) : ∀ e ∈ belowL p l, e.1.length ≤ N := by
  intro e he
  unfold belowL at he
  rw [List.mem_flatMap] at he
  obtain ⟨x, hx, hm⟩ := he
  unfold below1 at hm
  split at hm
  · rw [List.mem_singleton] at hm
    subst hm
    exact Nat.le_trans (cutS_len _ _) (h x hx)
  · cases hm
theorem ents_short {t : Option Tree} {N : Nat} (ht : okO t) (hl : lowO N t) : ∀ e ∈ entsO t, e.1.length ≤ N := by
  intro e he
  have hw : wfO t := by
    cases t with
    | none => trivial
    | some t => exact ht.1
  exact hl e.1 e.2 ((mem_entsO hw e.1 e.2).1 he)
theorem ents_many {t : Option Tree} (ht : okO t) : (entsO t).length ≤ 900000000 := by
  cases t with
  | none => simp [entsO]
  | some t => show (t.ents []).length ≤ _; rw [many_ents]; exact ht.2.2
set_option maxRecDepth 10000 in
theorem Below_spec (po : Option Plot) (t : Option Tree) (ht : okO t) (hl : lowO 1000 t) (beg : Str) (hb : beg.length ≤ 1000) :
    Does Tryz.prog tb 31 [(mapE po).v, strV beg] [] (fun u => Glob u ∧ IsO u po t) (fun o : Option Plot => .tuple #[.agg #[ptrO o], intV (if belowL beg (entsO t) = [] then 6 else 0)]) (fun _ => []) (fun o => Late (fun _ => True) (fun u => IsO u o (fromO (belowL beg (entsO t))))) := by
  have hlim : lim = 140737488351232 := rfl
  have hml := ents_many ht
  have hsh := below_short (p := beg) (ents_short ht hl)
  have hent := entries_O
  refine V.Does.enter0 [(0, mapE po), (1, strE beg)] Tryz.func31 rfl Tryz.ntmps31 rfl rfl 0 ?_
  intro m0 K
  refine RunH.adv tb_ok [] rfl rfl (by simp <;> omega) ?_
  refine RunH.doesB [] 10 (hc := Tryz.call97) (ho := rfl) (hw := rfl) (hd := rfl) (hf := rfl) (hes := rfl) (hσ := rfl) (hn := rfl) (hV := fun _ => rfl) (hG := fun _ => rfl) (e := fun y : Option Addr × Nat => rowS 2 y.1 (entsO t).length y.2) (hC := entries_O po t 1000 ht hl (by omega)) (hp := fun u hu => hu.fact.2.2) ?_
  rintro ⟨A1, c1⟩ m1 hm1
  refine RunH.drop ?_
  refine RunH.adv tb_ok [] rfl rfl (by simp <;> omega) ?_
  dsimp only
  generalize entsO t = l at *
  have hlen := below_len beg l
  refine RunH.nilrow 50 kEnt.T kEnt.sz 51 ?_
  refine RunH.loop (α := Nat × (Option Addr × Nat)) (fun y => [(1, strE beg), (4, .av (.box 1 (m0 + 1) 0)), (13, rowS 2 A1 l.length c1), (14, intE l.length), (15, intE y.1), (6, rowS 50 y.2.1 (belowL beg (l.take y.1)).length y.2.2)]) (fun y => [(1, some (.box (m0 + 1) [.val (.pointer none)] 31)), (2, rowE kEnt A1 c1 l), (50, rowE kEnt y.2.1 y.2.2 (belowL beg (l.take y.1)))]) (fun y u => (K u ∧ Glob u) ∧ y.1 ≤ l.length) (fun y => l.length - y.1) (0, (none, 0)) rfl rfl (fun u hu => ⟨⟨hu.1, hu.2.1⟩, Nat.zero_le _⟩) ?_
  rintro ⟨i, A2, c2⟩ m2
  refine RunH.pure (fun u hu => hu.2) fun hi => ?_
  dsimp only at hi ⊢
  by_cases hlt : i < l.length
  · have hts : belowL beg (l.take (i + 1)) = belowL beg (l.take i) ++ below1 beg l[i] := by
      rw [List.take_succ_eq_append_getElem hlt]; unfold belowL; rw [List.flatMap_append, List.flatMap_cons, List.flatMap_nil, List.append_nil]
    have hlt2 := below_len beg (l.take i)
    rw [List.length_take] at hlt2
    refine RunH.pureS (fun u hu => hu.ptr (id := 2) (κ := kEnt) (l := l) rfl (by intro e; rw [e] at hlt; cases hlt)) fun hptr => ?_
    refine RunH.adv tb_ok [true] rfl rfl (by simp [hptr] <;> omega) ?_
    refine RunH.loadS (.st [.val (strV l[i].1), .val (sumV l[i].2)]) rfl rfl rfl rfl (fun u hu => (Sl.own (B := m0) (hu.row (κ := kEnt) (l := l) (id := 2) rfl) (by omega)).load hlt) ?_
    refine RunH.adv tb_ok [] rfl rfl (by simp) ?_
    refine RunH.gives (ho := rfl) (hw := rfl) (hd := rfl) (hf := rfl) (hes := rfl) (hc := Tryz.call32) (e := cutV l[i].1 beg) (hC := fun u _ => CutPre_spec u _ _) ?_
    intro m3 hm3
    by_cases hp : hasPre l[i].1 beg = true
    · have hb1 : below1 beg l[i] = [(cutS l[i].1 beg, l[i].2)] := by unfold below1; rw [if_pos hp]
      rw [hb1] at hts
      refine RunH.adv tb_ok [true] rfl rfl (by simp [hp]) ?_
      refine RunH.appendK (κ := kEnt) (id := 50) (l := belowL beg (l.take i)) (r := [(cutS l[i].1 beg, l[i].2)]) rfl rfl rfl rfl rfl rfl elt_ent rfl rfl (fun u hu => hu.liesRow (κ := kEnt) (l := [(cutS l[i].1 beg, l[i].2)]) (id := 52) rfl (by simp [hlim])) (by simp; omega) (by simp [hlim]; omega) ?_
      intro A3 c3 m4 hm4
      rw [← hts]
      refine RunH.adv tb_ok [] rfl rfl (by simp <;> omega) ?_
      exact RunH.again (i + 1, (A3, c3)) (.head _) rfl rfl (by show l.length - (i + 1) < l.length - i; omega) fun u hu => ⟨hu.1, hlt⟩
    · have hb1 : below1 beg l[i] = [] := by unfold below1; rw [if_neg hp]
      rw [hb1, List.append_nil] at hts
      refine RunH.adv tb_ok [false] rfl rfl (by simp [hp] <;> omega) ?_
      rw [← hts]
      exact RunH.again (i + 1, (A2, c2)) (.head _) rfl rfl (by show l.length - (i + 1) < l.length - i; omega) fun u hu => ⟨hu.1, hlt⟩
  · have hi' : i = l.length := by omega
    subst hi'
    rw [List.take_length]
    cases hbl : belowL beg l with
    | nil =>
      refine RunH.adv tb_ok [false, true] rfl rfl (by simp) ?_
      exact RunH.retBoxT tb_ok (.st [.val (.pointer none)]) Tryz.func31 rfl rfl rfl rfl rfl fun w' hst => ⟨none, rfl, hst.out [] rfl rfl fun u h => ⟨h.1.1, fun v _ _ => trivial⟩⟩
    | cons e0 r0 =>
      have hne : ¬ (e0 :: r0 = []) := by simp
      rw [← hbl]
      have hnl : 0 < (belowL beg l).length := by rw [hbl]; simp
      have hne2 : ¬ belowL beg l = [] := by rw [hbl]; exact hne
      refine RunH.above (id := 1) rfl rfl fun hz1 hz2 => ?_
      refine RunH.adv tb_ok [false, false] rfl rfl (by simp [hne2] <;> omega) ?_
      refine RunH.doesB [] 60 (hc := Tryz.call92) (ho := rfl) (hw := rfl) (hd := rfl) (hf := rfl) (hes := rfl) (hσ := rfl) (hn := rfl) (hV := fun _ => rfl) (hG := fun _ => rfl) (e := fun o : Option Plot => mapE o) (hC := from_spec A2 c2 (belowL beg l) hsh (from_okO _ (Nat.le_refl 1000) hsh (by omega))) (hp := fun u hu => ⟨hu.fact.1.2, Sl.own (B := m0) (hu.row (κ := kEnt) (l := belowL beg l) (id := 50) rfl) (by omega)⟩) ?_
      rintro o m5 hm5
      refine RunH.adv tb_ok [] rfl rfl (by simp) ?_
      exact RunH.retBoxT tb_ok (mapE o) Tryz.func31 rfl rfl rfl rfl rfl fun w' hst => ⟨o, by rw [if_neg (by rw [hbl]; exact hne)]; rfl, hst.out [] rfl rfl fun u h => ⟨h.1.1.1, fun v hv hp => h.2.up (by omega) hv hp⟩⟩
end Go.Proofs.YtbfjmimiigjenaaGreatDoor
namespace Go.Proofs.YtbfjmimiigjenaaGreatDoor
open Go V RowKit
def isN (is : List Str) : List (Str × Value) := is.map fun s => (s, Value.bool true)
def hasN (is : List Str) (x : Str) : Bool := is.any fun s => decide (s = x)
theorem findI_isN (x : Str) : ∀ (is : List Str) (n : Nat), (findI x (isN is) n).isSome = hasN is x ∧ (∀ p, findI x (isN is) n = some p → p.2 = .bool true)
  | [], n => ⟨rfl, fun _ h => by cases h⟩
  | s :: r, n => by
    have ih := findI_isN x r (n + 1)
    unfold isN hasN at *
    rw [List.map_cons, List.any_cons]
    unfold findI
    by_cases h : s = x
    · simp [h]
    · have h2 : ¬ x = s := fun e => h e.symm
      simp only [h, h2, decide_false, Bool.false_or, if_false]
      exact ih
theorem getM_isN (is : List Str) (x : Str) : (getM (isN is) x).getD (.bool false) = .bool (hasN is x) := by
  have h := findI_isN x is 0
  unfold getM
  cases hf : findI x (isN is) 0 with
  | none => rw [hf] at h; simp at h; simp [h]
  | some p => rw [hf] at h; simp at h; simp [h]
theorem setM_isN (is : List Str) (x : Str) (hx : hasN is x = false) : setM (isN is) x (.bool true) = isN (is ++ [x]) := by
  have h := (findI_isN x is 0).1
  rw [hx] at h
  unfold setM
  cases hf : findI x (isN is) 0 with
  | none => simp [isN]
  | some p => rw [hf] at h; cases h
theorem und_isN : Tryz.prog.underlying 152 = some (.map 9 4) := tb_ok.und (by kernel_rfl)
theorem zero_boolN : ∀ w, (zeroValue 4).run Tryz.prog w = .ok (.bool false) w := fun w => by
  have hi : Tryz.prog.info? 4 = some Tryz.t4 := tb_ok.get (by kernel_rfl)
  have hz : (Tryz.t4).zero = some (.bool false) := by kernel_rfl
  simp [zeroValue, typeInfo, hi, hz]
def scanN : List Str → List Str → Int
  | _, [] => 0
  | met, n :: r => if 60 < n.length then 11 else if hasN met n = true then 5 else scanN (met ++ [n]) r
def fromE (names : List Str) (sums : List Sum) : Int := if names.length ≠ sums.length then 7 else if 600 < names.length then 12 else scanN [] names
theorem scan_long {met r : List Str} {n : Str} (h : 60 < n.length) : scanN met (n :: r) = 11 := if_pos h
theorem scan_twice {met r : List Str} {n : Str} (h : ¬ 60 < n.length) (h2 : hasN met n = true) : scanN met (n :: r) = 5 := by
  unfold scanN; rw [if_neg h, if_pos h2]
theorem scan_next {met r : List Str} {n : Str} (h : ¬ 60 < n.length) (h2 : ¬ hasN met n = true) : scanN met (n :: r) = scanN (met ++ [n]) r := by
  conv => lhs; unfold scanN
  rw [if_neg h, if_neg h2]
theorem scan_ok : ∀ (r met : List Str), scanN met r = 0 → ∀ n ∈ r, n.length ≤ 60
  | [], _, _, n, h => by cases h
  | a :: r, met, hs, n, h => by
    by_cases h1 : 60 < a.length
    · rw [scan_long h1] at hs; cases hs
    · by_cases h2 : hasN met a = true
      · rw [scan_twice h1 h2] at hs; cases hs
      · rw [scan_next h1 h2] at hs
        rcases List.mem_cons.1 h with rfl | h
        · omega
        · exact scan_ok r _ hs n h
set_option maxRecDepth 10000 in
theorem From_spec (A : Option Addr) (c : Nat) (names : List Str) (B : Option Addr) (d : Nat) (sums : List Sum) :
    Does Tryz.prog tb 17 [.slice A names.length c, .slice B sums.length d] [] (fun u => Glob u ∧ Sl kStr u A c names ∧ Sl kSum u B d sums) (fun o : Option Plot => .tuple #[.agg #[ptrO o], intV (fromE names sums)]) (fun _ => [])
      (fun o => Late (fun _ => True) (fun u => IsO u o (if fromE names sums = 0 then fromO (names.zip sums) else none))) := by
  have hlim : lim = 140737488351232 := rfl
  have hz31 : (Tryz.t31).size = 1 := by kernel_rfl
  refine V.Does.enter0 [(0, slE A names.length c), (1, slE B sums.length d)] Tryz.func17 rfl Tryz.ntmps17 rfl rfl 0 ?_
  intro m0 K
  refine RunH.pure (fun u h => (⟨h.2.2.1.small, h.2.2.2.small⟩ : names.length ≤ lim ∧ sums.length ≤ lim)) fun ⟨hsn, hss⟩ => ?_
  by_cases h1 : names.length = sums.length
  · by_cases h2 : 600 < names.length
    · have he : fromE names sums = 12 := by unfold fromE; rw [if_neg (by simpa using h1), if_pos h2]
      rw [he]
      refine RunH.adv tb_ok [false, true] rfl rfl (by simp [hz31, h1] <;> omega) ?_
      exact RunH.retBoxT tb_ok (.st [.val (.pointer none)]) Tryz.func17 rfl rfl rfl rfl rfl fun w' hst => ⟨none, rfl, hst.out [] rfl rfl fun u h => ⟨h.1, fun v _ _ => trivial⟩⟩
    · have he : fromE names sums = scanN [] names := by unfold fromE; rw [if_neg (by simpa using h1), if_neg h2]
      rw [he]
      refine RunH.adv tb_ok [false, false] rfl rfl (by simp [hz31, h1] <;> omega) ?_
      refine RunH.go rfl rfl (OpGo.makeMap 3 strV rfl) 4 ?_
      rintro ⟨⟩ m1 hm1
      refine RunH.adv tb_ok [] rfl rfl (by simp <;> omega) ?_
      refine RunH.nilrow 50 kEnt.T kEnt.sz 51 ?_
      refine RunH.loop (α := Nat × (Option Addr × Nat)) (fun y => [(1, slE B sums.length d), (4, .av (.box 0 m0 0)), (6, .av (.val (.map (some (m0 + 1))))), (23, slE A names.length c), (24, intE names.length), (25, intE y.1), (7, rowS 50 y.2.1 ((names.zip sums).take y.1).length y.2.2)])
        (fun y => [(0, some (.box m0 [.val (.pointer none)] 31)), (3, V.mapE (m0 + 1) strV (isN (names.take y.1))), (50, rowE kEnt y.2.1 y.2.2 ((names.zip sums).take y.1))])
        (fun y u => (K u ∧ Glob u ∧ Sl kStr u A c names ∧ Sl kSum u B d sums) ∧ y.1 ≤ names.length ∧ scanN [] names = scanN (names.take y.1) (names.drop y.1)) (fun y => names.length - y.1) (0, (none, 0)) rfl rfl (fun u hu => ⟨hu, Nat.zero_le _, rfl⟩) ?_
      rintro ⟨i, A2, c2⟩ m2
      refine RunH.pure (fun u hu => hu.2) fun ⟨hi, hsc⟩ => ?_
      dsimp only at hi hsc ⊢
      have hzl : (names.zip sums).length = names.length := by rw [List.length_zip]; omega
      by_cases hlt : i < names.length
      · have hlts : i < sums.length := by omega
        have hts : names.take (i + 1) = names.take i ++ [names[i]] := List.take_succ_eq_append_getElem hlt
        have hdr : names.drop i = names[i] :: names.drop (i + 1) := List.drop_eq_getElem_cons hlt
        have hzi : (names.zip sums)[i]'(by omega) = (names[i], sums[i]) := by rw [List.getElem_zip]
        have htz : (names.zip sums).take (i + 1) = (names.zip sums).take i ++ [(names[i], sums[i])] := by rw [List.take_succ_eq_append_getElem (by omega), hzi]
        rw [hdr] at hsc
        refine RunH.pure (fun u hu => (⟨hu.1.2.2.1.ptr hlt, hu.1.2.2.2.ptr hlts⟩ : Ptr A ∧ Ptr B)) fun ⟨hptr, hptrB⟩ => ?_
        refine RunH.adv tb_ok [true] rfl rfl (by simp [hptr] <;> omega) ?_
        refine RunH.loadS (strE names[i]) rfl rfl rfl rfl (fun u hu => hu.fact.1.2.2.1.load hlt) ?_
        by_cases hlong : 60 < names[i].length
        · rw [hsc, scan_long hlong]
          refine RunH.adv tb_ok [true] rfl rfl (by simp [hz31] <;> omega) ?_
          exact RunH.retBoxT tb_ok (.st [.val (.pointer none)]) Tryz.func17 rfl rfl rfl rfl rfl fun w' hst => ⟨none, rfl, hst.out [] rfl rfl fun u h => ⟨h.1.1, fun v _ _ => trivial⟩⟩
        · refine RunH.adv tb_ok [false] rfl rfl (by simp <;> omega) ?_
          refine RunH.go rfl rfl (OpGo.lookupV (es := isN (names.take i)) (k := names[i]) (.bool (hasN (names.take i) names[i])) key_str und_isN zero_boolN rfl rfl rfl rfl rfl (fun u hu => (hu.holds 3 _ rfl).2) (getM_isN _ _)) 52 ?_
          rintro ⟨⟩ m3 hm3
          by_cases hin : hasN (names.take i) names[i] = true
          · rw [hsc, scan_twice hlong hin]
            refine RunH.adv tb_ok [true] rfl rfl (by simp [hz31, hin] <;> omega) ?_
            exact RunH.retBoxT tb_ok (.st [.val (.pointer none)]) Tryz.func17 rfl rfl rfl rfl rfl fun w' hst => ⟨none, rfl, hst.out [] rfl rfl fun u h => ⟨h.1.1, fun v _ _ => trivial⟩⟩
          · refine RunH.adv tb_ok [false] rfl rfl (by simp [hin] <;> omega) ?_
            refine RunH.go rfl rfl (OpGo.mapUpdate (id := 3) (k := names[i]) key_str und_isN rfl rfl rfl rfl rfl rfl) 53 ?_
            rintro ⟨⟩ m4 hm4
            have hset : setM (isN (names.take i)) names[i] EV.tt.v = isN (names.take i ++ [names[i]]) := setM_isN _ _ (by simpa using hin)
            rw [hset, ← hts]
            refine RunH.adv tb_ok [] rfl rfl (by simp [hptrB] <;> omega) ?_
            refine RunH.loadS (sumE sums[i]) rfl rfl rfl rfl (fun u hu => hu.fact.1.2.2.2.load hlts) ?_
            refine RunH.adv tb_ok [] rfl rfl (by simp <;> omega) ?_
            refine RunH.appendK (κ := kEnt) (id := 50) (l := (names.zip sums).take i) (r := [(names[i], sums[i])]) rfl rfl rfl rfl rfl rfl elt_ent rfl rfl (fun u hu => hu.liesRow (κ := kEnt) (l := [(names[i], sums[i])]) (id := 53) rfl (by simp [hlim])) (by simp; omega) (by simp [hlim]; omega) ?_
            intro A3 c3 m5 hm5
            rw [← htz]
            refine RunH.adv tb_ok [] rfl rfl (by simp <;> omega) ?_
            exact RunH.again (i + 1, (A3, c3)) (.head _) rfl rfl (by show names.length - (i + 1) < names.length - i; omega) fun u hu => ⟨hu.1, hlt, by rw [hsc, scan_next hlong hin, ← hts]⟩
      · have hi' : i = names.length := by omega
        have hsc0 : scanN [] names = 0 := by rw [hsc, hi', List.drop_length]; rfl
        have htk : (names.zip sums).take i = names.zip sums := by rw [hi', ← hzl, List.take_length]
        rw [htk]
        have hsh : ∀ e ∈ names.zip sums, e.1.length ≤ 60 := fun e he => scan_ok names [] hsc0 e.1 (List.of_mem_zip he).1
        refine RunH.above (id := 0) rfl rfl fun hz1 hz2 => ?_
        refine RunH.adv tb_ok [false] rfl rfl (by simp <;> omega) ?_
        refine RunH.doesB [] 60 (hc := Tryz.call92) (ho := rfl) (hw := rfl) (hd := rfl) (hf := rfl) (hes := rfl) (hσ := rfl) (hn := rfl) (hV := fun _ => rfl) (hG := fun _ => rfl) (e := fun o : Option Plot => mapE o) (hC := from_spec A2 c2 (names.zip sums) (fun e he => Nat.le_trans (hsh e he) (by decide)) (from_okO _ (by decide : 60 ≤ 1000) hsh (by omega))) (hp := fun u hu => ⟨hu.fact.1.2.1, Sl.own (B := m0) (hu.row (κ := kEnt) (l := names.zip sums) (id := 50) rfl) (by omega)⟩) ?_
        rintro o m5 hm5
        refine RunH.adv tb_ok [] rfl rfl (by simp) ?_
        rw [hsc0]
        exact RunH.retBoxT tb_ok (mapE o) Tryz.func17 rfl rfl rfl rfl rfl fun w' hst => ⟨o, rfl, hst.out [] rfl rfl fun u h => ⟨h.1.1.1, fun v hv hp => h.2.up (by omega) hv hp⟩⟩
  · have he : fromE names sums = 7 := by unfold fromE; rw [if_pos h1]
    rw [he]
    refine RunH.adv tb_ok [true] rfl rfl (by simp [hz31, h1] <;> omega) ?_
    exact RunH.retBoxT tb_ok (.st [.val (.pointer none)]) Tryz.func17 rfl rfl rfl rfl rfl fun w' hst => ⟨none, rfl, hst.out [] rfl rfl fun u h => ⟨h.1, fun v _ _ => trivial⟩⟩
end Go.Proofs.YtbfjmimiigjenaaGreatDoor
namespace Go.Proofs.YtbfjmimiigjenaaGreatDoor
open Go V RowKit
end Go.Proofs.YtbfjmimiigjenaaGreatDoor
