/-
Contracts of functions, and lemmas on them. No condition.
-/
import Derived.Test.YtbfjmimiigjenaaGreatDoorKLtrieShape
import Derived.Test.YtbfjmimiigjenaaGreatDoorKVConv
import Derived.Test.YtbfjmimiigjenaaGreatDoorKR1
set_option linter.unusedVariables false
set_option linter.unusedSectionVars false
set_option linter.unusedSimpArgs false
namespace Go.Proofs.YtbfjmimiigjenaaGreatDoor
open Go V RowKit
def twoL (n : Nat) : List UInt8 := [UInt8.ofNat (n / 256), UInt8.ofNat n]
def entB (e : Str × Sum) : List UInt8 := UInt8.ofNat e.1.length :: (e.1 ++ e.2.l)
def encL (t : Option Tree) : List UInt8 := twoL (manyO t) ++ (entsO t).flatMap entB
theorem encB_len : ∀ l : List (Str × Sum), (∀ e ∈ l, e.1.length ≤ 1000) → (l.flatMap entB).length ≤ 1033 * l.length
  | [], _ => by simp
  | e :: r, h => by
    rw [List.flatMap_cons, List.length_append]
    have h1 := h e (.head _)
    have h2 := encB_len r fun x hx => h x (.tail _ hx)
    have h3 : (entB e).length = e.1.length + 33 := by unfold entB; rw [List.length_cons, List.length_append, e.2.h]
    rw [List.length_cons]; omega
theorem entC_sum (s : Str) (x : Sum) : ((boxCells [.val (strV s), .val (sumV x)]).toList.drop 1).take 32 = x.l.map u8V := by
  have h := x.h
  show ((strV s :: ((sumV x).cells.toList ++ [])).drop 1).take 32 = _
  rw [List.append_nil, List.drop_one, List.tail_cons]
  exact List.take_of_length_le (by show (x.l.map u8V).length ≤ 32; rw [List.length_map, h]; exact Nat.le_refl _)
set_option maxRecDepth 10000 in
set_option maxHeartbeats 400000 in
theorem Encode_spec (po : Option Plot) (t : Option Tree) (ht : okO t) (hl : lowO 1000 t) (hm : manyO t ≤ 900) :
    Does Tryz.prog tb 44 [(mapE po).v] [] (fun u => IsO u po t) (fun y : Option Addr × Nat => .slice y.1 (encL t).length y.2) (fun _ => [])
      (fun y => Late (fun _ => True) (fun u => Sl kByte u y.1 y.2 (encL t))) := by
  have hlim : lim = 140737488351232 := rfl
  have hz31 : (Tryz.t31).size = 1 := by kernel_rfl
  have hz : (Tryz.t178).size = 2 := by kernel_rfl
  have hml := entsO_many t
  have hsh := ents_short ht hl
  refine V.Does.enter0 [(0, mapE po)] Tryz.func44 rfl Tryz.ntmps44 rfl rfl 0 ?_
  intro m0 K
  refine RunH.adv tb_ok [] rfl rfl (by simp <;> omega) ?_
  refine RunH.gives (ho := rfl) (hw := rfl) (hd := rfl) (hf := rfl) (hes := rfl) (hc := Tryz.call25) (e := intE (manyO t)) (hC := fun u hu => Many_spec u po t hu.fact.2) ?_
  intro m1 hm1
  refine RunH.adv tb_ok [] rfl rfl (by simp <;> omega) ?_
  refine RunH.gives (ho := rfl) (hw := rfl) (hd := rfl) (hf := rfl) (hes := rfl) (hc := Tryz.call114) (e := .av (.val (twoV (manyO t)))) (hC := fun u hu => two_spec u (manyO t) (by omega)) ?_
  intro m2 hm2
  refine RunH.adv tb_ok [] rfl rfl ?_ ?_
  · exact ⟨agg2 hz.symm rfl rfl, agg2 hz.symm rfl rfl, trivial⟩
  refine RunH.read (.av (.val (.slice (some ⟨m2, 0, none⟩) 2 2))) rfl rfl rfl rfl (fun u q _ ha => ?_) ?_
  · have e1 : q.eval (.tmp 3) = .pointer (some ⟨m2, 0, none⟩) := ev_run (e := .av (.box 1 m2 0)) ha rfl
    simp only [execOp, e1, Option.map_none, slice_all2, Sem.run_bind, Result.andThen_ok, Sem.run_pure]
    rfl
  refine RunH.free (i := 1) rfl ?_
  refine V.RunH.know (fun u => (K u ∧ IsO u po t) ∧ Late (fun _ => True) (fun u => Sl kByte u (some ⟨m2, 0, none⟩) 2 (twoL (manyO t))) m0 u) (fun u h => ⟨h.1, fun v hv _ => ⟨Nat.le_refl _, by show 2 ≤ lim; decide, fun _ => rfl, range_take (n := 2) (holds_late h.2 hv).2.1 rfl, nofun⟩⟩) ?_
  refine RunH.adv tb_ok [] rfl rfl (by simp <;> omega) ?_
  refine RunH.doesB [] 10 (hc := Tryz.call97) (ho := rfl) (hw := rfl) (hd := rfl) (hf := rfl) (hes := rfl) (hσ := rfl) (hn := rfl) (hV := fun _ => rfl) (hG := fun _ => rfl) (e := fun y : Option Addr × Nat => rowS 2 y.1 (entsO t).length y.2) (hC := entries_O po t 1000 ht hl (by omega)) (hp := fun u hu => hu.fact.1.2) ?_
  rintro ⟨A1, c1⟩ m3 hm3
  refine RunH.drop ?_
  refine RunH.adv tb_ok [] rfl rfl (by simp <;> omega) ?_
  dsimp only
  unfold encL
  generalize entsO t = l at *
  generalize manyO t = mn at *
  refine RunH.loop (α := Nat × (Option Addr × Nat)) (fun y => [(13, rowS 2 A1 l.length c1), (14, intE l.length), (15, intE y.1), (4, slE y.2.1 (twoL mn ++ (l.take y.1).flatMap entB).length y.2.2)]) (fun y => [(2, rowE kEnt A1 c1 l)])
    (fun y u => ((K u ∧ IsO u po t) ∧ Late (fun _ => True) (fun u => Sl kByte u y.2.1 y.2.2 (twoL mn ++ (l.take y.1).flatMap entB)) m0 u) ∧ y.1 ≤ l.length) (fun y => l.length - y.1) (0, (some ⟨m2, 0, none⟩, 2)) rfl rfl
    (fun u h => ⟨⟨h.1, by rw [List.take_zero, List.flatMap_nil, List.append_nil]; exact h.2⟩, Nat.zero_le _⟩) ?_
  rintro ⟨i, A2, c2⟩ m4
  refine RunH.pure (fun u hu => hu.2) fun hi => ?_
  refine V.RunH.know (fun u => ((K u ∧ IsO u po t) ∧ Late (fun _ => True) (fun u => Sl kByte u A2 c2 (twoL mn ++ (l.take i).flatMap entB)) m0 u)) (fun u h => h.1) ?_
  dsimp only at hi ⊢
  by_cases hlt : i < l.length
  · have hts : twoL mn ++ (l.take (i + 1)).flatMap entB = (twoL mn ++ (l.take i).flatMap entB) ++ entB l[i] := by
      rw [List.take_succ_eq_append_getElem hlt, List.flatMap_append, List.flatMap_cons, List.flatMap_nil, List.append_nil, List.append_assoc]
    have hbl : (twoL mn ++ (l.take i).flatMap entB).length ≤ 2 + 1033 * i := by
      have := encB_len (l.take i) fun e he => hsh e (List.mem_of_mem_take he)
      rw [List.length_take] at this
      rw [List.length_append]
      show 2 + _ ≤ _
      have h3 : 1033 * min i l.length ≤ 1033 * i := Nat.mul_le_mul_left _ (Nat.min_le_left _ _)
      omega
    have hel : l[i].1.length ≤ 1000 := hsh _ (List.getElem_mem hlt)
    generalize hbT : twoL mn ++ (l.take i).flatMap entB = bT at *
    have hfm : ∀ a5 a8 c8, ([⟨A2, c2, bT⟩, ⟨a5, 1, [UInt8.ofNat l[i].1.length]⟩, ⟨a8, c8, l[i].1⟩, ⟨some ⟨m4, 1, none⟩, 32, l[i].2.l⟩] : List (Row UInt8)).flatMap Row.l = bT ++ entB l[i] := fun a5 a8 c8 => by simp [entB]
    refine RunH.pureS (fun u hu => hu.ptr (id := 2) (κ := kEnt) (l := l) rfl (by intro e; rw [e] at hlt; cases hlt)) fun hptr => ?_
    refine RunH.adv tb_ok [true] rfl rfl (by simp [hptr] <;> omega) ?_
    refine RunH.loadS (.st [.val (strV l[i].1), .val (sumV l[i].2)]) rfl rfl rfl rfl (fun u hu => (Sl.own (B := m0) (hu.row (κ := kEnt) (l := l) (id := 2) rfl) (by omega)).load hlt) ?_
    refine RunH.toNx 55 ?_
    refine RunH.adv tb_ok [] rfl rfl (by simp) ?_
    refine RunH.draw rfl [(55, some (.box m4 [.val (strV l[i].1), .val (sumV l[i].2)] 155))] rfl 14 rfl rfl ?_
    refine RunD.adv tb_ok (by kernel_rfl) [] rfl rfl (by simp <;> omega) ?_
    rw [u8_of]
    refine RunD.read (by kernel_rfl) (i := 10) (.av (.val (.slice (some ⟨m4, 1, none⟩) 32 32))) rfl rfl rfl rfl rfl rfl (fun u q _ ha => ?_) ?_
    · have e1 : q.eval (.tmp 28) = .pointer (some ⟨m4, 1, none⟩) := ev_run (e := .av (.box 55 m4 1)) ha rfl
      simp only [execOp, e1, Option.map_none, slice_all, Sem.run_bind, Result.andThen_ok, Sem.run_pure]
      rfl
    refine RunD.two (i := 5) (j := 8) (by kernel_rfl) ?_ ?_
    · refine opD_step tb_ok (nx := 60) (i := 5) rfl rfl rfl rfl ?_ rfl (fun _ h => h) ⟨rfl, rfl⟩ ?_
      · first | trivial | (simp; done)
      refine RunD.adv tb_ok (by kernel_rfl) [] rfl rfl (by simp <;> omega) ?_
      refine RunD.go (i := 8) rfl (by kernel_rfl) rfl (OpGo.strBytes (s := l[i].1) rfl rfl (by omega)) 61 (fun _ => rfl) (fun _ _ h => h.1) ?_
      rintro c8 m8 hm8
      refine RunD.adv tb_ok (by kernel_rfl) [] rfl rfl (by simp <;> omega) ?_
      refine RunD.step tb_ok (nx := 62) (i := 11) rfl (by kernel_rfl) rfl rfl rfl ?_ rfl (fun _ h => h.1) ⟨rfl, rfl⟩ ?_
      · first | trivial | (simp; done)
      refine RunD.adv tb_ok (by kernel_rfl) [] rfl rfl (by simp <;> omega) ?_
      have hC := Concat_spec (some ⟨m8, 0, none⟩) 4 [⟨A2, c2, bT⟩, ⟨some ⟨m4 + 1, 0, none⟩, 1, [UInt8.ofNat l[i].1.length]⟩, ⟨some ⟨m4 + 1 + 1, 0, none⟩, c8, l[i].1⟩, ⟨some ⟨m4, 1, none⟩, 32, l[i].2.l⟩] (by simp [lenS]; have := l[i].2.h; omega)
      rw [hfm (some ⟨m4 + 1, 0, none⟩) (some ⟨m4 + 1 + 1, 0, none⟩) c8] at hC
      refine RunD.doesB (nx := 64) (i := 12) [] 65 (fun y : Option Addr × Nat => rowS 64 y.1 (bT ++ entB l[i]).length y.2) rfl (by kernel_rfl) rfl rfl rfl rfl Tryz.call115 hC rfl rfl (fun _ => rfl) (fun _ => rfl) (fun u hu => ⟨?_, ?_⟩) (fun _ => rfl) (fun _ h => h.1) ?_
      · have e : ([⟨A2, c2, bT⟩, ⟨some ⟨m4 + 1, 0, none⟩, 1, [UInt8.ofNat l[i].1.length]⟩, ⟨some ⟨m4 + 1 + 1, 0, none⟩, c8, l[i].1⟩, ⟨some ⟨m4, 1, none⟩, 32, l[i].2.l⟩] : List (Row UInt8)).map sliOf = [(A2, bT.length, c2), (some ⟨m4 + 1, 0, none⟩, 1, 1), (some ⟨m4 + 1 + 1, 0, none⟩, l[i].1.length, c8), (some ⟨m4, 1, none⟩, 32, 32)] := by simp [l[i].2.h]
        rw [e]
        exact Sl.own (B := m0) (hu.row (κ := kSli) (l := [(A2, bT.length, c2), (some ⟨m4 + 1, 0, none⟩, 1, 1), (some ⟨m4 + 1 + 1, 0, none⟩, l[i].1.length, c8), (some ⟨m4, 1, none⟩, 32, 32)]) (id := 62) rfl) (by simp [hlim])
      · intro r hr
        simp only [List.mem_cons, List.not_mem_nil, or_false] at hr
        rcases hr with rfl | rfl | rfl | rfl
        · exact hu.fact.1.2.now trivial
        · exact Sl.own (B := m0) (hu.row (κ := kByte) (l := [UInt8.ofNat l[i].1.length]) (id := 60) rfl) (by simp [hlim])
        · exact hu.fact.2
        · exact sl_sum (range_take (n := 32) (hu.holds 55 _ rfl).2.1 (entC_sum l[i].1 l[i].2))
      rintro ⟨A3, c3⟩ m9 hm9
      refine RunD.adv tb_ok (by kernel_rfl) [] rfl rfl (by simp <;> omega) ?_
      refine RunD.done (.inl rfl) (by kernel_rfl) ?_
      refine RunH.adv tb_ok [] rfl rfl (by simp <;> omega) ?_
      refine RunH.free (i := 64) rfl ?_
      have hel2 : (bT ++ entB l[i]).length ≤ lim := by unfold entB; simp; have := l[i].2.h; omega
      rw [← hts] at hel2 ⊢
      refine RunH.again (i + 1, (A3, c3)) (.head _) rfl rfl (by dsimp only; omega) fun u h => ⟨⟨h.1.1.1.1, fun v hv _ => Sl.own (holds_late h.2 hv) hel2⟩, by dsimp only; omega⟩
    · refine opD_go rfl rfl (OpGo.strBytes (s := l[i].1) rfl rfl (by omega)) 61 (fun _ => rfl) (fun _ _ h => h.1) ?_
      rintro c8 m8 hm8
      refine RunD.adv tb_ok (by kernel_rfl) [] rfl rfl (by simp <;> omega) ?_
      refine RunD.step tb_ok (nx := 60) (i := 5) rfl (by kernel_rfl) rfl rfl rfl ?_ rfl (fun _ h => h.1) ⟨rfl, rfl⟩ ?_
      · first | trivial | (simp; done)
      refine RunD.adv tb_ok (by kernel_rfl) [] rfl rfl (by simp <;> omega) ?_
      refine RunD.step tb_ok (nx := 62) (i := 11) rfl (by kernel_rfl) rfl rfl rfl ?_ rfl (fun _ h => h.1) ⟨rfl, rfl⟩ ?_
      · first | trivial | (simp; done)
      refine RunD.adv tb_ok (by kernel_rfl) [] rfl rfl (by simp <;> omega) ?_
      have hC := Concat_spec (some ⟨m8 + 1, 0, none⟩) 4 [⟨A2, c2, bT⟩, ⟨some ⟨m8, 0, none⟩, 1, [UInt8.ofNat l[i].1.length]⟩, ⟨some ⟨m4 + 1, 0, none⟩, c8, l[i].1⟩, ⟨some ⟨m4, 1, none⟩, 32, l[i].2.l⟩] (by simp [lenS]; have := l[i].2.h; omega)
      rw [hfm (some ⟨m8, 0, none⟩) (some ⟨m4 + 1, 0, none⟩) c8] at hC
      refine RunD.doesB (nx := 64) (i := 12) [] 65 (fun y : Option Addr × Nat => rowS 64 y.1 (bT ++ entB l[i]).length y.2) rfl (by kernel_rfl) rfl rfl rfl rfl Tryz.call115 hC rfl rfl (fun _ => rfl) (fun _ => rfl) (fun u hu => ⟨?_, ?_⟩) (fun _ => rfl) (fun _ h => h.1) ?_
      · have e : ([⟨A2, c2, bT⟩, ⟨some ⟨m8, 0, none⟩, 1, [UInt8.ofNat l[i].1.length]⟩, ⟨some ⟨m4 + 1, 0, none⟩, c8, l[i].1⟩, ⟨some ⟨m4, 1, none⟩, 32, l[i].2.l⟩] : List (Row UInt8)).map sliOf = [(A2, bT.length, c2), (some ⟨m8, 0, none⟩, 1, 1), (some ⟨m4 + 1, 0, none⟩, l[i].1.length, c8), (some ⟨m4, 1, none⟩, 32, 32)] := by simp [l[i].2.h]
        rw [e]
        exact Sl.own (B := m0) (hu.row (κ := kSli) (l := [(A2, bT.length, c2), (some ⟨m8, 0, none⟩, 1, 1), (some ⟨m4 + 1, 0, none⟩, l[i].1.length, c8), (some ⟨m4, 1, none⟩, 32, 32)]) (id := 62) rfl) (by simp [hlim])
      · intro r hr
        simp only [List.mem_cons, List.not_mem_nil, or_false] at hr
        rcases hr with rfl | rfl | rfl | rfl
        · exact hu.fact.1.2.now trivial
        · exact Sl.own (B := m0) (hu.row (κ := kByte) (l := [UInt8.ofNat l[i].1.length]) (id := 60) rfl) (by simp [hlim])
        · exact hu.fact.2
        · exact sl_sum (range_take (n := 32) (hu.holds 55 _ rfl).2.1 (entC_sum l[i].1 l[i].2))
      rintro ⟨A3, c3⟩ m9 hm9
      refine RunD.adv tb_ok (by kernel_rfl) [] rfl rfl (by simp <;> omega) ?_
      refine RunD.done (.inl rfl) (by kernel_rfl) ?_
      refine RunH.adv tb_ok [] rfl rfl (by simp <;> omega) ?_
      refine RunH.free (i := 64) rfl ?_
      have hel2 : (bT ++ entB l[i]).length ≤ lim := by unfold entB; simp; have := l[i].2.h; omega
      rw [← hts] at hel2 ⊢
      refine RunH.again (i + 1, (A3, c3)) (.head _) rfl rfl (by dsimp only; omega) fun u h => ⟨⟨h.1.1.1.1, fun v hv _ => Sl.own (holds_late h.2 hv) hel2⟩, by dsimp only; omega⟩
  · obtain rfl : i = l.length := by omega
    rw [List.take_length]
    refine RunH.adv tb_ok [false] rfl rfl (by simp <;> omega) ?_
    refine RunH.ret1 Tryz.func44 rfl rfl fun w hst => ⟨(A2, c2), rfl, hst.out [] rfl rfl fun u h => ⟨h.1.1, h.2⟩⟩
end Go.Proofs.YtbfjmimiigjenaaGreatDoor
namespace Go.Proofs.YtbfjmimiigjenaaGreatDoor
open Go V RowKit
def sumOf (l : List UInt8) : Sum := if h : l.length = 32 then ⟨l, h⟩ else Sum.zero
abbrev noE : Str × Sum := ([], Sum.zero)
def nameAt (l : List UInt8) (a : Nat) : Str := (l.drop (a + 1)).take (l.getD a 0).toNat
def rdOne (l : List UInt8) (a : Nat) (last : Str) (i : Nat) : (Str × Sum) × Int × Int × Nat × Str :=
  if l.length = a then (noE, l.length, 4, a, last)
  else if 60 < (l.getD a 0).toNat then (noE, a, 11, a, last)
  else if l.length < a + 33 + (l.getD a 0).toNat then (noE, l.length, 4, a, last)
  else if 0 < i ∧ cmpS3 (nameAt l a) last ≤ 0 then (noE, a + 1, 15, a, last)
  else ((nameAt l a, sumOf ((l.drop (a + 1 + (l.getD a 0).toNat)).take 32)), 0, 0, a + 1 + (l.getD a 0).toNat + 32, nameAt l a)
theorem cmp_not {a b : Str} : ¬ cmpS3 a b ≤ 0 ↔ Op.bytesLess b a = true := by
  constructor
  · intro h
    refine leS_false ?_
    cases hl : leS a b with
    | false => rfl
    | true =>
      refine absurd ?_ h
      unfold cmpS3
      rw [hl]
      split <;> simp
  · intro h hc
    rcases Int.lt_or_eq_of_le hc with h1 | h1
    · have := less_trans h ((cmpS3_neg _ _).1 h1)
      rw [less_irrefl] at this; cases this
    · rw [(cmpS3_zero _ _).1 h1, less_irrefl] at h; cases h
theorem sumOf_l {l : List UInt8} (h : l.length = 32) : (sumOf l).l = l := by unfold sumOf; rw [dif_pos h]
theorem sumOf_sum (x : Sum) : sumOf x.l = x := by unfold sumOf; rw [dif_pos x.h]
theorem rdOne_ok {l : List UInt8} {a : Nat} {last : Str} {i : Nat} (ha : a ≤ l.length) (h : (rdOne l a last i).2.2.1 = 0) :
    ∃ x a', rdOne l a last i = (x, 0, 0, a', x.1) ∧ a' ≤ l.length ∧ a ≤ a' ∧ l.take a' = l.take a ++ entB x ∧ x.1.length ≤ 60 ∧ (0 < i → Op.bytesLess last x.1 = true) := by
  unfold rdOne at h ⊢
  split at h
  · simp at h
  rename_i h0
  rw [if_neg h0]
  split at h
  · simp at h
  rename_i h60
  rw [if_neg h60]
  split at h
  · simp at h
  rename_i hs
  rw [if_neg hs]
  split at h
  · simp at h
  rename_i hc
  rw [if_neg hc]
  have hlt : a < l.length := by omega
  have hg : l.getD a 0 = l[a] := by rw [List.getD_eq_getElem?_getD, List.getElem?_eq_getElem hlt]; rfl
  have hnl : (nameAt l a).length = (l.getD a 0).toNat := by unfold nameAt; rw [List.length_take, List.length_drop]; omega
  refine ⟨_, _, rfl, by omega, by omega, ?_, by show (nameAt l a).length ≤ 60; omega, fun hi => cmp_not.1 fun hle => hc ⟨hi, hle⟩⟩
  have hx : ((l.drop (a + 1 + (l.getD a 0).toNat)).take 32).length = 32 := by rw [List.length_take, List.length_drop]; omega
  unfold entB
  show _ = l.take a ++ (UInt8.ofNat (nameAt l a).length :: (nameAt l a ++ (sumOf _).l))
  rw [sumOf_l hx, hnl, UInt8.ofNat_toNat]
  rw [show a + 1 + (l.getD a 0).toNat + 32 = a + (1 + ((l.getD a 0).toNat + 32)) by omega, List.take_add, List.drop_eq_getElem_cons hlt, hg]
  congr 1
  rw [Nat.add_comm 1, List.take_succ_cons]
  congr 1
  rw [List.take_add, List.drop_drop]
  unfold nameAt
  rw [hg]
theorem rdOne_at {l : List UInt8} {a : Nat} {last : Str} {i : Nat} (ha : a ≤ l.length) : 0 ≤ (rdOne l a last i).2.1 ∧ (rdOne l a last i).2.1 ≤ l.length := by
  unfold rdOne
  split
  · simp
  split
  · simp; omega
  split
  · simp
  split
  · simp; omega
  · simp
theorem rdOne_enc {l r : List UInt8} {a : Nat} {last : Str} {i : Nat} (x : Str × Sum) (h : l.drop a = entB x ++ r) (h60 : x.1.length ≤ 60) (hi : 0 < i → Op.bytesLess last x.1 = true) :
    rdOne l a last i = (x, 0, 0, a + 1 + x.1.length + 32, x.1) := by
  have hlen := congrArg List.length h
  have h32 := x.2.h
  have hlt : a < l.length := by
    rw [List.length_drop] at hlen
    unfold entB at hlen
    simp at hlen; omega
  rw [List.drop_eq_getElem_cons hlt] at h
  unfold entB at h
  rw [List.cons_append] at h
  injection h with hd ht
  have hg : l.getD a 0 = l[a] := by rw [List.getD_eq_getElem?_getD, List.getElem?_eq_getElem hlt]; rfl
  have hn : (l.getD a 0).toNat = x.1.length := by rw [hg, hd, UInt8.toNat_ofNat']; omega
  have hnm : nameAt l a = x.1 := by unfold nameAt; rw [hn, ht, List.append_assoc, List.take_left' rfl]
  have hsm : (l.drop (a + 1 + x.1.length)).take 32 = x.2.l := by rw [← List.drop_drop, ht, List.append_assoc, List.drop_left' rfl, List.take_left' h32]
  have hl2 : l.length = a + 1 + x.1.length + 32 + r.length := by
    have := congrArg List.length ht
    simp [h32] at this; omega
  unfold rdOne
  rw [hn, hnm, hsm, sumOf_sum, if_neg (by omega), if_neg (by omega), if_neg (by omega), if_neg (fun hc => cmp_not.2 (hi hc.1) hc.2)]
def rdK (l : List UInt8) : Nat → (Int × Int) ⊕ (Nat × Str × List (Str × Sum))
  | 0 => .inr (2, [], [])
  | i + 1 => match rdK l i with
    | .inl e => .inl e
    | .inr y => if (rdOne l y.1 y.2.1 i).2.2.1 = 0 then .inr ((rdOne l y.1 y.2.1 i).2.2.2.1, (rdOne l y.1 y.2.1 i).2.2.2.2, y.2.2 ++ [(rdOne l y.1 y.2.1 i).1]) else .inl ((rdOne l y.1 y.2.1 i).2.1, (rdOne l y.1 y.2.1 i).2.2.1)
def manyB (l : List UInt8) : Nat := (l.getD 0 0).toNat * 256 + (l.getD 1 0).toNat
noncomputable def decL (l : List UInt8) : Option Tree × Int × Int :=
  if l.length < 2 then (none, l.length, 4)
  else if 600 < manyB l then (none, 0, 12)
  else match rdK l (manyB l) with
    | .inl e => (none, e)
    | .inr y => if y.1 < l.length then (none, y.1, 4) else (fromO y.2.2, 0, 0)
theorem rdK_inl {l : List UInt8} {i : Nat} {e : Int × Int} (h : rdK l i = .inl e) : ∀ n, i ≤ n → rdK l n = .inl e := by
  intro n hn
  obtain ⟨d, rfl⟩ := Nat.le.dest hn
  clear hn
  induction d with
  | zero => exact h
  | succ d ih =>
    show rdK l (i + d + 1) = _
    rw [rdK, ih]
def lastN (l : List (Str × Sum)) : Str := match l.getLast? with
  | some e => e.1
  | none => []
theorem lastN_snoc (l : List (Str × Sum)) (x : Str × Sum) : lastN (l ++ [x]) = x.1 := by unfold lastN; rw [List.getLast?_concat]
theorem rise_snoc {l : List (Str × Sum)} {x : Str × Sum} : Rise (l ++ [x]) ↔ Rise l ∧ (0 < l.length → Op.bytesLess (lastN l) x.1 = true) := by
  unfold Rise
  rw [List.pairwise_append]
  constructor
  · rintro ⟨h1, _, h3⟩
    refine ⟨h1, fun hl => ?_⟩
    obtain ⟨l', z, rfl⟩ : ∃ l' z, l = l' ++ [z] := ⟨l.dropLast, l.getLast (List.ne_nil_of_length_pos hl), (List.dropLast_concat_getLast _).symm⟩
    rw [lastN_snoc]
    exact h3 z (by simp) x (by simp)
  · rintro ⟨h1, h2⟩
    refine ⟨h1, List.pairwise_singleton _ _, fun e he y hy => ?_⟩
    rw [List.mem_singleton] at hy
    subst hy
    have hl : 0 < l.length := List.length_pos_of_mem he
    have h3 := h2 hl
    obtain ⟨l', z, rfl⟩ : ∃ l' z, l = l' ++ [z] := ⟨l.dropLast, l.getLast (List.ne_nil_of_length_pos hl), (List.dropLast_concat_getLast _).symm⟩
    rw [lastN_snoc] at h3
    rw [List.mem_append, List.mem_singleton] at he
    rcases he with he | rfl
    · exact less_trans ((List.pairwise_append.1 h1).2.2 e he z (by simp)) h3
    · exact h3
theorem rdK_ok {l : List UInt8} (hl : 2 ≤ l.length) : ∀ i (y : Nat × Str × List (Str × Sum)), rdK l i = .inr y →
    y.1 ≤ l.length ∧ 2 ≤ y.1 ∧ y.2.2.length = i ∧ l.take y.1 = l.take 2 ++ y.2.2.flatMap entB ∧ (∀ e ∈ y.2.2, e.1.length ≤ 60) ∧ Rise y.2.2 ∧ y.2.1 = lastN y.2.2
  | 0, y, h => by
    injection h with h
    subst h
    exact ⟨hl, Nat.le_refl _, rfl, by simp, by simp, List.Pairwise.nil, rfl⟩
  | i + 1, y, h => by
    rw [rdK] at h
    cases hk : rdK l i with
    | inl e => rw [hk] at h; cases h
    | inr z =>
      rw [hk] at h
      dsimp only at h
      obtain ⟨h1, h0, h2, h3, h4, h5, h6⟩ := rdK_ok hl i z hk
      by_cases hz : (rdOne l z.1 z.2.1 i).2.2.1 = 0
      · rw [if_pos hz] at h
        injection h with h
        subst h
        obtain ⟨x, a', he, g1, g0, g2, g3, g4⟩ := rdOne_ok h1 hz
        rw [he]
        refine ⟨g1, by show 2 ≤ a'; omega, by simp [h2], ?_, ?_, ?_, (lastN_snoc _ _).symm⟩
        · show l.take a' = _
          rw [g2, h3]; simp
        · intro e hm
          rw [List.mem_append, List.mem_singleton] at hm
          rcases hm with hm | rfl
          · exact h4 e hm
          · exact g3
        · exact rise_snoc.2 ⟨h5, fun hp => by rw [← h6]; exact g4 (by omega)⟩
      · rw [if_neg hz] at h; cases h
theorem rdK_bad {l : List UInt8} (hl : 2 ≤ l.length) : ∀ i e, rdK l i = .inl e → 0 ≤ e.1 ∧ e.1 ≤ l.length ∧ e.2 ≠ 0
  | 0, e, h => by cases h
  | i + 1, e, h => by
    rw [rdK] at h
    cases hk : rdK l i with
    | inl e' => rw [hk] at h; injection h with h; subst h; exact rdK_bad hl i _ hk
    | inr z =>
      rw [hk] at h
      dsimp only at h
      by_cases hz : (rdOne l z.1 z.2.1 i).2.2.1 = 0
      · rw [if_pos hz] at h; cases h
      · rw [if_neg hz] at h
        injection h with h
        subst h
        have := rdOne_at (last := z.2.1) (i := i) (rdK_ok hl i z hk).1
        exact ⟨this.1, this.2, hz⟩
theorem rdK_enc (l : List UInt8) (es : List (Str × Sum)) (hl : 2 ≤ l.length) (h : l.drop 2 = es.flatMap entB) (h60 : ∀ e ∈ es, e.1.length ≤ 60) (hr : Rise es) :
    ∀ i, i ≤ es.length → rdK l i = .inr (2 + ((es.take i).flatMap entB).length, lastN (es.take i), es.take i)
  | 0, _ => rfl
  | i + 1, hi => by
    have ih := rdK_enc l es hl h h60 hr i (by omega)
    have hx : es.take (i + 1) = es.take i ++ [es[i]] := by rw [List.take_succ_eq_append_getElem (by omega)]
    have hdrop : l.drop (2 + ((es.take i).flatMap entB).length) = entB es[i] ++ (es.drop (i + 1)).flatMap entB := by
      rw [← List.drop_drop, h]
      have e : es.flatMap entB = (es.take i).flatMap entB ++ (entB es[i] ++ (es.drop (i + 1)).flatMap entB) := by
        rw [← List.flatMap_cons, List.getElem_cons_drop, ← List.flatMap_append, List.take_append_drop]
      rw [e, List.drop_left' rfl]
    have hri : Rise (es.take (i + 1)) := List.Pairwise.sublist (List.take_sublist _ _) hr
    rw [hx] at hri
    have h1 := rdOne_enc (last := lastN (es.take i)) (i := i) es[i] hdrop (h60 _ (List.getElem_mem _)) (fun hp => (rise_snoc.1 hri).2 (by rw [List.length_take]; omega))
    rw [rdK, ih]
    dsimp only
    rw [h1, if_pos rfl, hx, lastN_snoc]
    refine congrArg _root_.Sum.inr ?_
    have e32 := es[i].2.h
    have : 2 + ((es.take i).flatMap entB).length + 1 + es[i].1.length + 32 = 2 + ((es.take i ++ [es[i]]).flatMap entB).length := by
      rw [List.flatMap_append, List.length_append, List.flatMap_cons, List.flatMap_nil, List.append_nil]
      simp only [entB, List.length_cons, List.length_append]; omega
    rw [this]
theorem rise_nodup {l : List (Str × Sum)} (h : Rise l) : (l.map Prod.fst).Nodup := by
  rw [List.Nodup, List.pairwise_map]
  refine h.imp fun {a b} h e => ?_
  rw [e, less_irrefl] at h
  cases h
theorem rise_perm {l l' : List (Str × Sum)} (h : l.Perm l') (hl : Rise l) (hl' : Rise l') : l = l' :=
  h.eq_of_pairwise (fun a b _ _ h1 h2 => by have := less_trans h1 h2; rw [less_irrefl] at this; cases this) hl hl'
theorem ents_from {l : List (Str × Sum)} (h : Rise l) : entsO (fromO l) = l := rise_perm (ents_perm (rise_nodup h)) (entsO_rise (wf_from l)) h
theorem from_ents {t : Option Tree} (h : wfO t) : fromO (entsO t) = t := entsO_inj (wf_from _) h (ents_from (entsO_rise h))
theorem manyB_two {n : Nat} (h : n < 65536) (r : List UInt8) : manyB (twoL n ++ r) = n := by
  unfold manyB twoL
  simp
  omega
theorem two_manyB {l : List UInt8} (h : 2 ≤ l.length) : twoL (manyB l) = l.take 2 := by
  match l, h with
  | a :: b :: r, _ =>
    unfold manyB twoL
    have hb := UInt8.toNat_lt b
    have ha := UInt8.toNat_lt a
    have e1 : UInt8.ofNat ((a.toNat * 256 + b.toNat) / 256) = a := by
      apply UInt8.toNat_inj.1
      rw [UInt8.toNat_ofNat']; omega
    have e2 : UInt8.ofNat (a.toNat * 256 + b.toNat) = b := by
      apply UInt8.toNat_inj.1
      rw [UInt8.toNat_ofNat']; omega
    show [UInt8.ofNat ((a.toNat * 256 + b.toNat) / 256), UInt8.ofNat (a.toNat * 256 + b.toNat)] = [a, b]
    rw [e1, e2]
theorem dec_enc {t : Option Tree} (hw : wfO t) (hl : lowO 60 t) (hm : manyO t ≤ 600) : decL (encL t) = (t, 0, 0) := by
  have hlen : 2 ≤ (encL t).length := by unfold encL twoL; simp
  have hmb : manyB (encL t) = manyO t := manyB_two (by omega) _
  have h60 : ∀ e ∈ entsO t, e.1.length ≤ 60 := fun e he => hl e.1 e.2 ((mem_entsO hw _ _).1 he)
  have hk := rdK_enc (encL t) (entsO t) hlen (by unfold encL twoL; rfl) h60 (entsO_rise hw) (entsO t).length (Nat.le_refl _)
  rw [List.take_length] at hk
  unfold decL
  rw [if_neg (by omega), hmb, if_neg (by omega), ← entsO_many, hk]
  dsimp only
  rw [if_neg (by unfold encL twoL; simp; omega), from_ents hw]
theorem dec_ok {l : List UInt8} {o : Option Tree} {k : Int} (h : decL l = (o, k, 0)) : k = 0 ∧ encL o = l ∧ wfO o ∧ lowO 60 o ∧ manyO o ≤ 600 ∧ ∃ es, o = fromO es ∧ es.length ≤ 600 ∧ ∀ e ∈ es, e.1.length ≤ 60 := by
  unfold decL at h
  split at h
  · injection h with _ h; injection h with _ h; cases h
  rename_i h2
  split at h
  · injection h with _ h; injection h with _ h; cases h
  rename_i h600
  cases hk : rdK l (manyB l) with
  | inl e =>
    rw [hk] at h
    have := rdK_bad (by omega) _ e hk
    injection h with _ h
    rw [h] at this
    exact absurd rfl this.2.2
  | inr y =>
    rw [hk] at h
    dsimp only at h
    obtain ⟨h1, h0, h3, h4, h5, h6, _⟩ := rdK_ok (by omega) _ y hk
    by_cases hlt : y.1 < l.length
    · rw [if_pos hlt] at h; injection h with _ h; injection h with _ h; cases h
    · rw [if_neg hlt] at h
      injection h with ho h
      injection h with h _
      subst ho
      have hents := ents_from h6
      have hmany : manyO (fromO y.2.2) = manyB l := by rw [← entsO_many, hents, h3]
      refine ⟨h.symm, ?_, wf_from _, fun n x hx => ?_, by omega, y.2.2, rfl, by omega, h5⟩
      · unfold encL
        rw [hmany, hents, two_manyB (by omega), ← h4]
        exact List.take_of_length_le (by omega)
      · rw [← mem_entsO (wf_from _), hents] at hx
        exact h5 _ hx
theorem dec_bad {l : List UInt8} {o : Option Tree} {k e : Int} (h : decL l = (o, k, e)) (he : e ≠ 0) : o = none ∧ 0 ≤ k ∧ k ≤ l.length := by
  unfold decL at h
  split at h
  · injection h with h1 h; injection h with h _; subst h; exact ⟨h1.symm, by omega, by omega⟩
  split at h
  · injection h with h1 h; injection h with h _; subst h; exact ⟨h1.symm, by omega, by omega⟩
  cases hk : rdK l (manyB l) with
  | inl z =>
    rw [hk] at h
    have := rdK_bad (by omega) _ z hk
    injection h with h1 h
    rw [h] at this
    exact ⟨h1.symm, this.1, this.2.1⟩
  | inr y =>
    rw [hk] at h
    dsimp only at h
    split at h
    · injection h with h1 h; injection h with h _; subst h; exact ⟨h1.symm, by omega, by omega⟩
    · injection h with _ h; injection h with _ h; exact absurd h.symm he
end Go.Proofs.YtbfjmimiigjenaaGreatDoor
namespace Go.Proofs.YtbfjmimiigjenaaGreatDoor
open Go V RowKit
theorem build_noE (w : World) : (Instr.build 155 #[]).run Tryz.prog w = .ok (EV.st (entF noE)).v w := by
  refine run_build w _ _ _ ?_
  kernel_rfl
theorem build_nameE (w : World) (s : Str) : (Instr.build 155 #[(0, strV s)]).run Tryz.prog w = .ok (EV.st (entF (s, Sum.zero))).v w := by
  refine run_build w _ _ _ ?_
  kernel_rfl
theorem ptr_sub {A : Option Addr} (h : Ptr A) (lo c sz : Nat) : Ptr (V.subA A lo c sz) := by
  unfold V.subA
  split
  · exact h
  · cases A with
    | none => exact absurd h (by unfold Ptr; simp)
    | some a =>
      obtain ⟨x, y, z⟩ := a
      unfold Ptr at h ⊢
      injection h with h
      injection h with _ _ h3
      subst h3
      simp [Addr.add, blkA, offA]
      split <;> rfl
section
variable {n : Nat} {B0 : Nat} {I : World → Prop} {H : Heap} {m : Nat} {env : SEnv}
theorem V.OpGo.byteStrP {d : Nat} {x : Operand} {ty : TypeId} {ps : String} {af : Array Edge} {gd : Option (Nat × Bool)} {ex : EV} {A : Option Addr} {c : Nat} {l : List UInt8}
    (hd : Nat.blt d n = true) (hx : evE env x = some ex) (hxv : ex.v = .slice A l.length c) (hp : Ptr A) (hl : ∀ w, St tb B0 H I w → Sl kByte w A c l) :
    OpGo Tryz.prog tb B0 n ⟨some d, .convert 22 9 x, ty, ps, af, gd⟩ env H m I (fun _ : Unit => (d, strE l) :: env) (fun _ => H) (fun _ => I) := by
  intro w a hm hst ha
  have hdn : d < n := Nat.lt_of_lt_of_le (Nat.lt_succ_self d) (Nat.le_of_ble_eq_true hd)
  have hs := hl w hst
  have hxv' : a.eval x = .slice A l.length c := (ev_run ha hx).trans hxv
  unfold Ptr at hp
  have h := run_convert_bytes_back (P := Tryz.prog) w 22 9 5 ⟨blkA A, offA A, none⟩ c l (tb_ok.und rfl) (tb_ok.und rfl) (tb_ok.und rfl) (fun j hj => by
    rw [Addr.add_lit]
    refine hs.cells j _ ?_
    rw [← map_flat, List.getElem?_map, List.getElem?_eq_getElem hj]
    rfl)
  unfold Oper.wp
  have : (execOp a.eval ⟨some d, .convert 22 9 x, ty, ps, af, gd⟩).run Tryz.prog w = .ok (.value (strV l)) w := by
    simp only [execOp, hxv']
    rw [hp, Sem.run_bind, h]
    rfl
  rw [this]
  refine ⟨(), ?_, by rw [← hm]; exact Nat.le_refl _, hst⟩
  rw [kn_cons]; exact ha.put hdn _
end
theorem store_rd1 {w : World} {B0 : Nat} {H : Heap} {I : World → Prop} {id b : Nat} {x : Value} {y : Int} {z : Str} (y' : Int) (hst : St tb B0 H I w) (hH : lookH H id = some (.obj b (.cells #[x, intV y, strV z] 184))) :
    ∃ w', (storeVar 3 ⟨b, 1, none⟩ (intV y')).run Tryz.prog w = .ok () w' ∧ w.heap.size ≤ w'.heap.size ∧ St tb B0 ((id, some (.obj b (.cells #[x, intV y', strV z] 184))) :: H) I w' := by
  have ho := hst.holds id _ hH
  obtain ⟨w', q1, q2, q3, q4⟩ := run_storeAt (P := Tryz.prog) tb_ok (vok_int y') (o := 1) ho.2 (by show 1 + 1 ≤ 3; decide)
  refine ⟨w', q1, by rw [q4]; exact Nat.le_refl _, ?_⟩
  exact hst.turn (w' := w') id (.obj b (.cells #[x, intV y, strV z] 184)) (.obj b (.cells #[x, intV y', strV z] 184)) hH (q3.mono fun j _ hj => by rw [hj]; rfl) ⟨ho.1, q2⟩ fun j hj => .inl hj
theorem store_rd2 {w : World} {B0 : Nat} {H : Heap} {I : World → Prop} {id b : Nat} {x : Value} {y : Int} {z : Str} (z' : Str) (hst : St tb B0 H I w) (hH : lookH H id = some (.obj b (.cells #[x, intV y, strV z] 184))) :
    ∃ w', (storeVar 9 ⟨b, 2, none⟩ (strV z')).run Tryz.prog w = .ok () w' ∧ w.heap.size ≤ w'.heap.size ∧ St tb B0 ((id, some (.obj b (.cells #[x, intV y, strV z'] 184))) :: H) I w' := by
  have ho := hst.holds id _ hH
  obtain ⟨w', q1, q2, q3, q4⟩ := run_storeAt (P := Tryz.prog) tb_ok (vok_str z') (o := 2) ho.2 (by show 2 + 1 ≤ 3; decide)
  refine ⟨w', q1, by rw [q4]; exact Nat.le_refl _, ?_⟩
  exact hst.turn (w' := w') id (.obj b (.cells #[x, intV y, strV z] 184)) (.obj b (.cells #[x, intV y, strV z'] 184)) hH (q3.mono fun j _ hj => by rw [hj]; rfl) ⟨ho.1, q2⟩ fun j hj => .inl hj
theorem ent_cells2 (s : Str) (x : Sum) : boxCells (entF (s, x)) = (strV s :: x.l.map u8V).toArray := by
  show (([strV s] ++ ((sumV x).cells.toList ++ [])) : List Value).toArray = _
  rw [List.append_nil]; rfl
theorem put_ent (s : Str) (xs : List UInt8) (h : xs.length = 32) : putC (boxCells (entF (s, Sum.zero))) 1 (xs.map u8V) = boxCells (entF (s, sumOf xs)) := by
  rw [ent_cells2, ent_cells2]
  unfold putC sumOf
  rw [dif_pos h]
  simp [h, Sum.zero]
theorem getD_nat (l : List UInt8) {a : Nat} (h : a < l.length) : l.getD a 0 = l[a] := by rw [List.getD_eq_getElem?_getD, List.getElem?_eq_getElem h]; rfl
set_option maxRecDepth 10000 in
set_option maxHeartbeats 400000 in
theorem entry_spec (b : Nat) (A : Option Addr) (c : Nat) (l : List UInt8) (hlen : l.length ≤ 1000000) (a : Nat) (ha : a ≤ l.length) (last : Str) (i : Nat) (hi : i ≤ 100000) :
    Does Tryz.prog tb 116 [ptrV b, intV i] [(0, rdB b A l.length c a last)] (fun u => Sl kByte u A c l) (fun _ : Unit => .tuple #[(EV.st (entF (rdOne l a last i).1)).v, intV (rdOne l a last i).2.1, intV (rdOne l a last i).2.2.1])
      (fun _ => [(0, rdB b A l.length c (rdOne l a last i).2.2.2.1 (rdOne l a last i).2.2.2.2)]) (fun _ _ _ => True) := by
  have hlim : lim = 140737488351232 := rfl
  unfold rdB
  refine Does.enter tb_ok [(0, ptrAt b), (1, intE i)] Tryz.func116 rfl Tryz.ntmps116 rfl rfl 1 ?_
  intro B0 m0 K
  refine RunH.adv tb_ok [] rfl rfl (by simp <;> omega) ?_
  refine RunH.gives (ho := rfl) (hw := rfl) (hd := rfl) (hf := rfl) (hes := rfl) (hc := Tryz.call117) (e := intE ((l.length : Int) - a)) (hC := fun u hu => left_spec u b A l.length c a last _ _ (hu.holds 0 _ rfl).2 (by omega) (by omega)) ?_
  intro m1 hm1
  by_cases h0 : l.length = a
  · have hr : rdOne l a last i = (noE, (l.length : Int), 4, a, last) := if_pos h0
    rw [hr]
    refine RunH.adv tb_ok [true] rfl rfl (by simp; omega) ?_
    refine RunH.draw rfl [(0, some (.obj b (.cells #[.slice A l.length c, intV a, strV last] 184)))] rfl 10 rfl rfl ?_
    refine RunD.read (by kernel_rfl) (i := 0) (.st (entF noE)) rfl rfl rfl rfl rfl rfl (fun u q _ _ => by simp only [execOp, List.map_toArray, List.map_nil, build_noE, Sem.run_bind, Result.andThen_ok, Sem.run_pure]) ?_
    refine RunD.adv tb_ok (by kernel_rfl) [] rfl rfl (by simp <;> omega) ?_
    refine RunD.loadG (by kernel_rfl) (i := 5) (slE A l.length c) rfl rfl rfl rfl rfl rfl (fun u hu => load_rd0 (hu.holds 0 _ rfl).2) ?_
    refine RunD.adv tb_ok (by kernel_rfl) [] rfl rfl (by simp <;> omega) ?_
    refine RunD.step tb_ok (nx := 3) (i := 7) rfl (by kernel_rfl) rfl rfl rfl ?_ rfl (fun _ h => h) rfl ?_
    · first | trivial | (simp; done)
    refine RunD.adv tb_ok (by kernel_rfl) [] rfl rfl (by simp <;> omega) ?_
    refine RunD.done (.inl rfl) (by kernel_rfl) ?_
    exact V.RunH.retBox3 tb_ok (.st (entF noE)) Tryz.func116 rfl rfl rfl rfl rfl rfl fun w' hst => ⟨(), rfl, hst.out [] rfl rfl fun u h => ⟨h.1, trivial⟩⟩
  · have hp : a < l.length := by omega
    refine RunH.pure (fun u h => (h.2.ptr hp : Ptr A)) fun pA => ?_
    refine RunH.adv tb_ok [false] rfl rfl (by simp; omega) ?_
    refine RunH.draw rfl [(0, some (.obj b (.cells #[.slice A l.length c, intV a, strV last] 184)))] rfl 21 rfl rfl ?_
    refine RunD.adv tb_ok (by kernel_rfl) [] rfl rfl (by simp <;> omega) ?_
    refine RunD.loadG (by kernel_rfl) (i := 4) (slE A l.length c) rfl rfl rfl rfl rfl rfl (fun u hu => load_rd0 (hu.holds 0 _ rfl).2) ?_
    refine RunD.loadG (by kernel_rfl) (i := 9) (intE a) rfl rfl rfl rfl rfl rfl (fun u hu => load_rd1 (hu.holds 0 _ rfl).2) ?_
    refine RunD.loadG (by kernel_rfl) (i := 17) (intE a) rfl rfl rfl rfl rfl rfl (fun u hu => load_rd1 (hu.holds 0 _ rfl).2) ?_
    refine RunD.adv tb_ok (by kernel_rfl) [] rfl rfl (by simp [pA] <;> omega) ?_
    refine RunD.load (by kernel_rfl) (i := 11) (byE (l.getD a 0)) rfl rfl rfl rfl rfl rfl (fun u hu => by rw [getD_nat l hp]; exact hu.2.load hp) ?_
    have hn8 : (l.getD a 0).toNat < 256 := UInt8.toNat_lt _
    have hrd : rdOne l a last i = _ := if_neg h0
    unfold nameAt at hrd
    generalize l.getD a 0 = by0 at *
    refine RunD.adv tb_ok (by kernel_rfl) [] rfl rfl (by simp <;> omega) ?_
    refine RunD.done (.inl rfl) (by kernel_rfl) ?_
    generalize hnn : by0.toNat = n at *
    by_cases h60 : 60 < n
    · rw [if_pos h60] at hrd
      rw [hrd]
      refine RunH.adv tb_ok [true] rfl rfl (by simp [h60] <;> omega) ?_
      refine RunH.draw rfl [(0, some (.obj b (.cells #[.slice A l.length c, intV a, strV last] 184)))] rfl 9 rfl rfl ?_
      refine RunD.read (by kernel_rfl) (i := 0) (.st (entF noE)) rfl rfl rfl rfl rfl rfl (fun u q _ _ => by simp only [execOp, List.map_toArray, List.map_nil, build_noE, Sem.run_bind, Result.andThen_ok, Sem.run_pure]) ?_
      refine RunD.adv tb_ok (by kernel_rfl) [] rfl rfl (by simp <;> omega) ?_
      refine RunD.loadG (by kernel_rfl) (i := 5) (intE a) rfl rfl rfl rfl rfl rfl (fun u hu => load_rd1 (hu.holds 0 _ rfl).2) ?_
      refine RunD.adv tb_ok (by kernel_rfl) [] rfl rfl (by simp <;> omega) ?_
      refine RunD.step tb_ok (nx := 3) (i := 6) rfl (by kernel_rfl) rfl rfl rfl ?_ rfl (fun _ h => h) rfl ?_
      · first | trivial | (simp; done)
      refine RunD.adv tb_ok (by kernel_rfl) [] rfl rfl (by simp <;> omega) ?_
      refine RunD.done (.inl rfl) (by kernel_rfl) ?_
      exact V.RunH.retBox3 tb_ok (.st (entF noE)) Tryz.func116 rfl rfl rfl rfl rfl rfl fun w' hst => ⟨(), rfl, hst.out [] rfl rfl fun u h => ⟨h.1, trivial⟩⟩
    · rw [if_neg h60] at hrd
      refine RunH.adv tb_ok [false] rfl rfl (by simp [h60] <;> omega) ?_
      refine RunH.gives (ho := rfl) (hw := rfl) (hd := rfl) (hf := rfl) (hes := rfl) (hc := Tryz.call117) (e := intE ((l.length : Int) - a)) (hC := fun u hu => left_spec u b A l.length c a last _ _ (hu.holds 0 _ rfl).2 (by omega) (by omega)) ?_
      intro m2 hm2
      by_cases hsh : l.length < a + 33 + n
      · rw [if_pos hsh] at hrd
        rw [hrd]
        refine RunH.adv tb_ok [true] rfl rfl (by simp; omega) ?_
        refine RunH.draw rfl [(0, some (.obj b (.cells #[.slice A l.length c, intV a, strV last] 184)))] rfl 10 rfl rfl ?_
        refine RunD.read (by kernel_rfl) (i := 0) (.st (entF noE)) rfl rfl rfl rfl rfl rfl (fun u q _ _ => by simp only [execOp, List.map_toArray, List.map_nil, build_noE, Sem.run_bind, Result.andThen_ok, Sem.run_pure]) ?_
        refine RunD.adv tb_ok (by kernel_rfl) [] rfl rfl (by simp <;> omega) ?_
        refine RunD.loadG (by kernel_rfl) (i := 5) (slE A l.length c) rfl rfl rfl rfl rfl rfl (fun u hu => load_rd0 (hu.holds 0 _ rfl).2) ?_
        refine RunD.adv tb_ok (by kernel_rfl) [] rfl rfl (by simp <;> omega) ?_
        refine RunD.step tb_ok (nx := 3) (i := 7) rfl (by kernel_rfl) rfl rfl rfl ?_ rfl (fun _ h => h) rfl ?_
        · first | trivial | (simp; done)
        refine RunD.adv tb_ok (by kernel_rfl) [] rfl rfl (by simp <;> omega) ?_
        refine RunD.done (.inl rfl) (by kernel_rfl) ?_
        exact V.RunH.retBox3 tb_ok (.st (entF noE)) Tryz.func116 rfl rfl rfl rfl rfl rfl fun w' hst => ⟨(), rfl, hst.out [] rfl rfl fun u h => ⟨h.1, trivial⟩⟩
      · rw [if_neg hsh] at hrd
        refine RunH.adv tb_ok [false] rfl rfl (by simp; omega) ?_
        refine RunH.loadS (slE A l.length c) rfl rfl rfl rfl (fun u hu => load_rd0 (hu.holds 0 _ rfl).2) ?_
        refine RunH.pure (fun u h => (h.2.cap : l.length ≤ c)) fun hcap => ?_
        refine RunH.adv tb_ok [] rfl rfl (by simp; omega) ?_
        have e1 : ((a : Int) + 1 + n).toNat - ((a : Int) + 1).toNat = n := by omega
        have e2 : ((a : Int) + 1).toNat = a + 1 := by omega
        have hz5 : (Tryz.t5).size = 1 := by kernel_rfl
        rw [e1, e2, hz5]
        have hnl : ((l.drop (a + 1)).take n).length = n := by rw [List.length_take, List.length_drop]; omega
        have hSn : ∀ u, Sl kByte u A c l → Sl kByte u (V.subA A (a + 1) c 1) (c - (a + 1)) ((l.drop (a + 1)).take n) := fun u h => Sl.take (Sl.dropA h (a + 1) (by omega)) n (by rw [List.length_drop]; omega)
        refine RunH.go rfl rfl (OpGo.byteStrP (A := V.subA A (a + 1) c 1) (c := c - (a + 1)) (l := (l.drop (a + 1)).take n) rfl rfl (by rw [hnl]; rfl) (ptr_sub pA _ _ _) (fun u hu => hSn u hu.fact.2)) 3 ?_
        rintro ⟨⟩ m3 hm3
        generalize hnm : (l.drop (a + 1)).take n = nm at *
        refine RunH.read (.st (entF (nm, Sum.zero))) rfl rfl rfl rfl (fun u q _ ha => ?_) ?_
        · have h1 : q.eval (.tmp 72) = strV nm := ev_run (e := strE nm) ha rfl
          simp only [execOp, List.map_toArray, List.map_cons, List.map_nil, h1, build_nameE, Sem.run_bind, Result.andThen_ok, Sem.run_pure]
        refine RunH.adv tb_ok [] rfl rfl (by simp <;> omega) ?_
        by_cases hci : 0 < i ∧ cmpS3 nm last ≤ 0
        · rw [if_pos hci] at hrd
          rw [hrd]
          refine RunH.draw rfl [(3, some (.box m3 (entF (nm, Sum.zero)) 155)), (0, some (.obj b (.cells #[.slice A l.length c, intV a, strV last] 184)))] rfl 12 rfl rfl ?_
          refine RunD.adv tb_ok (by kernel_rfl) [true] rfl rfl (by simp; omega) ?_
          refine RunD.loadG (by kernel_rfl) (i := 8) (strE last) rfl rfl rfl rfl rfl rfl (fun u hu => load_rd2 (hu.holds 0 _ rfl).2) ?_
          refine RunD.gives (i := 9) (intE (cmpS3 nm last)) rfl (by kernel_rfl) rfl rfl rfl rfl Tryz.call195 (fun u _ => Compare_spec u nm last) rfl (fun _ h => h) ?_
          intro m4 hm4
          refine RunD.adv tb_ok (by kernel_rfl) [] rfl rfl (by simp <;> omega) ?_
          refine RunD.done (.inl rfl) (by kernel_rfl) ?_
          refine RunH.adv tb_ok [true] rfl rfl (by simp [hci.2] <;> omega) ?_
          exact V.RunH.retBox3 tb_ok (.st (entF noE)) Tryz.func116 rfl rfl rfl rfl rfl rfl fun w' hst => ⟨(), rfl, hst.out [] rfl rfl fun u h => ⟨h.1, trivial⟩⟩
        · rw [if_neg hci] at hrd
          rw [hrd]
          apply RunH.joinK (α := Unit) (fun _ => [(0, ptrAt b), (4, .av (.box 1 m0 0)), (7, intE n), (8, intE ((a : Int) + 1)), (9, .av (.box 3 m3 0))]) (fun _ => [(0, some (.obj b (.cells #[.slice A l.length c, intV a, strV last] 184))), (1, some (.box m0 (entF noE) 155)), (3, some (.box m3 (entF (nm, Sum.zero)) 155))]) (fun _ u => K u ∧ Sl kByte u A c l)
          · by_cases hi0 : 0 < i
            · have hcm : ¬ cmpS3 nm last ≤ 0 := fun h => hci ⟨hi0, h⟩
              refine RunH.draw rfl [(3, some (.box m3 (entF (nm, Sum.zero)) 155)), (0, some (.obj b (.cells #[.slice A l.length c, intV a, strV last] 184)))] rfl 12 rfl rfl ?_
              refine RunD.adv tb_ok (by kernel_rfl) [true] rfl rfl (by simp; omega) ?_
              refine RunD.loadG (by kernel_rfl) (i := 8) (strE last) rfl rfl rfl rfl rfl rfl (fun u hu => load_rd2 (hu.holds 0 _ rfl).2) ?_
              refine RunD.gives (i := 9) (intE (cmpS3 nm last)) rfl (by kernel_rfl) rfl rfl rfl rfl Tryz.call195 (fun u _ => Compare_spec u nm last) rfl (fun _ h => h) ?_
              intro m4 hm4
              refine RunD.adv tb_ok (by kernel_rfl) [] rfl rfl (by simp <;> omega) ?_
              refine RunD.done (.inl rfl) (by kernel_rfl) ?_
              refine RunH.adv tb_ok [false] rfl rfl (by simp [hcm] <;> omega) ?_
              exact RunH.meetS () [] (.head _) rfl rfl rfl fun u h => h
            · refine RunH.draw rfl [] rfl 12 rfl rfl ?_
              refine RunD.adv tb_ok (by kernel_rfl) [false] rfl rfl (by simp; omega) ?_
              refine RunD.done (.inl rfl) (by kernel_rfl) ?_
              refine RunH.adv tb_ok [] rfl rfl (by simp <;> omega) ?_
              exact RunH.meetS () [] (.head _) rfl rfl rfl fun u h => h
          rintro ⟨⟩ m5
          refine RunH.toNx 4 ?_
          refine RunH.boxObj (id := 3) (boxCells (entF (nm, Sum.zero))) rfl rfl ?_
          refine RunH.tell [(0, ptrAt b), (4, .av (.box 1 m0 0)), (7, intE n), (8, intE ((a : Int) + 1)), (9, ptrAt m3)] [(0, some (.obj b (.cells #[.slice A l.length c, intV a, strV last] 184))), (1, some (.box m0 (entF noE) 155)), (3, some (.obj m3 (.cells (boxCells (entF (nm, Sum.zero))) 155)))] [] rfl rfl rfl 4 ?_
          have hxl : ((l.drop (a + 1 + n)).take 32).length = 32 := by rw [List.length_take, List.length_drop]; omega
          have hSx : ∀ u, Sl kByte u A c l → Sl kByte u (V.subA A (a + 1 + n) c 1) (c - (a + 1 + n)) (l.drop (a + 1 + n)) := fun u h => Sl.dropA h (a + 1 + n) (by omega)
          have e3 : ((a : Int) + 1 + n).toNat = a + 1 + n := by omega
          refine RunH.draw rfl [(0, some (.obj b (.cells #[.slice A l.length c, intV a, strV last] 184)))] rfl 21 rfl rfl ?_
          refine RunD.adv tb_ok (by kernel_rfl) [] rfl rfl (by simp <;> omega) ?_
          refine RunD.loadG (by kernel_rfl) (i := 10) (slE A l.length c) rfl rfl rfl rfl rfl rfl (fun u hu => load_rd0 (hu.holds 0 _ rfl).2) ?_
          refine RunD.adv tb_ok (by kernel_rfl) [] rfl rfl (by simp; omega) ?_
          refine RunD.read (by kernel_rfl) (i := 5) (.av (.val (.slice (some ⟨m3, 1, none⟩) 32 32))) rfl rfl rfl rfl rfl rfl (fun u q _ ha => ?_) ?_
          · have e1 : q.eval (.tmp 92) = .pointer (some ⟨m3, 1, none⟩) := ev_run (e := .av (.val (.pointer (some ⟨m3, 1, none⟩)))) ha rfl
            simp only [execOp, e1, Option.map_none, slice_all, Sem.run_bind, Result.andThen_ok, Sem.run_pure]
            rfl
          rw [e3, hz5]
          refine RunD.go (i := 15) rfl (by kernel_rfl) rfl (OpGo.copyArr (id := 3) (g := m3) (off := 1) (dl := 32) (dc := 32) (q := l.length - (a + 1 + n)) (c := c - (a + 1 + n)) (A := V.subA A (a + 1 + n) c 1) (cur := boxCells (entF (nm, Sum.zero))) (cs := ((l.drop (a + 1 + n)).take 32).map u8V) (i := Tryz.t5) (e := 5) tb_ok rfl rfl rfl rfl rfl rfl rfl rfl ?_ ?_ ?_ ?_ ?_ ?_) 5 (fun _ => rfl) (fun _ _ h => h) ?_
          · rw [List.length_map, hxl, hz5, Nat.mul_one]; exact (Nat.min_eq_right (by omega)).symm
          · intro u hu; obtain ⟨b, _, rfl⟩ := List.mem_map.1 hu; rfl
          · intro u hu
            have h := (Sl.take (hSx u hu.fact.2) 32 (by rw [List.length_drop]; omega)).cells
            rw [map_flat]
            exact h
          · exact fun _ => ptr_sub pA _ _ _
          · intro h
            have hp := ptr_sub pA (a + 1 + n) c 1
            rw [h] at hp
            unfold Ptr at hp
            simp at hp
          · rw [ent_cells2, List.length_map, hxl]; simp [Sum.zero]
          rintro ⟨⟩ m6 hm6
          rw [put_ent _ _ hxl, show Nat.min (l.length - (a + 1 + n)) 32 = 32 from Nat.min_eq_right (by omega)]
          refine RunD.adv tb_ok (by kernel_rfl) [] rfl rfl (by simp <;> omega) ?_
          refine RunD.lastSt [(0, some (.obj b (.cells #[.slice A l.length c, intV ((a : Int) + 1 + n + 32), strV last] 184))), (1, some (.box m0 (entF noE) 155)), (3, some (.obj m3 (.cells (boxCells (entF (nm, sumOf ((l.drop (a + 1 + n)).take 32)))) 155)))] (i := 20) rfl (by kernel_rfl) rfl (by kernel_rfl) (by kernel_rfl) rfl rfl (fun w _ hst => ?_) ?_
          · obtain ⟨w', q1, q2, q3⟩ := store_rd1 ((a : Int) + 1 + n + 32) hst (id := 0) rfl
            exact ⟨w', q1, q2, q3.out [] rfl rfl fun _ h => h⟩
          intro m7 hm7
          generalize hsx : sumOf ((l.drop (a + 1 + n)).take 32) = sx at *
          refine RunH.objBox (id := 3) (entF (nm, sx)) rfl rfl ⟨⟨rfl, vok_str _, rfl, vok_sum _, trivial⟩, Tryz.t155, rfl, by simp [flat, AV.v, Value.cells, sumV, sx.h]; try rfl⟩ ?_
          refine RunH.tell [(0, ptrAt b), (4, .av (.box 1 m0 0)), (9, .av (.box 3 m3 0))] [(0, some (.obj b (.cells #[.slice A l.length c, intV ((a : Int) + 1 + n + 32), strV last] 184))), (1, some (.box m0 (entF noE) 155)), (3, some (.box m3 (entF (nm, sx)) 155))] [] rfl rfl rfl 6 ?_
          refine RunH.adv tb_ok [] rfl rfl (by simp <;> omega) ?_
          refine RunH.storeS [(0, some (.obj b (.cells #[.slice A l.length c, intV ((a : Int) + 1 + n + 32), strV nm] 184))), (1, some (.box m0 (entF noE) 155)), (3, some (.box m3 (entF (nm, sx)) 155))] rfl rfl rfl rfl (fun w _ hst => ?_) ?_
          · obtain ⟨w', q1, q2, q3⟩ := store_rd2 nm hst (id := 0) rfl
            exact ⟨w', q1, q2, q3.out [] rfl rfl fun _ h => h⟩
          intro m8 hm8
          refine RunH.adv tb_ok [] rfl rfl (by simp) ?_
          have hz : rdB b A l.length c (a + 1 + n + 32 : Nat) nm = some (.obj b (.cells #[.slice A l.length c, intV ((a : Int) + 1 + n + 32), strV nm] 184)) := by unfold rdB; rw [show ((a + 1 + n + 32 : Nat) : Int) = (a : Int) + 1 + n + 32 by omega]
          exact V.RunH.retBox3 tb_ok (.st (entF (nm, sx))) Tryz.func116 rfl rfl rfl rfl rfl rfl fun w' hst => ⟨(), rfl, hst.out [] rfl rfl fun u h => ⟨h.1, trivial⟩⟩
end Go.Proofs.YtbfjmimiigjenaaGreatDoor
namespace Go.Proofs.YtbfjmimiigjenaaGreatDoor
open Go V RowKit
theorem many_raw (x y : UInt8) : IntKind.i64.wrap ((BitVec.ofInt IntKind.i64.bits (IntKind.i64.wrap ((x.toNat : Int) * 2 ^ min (Int.toNat 8) IntKind.i64.bits)) ||| BitVec.ofInt IntKind.i64.bits (y.toNat : Int)).toNat : Int) = ((x.toNat * 256 + y.toNat : Nat) : Int) := by
  have hx := x.toNat_lt
  have hy := y.toNat_lt
  have h1 : IntKind.i64.wrap ((x.toNat : Int) * 2 ^ min (Int.toNat 8) IntKind.i64.bits) = ((2 ^ 8 * x.toNat : Nat) : Int) := by
    simp [IntKind.wrap, IntKind.signed, IntKind.bits]
    omega
  rw [h1]
  have h2 : (BitVec.ofInt IntKind.i64.bits ((2 ^ 8 * x.toNat : Nat) : Int) ||| BitVec.ofInt IntKind.i64.bits (y.toNat : Int)).toNat = 2 ^ 8 * x.toNat + y.toNat := by
    rw [BitVec.toNat_or, BitVec.ofInt_natCast, BitVec.ofInt_natCast, BitVec.toNat_ofNat, BitVec.toNat_ofNat, Nat.two_pow_add_eq_or_of_lt hy]
    simp only [IntKind.bits]
    rw [Nat.mod_eq_of_lt (by omega), Nat.mod_eq_of_lt (by omega)]
  rw [h2]
  simp [IntKind.wrap, IntKind.signed, IntKind.bits]
  omega
set_option maxRecDepth 10000 in
set_option maxHeartbeats 400000 in
theorem Decode_spec (A : Option Addr) (c : Nat) (l : List UInt8) (hlen : l.length ≤ 1000000) :
    Does Tryz.prog tb 45 [.slice A l.length c] [] (fun u => Glob u ∧ Sl kByte u A c l) (fun o : Option Plot => .tuple #[.agg #[ptrO o], intV (decL l).2.1, intV (decL l).2.2]) (fun _ => [])
      (fun o => Late (fun _ => True) (fun u => IsO u o (decL l).1)) := by
  have hlim : lim = 140737488351232 := rfl
  have hz31 : (Tryz.t31).size = 1 := by kernel_rfl
  have hz182 : (Tryz.t182).size = 2 := by kernel_rfl
  refine V.Does.enter0 [(0, slE A l.length c)] Tryz.func45 rfl Tryz.ntmps45 rfl rfl 0 ?_
  intro m0 K
  by_cases h2 : l.length < 2
  · have hd : decL l = (none, (l.length : Int), 4) := if_pos h2
    rw [hd]
    refine RunH.adv tb_ok [true] rfl rfl (by simp [hz31] <;> omega) ?_
    exact V.RunH.retBox3 tb_ok (.st [.val (.pointer none)]) Tryz.func45 rfl rfl rfl rfl rfl rfl fun w' hst => ⟨none, rfl, hst.out [] rfl rfl fun u h => ⟨h.1, fun v _ _ => trivial⟩⟩
  · have h2' : 2 ≤ l.length := by omega
    refine RunH.pure (fun u h => (h.2.2.ptr (i := 0) (by omega) : Ptr A)) fun pA => ?_
    refine RunH.adv tb_ok [false] rfl rfl (by simp [hz31] <;> omega) ?_
    obtain ⟨x0, e0⟩ : ∃ x, l.getD 0 0 = x := ⟨_, rfl⟩
    obtain ⟨x1, e1⟩ : ∃ x, l.getD 1 0 = x := ⟨_, rfl⟩
    have hx0 := x0.toNat_lt
    have hx1 := x1.toNat_lt
    refine RunH.draw rfl [] rfl 11 rfl rfl ?_
    refine RunD.adv tb_ok (by kernel_rfl) [] rfl rfl (by simp; exact ⟨pA, by omega, pA, by omega⟩) ?_
    refine RunD.load (by kernel_rfl) (i := 2) (byE x0) rfl rfl rfl rfl rfl rfl (fun u hu => by rw [← e0, getD_nat l (by omega)]; exact hu.2.2.load (by omega)) ?_
    refine RunD.load (by kernel_rfl) (i := 7) (byE x1) rfl rfl rfl rfl rfl rfl (fun u hu => by rw [← e1, getD_nat l (by omega)]; exact hu.2.2.load (by omega)) ?_
    refine RunD.adv tb_ok (by kernel_rfl) [] rfl rfl (by simp <;> omega) ?_
    rw [many_raw]
    refine RunD.done (.inl rfl) (by kernel_rfl) ?_
    have hmb : x0.toNat * 256 + x1.toNat = manyB l := by unfold manyB; rw [e0, e1]
    rw [hmb]
    have hdec : decL l = _ := if_neg h2
    have hmx : manyB l < 65536 := by unfold manyB; have := (l.getD 0 0).toNat_lt; have := (l.getD 1 0).toNat_lt; omega
    by_cases h6 : 600 < manyB l
    · rw [if_pos h6] at hdec
      rw [hdec]
      refine RunH.adv tb_ok [true] rfl rfl (by simp [hz31] <;> omega) ?_
      exact V.RunH.retBox3 tb_ok (.st [.val (.pointer none)]) Tryz.func45 rfl rfl rfl rfl rfl rfl fun w' hst => ⟨none, rfl, hst.out [] rfl rfl fun u h => ⟨h.1, fun v _ _ => trivial⟩⟩
    · rw [if_neg h6] at hdec
      generalize hN : manyB l = N at *
      refine RunH.adv tb_ok [false] rfl rfl (by simp [hz31] <;> omega) ?_
      refine RunH.read (.st [.val (.agg #[.slice A l.length c, intV 2]), .val (strV [])]) rfl rfl rfl rfl (fun u q _ ha => ?_) ?_
      · have h1 : q.eval (.tmp 32) = .agg #[.slice A l.length c, intV 2] := ev_run (e := .st [.val (.slice A l.length c), .val (intV 2)]) ha rfl
        have hb : (Instr.build 184 #[(0, .agg #[.slice A l.length c, intV 2])]).run Tryz.prog u = .ok (EV.st [.val (.agg #[.slice A l.length c, intV 2]), .val (strV [])]).v u := by
          refine run_build u _ _ _ ?_
          kernel_rfl
        simp only [execOp, List.map_toArray, List.map_cons, List.map_nil, h1, hb, Sem.run_bind, Result.andThen_ok, Sem.run_pure]
      refine RunH.adv tb_ok [] rfl rfl (by simp [hz31, hz182, Value.oneCell'] <;> omega) ?_
      refine RunH.boxObj (id := 1) #[.slice A l.length c, intV 2, strV []] rfl rfl ?_
      refine RunH.nilrow 50 kEnt.T kEnt.sz 51 ?_
      refine RunH.loop (α := Nat × (Nat × Str × List (Str × Sum)) × (Option Addr × Nat)) (fun y => [(2, .av (.box 0 m0 0)), (6, ptrAt (m0 + 1)), (7, rowS 50 y.2.2.1 y.2.1.2.2.length y.2.2.2), (34, intE N), (35, intE y.1)])
        (fun y => [(0, some (.box m0 [.val (.pointer none)] 31)), (1, rdB (m0 + 1) A l.length c y.2.1.1 y.2.1.2.1), (50, rowE kEnt y.2.2.1 y.2.2.2 y.2.1.2.2)])
        (fun y u => (K u ∧ Glob u ∧ Sl kByte u A c l) ∧ y.1 ≤ N ∧ rdK l y.1 = .inr y.2.1) (fun y => N - y.1) (0, (2, [], []), (none, 0)) rfl rfl (fun u hu => ⟨hu, Nat.zero_le _, rfl⟩) ?_
      rintro ⟨i, ⟨a, last, acc⟩, A2, c2⟩ m2
      refine RunH.pure (fun u hu => hu.2) fun ⟨hi, hk⟩ => ?_
      refine V.RunH.know (fun u => K u ∧ Glob u ∧ Sl kByte u A c l) (fun u h => h.1) ?_
      obtain ⟨g1, g2, g3, g4, g5, g6, g7⟩ := rdK_ok h2' i _ hk
      dsimp only at hi hk g1 g2 g3 g4 g5 g6 g7 ⊢
      by_cases hlt : i < N
      · refine RunH.adv tb_ok [true] rfl rfl (by simp <;> omega) ?_
        refine RunH.doesB [(0, 1)] 60 (hc := Tryz.call116) (ho := rfl) (hw := rfl) (hd := rfl) (hf := rfl) (hes := rfl) (hσ := rfl) (hn := rfl) (hV := fun _ => rfl) (hG := fun _ => rfl) (e := fun _ : Unit => .av (.val (.tuple #[(EV.st (entF (rdOne l a last i).1)).v, intV (rdOne l a last i).2.1, intV (rdOne l a last i).2.2.1]))) (hC := entry_spec (m0 + 1) A c l hlen a g1 last i (by omega)) (hp := fun u hu => hu.fact.2.2) ?_
        rintro ⟨⟩ m3 hm3
        refine RunH.drop ?_
        refine V.RunH.know (fun u => K u ∧ Glob u ∧ Sl kByte u A c l) (fun u h => h) ?_
        have hsucc : rdK l (i + 1) = if (rdOne l a last i).2.2.1 = 0 then .inr ((rdOne l a last i).2.2.2.1, (rdOne l a last i).2.2.2.2, acc ++ [(rdOne l a last i).1]) else .inl ((rdOne l a last i).2.1, (rdOne l a last i).2.2.1) := by rw [rdK, hk]
        generalize rdOne l a last i = R at *
        obtain ⟨⟨nm, sx⟩, at_, er, a', last'⟩ := R
        dsimp only at hsucc ⊢
        refine RunH.adv tb_ok [] rfl rfl (by simp <;> omega) ?_
        refine V.RunH.slotE 41 (.st (entF (nm, sx))) rfl rfl ?_
        by_cases he : er = 0
        · subst he
          rw [if_pos rfl] at hsucc
          refine RunH.adv tb_ok [false] rfl rfl (by simp [hz31] <;> omega) ?_
          refine RunH.appendK (κ := kEnt) (id := 50) (l := acc) (r := [(nm, sx)]) rfl rfl rfl rfl rfl rfl elt_ent rfl rfl (fun u hu => hu.liesRow (κ := kEnt) (l := [(nm, sx)]) (id := 61) rfl (by simp [hlim])) (by simp; omega) (by simp [hlim]; omega) ?_
          intro A3 c3 m5 hm5
          refine RunH.adv tb_ok [] rfl rfl (by simp <;> omega) ?_
          exact RunH.again (i + 1, (a', last', acc ++ [(nm, sx)]), (A3, c3)) (.head _) rfl rfl (by show N - (i + 1) < N - i; omega) fun u hu => ⟨hu, by show i + 1 ≤ N; omega, hsucc⟩
        · rw [if_neg he] at hsucc
          have hN1 := rdK_inl hsucc N (by omega)
          rw [hN1] at hdec
          dsimp only at hdec
          rw [hdec]
          refine RunH.adv tb_ok [true] rfl rfl (by simp [hz31, he] <;> omega) ?_
          exact V.RunH.retBox3 tb_ok (.st [.val (.pointer none)]) Tryz.func45 rfl rfl rfl rfl rfl rfl fun w' hst => ⟨none, rfl, hst.out [] rfl rfl fun u h => ⟨h.1, fun v _ _ => trivial⟩⟩
      · obtain rfl : i = N := by omega
        rw [hk] at hdec
        dsimp only at hdec
        refine RunH.adv tb_ok [false] rfl rfl (by simp <;> omega) ?_
        refine RunH.gives (ho := rfl) (hw := rfl) (hd := rfl) (hf := rfl) (hes := rfl) (hc := Tryz.call117) (e := intE ((l.length : Int) - a)) (hC := fun u hu => left_spec u (m0 + 1) A l.length c a last _ _ (hu.holds 1 _ rfl).2 (by omega) (by omega)) ?_
        intro m3 hm3
        by_cases hr : a < l.length
        · rw [if_pos hr] at hdec
          rw [hdec]
          refine RunH.adv tb_ok [true] rfl rfl (by simp; omega) ?_
          refine RunH.draw rfl [(1, rdB (m0 + 1) A l.length c a last)] rfl 7 rfl rfl ?_
          refine RunD.adv tb_ok (by kernel_rfl) [] rfl rfl (by simp <;> omega) ?_
          refine RunD.loadG (by kernel_rfl) (i := 3) (intE a) rfl rfl rfl rfl rfl rfl (fun u hu => load_rd1 (hu.holds 1 _ rfl).2) ?_
          refine RunD.adv tb_ok (by kernel_rfl) [] rfl rfl (by simp <;> omega) ?_
          refine RunD.step tb_ok (nx := 52) (i := 4) rfl (by kernel_rfl) rfl rfl rfl ?_ rfl (fun _ h => h) rfl ?_
          · first | trivial | (simp [hz31]; done)
          refine RunD.adv tb_ok (by kernel_rfl) [] rfl rfl (by simp <;> omega) ?_
          refine RunD.done (.inl rfl) (by kernel_rfl) ?_
          exact V.RunH.retBox3 tb_ok (.st [.val (.pointer none)]) Tryz.func45 rfl rfl rfl rfl rfl rfl fun w' hst => ⟨none, rfl, hst.out [] rfl rfl fun u h => ⟨h.1, fun v _ _ => trivial⟩⟩
        · rw [if_neg hr] at hdec
          rw [hdec]
          refine RunH.adv tb_ok [false] rfl rfl (by simp; omega) ?_
          refine RunH.above (id := 0) rfl rfl fun hz1 hz2 => ?_
          refine RunH.doesB [] 60 (hc := Tryz.call92) (ho := rfl) (hw := rfl) (hd := rfl) (hf := rfl) (hes := rfl) (hσ := rfl) (hn := rfl) (hV := fun _ => rfl) (hG := fun _ => rfl) (e := fun o : Option Plot => mapE o) (hC := from_spec A2 c2 acc (fun e he => Nat.le_trans (g5 e he) (by decide)) (from_okO _ (by decide : 60 ≤ 1000) g5 (by omega))) (hp := fun u hu => ⟨hu.fact.2.1, Sl.own (B := m0) (hu.row (κ := kEnt) (l := acc) (id := 50) rfl) (by omega)⟩) ?_
          rintro o m5 hm5
          refine RunH.adv tb_ok [] rfl rfl (by simp) ?_
          exact V.RunH.retBox3 tb_ok (mapE o) Tryz.func45 rfl rfl rfl rfl rfl rfl fun w' hst => ⟨o, rfl, hst.out [] rfl rfl fun u h => ⟨h.1.1, fun v hv hp => h.2.up (by omega) hv hp⟩⟩
end Go.Proofs.YtbfjmimiigjenaaGreatDoor
namespace Go.Proofs.YtbfjmimiigjenaaGreatDoor
open Go V RowKit
theorem bClone_spec (A : Option Addr) (c : Nat) (l : List UInt8) (hb : l.length ≤ 1000000) : Does Tryz.prog tb 37 [.slice A l.length c] [] (fun u => Sl kByte u A c l) (fun y : Option Addr × Nat => .slice y.1 l.length y.2) (fun y => [(0, rowE kByte y.1 y.2 l)]) (fun _ _ _ => True) := by
  refine Does.enter tb_ok [(0, slE A l.length c)] Tryz.func37 rfl Tryz.ntmps37 rfl rfl 0 ?_
  intro B0 m K
  refine RunH.pure (fun u h => And.intro h.2.nil h.2.small) fun ⟨hnil, hsm⟩ => ?_
  cases hA : A.isNone with
  | true =>
    have hn : A = none := Option.isNone_iff_eq_none.1 hA
    obtain ⟨rfl, rfl⟩ := hnil hn
    subst hn
    refine RunH.adv tb_ok [true] rfl rfl (by simp <;> omega) ?_
    refine RunH.ret1 Tryz.func37 rfl rfl fun w hst => ⟨(none, 0), rfl, (hst.nilrow 0 kByte).out [] rfl rfl fun u h => ⟨h.1, trivial⟩⟩
  | false =>
    refine RunH.adv tb_ok [false] rfl rfl (by simp [hA]) ?_
    refine RunH.appendK (κ := kByte) (id := 0) (l := []) (r := l) rfl rfl rfl rfl rfl rfl elt_byte rfl rfl (fun w hst => hst.fact.2.lies) (by simp; omega) (by simp; omega) ?_
    intro A' c' m' hm'
    refine RunH.adv tb_ok [] rfl rfl (by simp <;> omega) ?_
    refine RunH.ret1 Tryz.func37 rfl rfl fun w hst => ⟨(A', c'), rfl, hst.out [] rfl rfl fun u h => ⟨h.1, trivial⟩⟩
set_option maxRecDepth 10000 in
theorem bEqual_spec (w : World) (A B : Option Addr) (c d : Nat) (l k : List UInt8) (hA : Sl kByte w A c l) (hB : Sl kByte w B d k) (pA : Ptr A) (pB : Ptr B) : Gives Tryz.prog 46 [.slice A l.length c, .slice B k.length d] w (boolE (decide (l = k))) := by
  refine enterH tb_ok [(0, slE A l.length c), (1, slE B k.length d)] Tryz.func46 rfl Tryz.ntmps46 rfl rfl ?_
  refine RunH.adv tb_ok [] rfl rfl (by simp <;> omega) ?_
  refine RunH.go rfl rfl (OpGo.byteStrP (A := A) (c := c) (l := l) rfl rfl rfl pA (fun u hu => hA.ext hu.fact)) 3 ?_
  rintro ⟨⟩ m3 hm3
  refine RunH.adv tb_ok [] rfl rfl (by simp <;> omega) ?_
  refine RunH.go rfl rfl (OpGo.byteStrP (A := B) (c := d) (l := k) rfl rfl rfl pB (fun u hu => hB.ext hu.fact)) 3 ?_
  rintro ⟨⟩ m4 hm4
  refine RunH.adv tb_ok [] rfl rfl (by simp <;> omega) ?_
  refine RunH.ret1 Tryz.func46 rfl rfl fun u hst => ⟨rfl, hst.fact⟩
end Go.Proofs.YtbfjmimiigjenaaGreatDoor
namespace Go.Proofs.YtbfjmimiigjenaaGreatDoor
open Go V RowKit Go.ChangeShapes Go.WideShapes Go.ChangeAt
section
variable {H : Type} {enc : TypeId × Value → H} {w : World} {base : Nat} {spare : Nat → Bool} {held : Bool}
set_option maxRecDepth 100000 in
theorem open_u16 {v : Value} {d : DataW H} {p : List MemPlace} {r : Reach} {b0 : Nat} (hv : Value.okWide Tryz.prog w r b0 74 v) (h : DataW.Trod enc Tryz.prog w base spare held 74 v d p) : ∃ b : UInt16, v = .int .u16 b.toNat := by
  obtain ⟨z, rfl, _, _, hz⟩ := ChangeShapes.open_int Tryz.underlying74 hv h
  have hb : 0 ≤ z ∧ z ≤ 65535 := by simpa [Lit.wf, IntKind.min, IntKind.max, IntKind.signed, IntKind.bits] using hz
  refine ⟨UInt16.ofNat z.toNat, ?_⟩
  congr 1
  have : (UInt16.ofNat z.toNat).toNat = z.toNat := by
    rw [UInt16.toNat_ofNat']
    exact Nat.mod_eq_of_lt (by omega)
  rw [this]
  omega
end
end Go.Proofs.YtbfjmimiigjenaaGreatDoor
