/-
A part of the proof of TrieTogether: for every input the law returns true, and what was passed in reads as before; the listed package variables hold what the program's text lays. No further condition.
-/
import Derived.Test.YtbfjmimiigjenaaGreatDoorRows
import Derived.Test.YtbfjmimiigjenaaGreatDoorCards
import Derived.KernelRfl
import Derived.Test.YtbfjmimiigjenaaGreatDoorTie
import Derived.SevenTiedAt
import Derived.Test.YtbfjmimiigjenaaGreatDoorKLtrieShape
import Derived.Test.YtbfjmimiigjenaaGreatDoorKR1
set_option linter.unusedVariables false
set_option linter.unusedSectionVars false
set_option linter.unusedSimpArgs false
/-
TrieTogether, walked whole.
-/
namespace Go.Proofs.YtbfjmimiigjenaaGreatDoor
open Go V RowKit

set_option maxRecDepth 10000 in
set_option maxHeartbeats 300000 in
theorem together_walk (w : World) (hG : Glob w) (NA : Option Addr) (nc : Nat) (nl : List UInt8) (hnl : Sl kByte w NA nc nl) (which long : UInt8) :
    Gives Tryz.prog 4 [.slice NA nl.length nc, u8V which, u8V long] w .tt := by
  have hlim : lim = 140737488351232 := rfl
  have hz31 : (Tryz.t31).size = 1 := by kernel_rfl
  refine enterH tb_ok [(0, slE NA nl.length nc), (1, .av (.val (u8V which))), (2, .av (.val (u8V long)))] Tryz.func4 rfl Tryz.ntmps4 rfl rfl ?_
  refine RunH.adv tb_ok [] rfl rfl (by simp <;> omega) ?_
  refine RunH.doesB [] 2 (hc := Tryz.call15) (ho := rfl) (hw := rfl) (hd := rfl) (hf := rfl) (hes := rfl) (hσ := rfl) (hn := rfl) (hV := fun _ => rfl) (hG := fun _ => rfl) (e := fun y : Nat × Option Addr × Nat => .av (.box 0 y.1 0)) (hC := OfK_spec NA nc nl) (hp := fun u hu => hnl.ext hu.fact) ?_
  rintro ⟨b, SA, sc⟩ m1 hm1
  refine RunH.drop ?_
  refine RunH.adv tb_ok [] rfl rfl (by simp <;> omega) ?_
  refine RunH.doesB [(0, 0)] 5 (hc := Tryz.call16) (ho := rfl) (hw := rfl) (hd := rfl) (hf := rfl) (hes := rfl) (hσ := rfl) (hn := rfl) (hV := fun _ => rfl) (hG := fun _ => rfl) (e := fun y : (Nat × Int) × (Option Addr × Nat) × (Option Addr × Nat) × List Str × List Sum => .av (.val (.tuple #[.slice y.2.1.1 y.2.2.2.1.length y.2.1.2, .slice y.2.2.1.1 y.2.2.2.2.length y.2.2.1.2]))) (hC := filled_spec b ⟨SA, sc, nl.take 300, 0, 88172645463325252⟩ (by rw [List.length_take]; omega) (Nat.zero_le _) 20 (by decide)) (hp := fun u hu => Sl.own (B := w.heap.size) (hu.row (κ := kByte) (l := nl.take 300) (id := 1) rfl) (by rw [List.length_take]; omega)) ?_
  rintro ⟨z1, ⟨A, c⟩, ⟨B, d⟩, names, sums⟩ m2 hm2
  refine RunH.pure (fun u h => h.2) fun ⟨⟨hnd, hnm, hn20⟩, hsl, _⟩ => ?_
  dsimp only at hnd hnm hn20 hsl
  refine RunH.drop ?_
  dsimp only
  refine RunH.tell [(1, .av (.val (u8V which))), (2, .av (.val (u8V long))), (34, .av (.val (.tuple #[.slice A names.length c, .slice B sums.length d])))] [(3, rowE kStr A c names), (4, rowE kSum B d sums)] [] rfl rfl rfl 5 ?_
  refine RunH.free (i := 3) rfl ?_
  refine RunH.free (i := 4) rfl ?_
  refine V.RunH.know (fun u => Ext w u ∧ Sl kStr u A c names ∧ Sl kSum u B d sums) (fun u h => ⟨h.1.1, Sl.own h.1.2 (by omega), Sl.own h.2 (by omega)⟩) ?_
  have hzf := zip_fst hsl
  have hze : ∀ i (hi : i < names.length), (names.zip sums)[i]'(by rw [List.length_zip]; omega) = (names[i], sums[i]'(by omega)) := fun i hi => List.getElem_zip
  generalize hP : names.zip sums = P at hzf
  have hPl : P.length = names.length := by rw [← hP, List.length_zip]; omega
  have hPe : ∀ i (hi : i < names.length), P[i]'(by omega) = (names[i], sums[i]'(by omega)) := fun i hi => by
    subst hP; exact hze i hi
  have hdP : (P.map Prod.fst).Nodup := hzf ▸ hnd
  have hP60 : ∀ e ∈ P, e.1.length ≤ 60 := fun e he => by
    have h1 : e.1 ∈ names := by rw [← hzf]; exact List.mem_map.2 ⟨e, he, rfl⟩
    have := (hnm _ h1).1; omega
  have hok : ∀ l : List (Str × Sum), l.Sublist P → okO (fromO l) ∧ lowO 1000 (fromO l) ∧ manyO (fromO l) ≤ 20 := fun l hs => by
    have h := from_all (N := 60) l (by decide) (fun e he => hP60 e (hs.subset he)) (by have := hs.length_le; omega)
    exact ⟨h.1, fun n x hx => Nat.le_trans (h.2.1 n x hx) (by decide), Nat.le_trans h.2.2 (by have := hs.length_le; omega)⟩
  obtain ⟨okP, lowP, mnP⟩ := hok P (List.Sublist.refl _)
  have hFrom := From_spec A c names B d sums
  rw [from_ok hsl (by omega) hnd (fun n hn => by have := (hnm n hn).1; omega), if_pos rfl, hP] at hFrom
  refine RunH.adv tb_ok [] rfl rfl (by simp <;> omega) ?_
  refine RunH.doesB [] 5 (hc := Tryz.call17) (ho := rfl) (hw := rfl) (hd := rfl) (hf := rfl) (hes := rfl) (hσ := rfl) (hn := rfl) (hV := fun _ => rfl) (hG := fun _ => rfl) (e := fun o : Option Plot => .av (.val (.tuple #[.agg #[ptrO o], intV 0]))) (hC := hFrom) (hp := fun u hu => ⟨hG.ext hu.fact.1, hu.fact.2.1, hu.fact.2.2⟩) ?_
  intro pw m3 hm3
  refine V.RunH.know (fun u => (Ext w u ∧ Sl kStr u A c names ∧ Sl kSum u B d sums) ∧ IsO u pw (fromO P)) (fun u h => ⟨h.1, h.2.now trivial⟩) ?_
  refine RunH.adv tb_ok [] rfl rfl (by simp [hz31, Value.oneCell'] <;> omega) ?_
  refine V.RunH.slotE 41 (mapE pw) rfl rfl ?_
  by_cases h0 : names.length = 0
  · have hPn : P = [] := List.length_eq_zero_iff.1 (by omega)
    have hBel := Below_spec pw (fromO P) okP lowP [] (by decide)
    have hb0 : belowL [] (entsO (fromO P)) = [] := by rw [hPn]; rfl
    rw [hb0, if_pos rfl] at hBel
    refine RunH.adv tb_ok [false, true] rfl rfl (by simp [hz31, h0]) ?_
    refine RunH.doesB [] 7 (hc := Tryz.call31) (ho := rfl) (hw := rfl) (hd := rfl) (hf := rfl) (hes := rfl) (hσ := rfl) (hn := rfl) (hV := fun _ => rfl) (hG := fun _ => rfl) (e := fun o : Option Plot => .av (.val (.tuple #[.agg #[ptrO o], intV 6]))) (hC := hBel) (hp := fun u hu => ⟨hG.ext hu.fact.1.1, hu.fact.2⟩) ?_
    rintro o m4 hm4
    refine RunH.adv tb_ok [] rfl rfl (by simp [hz31, Value.oneCell'] <;> omega) ?_
    refine V.RunH.slotE 51 (mapE o) rfl rfl ?_
    refine RunH.adv tb_ok [true] rfl rfl (by simp [hz31, Value.oneCell'] <;> omega) ?_
    refine RunH.gives (ho := rfl) (hw := rfl) (hd := rfl) (hf := rfl) (hes := rfl) (hc := Tryz.call30) (e := .tt) (hC := fun u hu => awake_spec u (hG.ext hu.fact.1.1.1)) ?_
    intro m5 hm5
    refine RunH.adv tb_ok [] rfl rfl (by simp <;> omega) ?_
    refine RunH.ret1 Tryz.func4 rfl rfl fun w hst => ⟨rfl, hst.fact.1.1.1⟩
  · have hn0 : 0 < names.length := by omega
    have hw8 : which.toNat < 256 := which.toNat_lt
    have hl8 : long.toNat < 256 := long.toNat_lt
    have hj : which.toNat % names.length < names.length := Nat.mod_lt _ hn0
    have hr1 := rem_nat which.toNat names.length
    refine RunH.pure (fun u h => (h.1.2.1.ptr hj : Ptr A)) fun pA => ?_
    refine RunH.adv tb_ok [false, false] rfl rfl (by simp [hz31, h0]; exact ⟨pA, ⟨by omega, by omega⟩, ⟨by omega, hn0⟩, by omega⟩) ?_
    rw [hr1]
    refine RunH.load (strE names[which.toNat % names.length]) rfl rfl rfl rfl (fun w' h' => h'.1.2.1.load hj) ?_
    have hgood := hnm _ (List.getElem_mem hj)
    have hPj := hPe _ hj
    have hjP : which.toNat % names.length < P.length := by omega
    generalize hnb : names[which.toNat % names.length] = nb at *
    have hnbl : nb.length ≤ 50 := hgood.1
    have hr2 : ((long.toNat : Int) % ((nb.length : Int) + 1)) = ((long.toNat % (nb.length + 1) : Nat) : Int) := rem_nat long.toNat (nb.length + 1)
    have hk : long.toNat % (nb.length + 1) < nb.length + 1 := Nat.mod_lt _ (by omega)
    refine RunH.adv tb_ok [] rfl rfl (by simp; exact ⟨⟨by omega, by omega⟩, by omega, ⟨by omega, by omega⟩, by omega⟩) ?_
    rw [hr2]
    generalize hkk : long.toNat % (nb.length + 1) = kk at *
    generalize hbg : nb.take kk = beg at *
    have hbl : beg.length ≤ 50 := by rw [← hbg, List.length_take]; omega
    have hnbb : nb = beg ++ nb.drop kk := by rw [← hbg, List.take_append_drop]
    refine RunH.tell [(7, slE A names.length c), (8, slE B sums.length d), (9, .av (.box 5 m3 0)), (13, strE beg), (75, mapE pw), (76, strE beg)] [(5, some (.box m3 [.val (ptrO pw)] 31))] [] (by rw [← hbg]; rfl) rfl rfl 6 ?_
    have hBel := Below_spec pw (fromO P) okP lowP beg (by omega)
    have hbm := mem_below beg (entsO (fromO P))
    have hbne : belowL beg (entsO (fromO P)) ≠ [] := fun e => by
      have h1 : (nb, sums[which.toNat % names.length]'(by omega)) ∈ P := by rw [← hPj]; exact List.getElem_mem hjP
      have h2 := (hbm (nb.drop kk) _).2 (by rw [← hnbb]; exact (ents_perm hdP).mem_iff.2 h1)
      rw [e] at h2; cases h2
    rw [if_neg hbne] at hBel
    have hgB : ∀ r, getO (fromO (belowL beg (entsO (fromO P)))) r = getO (fromO P) (beg ++ r) := get_below (wf_from P) beg
    have hB60 := below_short (p := beg) (ents_short okP lowP)
    have hokB := from_all (N := 1000) (belowL beg (entsO (fromO P))) (by decide) hB60 (by have := below_len beg (entsO (fromO P)); have := entsO_many (fromO P); omega)
    have hmB := many_below hdP beg
    generalize hBt : fromO (belowL beg (entsO (fromO P))) = tB at *
    obtain ⟨okB, lowB, _⟩ := hokB
    refine RunH.doesB [] 7 (hc := Tryz.call31) (ho := rfl) (hw := rfl) (hd := rfl) (hf := rfl) (hes := rfl) (hσ := rfl) (hn := rfl) (hV := fun _ => rfl) (hG := fun _ => rfl) (e := fun o : Option Plot => .av (.val (.tuple #[.agg #[ptrO o], intV 0]))) (hC := hBel) (hp := fun u hu => ⟨hG.ext hu.fact.1.1, hu.fact.2⟩) ?_
    rintro pb m4 hm4
    refine V.RunH.know (fun u => (((Ext w u ∧ Sl kStr u A c names ∧ Sl kSum u B d sums) ∧ IsO u pw (fromO P)) ∧ IsO u pb tB)) (fun u h => ⟨h.1, h.2.now trivial⟩) ?_
    refine RunH.adv tb_ok [] rfl rfl (by simp [hz31, Value.oneCell'] <;> omega) ?_
    refine V.RunH.slotE 78 (mapE pb) rfl rfl ?_
    refine RunH.adv tb_ok [] rfl rfl (by simp [hz31, Value.oneCell'] <;> omega) ?_
    have hIO : ∀ k, (okO (fromO ((P.take k).filter fun e => hasPre e.1 beg)) ∧ lowO 1000 (fromO ((P.take k).filter fun e => hasPre e.1 beg)) ∧ manyO (fromO ((P.take k).filter fun e => hasPre e.1 beg)) ≤ 20) ∧ (okO (fromO ((P.take k).filter fun e => !hasPre e.1 beg)) ∧ lowO 1000 (fromO ((P.take k).filter fun e => !hasPre e.1 beg)) ∧ manyO (fromO ((P.take k).filter fun e => !hasPre e.1 beg)) ≤ 20) := fun k =>
      ⟨hok _ (List.filter_sublist.trans (List.take_sublist _ _)), hok _ (List.filter_sublist.trans (List.take_sublist _ _))⟩
    refine RunH.loop (α := Nat × Option Plot × Option Plot) (fun z => [(7, slE A names.length c), (8, slE B sums.length d), (9, .av (.box 5 m3 0)), (13, strE beg), (14, .av (.box 7 m4 0)), (15, intE 0), (16, .av (.box 8 (m4 + 1) 0)), (17, .av (.box 9 (m4 + 1 + 1) 0)), (80, slE A names.length c), (81, intE names.length), (82, intE z.1)])
      (fun z => [(5, some (.box m3 [.val (ptrO pw)] 31)), (7, some (.box m4 [.val (ptrO pb)] 31)), (8, some (.box (m4 + 1) [.val (ptrO z.2.1)] 31)), (9, some (.box (m4 + 1 + 1) [.val (ptrO z.2.2)] 31))])
      (fun z u => ((((Ext w u ∧ Sl kStr u A c names ∧ Sl kSum u B d sums) ∧ IsO u pw (fromO P)) ∧ IsO u pb tB) ∧ IsO u z.2.1 (fromO ((P.take z.1).filter fun e => hasPre e.1 beg)) ∧ IsO u z.2.2 (fromO ((P.take z.1).filter fun e => !hasPre e.1 beg))) ∧ z.1 ≤ names.length) (fun z => names.length - z.1) (0, none, none) rfl rfl
      (fun u h => ⟨⟨h, trivial, trivial⟩, Nat.zero_le _⟩) ?_
    rintro ⟨k, pin, pout⟩ m6
    refine RunH.pure (fun u h => h.2) fun hk => ?_
    refine V.RunH.know (fun u => ((((Ext w u ∧ Sl kStr u A c names ∧ Sl kSum u B d sums) ∧ IsO u pw (fromO P)) ∧ IsO u pb tB) ∧ IsO u pin (fromO ((P.take k).filter fun e => hasPre e.1 beg)) ∧ IsO u pout (fromO ((P.take k).filter fun e => !hasPre e.1 beg)))) (fun u h => h.1) ?_
    dsimp only at hk ⊢
    obtain ⟨⟨okI, lowI, mnI⟩, ⟨okU, lowU, mnU⟩⟩ := hIO k
    by_cases hlt : k < names.length
    · have hks : k < sums.length := by omega
      have hkP : k < P.length := by omega
      have hPk := hPe k hlt
      have hts : P.take (k + 1) = P.take k ++ [P[k]] := List.take_succ_eq_append_getElem hkP
      have hgd := (hnm _ (List.getElem_mem hlt)).1
      have hgP : getO (fromO P) names[k] = some sums[k] := get_from hdP (by rw [← hPk]; exact List.getElem_mem hkP)
      refine RunH.pure (fun u h => (⟨h.1.1.1.2.1.ptr hlt, h.1.1.1.2.2.ptr hks⟩ : Ptr A ∧ Ptr B)) fun ⟨_, hpB⟩ => ?_
      refine RunH.adv tb_ok [true] rfl rfl (by simp [pA] <;> omega) ?_
      refine RunH.load (strE names[k]) rfl rfl rfl rfl (fun w' h' => h'.1.1.1.2.1.load hlt) ?_
      generalize hnmv : names[k] = nm at *
      generalize hsmv : sums[k] = sx at *
      rw [hPk] at hts
      generalize hIt : fromO ((P.take k).filter fun e => hasPre e.1 beg) = tI at *
      generalize hUt : fromO ((P.take k).filter fun e => !hasPre e.1 beg) = tU at *
      refine RunH.adv tb_ok [] rfl rfl (by simp <;> omega) ?_
      refine RunH.gives (ho := rfl) (hw := rfl) (hd := rfl) (hf := rfl) (hes := rfl) (hc := Tryz.call32) (e := cutV nm beg) (hC := fun u _ => CutPre_spec u nm beg) ?_
      intro m7 hm7
      by_cases hpre : hasPre nm beg = true
      · have hI1 : fromO ((P.take (k + 1)).filter fun e => hasPre e.1 beg) = some (putO tI nm sx) := by
          rw [hts, List.filter_append, List.filter_cons, if_pos hpre, List.filter_nil, from_snoc, hIt]
        have hU1 : fromO ((P.take (k + 1)).filter fun e => !hasPre e.1 beg) = tU := by
          rw [hts, List.filter_append, List.filter_cons, if_neg (by simp [hpre]), List.filter_nil, List.append_nil, hUt]
        have hcl : (cutS nm beg).length ≤ 50 := Nat.le_trans (cutS_len _ _) hgd
        have hgt : getO tB (cutS nm beg) = some sx := by rw [hgB, app_cut hpre]; exact hgP
        refine RunH.adv tb_ok [true] rfl rfl (by simp [hpre] <;> omega) ?_
        refine RunH.gives (ho := rfl) (hw := rfl) (hd := rfl) (hf := rfl) (hes := rfl) (hc := Tryz.call33) (e := .av (.val (.tuple #[sumV sx, intV 0]))) (hC := fun u hu => by
          have h := Get_spec u pb tB hu.fact.1.2 okB (cutS nm beg) (by omega)
          rw [hgt] at h
          exact h) ?_
        intro m8 hm8
        refine RunH.toNx 20 ?_
        refine RunH.adv tb_ok [] rfl rfl (by simp <;> omega) ?_
        refine RunH.draw rfl [(20, some (.box m8 [.val (sumV sx)] 40))] rfl 10 rfl rfl ?_
        refine RunD.adv tb_ok (by kernel_rfl) [false] rfl rfl (by simp; exact ⟨hpB, hks⟩) ?_
        refine RunD.load (by kernel_rfl) (i := 7) (sumE sx) rfl rfl rfl rfl rfl rfl (fun u hu => by have := hu.1.1.1.2.2.load hks; rw [hsmv] at this; exact this) ?_
        refine RunD.read (by kernel_rfl) (i := 8) (boolE (!decide (sx = sx))) rfl rfl rfl rfl rfl rfl (fun w' a h hag => op_neq hag rfl rfl rfl rfl rfl (by kernel_rfl) (eq_sum w' 9998 _ _)) ?_
        refine RunD.adv tb_ok (by kernel_rfl) [] rfl rfl (by simp <;> omega) ?_
        refine RunD.done (.inl rfl) (by kernel_rfl) ?_
        refine RunH.adv tb_ok [false] rfl rfl (by simp <;> omega) ?_
        refine RunH.doesB [] 22 (hc := Tryz.call20) (ho := rfl) (hw := rfl) (hd := rfl) (hf := rfl) (hes := rfl) (hσ := rfl) (hn := rfl) (hV := fun _ => rfl) (hG := fun _ => rfl) (e := fun b1 : Plot => .av (.val (.tuple #[.agg #[ptrV b1.b], intV 0]))) (hC := Put_ok pin tI okI nm sx (by omega) (.inr (by omega))) (hp := fun u hu => ⟨hG.ext hu.fact.1.1.1.1, hu.fact.2.1⟩) ?_
        rintro Lb n2 hn2
        refine RunH.adv tb_ok [] rfl rfl (by simp [hz31, Value.oneCell'] <;> omega) ?_
        refine V.RunH.slotE 115 (mapE (some Lb)) rfl rfl ?_
        refine RunH.adv tb_ok [false] rfl rfl (by simp [hz31, Value.oneCell'] <;> omega) ?_
        refine RunH.again (k + 1, some Lb, pout) (.head _) rfl rfl (by dsimp only; omega) fun u h => ⟨⟨h.1.1, ?_, ?_⟩, by dsimp only; omega⟩
        · dsimp only; rw [hI1]; exact h.2.now h.1.2.1
        · dsimp only; rw [hU1]; exact h.1.2.2
      · have hpn : hasPre nm beg = false := by simpa using hpre
        have hI1 : fromO ((P.take (k + 1)).filter fun e => hasPre e.1 beg) = tI := by
          rw [hts, List.filter_append, List.filter_cons, if_neg hpre, List.filter_nil, List.append_nil, hIt]
        have hU1 : fromO ((P.take (k + 1)).filter fun e => !hasPre e.1 beg) = some (putO tU nm sx) := by
          rw [hts, List.filter_append, List.filter_cons, if_pos (by simp [hpn]), List.filter_nil, from_snoc, hUt]
        refine RunH.adv tb_ok [false] rfl rfl (by simp [hpre] <;> omega) ?_
        refine RunH.draw rfl [] rfl 12 rfl rfl ?_
        refine RunD.adv tb_ok (by kernel_rfl) [] rfl rfl (by simp; exact ⟨hpB, hks⟩) ?_
        refine RunD.load (by kernel_rfl) (i := 5) (sumE sx) rfl rfl rfl rfl rfl rfl (fun u hu => by have := hu.1.1.1.2.2.load hks; rw [hsmv] at this; exact this) ?_
        refine RunD.step tb_ok (nx := 20) (i := 0) rfl (by kernel_rfl) rfl rfl rfl ?_ rfl (fun _ h => h) ⟨rfl, rfl⟩ ?_
        · first | trivial | (simp; done) | (simp [AllOb, Ob.P, hz31, Value.oneCell']; done)
        refine RunD.doesB (i := 6) [] 20 (fun b1 : Plot => .av (.val (.tuple #[.agg #[ptrV b1.b], intV 0]))) rfl (by kernel_rfl) rfl rfl rfl rfl Tryz.call20 (Put_ok pout tU okU nm sx (by omega) (.inr (by omega))) rfl rfl (fun _ => rfl) (fun _ => rfl) (fun u hu => ⟨hG.ext hu.fact.1.1.1.1, hu.fact.2.2⟩) (fun _ => rfl) (fun _ h => h) ?_
        rintro Lb n2 hn2
        refine RunD.adv tb_ok (by kernel_rfl) [] rfl rfl (by simp <;> omega) ?_
        refine V.RunD.slotE 125 (mapE (some Lb)) rfl rfl ?_
        refine RunD.step tb_ok (nx := 20) (i := 10) rfl (by kernel_rfl) rfl rfl rfl ?_ rfl (fun _ h => h.1) rfl ?_
        · first | trivial | (simp; done) | (simp [AllOb, Ob.P, hz31, Value.oneCell']; done)
        refine RunD.adv tb_ok (by kernel_rfl) [] rfl rfl (by simp <;> omega) ?_
        refine RunD.done (.inl rfl) (by kernel_rfl) ?_
        refine RunH.adv tb_ok [false] rfl rfl (by simp [hz31, Value.oneCell'] <;> omega) ?_
        refine RunH.again (k + 1, pin, some Lb) (.head _) rfl rfl (by dsimp only; omega) fun u h => ⟨⟨h.1.1, ?_, ?_⟩, by dsimp only; omega⟩
        · dsimp only; rw [hI1]; exact h.1.2.1
        · dsimp only; rw [hU1]; exact h.2.now h.1.2.2
    · have hkn : k = names.length := by omega
      have htk : P.take k = P := List.take_of_length_le (by omega)
      rw [htk] at okI lowI mnI okU lowU mnU
      rw [htk]
      have hu0 := union_zero hdP (by omega) fun s => hasPre s beg
      have hu1 := union_zero' hdP (by omega) fun s => hasPre s beg
      have ha0 := union_all hdP fun e => hasPre e.1 beg
      have ha1 := union_all' hdP fun e => hasPre e.1 beg
      have hu5 := union_five hdP (fun e => hasPre e.1 beg) (List.getElem_mem hjP) (by rw [hPj]; show hasPre nb beg = true; rw [hnbb]; exact pre_app _ _)
      generalize hIt : fromO (P.filter fun e => hasPre e.1 beg) = tI at *
      generalize hUt : fromO (P.filter fun e => !hasPre e.1 beg) = tU at *
      have hU1 := Union_spec pin tI pout tU okI lowI okU lowU (by omega) (by omega)
      have hU2 := Union_spec pout tU pin tI okU lowU okI lowI (by omega) (by omega)
      have hU3 := Union_spec pin tI pw (fromO P) okI lowI okP lowP (by omega) (by omega)
      rw [hu0, if_pos rfl, ha0] at hU1
      rw [hu1, if_pos rfl, ha1] at hU2
      rw [hu5, if_neg (by decide)] at hU3
      refine RunH.toNx 30 ?_
      refine RunH.adv tb_ok [false] rfl rfl (by simp <;> omega) ?_
      refine RunH.doesB [] 30 (hc := Tryz.call34) (ho := rfl) (hw := rfl) (hd := rfl) (hf := rfl) (hes := rfl) (hσ := rfl) (hn := rfl) (hV := fun _ => rfl) (hG := fun _ => rfl) (e := fun o : Option Plot => .av (.val (.tuple #[.agg #[ptrO o], intV 0]))) (hC := hU1) (hp := fun u hu => ⟨hG.ext hu.fact.1.1.1.1, hu.fact.2.1, hu.fact.2.2⟩) ?_
      rintro pa n1 hn1
      refine V.RunH.know (fun u => (((((Ext w u ∧ Sl kStr u A c names ∧ Sl kSum u B d sums) ∧ IsO u pw (fromO P)) ∧ IsO u pb tB) ∧ IsO u pin tI ∧ IsO u pout tU) ∧ IsO u pa (fromO P))) (fun u h => ⟨h.1, h.2.now trivial⟩) ?_
      refine RunH.adv tb_ok [] rfl rfl (by simp [hz31, Value.oneCell'] <;> omega) ?_
      refine V.RunH.slotE 134 (mapE pa) rfl rfl ?_
      refine RunH.adv tb_ok [] rfl rfl (by simp [hz31, Value.oneCell'] <;> omega) ?_
      refine RunH.doesB [] 32 (hc := Tryz.call34) (ho := rfl) (hw := rfl) (hd := rfl) (hf := rfl) (hes := rfl) (hσ := rfl) (hn := rfl) (hV := fun _ => rfl) (hG := fun _ => rfl) (e := fun o : Option Plot => .av (.val (.tuple #[.agg #[ptrO o], intV 0]))) (hC := hU2) (hp := fun u hu => ⟨hG.ext hu.fact.1.1.1.1.1, hu.fact.1.2.2, hu.fact.1.2.1⟩) ?_
      rintro pc n2 hn2
      refine V.RunH.know (fun u => (((((Ext w u ∧ Sl kStr u A c names ∧ Sl kSum u B d sums) ∧ IsO u pw (fromO P)) ∧ IsO u pb tB) ∧ IsO u pin tI ∧ IsO u pout tU) ∧ IsO u pa (fromO P)) ∧ IsO u pc (fromO P)) (fun u h => ⟨h.1, h.2.now trivial⟩) ?_
      refine RunH.adv tb_ok [] rfl rfl (by simp [hz31, Value.oneCell'] <;> omega) ?_
      refine V.RunH.slotE 140 (mapE pc) rfl rfl ?_
      refine RunH.adv tb_ok [] rfl rfl (by simp [hz31, Value.oneCell'] <;> omega) ?_
      refine RunH.doesB [] 34 (hc := Tryz.call34) (ho := rfl) (hw := rfl) (hd := rfl) (hf := rfl) (hes := rfl) (hσ := rfl) (hn := rfl) (hV := fun _ => rfl) (hG := fun _ => rfl) (e := fun o : Option Plot => .av (.val (.tuple #[.agg #[ptrO o], intV 5]))) (hC := hU3) (hp := fun u hu => ⟨hG.ext hu.fact.1.1.1.1.1.1, hu.fact.1.1.2.1, hu.fact.1.1.1.1.2⟩) ?_
      rintro pd n3 hn3
      refine V.RunH.know (fun u => (((((Ext w u ∧ Sl kStr u A c names ∧ Sl kSum u B d sums) ∧ IsO u pw (fromO P)) ∧ IsO u pb tB) ∧ IsO u pin tI ∧ IsO u pout tU) ∧ IsO u pa (fromO P)) ∧ IsO u pc (fromO P)) (fun u h => h.1) ?_
      refine RunH.adv tb_ok [] rfl rfl (by simp [hz31, Value.oneCell'] <;> omega) ?_
      refine V.RunH.slotE 146 (mapE pd) rfl rfl ?_
      refine RunH.adv tb_ok [] rfl rfl (by simp [hz31, Value.oneCell'] <;> omega) ?_
      refine RunH.draw rfl [(5, some (.box m3 [.val (ptrO pw)] 31)), (7, some (.box m4 [.val (ptrO pb)] 31)), (8, some (.box (m4 + 1) [.val (ptrO pin)] 31)), (30, some (.box n1 [.val (ptrO pa)] 31)), (32, some (.box n2 [.val (ptrO pc)] 31))] rfl 42 rfl rfl ?_
      refine RunD.adv tb_ok (by kernel_rfl) [true] rfl rfl (by simp <;> omega) ?_
      refine RunD.gives (i := 4) (intE (manyO tI)) rfl (by kernel_rfl) rfl rfl rfl rfl Tryz.call25 (fun u hu => by have h := Many_spec u pb tB hu.fact.1.1.1.2; rw [hmB] at h; exact h) rfl (fun _ h => h) ?_
      intro q1 hq1
      refine RunD.adv tb_ok (by kernel_rfl) [] rfl rfl (by simp <;> omega) ?_
      refine RunD.gives (i := 6) (intE (manyO tI)) rfl (by kernel_rfl) rfl rfl rfl rfl Tryz.call25 (fun u hu => Many_spec u pin tI hu.fact.1.1.2.1) rfl (fun _ h => h) ?_
      intro q2 hq2
      refine RunD.adv tb_ok (by kernel_rfl) [true, true, true] rfl rfl (by simp <;> omega) ?_
      refine RunD.gives (i := 20) (boolE true) rfl (by kernel_rfl) rfl rfl rfl rfl Tryz.call23 (fun u hu => same_self u pa pw (fromO P) hu.fact.1.2 hu.fact.1.1.1.1.2 okP lowP) rfl (fun _ h => h) ?_
      intro q3 hq3
      refine RunD.adv tb_ok (by kernel_rfl) [true] rfl rfl (by simp <;> omega) ?_
      refine RunD.gives (i := 25) (boolE true) rfl (by kernel_rfl) rfl rfl rfl rfl Tryz.call23 (fun u hu => same_self u pc pw (fromO P) hu.fact.2 hu.fact.1.1.1.1.2 okP lowP) rfl (fun _ h => h) ?_
      intro q4 hq4
      refine RunD.adv tb_ok (by kernel_rfl) [true] rfl rfl (by simp <;> omega) ?_
      refine RunD.gives (i := 29) (sumE (rootO (fromO P))) rfl (by kernel_rfl) rfl rfl rfl rfl Tryz.call24 (fun u hu => Root_spec u (hG.ext hu.fact.1.1.1.1.1.1) pa _ hu.fact.1.2) rfl (fun _ h => h) ?_
      intro q5 hq5
      refine RunD.adv tb_ok (by kernel_rfl) [] rfl rfl (by simp <;> omega) ?_
      refine RunD.gives (i := 31) (sumE (rootO (fromO P))) rfl (by kernel_rfl) rfl rfl rfl rfl Tryz.call24 (fun u hu => Root_spec u (hG.ext hu.fact.1.1.1.1.1.1) pw _ hu.fact.1.1.1.1.2) rfl (fun _ h => h) ?_
      intro q6 hq6
      refine RunD.read (by kernel_rfl) (i := 32) (boolE (decide (rootO (fromO P) = rootO (fromO P)))) rfl rfl rfl rfl rfl rfl (fun w' a h hag => op_eq hag rfl rfl rfl rfl rfl (by kernel_rfl) (eq_sum w' 9998 _ _)) ?_
      refine RunD.adv tb_ok (by kernel_rfl) [true, true] rfl rfl (by simp <;> omega) ?_
      refine RunD.gives (i := 39) .tt rfl (by kernel_rfl) rfl rfl rfl rfl Tryz.call30 (fun u hu => awake_spec u (hG.ext hu.fact.1.1.1.1.1.1)) rfl (fun _ h => h) ?_
      intro q7 hq7
      refine RunD.adv tb_ok (by kernel_rfl) [] rfl rfl (by simp <;> omega) ?_
      refine RunD.done (.inl rfl) (by kernel_rfl) ?_
      refine RunH.ret1 Tryz.func4 rfl rfl fun w hst => ⟨rfl, hst.fact.1.1.1.1.1.1⟩
end Go.Proofs.YtbfjmimiigjenaaGreatDoor

/-
TrieTogether: the law is true for every input; the listed variables hold what the program's text lays.
-/
namespace Go.Proofs.YtbfjmimiigjenaaGreatDoor
open Go V RowKit Go.ChangeShapes Go.WideShapes Go.ChangeAt

set_option maxRecDepth 100000 in
theorem trieTogether_lifted (os : Os) (started : os.Started) (H : Type) (enc : TypeId × Value → H) :
    ReturnsInHanded {} Tryz.checked os 4 .any (fun w args => (Rows.trieTogetherSpec.pre enc Tryz.prog Tryz.f4 [] false w args ∧ laidMetH Tryz.prog Rows.trieTogetherRow.laid w) ∧ sizedMet enc Tryz.prog Tryz.f4 (OpenSpec.ofChange Rows.trieTogetherSpec) false w args)
      (Rows.trieTogetherSpec.post enc Tryz.prog Tryz.f4 false true false false) := by
  refine wrap (C := Tryz.checked) (X := fun w _ => laidMetH Tryz.prog Rows.trieTogetherRow.laid w) (fun _ _ _ hh h => h.of_heap hh) ownKnobs started (by kernel_rfl) Tryz.func4
    (ChangeSpec.witness_shaped (enc := enc) (C := Tryz.checked) (os := os) (X := fun w _ => laidMetH Tryz.prog Rows.trieTogetherRow.laid w) false (World.laidAll Tryz.prog os Rows.trieTogetherRow.laid)
      #[.slice none 0 0, .int .u8 0, .int .u8 0] 8 (World.laidAll_os _ _ _)
      (World.shaped_of_ZipB (by kernel_rfl) (by kernel_rfl)) (by kernel_rfl) (by kernel_rfl) (by kernel_rfl)
      (by rw [MakeChecks.laidMetH_plain _ _ _ (by kernel_rfl)]; exact laidMet_laidAll _ (by kernel_rfl) (by kernel_rfl))) ?_
  intro W base args ds gs before hval0 hW hsz0 hL hS
  have hval : ∀ (j : Nat) t v, Tryz.f4.params[j]? = some t → args[j]? = some v → Value.okWide Tryz.prog W .any base t v := hval0
  have hsz : (DataW.weightsEach Tryz.prog (Tryz.f4.params.toList ++ Rows.trieTogetherSpec.plain.varTypes Tryz.prog) (ds ++ gs)).all (· ≤ reachBytes) = true := hsz0
  have hW' := hW
  obtain ⟨p, q, hA0, hV, rfl, _, _⟩ := hW
  have hA : DataW.TrodAll enc Tryz.prog W 0 (fun _ => true) true Tryz.f4.params.toList args.toList ds p := hA0
  rw [Tryz.params4] at hA hval hsz
  obtain ⟨v0, v1, v2, d0, d1, d2, p0, p1, p2, rfl, rfl, rfl, h0, h1, h2⟩ := trodAll_three hA
  obtain ⟨rfl, rfl⟩ := trodVars_none hV
  have wt : ∀ {j : Nat} {t : TypeId} {d : DataW H}, [22, 5, 5][j]? = some t → [d0, d1, d2][j]? = some d → ∀ n ∈ d.weights Tryz.prog t, n ≤ reachBytes := by
    intro j t d ht hd n hn
    exact of_decide_eq_true (List.all_eq_true.1 hsz _ (DataW.weights_mem_each ht hd n hn))
  obtain ⟨x0, rfl, hx0⟩ := open_bytes h0 (wt (j := 0) rfl rfl) (hval 0 _ v0 rfl rfl)
  obtain ⟨x1, rfl⟩ := open_u8 (hval 1 _ v1 rfl rfl) h1
  obtain ⟨x2, rfl⟩ := open_u8 (hval 2 _ v2 rfl rfl) h2
  refine (together_walk W (glob_of hS (show laidMetH Tryz.prog Rows.trieShapeRow.laid W from hL)) x0.A x0.c x0.l hx0 x1 x2).mono fun e W' ⟨he, hb⟩ => ?_
  subst he
  exact ⟨_, rfl, _, _, _, [], _, [], hW', trodAll_mk1 (shut_bool Tryz.underlying4 _),
    trodAll_mk3 (Below.trod laidOuts (by kernel_rfl) (of_decide_eq_true (by kernel_rfl)) h0 hb (fun y hy => hW'.lt y (by simp [hy]))) (Below.trod laidOuts (by kernel_rfl) (of_decide_eq_true (by kernel_rfl)) h1 hb (fun y hy => hW'.lt y (by simp [hy]))) (Below.trod laidOuts (by kernel_rfl) (of_decide_eq_true (by kernel_rfl)) h2 hb (fun y hy => hW'.lt y (by simp [hy]))), rfl, hb.frame _, fun h => by cases h⟩

end Go.Proofs.YtbfjmimiigjenaaGreatDoor

/-
The closed facts of trieTogether's row and card, one by one; no condition.
-/
namespace Go.Proofs.YtbfjmimiigjenaaGreatDoor
open Go
theorem trieTogether_c0 : (Rows.trieTogetherRow.wf (OpenSpec.ofChange Rows.trieTogetherSpec) : Bool) = true := by kernel_rfl
theorem trieTogether_c1 : (laidOutB Tryz.prog : Bool) = true := by kernel_rfl
theorem trieTogether_c2 : (mapsRowed Tryz.prog : Bool) = true := by kernel_rfl
theorem trieTogether_c3 : (Tryz.f4.params.all (Tryz.prog.readableRec ·) : Bool) = true := by kernel_rfl
theorem trieTogether_c4 : (namedTie Tryz.prog Rows.trieTogetherRow.named Rows.trieTogetherSpec.vars : Bool) = true := by kernel_rfl
theorem trieTogether_c5 : (Rows.trieTogetherRow.stops == [] : Bool) = true := by kernel_rfl
theorem trieTogether_c6 : (Tryz.prog.stops == [] : Bool) = true := by kernel_rfl
theorem trieTogether_c7 : (Rows.trieTogetherRow.knobs == [] : Bool) = true := by kernel_rfl
theorem trieTogether_c8 : (Tryz.prog.stopKnobs == [] : Bool) = true := by kernel_rfl
theorem trieTogether_c9 : (Rows.trieTogetherRow.inPlace == Tryz.prog.inPlace 4 : Bool) = true := by kernel_rfl
theorem trieTogether_c10 : (Rows.trieTogetherRow.unfollowed == Tryz.prog.unfollowed 4 : Bool) = true := by kernel_rfl
theorem trieTogether_c11 : (Rows.trieTogetherRow.recurses == Tryz.prog.recurses 4 : Bool) = true := by kernel_rfl
theorem trieTogether_c12 : (Rows.trieTogetherRow.named == Tryz.prog.varsNamed 4 : Bool) = true := by kernel_rfl
theorem trieTogether_c13 : (Rows.trieTogetherRow.maps == (Tryz.f4.params.toList ++ Rows.trieTogetherSpec.plain.varTypes Tryz.prog).any (Tryz.prog.mapsRec ·) : Bool) = true := by kernel_rfl
theorem trieTogether_c14 : (Rows.trieTogetherRow.ifaces == (Tryz.f4.params.toList ++ Rows.trieTogetherSpec.plain.varTypes Tryz.prog).any (Tryz.prog.ifacesRec ·) : Bool) = true := by kernel_rfl
theorem trieTogether_c15 : (Rows.trieTogetherRow.mapsOut == Tryz.prog.mapsAmong Tryz.f4.resultTypes.toList : Bool) = true := by kernel_rfl
theorem trieTogether_c16 : (Rows.trieTogetherRow.loops == (Tryz.f4.params.toList ++ Rows.trieTogetherSpec.plain.varTypes Tryz.prog).any (Tryz.prog.loopsFrom ·) : Bool) = true := by kernel_rfl
theorem trieTogether_c17 : (Rows.trieTogetherRow.wideKeys == (Tryz.f4.params.toList ++ Rows.trieTogetherSpec.plain.varTypes Tryz.prog ++ Tryz.f4.resultTypes.toList).any (Tryz.prog.wideKeysFrom ·) : Bool) = true := by kernel_rfl
theorem trieTogether_c18 : (Rows.trieTogetherSpec.vars.all (Tryz.prog.varReadable ·) : Bool) = true := by kernel_rfl
theorem trieTogether_c19 : (Tryz.f4.resultTypes.all (fun t => Tryz.prog.readableRec t && decide (t < Tryz.prog.types.size)) : Bool) = true := by kernel_rfl
theorem trieTogether_c20 : (Rows.trieTogetherRow.ifacesOut == Tryz.f4.resultTypes.toList.any (Tryz.prog.ifacesRec ·) : Bool) = true := by kernel_rfl
theorem trieTogether_c21 : (Rows.trieTogetherRow.loopsOut == Tryz.f4.resultTypes.toList.any (Tryz.prog.loopsFrom ·) : Bool) = true := by kernel_rfl
theorem trieTogether_c22 : (Rows.trieTogetherRow.plainKeys == Tryz.prog.plainKeys : Bool) = true := by kernel_rfl
theorem trieTogether_c23 : (Rows.trieTogetherRow.shortTexts.isNone : Bool) = true := by kernel_rfl
theorem trieTogether_c24 : (Tryz.prog.stopsHeard : Bool) = true := by kernel_rfl
theorem trieTogether_c25 : (Tryz.prog.mayEnter : Bool) = true := by kernel_rfl
theorem trieTogether_c26 : (Rows.trieTogetherRow.lifted == Tryz.prog.liftsFinal : Bool) = true := by kernel_rfl
theorem trieTogether_c27 : (Tryz.prog.make == some Rows.trieTogetherRow.make : Bool) = true := by kernel_rfl
theorem trieTogether_c28 : (Rows.trieTogetherRow.kinds == (if Rows.trieTogetherRow.domain.isEmpty then [] else Tryz.f4.params.toList.map fun t => match Tryz.prog.underlying t with | some (.int k) => some k | _ => none) : Bool) = true := by kernel_rfl
theorem trieTogether_c29 : (Rows.trieTogetherRow.pinned == Rows.trieTogetherRow.pinnedBy : Bool) = true := by kernel_rfl
theorem trieTogether_c30 : (Rows.trieTogetherRow.veiled == (Tryz.f4.params.toList ++ Rows.trieTogetherSpec.plain.varTypes Tryz.prog ++ Tryz.f4.resultTypes.toList).any (Tryz.prog.veiledRec ·) : Bool) = true := by kernel_rfl
theorem trieTogether_c31 : (Rows.trieTogetherRow.veiledFits Tryz.prog Tryz.f4.params.toList (Tryz.f4.params.toList ++ Rows.trieTogetherSpec.plain.varTypes Tryz.prog ++ Tryz.f4.resultTypes.toList) : Bool) = true := by kernel_rfl
set_option maxRecDepth 100000 in
theorem trieTogether_joined : joinedFacts Tryz.prog 4 Tryz.f4 Rows.trieTogetherSpec Rows.trieTogetherRow = true :=
  joined_of trieTogether_c0 trieTogether_c1 trieTogether_c2 trieTogether_c3 trieTogether_c4 trieTogether_c5 trieTogether_c6 trieTogether_c7 trieTogether_c8 trieTogether_c9 trieTogether_c10 trieTogether_c11 trieTogether_c12 trieTogether_c13 trieTogether_c14 trieTogether_c15 trieTogether_c16 trieTogether_c17 trieTogether_c18 trieTogether_c19 trieTogether_c20 trieTogether_c21 trieTogether_c22 trieTogether_c23 trieTogether_c24 trieTogether_c25 trieTogether_c26 trieTogether_c27 trieTogether_c28 trieTogether_c29 trieTogether_c30 trieTogether_c31
theorem trieTogether_named : Tryz.prog.funcNamed "hoarstone/hoarstonelaw03.TrieTogether" = some 4 := by kernel_rfl
theorem trieTogether_inst : decide (Tryz.f4.isInstance Tryz.prog Rows.trieTogetherRow.origin Rows.trieTogetherRow.targs) = true := by kernel_rfl
theorem trieTogether_wfText : Rows.trieTogetherRow.wfByText (OpenSpec.ofChange Rows.trieTogetherSpec) = true := by kernel_rfl
theorem trieTogether_goes : (false = Rows.trieTogetherRow.goesBy Tryz.prog) := by kernel_rfl
end Go.Proofs.YtbfjmimiigjenaaGreatDoor

/-
TrieTogether: the law is true for every input; its listed package variables hold what the program's text lays (the card ties them). No condition.
-/
namespace Go.Proofs.YtbfjmimiigjenaaGreatDoor
open Go
theorem trieTogether_wrapped : Tryz.f4.isWrapper Tryz.prog Rows.trieTogetherRow.wrapper Rows.trieTogetherRow.mainSum := by
  unfold Func.isWrapper; first | (rw [if_pos (by decide +kernel)]; kernel_rfl) | (rw [if_neg (by decide +kernel)]; exact ⟨rfl, rfl⟩)
theorem trieTogether_prog : Rows.trieTogetherRow.program = Tryz.pinned.name := by kernel_rfl
theorem trieTogether_sum : Rows.trieTogetherRow.sum = Tryz.pinned.sum := by kernel_rfl
theorem trieTogether_spec : Rows.trieTogetherRow.spec = Rows.trieTogetherSpec.name := by kernel_rfl
theorem trieTogether_holds : Rows.TrieTogetherSaid :=
  OpenClaim.holds_of_wide 4 Tryz.f4 trieTogether_prog trieTogether_sum trieTogether_spec rfl rfl rfl rfl ⟨rfl, rfl, rfl, rfl, rfl⟩ rfl rfl rfl rfl rfl trieTogether_named Tryz.func4 trieTogether_joined
    (of_decide_eq_true trieTogether_inst) trieTogether_wrapped (fun os started H enc _ => trieTogether_lifted os started H enc)
theorem trieTogether_main : Tryz.prog.mainIs = some (Rows.trieTogetherCard.stood.harness.1, Rows.trieTogetherCard.stood.harness.2.toList) := by kernel_rfl
theorem trieTogether_har : (!Rows.trieTogetherCard.stood.harness.1 && Rows.trieTogetherCard.stood.harness.2.isEmpty && !false) = false := by kernel_rfl
theorem trieTogether_looks : false = Tryz.prog.looks [] := by kernel_rfl
theorem trieTogether_plain : ([22, 5, 5].all fun u => !Tryz.prog.wantsStandIn u) = true := by kernel_rfl
theorem trieTogether_card_holds : Rows.TrieTogetherCardSaid :=
  Claim7.holds_tied_plain_at .later [] [.data, .data, .sentinel] true Rows.trieTogetherCard.stood.harness false
    trieTogether_holds (fun _ h => by cases h) trieTogether_wfText (fun _ h => by cases h) trieTogether_row_tie rfl ⟨rfl, rfl⟩ trieTogether_main trieTogether_har
    (fun f fn hf hfn => by
      obtain rfl : f = 4 := (Option.some.inj (trieTogether_named.symm.trans hf)).symm
      obtain rfl : fn = Tryz.f4 := (Option.some.inj (Tryz.func4.symm.trans hfn)).symm
      exact ⟨trieTogether_looks, fun j t ht => by
        rw [Tryz.params4] at ht
        have hm : t ∈ [22, 5, 5] := by simpa using Array.mem_of_getElem? ht
        exact (show Tryz.prog.wantsStandIn t = false by simpa using List.all_eq_true.1 trieTogether_plain t hm)⟩)
    trieTogether_goes
#print axioms trieTogether_card_holds
end Go.Proofs.YtbfjmimiigjenaaGreatDoor
