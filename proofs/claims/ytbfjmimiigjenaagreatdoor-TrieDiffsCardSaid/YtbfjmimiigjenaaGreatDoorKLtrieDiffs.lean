/-
A part of the proof of TrieDiffs: for every input the law returns true, and what was passed in reads as before; the listed package variables hold what the program's text lays. No further condition.
-/
import Derived.Test.YtbfjmimiigjenaaGreatDoorRows
import Derived.Test.YtbfjmimiigjenaaGreatDoorCards
import Derived.KernelRfl
import Derived.Test.YtbfjmimiigjenaaGreatDoorTie
import Derived.SevenTiedAt
import Derived.Test.YtbfjmimiigjenaaGreatDoorKQ45
set_option maxRecDepth 100000
set_option linter.unusedVariables false
set_option linter.unusedSimpArgs false
namespace Go.Proofs.YtbfjmimiigjenaaGreatDoor
open Go V RowKit
set_option maxHeartbeats 4000000 in
theorem diffs_walk (w : World) (hG : Glob w) (NA : Option Addr) (nc : Nat) (nl : List UInt8) (hnl : Sl kBy w NA nc nl) (MA : Option Addr) (mc : Nat) (ml : List UInt8) (hml : Sl kBy w MA mc ml) :
  Gives Tryz.prog 8 [.slice NA nl.length nc, .slice MA ml.length mc] w .tt := by
 have hlim : lim = 140737488351232 := rfl
 have hz31 : (Tryz.t31).size = 1 := by kernel_rfl
 refine enterH tk [(0, slE NA nl.length nc), (1, slE MA ml.length mc)] Tryz.func8 rfl Tryz.ntmps8 rfl rfl ?_
 refine RH.adv tk [] rfl rfl (by simp <;> omega) ?_
 refine RH.doB [] 2 (hc := Tryz.call15) (ho := rfl) (hw := rfl) (hd := rfl) (hf := rfl) (hes := rfl) (hσ := rfl) (hn := rfl) (hV := fun _ => rfl) (hG := fun _ => rfl) (e := fun y : Nat × Option Addr × Nat => .av (.box 0 y.1 0)) (hC := OfK_spec NA nc nl) (hp := fun u hu => hnl.ext hu.fact) ?_
 rintro ⟨b, SA, sc⟩ m1 hm1
 refine RH.drop ?_
 refine RH.adv tk [] rfl rfl (by simp <;> omega) ?_
 refine RH.doB [(0, 0)] 5 (hc := Tryz.call16) (ho := rfl) (hw := rfl) (hd := rfl) (hf := rfl) (hes := rfl) (hσ := rfl) (hn := rfl) (hV := fun _ => rfl) (hG := fun _ => rfl) (e := fun y : (Nat × Int) × (Option Addr × Nat) × (Option Addr × Nat) × List Str × List Sum => .av (.val (.tuple #[.slice y.2.1.1 y.2.2.2.1.length y.2.1.2, .slice y.2.2.1.1 y.2.2.2.2.length y.2.2.1.2]))) (hC := filled_spec b ⟨SA, sc, nl.take 300, 0, 88172645463325252⟩ (by rw [List.length_take]; omega) (Nat.zero_le _) 15 (by decide)) (hp := fun u hu => Sl.own (B := w.heap.size) (hu.row (κ := kBy) (l := nl.take 300) (id := 1) rfl) (by rw [List.length_take]; omega)) ?_
 rintro ⟨z1, ⟨A, c⟩, ⟨B, d⟩, names, sums⟩ m2 hm2
 refine RH.pure (fun u h => h.2) fun ⟨⟨hnd1, hnm1, hn1⟩, hsl1, _⟩ => ?_
 dsimp only at hnd1 hnm1 hn1 hsl1
 refine RH.drop ?_
 dsimp only
 refine RH.tell [(1, slE MA ml.length mc), (27, .av (.val (.tuple #[.slice A names.length c, .slice B sums.length d])))] [(3, rowE kStr A c names), (4, rowE kSum B d sums)] [] rfl rfl rfl 5 ?_
 refine RH.free (i := 3) rfl ?_
 refine RH.free (i := 4) rfl ?_
 refine V.RH.know (fun u => Ext w u ∧ Sl kStr u A c names ∧ Sl kSum u B d sums) (fun u h => ⟨h.1.1, Sl.own h.1.2 (by omega), Sl.own h.2 (by omega)⟩) ?_
 have hzf1 := zip_fst hsl1
 generalize hP1 : names.zip sums = P at hzf1
 have hPl1 : P.length = names.length := by rw [← hP1, List.length_zip]; omega
 have hdP1 : (P.map Prod.fst).Nodup := hzf1 ▸ hnd1
 have hP601 : ∀ e ∈ P, e.1.length ≤ 60 := fun e he => by
  have h1 : e.1 ∈ names := by rw [← hzf1]; exact List.mem_map.2 ⟨e, he, rfl⟩
  have := (hnm1 _ h1).1; omega
 have hAll1 := from_all (N := 60) P (by decide) hP601 (by omega)
 have ok1 := hAll1.1
 have l601 := hAll1.2.1
 have low1 : lowO 1000 (fromO P) := fun n x hx => Nat.le_trans (hAll1.2.1 n x hx) (by decide)
 have mn1 : maO (fromO P) ≤ 15 := Nat.le_trans hAll1.2.2 (by omega)
 have wf1 := wf_from P
 refine RH.adv tk [] rfl rfl (by simp <;> omega) ?_
 refine RH.toNx 20 ?_
 refine RH.doB [] 22 (hc := Tryz.call15) (ho := rfl) (hw := rfl) (hd := rfl) (hf := rfl) (hes := rfl) (hσ := rfl) (hn := rfl) (hV := fun _ => rfl) (hG := fun _ => rfl) (e := fun y : Nat × Option Addr × Nat => .av (.box 20 y.1 0)) (hC := OfK_spec MA mc ml) (hp := fun u hu => hml.ext hu.fact.1) ?_
 rintro ⟨b2, SA2, sc2⟩ m3 hm3
 refine RH.drop ?_
 refine RH.adv tk [] rfl rfl (by simp <;> omega) ?_
 refine RH.doB [(0, 20)] 25 (hc := Tryz.call16) (ho := rfl) (hw := rfl) (hd := rfl) (hf := rfl) (hes := rfl) (hσ := rfl) (hn := rfl) (hV := fun _ => rfl) (hG := fun _ => rfl) (e := fun y : (Nat × Int) × (Option Addr × Nat) × (Option Addr × Nat) × List Str × List Sum => .av (.val (.tuple #[.slice y.2.1.1 y.2.2.2.1.length y.2.1.2, .slice y.2.2.1.1 y.2.2.2.2.length y.2.2.1.2]))) (hC := filled_spec b2 ⟨SA2, sc2, ml.take 300, 0, 88172645463325252⟩ (by rw [List.length_take]; omega) (Nat.zero_le _) 15 (by decide)) (hp := fun u hu => Sl.own (B := w.heap.size) (hu.row (κ := kBy) (l := ml.take 300) (id := 21) rfl) (by rw [List.length_take]; omega)) ?_
 rintro ⟨z2, ⟨A2, c2⟩, ⟨B2, d2⟩, others, digs⟩ m4 hm4
 refine RH.pure (fun u h => h.2) fun ⟨⟨hnd2, hnm2, hn2⟩, hsl2, _⟩ => ?_
 dsimp only at hnd2 hnm2 hn2 hsl2
 refine RH.drop ?_
 dsimp only
 refine RH.tell [(5, slE A names.length c), (6, slE B sums.length d), (33, .av (.val (.tuple #[.slice A2 others.length c2, .slice B2 digs.length d2])))] [(23, rowE kStr A2 c2 others), (24, rowE kSum B2 d2 digs)] [] rfl rfl rfl 30 ?_
 refine RH.free (i := 23) rfl ?_
 refine RH.free (i := 24) rfl ?_
 refine V.RH.know (fun u => (Ext w u ∧ Sl kStr u A c names ∧ Sl kSum u B d sums) ∧ Sl kStr u A2 c2 others ∧ Sl kSum u B2 d2 digs) (fun u h => ⟨h.1.1, Sl.own h.1.2 (by omega), Sl.own h.2 (by omega)⟩) ?_
 have hzf2 := zip_fst hsl2
 generalize hP2 : others.zip digs = Q at hzf2
 have hPl2 : Q.length = others.length := by rw [← hP2, List.length_zip]; omega
 have hdP2 : (Q.map Prod.fst).Nodup := hzf2 ▸ hnd2
 have hP602 : ∀ e ∈ Q, e.1.length ≤ 60 := fun e he => by
  have h1 : e.1 ∈ others := by rw [← hzf2]; exact List.mem_map.2 ⟨e, he, rfl⟩
  have := (hnm2 _ h1).1; omega
 have hAll2 := from_all (N := 60) Q (by decide) hP602 (by omega)
 have ok2 := hAll2.1
 have l602 := hAll2.2.1
 have low2 : lowO 1000 (fromO Q) := fun n x hx => Nat.le_trans (hAll2.2.1 n x hx) (by decide)
 have mn2 : maO (fromO Q) ≤ 15 := Nat.le_trans hAll2.2.2 (by omega)
 have wf2 := wf_from Q
 have hFrom1 := From_spec A c names B d sums
 rw [from_ok hsl1 (by omega) hnd1 (fun n hn => by have := (hnm1 n hn).1; omega), if_pos rfl, hP1] at hFrom1
 have hFrom2 := From_spec A2 c2 others B2 d2 digs
 rw [from_ok hsl2 (by omega) hnd2 (fun n hn => by have := (hnm2 n hn).1; omega), if_pos rfl, hP2] at hFrom2
 refine RH.adv tk [] rfl rfl (by simp <;> omega) ?_
 refine RH.doB [] 31 (hc := Tryz.call17) (ho := rfl) (hw := rfl) (hd := rfl) (hf := rfl) (hes := rfl) (hσ := rfl) (hn := rfl) (hV := fun _ => rfl) (hG := fun _ => rfl) (e := fun o : Option Plot => .av (.val (.tuple #[.agg #[ptrO o], intV 0]))) (hC := hFrom1) (hp := fun u hu => ⟨hG.ext hu.fact.1.1, hu.fact.1.2.1, hu.fact.1.2.2⟩) ?_
 intro pa m5 hm5
 generalize hta : fromO P = ta at *
 refine V.RH.know (fun u => (Ext w u ∧ IsO u pa ta) ∧ Sl kStr u A2 c2 others ∧ Sl kSum u B2 d2 digs) (fun u h => ⟨⟨h.1.1.1, h.2.now trivial⟩, h.1.2⟩) ?_
 refine RH.adv tk [] rfl rfl (by simp [hz31, Value.oneCell'] <;> omega) ?_
 refine V.RH.slotE 40 (mapE pa) rfl rfl ?_
 refine RH.adv tk [] rfl rfl (by simp [hz31, Value.oneCell'] <;> omega) ?_
 refine RH.doB [] 33 (hc := Tryz.call17) (ho := rfl) (hw := rfl) (hd := rfl) (hf := rfl) (hes := rfl) (hσ := rfl) (hn := rfl) (hV := fun _ => rfl) (hG := fun _ => rfl) (e := fun o : Option Plot => .av (.val (.tuple #[.agg #[ptrO o], intV 0]))) (hC := hFrom2) (hp := fun u hu => ⟨hG.ext hu.fact.1.1, hu.fact.2.1, hu.fact.2.2⟩) ?_
 intro pb m6 hm6
 generalize htb : fromO Q = tb' at *
 refine V.RH.know (fun u => (Ext w u ∧ IsO u pa ta) ∧ IsO u pb tb') (fun u h => ⟨h.1.1, h.2.now trivial⟩) ?_
 refine RH.adv tk [] rfl rfl (by simp [hz31, Value.oneCell'] <;> omega) ?_
 refine V.RH.slotE 46 (mapE pb) rfl rfl ?_
 refine RH.adv tk [] rfl rfl (by simp [hz31, Value.oneCell'] <;> omega) ?_
 refine RH.tell [(9, .av (.box 31 m5 0)), (10, intE 0), (11, .av (.box 33 m6 0)), (12, intE 0)] [(31, some (.box m5 [.val (ptrO pa)] 31)), (33, some (.box m6 [.val (ptrO pb)] 31))] [] rfl rfl rfl 40 ?_
 obtain ⟨D, E, hD, hE, hDl, hDn, hDp, hDr, hDs, hEs, hDm, hap1, hap2, hap3⟩ := diff_pack wf1 wf2 l601 l602 (by omega)
 have hDiff1 := Diff_spec pa ta pb tb' ok1 low1 ok2 low2 (by omega) (by omega)
 have hDiff2 := Diff_spec pb tb' pa ta ok2 low2 ok1 low1 (by omega) (by omega)
 rw [hD] at hDiff1
 rw [hE] at hDiff2
 refine RH.draw rfl [(31, some (.box m5 [.val (ptrO pa)] 31)), (33, some (.box m6 [.val (ptrO pb)] 31))] rfl 8 rfl rfl ?_
 refine RD.adv tk (by kernel_rfl) [] rfl rfl (by simp <;> omega) ?_
 refine RD.doB (nx := 40) (i := 2) [] 41 (fun y : Option Addr × Nat => rowS 40 y.1 D.length y.2) rfl (by kernel_rfl) rfl rfl rfl rfl Tryz.call53 hDiff1 rfl rfl (fun _ => rfl) (fun _ => rfl) (fun u hu => ⟨hu.fact.1.2, hu.fact.2⟩) (fun _ => rfl) (fun _ h => h) ?_
 rintro ⟨DA, dc⟩ m7 hm7
 refine RD.adv tk (by kernel_rfl) [] rfl rfl (by simp <;> omega) ?_
 refine RD.doB (nx := 41) (i := 5) [] 42 (fun y : Option Addr × Nat => rowS 41 y.1 E.length y.2) rfl (by kernel_rfl) rfl rfl rfl rfl Tryz.call53 hDiff2 rfl rfl (fun _ => rfl) (fun _ => rfl) (fun u hu => ⟨hu.fact.1.2, hu.fact.1.1.2⟩) (fun _ => rfl) (fun _ h => h.1) ?_
 rintro ⟨EA, ec⟩ m8 hm8
 refine RD.adv tk (by kernel_rfl) [] rfl rfl (by simp <;> omega) ?_
 refine RD.done (.inl rfl) (by kernel_rfl) ?_
 dsimp only
 refine V.RH.know (fun u => ((Ext w u ∧ IsO u pa ta) ∧ IsO u pb tb')) (fun u h => h.1.1) ?_
 refine RH.tell [(9, .av (.box 31 m5 0)), (10, intE 0), (11, .av (.box 33 m6 0)), (12, intE 0), (13, rowS 40 DA D.length dc), (14, rowS 41 EA E.length ec)] [(31, some (.box m5 [.val (ptrO pa)] 31)), (33, some (.box m6 [.val (ptrO pb)] 31)), (40, rowE kTCh DA dc D), (41, rowE kTCh EA ec E)] [] rfl rfl rfl 50 ?_
 have hA1 := Apply_spec pa ta ok1 l601 (by omega) DA dc D (fun x hx => Nat.le_trans (hDs x hx) (by decide)) (by omega)
 have hA2 := Apply_spec pb tb' ok2 l602 (by omega) EA ec E (fun x hx => Nat.le_trans (hEs x hx) (by decide)) (by omega)
 rw [hap1] at hA1
 rw [hap2] at hA2
 refine RH.adv tk [] rfl rfl (by simp <;> omega) ?_
 refine RH.doB [] 51 (hc := Tryz.call54) (ho := rfl) (hw := rfl) (hd := rfl) (hf := rfl) (hes := rfl) (hσ := rfl) (hn := rfl) (hV := fun _ => rfl) (hG := fun _ => rfl) (e := fun o : Option Plot => .av (.val (.tuple #[.agg #[ptrO o], intV 0]))) (hC := hA1) (hp := fun u hu => ⟨hG.ext hu.fact.1.1, hu.fact.1.2, Sl.own (B := w.heap.size) (hu.row (κ := kTCh) (l := D) (id := 40) rfl) (by omega)⟩) ?_
 intro pc m9 hm9
 refine V.RH.know (fun u => ((Ext w u ∧ IsO u pa ta) ∧ IsO u pb tb') ∧ IsO u pc tb') (fun u h => ⟨h.1, h.2.now h.1.1.2⟩) ?_
 refine RH.adv tk [] rfl rfl (by simp [hz31, Value.oneCell'] <;> omega) ?_
 refine V.RH.slotE 58 (mapE pc) rfl rfl ?_
 refine RH.adv tk [] rfl rfl (by simp [hz31, Value.oneCell'] <;> omega) ?_
 refine RH.doB [] 53 (hc := Tryz.call54) (ho := rfl) (hw := rfl) (hd := rfl) (hf := rfl) (hes := rfl) (hσ := rfl) (hn := rfl) (hV := fun _ => rfl) (hG := fun _ => rfl) (e := fun o : Option Plot => .av (.val (.tuple #[.agg #[ptrO o], intV 0]))) (hC := hA2) (hp := fun u hu => ⟨hG.ext hu.fact.1.1.1, hu.fact.1.2, Sl.own (B := w.heap.size) (hu.row (κ := kTCh) (l := E) (id := 41) rfl) (by omega)⟩) ?_
 intro pd m10 hm10
 refine V.RH.know (fun u => (((Ext w u ∧ IsO u pa ta) ∧ IsO u pb tb') ∧ IsO u pc tb') ∧ IsO u pd ta) (fun u h => ⟨h.1, h.2.now h.1.1.2⟩) ?_
 refine RH.adv tk [] rfl rfl (by simp [hz31, Value.oneCell'] <;> omega) ?_
 refine V.RH.slotE 64 (mapE pd) rfl rfl ?_
 refine RH.adv tk [] rfl rfl (by simp [hz31, Value.oneCell'] <;> omega) ?_
 refine RH.tell [(9, .av (.box 31 m5 0)), (10, intE 0), (11, .av (.box 33 m6 0)), (12, intE 0), (13, rowS 40 DA D.length dc), (14, rowS 41 EA E.length ec), (15, .av (.box 51 m9 0)), (16, intE 0), (17, .av (.box 53 m10 0)), (18, intE 0)] [(31, some (.box m5 [.val (ptrO pa)] 31)), (33, some (.box m6 [.val (ptrO pb)] 31)), (40, rowE kTCh DA dc D), (41, rowE kTCh EA ec E), (51, some (.box m9 [.val (ptrO pc)] 31)), (53, some (.box m10 [.val (ptrO pd)] 31))] [] rfl rfl rfl 60 ?_
 have hse : enO ta = enO tb' ↔ ta = tb' := ⟨fun e => entsO_inj wf1 wf2 e, fun e => by rw [e]⟩
 apply RH.joinK (α := Unit) (fun _ => [(9, .av (.box 31 m5 0)), (11, .av (.box 33 m6 0)), (13, rowS 40 DA D.length dc), (14, rowS 41 EA E.length ec)])
  (fun _ => [(31, some (.box m5 [.val (ptrO pa)] 31)), (33, some (.box m6 [.val (ptrO pb)] 31)), (40, rowE kTCh DA dc D), (41, rowE kTCh EA ec E)]) (fun _ u => ((Ext w u ∧ IsO u pa ta) ∧ IsO u pb tb'))
 ·refine RH.draw rfl [(31, some (.box m5 [.val (ptrO pa)] 31)), (33, some (.box m6 [.val (ptrO pb)] 31)), (51, some (.box m9 [.val (ptrO pc)] 31)), (53, some (.box m10 [.val (ptrO pd)] 31))] rfl 77 rfl rfl ?_
  refine RD.adv tk (by kernel_rfl) [false, false, false, false] rfl rfl (by simp <;> omega) ?_
  refine RD.gives (i := 17) (boE true) rfl (by kernel_rfl) rfl rfl rfl rfl Tryz.call23 (fun u hu => same_self u pc pb tb' hu.fact.1.2 hu.fact.1.1.2 ok2 low2) rfl (fun _ h => h) ?_
  intro q1 hq1
  refine RD.adv tk (by kernel_rfl) [false] rfl rfl (by simp <;> omega) ?_
  refine RD.gives (i := 23) (boE true) rfl (by kernel_rfl) rfl rfl rfl rfl Tryz.call23 (fun u hu => same_self u pd pa ta hu.fact.2 hu.fact.1.1.1.2 ok1 low1) rfl (fun _ h => h) ?_
  intro q2 hq2
  refine RD.adv tk (by kernel_rfl) [false, false] rfl rfl (by simp [hDl]) ?_
  refine RD.gives (i := 39) (boE (decide (enO ta = enO tb'))) rfl (by kernel_rfl) rfl rfl rfl rfl Tryz.call23 (fun u hu => TSame_spec u pa ta pb tb' hu.fact.1.1.1.2 ok1 low1 hu.fact.1.1.2 ok2 low2) rfl (fun _ h => h) ?_
  intro q3 hq3
  by_cases hab : ta = tb'
  ·have hD0 : D.length = 0 := hDn.2 hab
   refine RD.adv tk (by kernel_rfl) [false, true] rfl rfl (by simp [hD0, hse.2 hab]) ?_
   refine RD.gives (i := 48) (sumE (rootO ta)) rfl (by kernel_rfl) rfl rfl rfl rfl Tryz.call24 (fun u hu => Root_spec u (hG.ext hu.fact.1.1.1.1) pa _ hu.fact.1.1.1.2) rfl (fun _ h => h) ?_
   intro q4 hq4
   refine RD.adv tk (by kernel_rfl) [] rfl rfl (by simp <;> omega) ?_
   refine RD.gives (i := 50) (sumE (rootO tb')) rfl (by kernel_rfl) rfl rfl rfl rfl Tryz.call24 (fun u hu => Root_spec u (hG.ext hu.fact.1.1.1.1) pb _ hu.fact.1.1.2) rfl (fun _ h => h) ?_
   intro q5 hq5
   refine RD.read (by kernel_rfl) (i := 51) (boE (!decide (rootO ta = rootO tb'))) rfl rfl rfl rfl rfl rfl (fun w' a h hag => op_neq hag rfl rfl rfl rfl rfl (by kernel_rfl) (eq_sum w' 9998 _ _)) ?_
   refine RD.adv tk (by kernel_rfl) [false, false] rfl rfl (by simp [hD0, hab]) ?_
   refine RD.done (.inl rfl) (by kernel_rfl) ?_
   refine V.RH.advN 2 tk [false] rfl rfl (by simp) ?_
   exact RH.mtS () [] (.head _) rfl rfl rfl fun u h => h.1.1
  ·have hD0 : ¬ D.length = 0 := fun e => hab (hDn.1 e)
   have hne : ¬ enO ta = enO tb' := fun e => hab (hse.1 e)
   refine RD.adv tk (by kernel_rfl) [false, false, true] rfl rfl (by simp [hD0, hne]; omega) ?_
   refine RD.gives (i := 60) (sumE (rootO ta)) rfl (by kernel_rfl) rfl rfl rfl rfl Tryz.call24 (fun u hu => Root_spec u (hG.ext hu.fact.1.1.1.1) pa _ hu.fact.1.1.1.2) rfl (fun _ h => h) ?_
   intro q4 hq4
   refine RD.adv tk (by kernel_rfl) [] rfl rfl (by simp <;> omega) ?_
   refine RD.gives (i := 62) (sumE (rootO tb')) rfl (by kernel_rfl) rfl rfl rfl rfl Tryz.call24 (fun u hu => Root_spec u (hG.ext hu.fact.1.1.1.1) pb _ hu.fact.1.1.2) rfl (fun _ h => h) ?_
   intro q5 hq5
   refine RD.read (by kernel_rfl) (i := 63) (boE (decide (rootO ta = rootO tb'))) rfl rfl rfl rfl rfl rfl (fun w' a h hag => op_eq hag rfl rfl rfl rfl rfl (by kernel_rfl) (eq_sum w' 9998 _ _)) ?_
   by_cases hroot : rootO ta = rootO tb'
   ·have hclash := told_clash wf1 wf2 l601 l602 hroot hab
    have htl1 : (toldB ta ((enO ta).map Prod.fst)).length ≤ 915 := by
     have h := told_len (t := ta) ((enO ta).map Prod.fst) fun n hn => by
      obtain ⟨⟨k, x⟩, h1, rfl⟩ := List.mem_map.1 hn
      exact l601 k x ((meO wf1 _ _).1 h1)
     rw [List.length_map, entsO_many] at h; omega
    have htl2 : (toldB tb' ((enO tb').map Prod.fst)).length ≤ 915 := by
     have h := told_len (t := tb') ((enO tb').map Prod.fst) fun n hn => by
      obtain ⟨⟨k, x⟩, h1, rfl⟩ := List.mem_map.1 hn
      exact l602 k x ((meO wf2 _ _).1 h1)
     rw [List.length_map, entsO_many] at h; omega
    have hCl : ∀ (u : World) (ra rb : List (Row UInt8)) (X : Option Addr) (xc : Nat), Glob u → Sl kSli u X xc (ra.map sliOf ++ rb.map sliOf ++ [(none, 0, 0)]) → ra.map Row.l = toldB ta ((enO ta).map Prod.fst) → rb.map Row.l = toldB tb' ((enO tb').map Prod.fst) → (∀ r ∈ ra, Sl kBy u r.A r.c r.l) → (∀ r ∈ rb, Sl kBy u r.A r.c r.l) → ra.length ≤ 915 → rb.length ≤ 915 →
      Gives Tryz.prog 55 [.slice X (ra.map sliOf ++ rb.map sliOf ++ [((none : Option Addr), 0, 0)]).length xc] u (boE true) := by
     intro u ra rb X xc hGu hX hra hrb h1 h2 hla hlb
     have hfor : ∀ r ∈ ra ++ rb ++ [(⟨none, 0, []⟩ : Row UInt8)], (Sl kBy u r.A r.c r.l ∧ Nice r.A) ∧ r.l.length ≤ 1000000 := by
      intro r hr
      rcases List.mem_append.1 hr with hr | hr
      ·rcases List.mem_append.1 hr with hr | hr
       ·have hm : r.l ∈ toldB ta ((enO ta).map Prod.fst) := by rw [← hra]; exact List.mem_map.2 ⟨r, hr, rfl⟩
        exact ⟨⟨h1 r hr, .inl ((h1 r hr).addr (told_ne _ _ hm))⟩, Nat.le_trans (told_short wf1 l601 _ _ hm) (by decide)⟩
       ·have hm : r.l ∈ toldB tb' ((enO tb').map Prod.fst) := by rw [← hrb]; exact List.mem_map.2 ⟨r, hr, rfl⟩
        exact ⟨⟨h2 r hr, .inl ((h2 r hr).addr (told_ne _ _ hm))⟩, Nat.le_trans (told_short wf2 l602 _ _ hm) (by decide)⟩
      ·rw [List.mem_singleton] at hr
       subst hr
       exact ⟨⟨⟨Nat.le_refl _, by simp [hlim], fun h => absurd rfl h, fun j v hv => by simp at hv, fun _ => ⟨rfl, rfl⟩⟩, .inr rfl⟩, by simp⟩
     have h := Clash_spec u hGu X xc (ra ++ rb ++ [⟨none, 0, []⟩]) (by rw [List.map_append, List.map_append]; exact hX) (fun r hr => (hfor r hr).1) (by simp; omega) (fun r hr => (hfor r hr).2)
     rw [List.map_append, List.map_append, hra, hrb] at h
     rw [show clashL (toldB ta ((enO ta).map Prod.fst) ++ toldB tb' ((enO tb').map Prod.fst) ++ List.map Row.l [(⟨none, 0, []⟩ : Row UInt8)]) = true from hclash] at h
     rw [show (ra ++ rb ++ [(⟨none, 0, []⟩ : Row UInt8)]).length = (ra.map sliOf ++ rb.map sliOf ++ [((none : Option Addr), 0, 0)]).length by simp] at h
     exact h
    refine RD.adv tk (by kernel_rfl) [true] rfl rfl (by simp [hroot] <;> omega) ?_
    refine RD.two (i := 67) (j := 71) (by kernel_rfl) ?_ ?_
    ·refine V.opD_doesB (i := 67) [] 60 61 (fun y : (Option Addr × Nat) × List (Row UInt8) => rowS 60 y.1.1 y.2.length y.1.2) rfl rfl rfl rfl rfl Tryz.call56 (Told_spec pa ta ok1 l601 (by omega)) rfl rfl (fun _ => rfl) (fun _ => rfl) (fun u hu => hu.fact.1.1.1.2) (fun _ => rfl) (fun _ h => h) ?_
     rintro ⟨⟨TA, tc⟩, ra⟩ r1 hr1
     refine V.RD.pureS (fun w hst => (hst.fact.2.now trivial).1) fun hra => ?_
     dsimp only at hra
     have hla : ra.length ≤ 915 := by have := congrArg List.length hra; rw [List.length_map] at this; omega
     refine RD.adv tk (by kernel_rfl) [] rfl rfl (by simp <;> omega) ?_
     refine RD.two (i := 69) (j := 71) (by kernel_rfl) ?_ ?_
     ·refine V.opD_doesB (i := 69) [] 62 63 (fun y : (Option Addr × Nat) × List (Row UInt8) => rowS 62 y.1.1 y.2.length y.1.2) rfl rfl rfl rfl rfl Tryz.call56 (Told_spec pb tb' ok2 l602 (by omega)) rfl rfl (fun _ => rfl) (fun _ => rfl) (fun u hu => hu.fact.1.1.1.2) (fun _ => rfl) (fun _ h => h.1) ?_
      rintro ⟨⟨UA, uc⟩, rb⟩ r2 hr2
      refine V.RD.pureS (fun w hst => (hst.fact.2.now trivial).1) fun hrb => ?_
      dsimp only at hrb
      have hlb : rb.length ≤ 915 := by have := congrArg List.length hrb; rw [List.length_map] at this; omega
      refine RD.adv tk (by kernel_rfl) [] rfl rfl (by simp <;> omega) ?_
      refine RD.two (i := 70) (j := 71) (by kernel_rfl) ?_ ?_
      ·refine opD_appendK (nx := 66) (i := 70) (κ := kSli) (id := 60) (l := ra.map sliOf) (r := rb.map sliOf) rfl rfl rfl rfl (List.length_map _).symm rfl elt_sli rfl (by rw [List.length_map]; rfl) (fun u hst => (Sl.own (B := w.heap.size) (hst.row (κ := kSli) (l := rb.map sliOf) (id := 62) rfl) (by simp; omega)).lies) (by simp; omega) (by simp; omega) (fun _ _ => rfl) (fun _ h => h.1.1) ?_
       intro A70 c70 r3 hr3
       refine RD.adv tk (by kernel_rfl) [] rfl rfl (by simp <;> omega) ?_
       refine RD.step tk (nx := 64) (i := 71) rfl (by kernel_rfl) rfl rfl rfl ?_ rfl (fun _ h => h.1.1) ⟨rfl, rfl⟩ ?_
       ·first | trivial | (simp; done)
       refine RD.adv tk (by kernel_rfl) [] rfl rfl (by simp <;> omega) ?_
       refine RD.apK (nx := 67) (i := 72) (κ := kSli) (id := 60) (l := ra.map sliOf ++ rb.map sliOf) (r := [(none, 0, 0)]) rfl (by kernel_rfl) rfl rfl rfl rfl rfl elt_sli rfl rfl (fun w hst => hst.liR (id := 64) (κ := kSli) (l := [(none, 0, 0)]) rfl (by simp [hlim])) (by simp; omega) (by simp; omega) (fun _ _ => rfl) (fun _ h => h.1.1) ?_
       intro A72 c72 r4 hr4
       refine RD.adv tk (by kernel_rfl) [] rfl rfl (by simp <;> omega) ?_
       refine RD.gives (i := 73) (boE true) rfl (by kernel_rfl) rfl rfl rfl rfl Tryz.call55 (fun u hu => hCl u ra rb A72 c72 (hG.ext hu.fact.1.1.1.1.1.1) (Sl.own (B := w.heap.size) (hu.row (κ := kSli) (l := ra.map sliOf ++ rb.map sliOf ++ [(none, 0, 0)]) (id := 60) rfl) (by simp; omega)) hra hrb (hu.fact.1.2.now trivial).2 (hu.fact.2.now trivial).2 hla hlb) rfl (fun _ h => h.1.1) ?_
       intro r5 hr5
       refine RD.adv tk (by kernel_rfl) [] rfl rfl (by simp <;> omega) ?_
       refine RD.done (.inl rfl) (by kernel_rfl) ?_
       refine V.RH.advN 2 tk [false] rfl rfl (by simp) ?_
       exact RH.mtS () [] (.head _) rfl rfl rfl fun u h => h.1.1.1.1
      ·refine opD_step tk (nx := 64) (i := 71) rfl rfl rfl rfl ?_ rfl (fun _ h => h.1.1) ⟨rfl, rfl⟩ ?_
       ·first | trivial | (simp; done)
       refine RD.adv tk (by kernel_rfl) [] rfl rfl (by simp <;> omega) ?_
       refine RD.apK (nx := 66) (i := 70) (κ := kSli) (id := 60) (l := ra.map sliOf) (r := rb.map sliOf) rfl (by kernel_rfl) rfl rfl rfl (List.length_map _).symm rfl elt_sli rfl (by rw [List.length_map]; rfl) (fun u hst => (Sl.own (B := w.heap.size) (hst.row (κ := kSli) (l := rb.map sliOf) (id := 62) rfl) (by simp; omega)).lies) (by simp; omega) (by simp; omega) (fun _ _ => rfl) (fun _ h => h.1.1) ?_
       intro A70 c70 r3 hr3
       refine RD.adv tk (by kernel_rfl) [] rfl rfl (by simp <;> omega) ?_
       refine RD.apK (nx := 67) (i := 72) (κ := kSli) (id := 60) (l := ra.map sliOf ++ rb.map sliOf) (r := [(none, 0, 0)]) rfl (by kernel_rfl) rfl rfl rfl rfl rfl elt_sli rfl rfl (fun w hst => hst.liR (id := 64) (κ := kSli) (l := [(none, 0, 0)]) rfl (by simp [hlim])) (by simp; omega) (by simp; omega) (fun _ _ => rfl) (fun _ h => h.1.1) ?_
       intro A72 c72 r4 hr4
       refine RD.adv tk (by kernel_rfl) [] rfl rfl (by simp <;> omega) ?_
       refine RD.gives (i := 73) (boE true) rfl (by kernel_rfl) rfl rfl rfl rfl Tryz.call55 (fun u hu => hCl u ra rb A72 c72 (hG.ext hu.fact.1.1.1.1.1.1) (Sl.own (B := w.heap.size) (hu.row (κ := kSli) (l := ra.map sliOf ++ rb.map sliOf ++ [(none, 0, 0)]) (id := 60) rfl) (by simp; omega)) hra hrb (hu.fact.1.2.now trivial).2 (hu.fact.2.now trivial).2 hla hlb) rfl (fun _ h => h.1.1) ?_
       intro r5 hr5
       refine RD.adv tk (by kernel_rfl) [] rfl rfl (by simp <;> omega) ?_
       refine RD.done (.inl rfl) (by kernel_rfl) ?_
       refine V.RH.advN 2 tk [false] rfl rfl (by simp) ?_
       exact RH.mtS () [] (.head _) rfl rfl rfl fun u h => h.1.1.1.1
     ·refine opD_step tk (nx := 64) (i := 71) rfl rfl rfl rfl ?_ rfl (fun _ h => h.1) ⟨rfl, rfl⟩ ?_
      ·first | trivial | (simp; done)
      refine RD.adv tk (by kernel_rfl) [] rfl rfl (by simp <;> omega) ?_
      refine RD.doB (nx := 62) (i := 69) [] 63 (fun y : (Option Addr × Nat) × List (Row UInt8) => rowS 62 y.1.1 y.2.length y.1.2) rfl (by kernel_rfl) rfl rfl rfl rfl Tryz.call56 (Told_spec pb tb' ok2 l602 (by omega)) rfl rfl (fun _ => rfl) (fun _ => rfl) (fun u hu => hu.fact.1.1.1.2) (fun _ => rfl) (fun _ h => h.1) ?_
      rintro ⟨⟨UA, uc⟩, rb⟩ r2 hr2
      refine V.RD.pureS (fun w hst => (hst.fact.2.now trivial).1) fun hrb => ?_
      dsimp only at hrb
      have hlb : rb.length ≤ 915 := by have := congrArg List.length hrb; rw [List.length_map] at this; omega
      refine RD.adv tk (by kernel_rfl) [] rfl rfl (by simp <;> omega) ?_
      refine RD.apK (nx := 66) (i := 70) (κ := kSli) (id := 60) (l := ra.map sliOf) (r := rb.map sliOf) rfl (by kernel_rfl) rfl rfl rfl (List.length_map _).symm rfl elt_sli rfl (by rw [List.length_map]; rfl) (fun u hst => (Sl.own (B := w.heap.size) (hst.row (κ := kSli) (l := rb.map sliOf) (id := 62) rfl) (by simp; omega)).lies) (by simp; omega) (by simp; omega) (fun _ _ => rfl) (fun _ h => h.1.1) ?_
      intro A70 c70 r3 hr3
      refine RD.adv tk (by kernel_rfl) [] rfl rfl (by simp <;> omega) ?_
      refine RD.apK (nx := 67) (i := 72) (κ := kSli) (id := 60) (l := ra.map sliOf ++ rb.map sliOf) (r := [(none, 0, 0)]) rfl (by kernel_rfl) rfl rfl rfl rfl rfl elt_sli rfl rfl (fun w hst => hst.liR (id := 64) (κ := kSli) (l := [(none, 0, 0)]) rfl (by simp [hlim])) (by simp; omega) (by simp; omega) (fun _ _ => rfl) (fun _ h => h.1.1) ?_
      intro A72 c72 r4 hr4
      refine RD.adv tk (by kernel_rfl) [] rfl rfl (by simp <;> omega) ?_
      refine RD.gives (i := 73) (boE true) rfl (by kernel_rfl) rfl rfl rfl rfl Tryz.call55 (fun u hu => hCl u ra rb A72 c72 (hG.ext hu.fact.1.1.1.1.1.1) (Sl.own (B := w.heap.size) (hu.row (κ := kSli) (l := ra.map sliOf ++ rb.map sliOf ++ [(none, 0, 0)]) (id := 60) rfl) (by simp; omega)) hra hrb (hu.fact.1.2.now trivial).2 (hu.fact.2.now trivial).2 hla hlb) rfl (fun _ h => h.1.1) ?_
      intro r5 hr5
      refine RD.adv tk (by kernel_rfl) [] rfl rfl (by simp <;> omega) ?_
      refine RD.done (.inl rfl) (by kernel_rfl) ?_
      refine V.RH.advN 2 tk [false] rfl rfl (by simp) ?_
      exact RH.mtS () [] (.head _) rfl rfl rfl fun u h => h.1.1.1.1
    ·refine opD_step tk (nx := 64) (i := 71) rfl rfl rfl rfl ?_ rfl (fun _ h => h) ⟨rfl, rfl⟩ ?_
     ·first | trivial | (simp; done)
     refine RD.adv tk (by kernel_rfl) [] rfl rfl (by simp <;> omega) ?_
     refine RD.doB (nx := 60) (i := 67) [] 61 (fun y : (Option Addr × Nat) × List (Row UInt8) => rowS 60 y.1.1 y.2.length y.1.2) rfl (by kernel_rfl) rfl rfl rfl rfl Tryz.call56 (Told_spec pa ta ok1 l601 (by omega)) rfl rfl (fun _ => rfl) (fun _ => rfl) (fun u hu => hu.fact.1.1.1.2) (fun _ => rfl) (fun _ h => h) ?_
     rintro ⟨⟨TA, tc⟩, ra⟩ r1 hr1
     refine V.RD.pureS (fun w hst => (hst.fact.2.now trivial).1) fun hra => ?_
     dsimp only at hra
     have hla : ra.length ≤ 915 := by have := congrArg List.length hra; rw [List.length_map] at this; omega
     refine RD.adv tk (by kernel_rfl) [] rfl rfl (by simp <;> omega) ?_
     refine RD.doB (nx := 62) (i := 69) [] 63 (fun y : (Option Addr × Nat) × List (Row UInt8) => rowS 62 y.1.1 y.2.length y.1.2) rfl (by kernel_rfl) rfl rfl rfl rfl Tryz.call56 (Told_spec pb tb' ok2 l602 (by omega)) rfl rfl (fun _ => rfl) (fun _ => rfl) (fun u hu => hu.fact.1.1.1.2) (fun _ => rfl) (fun _ h => h.1) ?_
     rintro ⟨⟨UA, uc⟩, rb⟩ r2 hr2
     refine V.RD.pureS (fun w hst => (hst.fact.2.now trivial).1) fun hrb => ?_
     dsimp only at hrb
     have hlb : rb.length ≤ 915 := by have := congrArg List.length hrb; rw [List.length_map] at this; omega
     refine RD.adv tk (by kernel_rfl) [] rfl rfl (by simp <;> omega) ?_
     refine RD.apK (nx := 66) (i := 70) (κ := kSli) (id := 60) (l := ra.map sliOf) (r := rb.map sliOf) rfl (by kernel_rfl) rfl rfl rfl (List.length_map _).symm rfl elt_sli rfl (by rw [List.length_map]; rfl) (fun u hst => (Sl.own (B := w.heap.size) (hst.row (κ := kSli) (l := rb.map sliOf) (id := 62) rfl) (by simp; omega)).lies) (by simp; omega) (by simp; omega) (fun _ _ => rfl) (fun _ h => h.1.1) ?_
     intro A70 c70 r3 hr3
     refine RD.adv tk (by kernel_rfl) [] rfl rfl (by simp <;> omega) ?_
     refine RD.apK (nx := 67) (i := 72) (κ := kSli) (id := 60) (l := ra.map sliOf ++ rb.map sliOf) (r := [(none, 0, 0)]) rfl (by kernel_rfl) rfl rfl rfl rfl rfl elt_sli rfl rfl (fun w hst => hst.liR (id := 64) (κ := kSli) (l := [(none, 0, 0)]) rfl (by simp [hlim])) (by simp; omega) (by simp; omega) (fun _ _ => rfl) (fun _ h => h.1.1) ?_
     intro A72 c72 r4 hr4
     refine RD.adv tk (by kernel_rfl) [] rfl rfl (by simp <;> omega) ?_
     refine RD.gives (i := 73) (boE true) rfl (by kernel_rfl) rfl rfl rfl rfl Tryz.call55 (fun u hu => hCl u ra rb A72 c72 (hG.ext hu.fact.1.1.1.1.1.1) (Sl.own (B := w.heap.size) (hu.row (κ := kSli) (l := ra.map sliOf ++ rb.map sliOf ++ [(none, 0, 0)]) (id := 60) rfl) (by simp; omega)) hra hrb (hu.fact.1.2.now trivial).2 (hu.fact.2.now trivial).2 hla hlb) rfl (fun _ h => h.1.1) ?_
     intro r5 hr5
     refine RD.adv tk (by kernel_rfl) [] rfl rfl (by simp <;> omega) ?_
     refine RD.done (.inl rfl) (by kernel_rfl) ?_
     refine V.RH.advN 2 tk [false] rfl rfl (by simp) ?_
     exact RH.mtS () [] (.head _) rfl rfl rfl fun u h => h.1.1.1.1
   ·refine RD.adv tk (by kernel_rfl) [false] rfl rfl (by simp [hroot] <;> omega) ?_
    refine RD.done (.inl rfl) (by kernel_rfl) ?_
    refine V.RH.advN 2 tk [false] rfl rfl (by simp) ?_
    exact RH.mtS () [] (.head _) rfl rfl rfl fun u h => h.1.1
 rintro ⟨⟩ m20
 refine RH.adv tk [] rfl rfl (by simp <;> omega) ?_
 refine RH.loop (α := Nat) (fun i => [(9, .av (.box 31 m5 0)), (11, .av (.box 33 m6 0)), (13, rowS 40 DA D.length dc), (14, rowS 41 EA E.length ec), (143, rowS 40 DA D.length dc), (144, intE D.length), (145, intE i)])
  (fun _ => [(31, some (.box m5 [.val (ptrO pa)] 31)), (33, some (.box m6 [.val (ptrO pb)] 31)), (40, rowE kTCh DA dc D), (41, rowE kTCh EA ec E)]) (fun i u => ((Ext w u ∧ IsO u pa ta) ∧ IsO u pb tb') ∧ i ≤ D.length) (fun i => D.length - i) 0 rfl rfl (fun u h => ⟨h, Nat.zero_le _⟩) ?_
 intro i m21
 refine RH.pure (fun u h => h.2) fun hi => ?_
 refine V.RH.know (fun u => ((Ext w u ∧ IsO u pa ta) ∧ IsO u pb tb')) (fun u h => h.1) ?_
 refine RH.toNx 70 ?_
 by_cases hlt : i < D.length
 ·have hltE : i < E.length := by omega
  obtain ⟨g1, g2, g3, g4, g5⟩ := hDp i hlt hltE
  have g6 := hDr i hlt
  refine RH.pureS (fun u hu => hu.ptr (id := 40) (κ := kTCh) (l := D) rfl (by intro e; rw [e] at hlt; cases hlt)) fun pD => ?_
  refine RH.pureS (fun u hu => hu.ptr (id := 41) (κ := kTCh) (l := E) rfl (by intro e; rw [e] at hltE; cases hltE)) fun pE => ?_
  refine RH.adv tk [true] rfl rfl (by simp [pD] <;> omega) ?_
  refine RH.loadS (.st (tchF D[i])) rfl rfl rfl rfl (fun u hu => (Sl.own (B := w.heap.size) (hu.row (κ := kTCh) (l := D) (id := 40) rfl) (by omega)).load hlt) ?_
  refine RH.adv tk [] rfl rfl (by simp [pE]; omega) ?_
  refine RH.loadS (.st (tchF E[i])) rfl rfl rfl rfl (fun u hu => (Sl.own (B := w.heap.size) (hu.row (κ := kTCh) (l := E) (id := 41) rfl) (by omega)).load hltE) ?_
  refine RH.adv tk [] rfl rfl (by simp) ?_
  generalize hx : D[i] = x at *
  generalize hy : E[i] = y at *
  refine RH.draw rfl [(70, some (.box m21 (tchF x) 98)), (71, some (.box (m21 + 1) (tchF y) 98)), (40, rowE kTCh DA dc D)] rfl 48 rfl rfl ?_
  obtain ⟨xn, xa, xb, xo, xv⟩ := x
  obtain ⟨yn, ya, yb, yo, yv⟩ := y
  dsimp only at g1 g2 g3 g4 g5 g6
  subst g1 g2 g3 g4 g5
  refine RD.adv tk (by kernel_rfl) [false, false, false] rfl rfl (by simp) ?_
  refine RD.read (by kernel_rfl) (i := 24) (boE (!decide (xo = xo))) rfl rfl rfl rfl rfl rfl (fun w' a h hag => op_neq hag rfl rfl rfl rfl rfl (by kernel_rfl) (eq_sum w' 9998 _ _)) ?_
  refine RD.adv tk (by kernel_rfl) [false] rfl rfl (by simp) ?_
  refine RD.read (by kernel_rfl) (i := 31) (boE (!decide (xv = xv))) rfl rfl rfl rfl rfl rfl (fun w' a h hag => op_neq hag rfl rfl rfl rfl rfl (by kernel_rfl) (eq_sum w' 9998 _ _)) ?_
  by_cases h0 : 0 < i
  ·refine RD.adv tk (by kernel_rfl) [false, true] rfl rfl (by simp; exact ⟨pD, ⟨by omega, by omega⟩, ⟨by omega, by omega⟩, h0⟩) ?_
   rw [show ((i : Int) - 1).toNat = i - 1 by omega]
   refine RD.loadG (by kernel_rfl) (i := 42) (strE (D[i - 1]).name) rfl rfl rfl rfl rfl rfl (fun u hu => tch_name (Sl.own (B := w.heap.size) (hu.row (κ := kTCh) (l := D) (id := 40) rfl) (by omega)) (by omega)) ?_
   refine RD.adv tk (by kernel_rfl) [] rfl rfl (by simp <;> omega) ?_
   refine RD.done (.inl rfl) (by kernel_rfl) ?_
   refine RH.adv tk [false] rfl rfl (by simp; exact ⟨⟨by omega, by omega⟩, g6 h0⟩) ?_
   exact RH.again (i + 1) (.head _) rfl rfl (by omega) fun u h => ⟨h, hlt⟩
  ·refine RD.adv tk (by kernel_rfl) [false, false] rfl rfl (by simp; omega) ?_
   refine RD.done (.inl rfl) (by kernel_rfl) ?_
   refine RH.adv tk [false] rfl rfl (by simp <;> omega) ?_
   exact RH.again (i + 1) (.head _) rfl rfl (by omega) fun u h => ⟨h, hlt⟩
 ·have hin : i = D.length := by omega
  by_cases hD0 : D.length = 0
  ·refine RH.adv tk [false, false] rfl rfl (by simp [hD0] <;> omega) ?_
   refine RH.gives (ho := rfl) (hw := rfl) (hd := rfl) (hf := rfl) (hes := rfl) (hc := Tryz.call30) (e := .tt) (hC := fun u hu => awake_spec u (hG.ext hu.fact.1.1)) ?_
   intro m22 hm22
   refine RH.adv tk [] rfl rfl (by simp <;> omega) ?_
   refine RH.ret1 Tryz.func8 rfl rfl fun w hst => ⟨rfl, hst.fact.1.1⟩
  ·have hA3 := Apply_spec pb tb' ok2 l602 (by omega) DA dc D (fun x hx => Nat.le_trans (hDs x hx) (by decide)) (by omega)
   rw [hap3 (fun e => hD0 (by rw [e]; rfl))] at hA3
   refine RH.adv tk [false, true] rfl rfl (by simp [hD0] <;> omega) ?_
   refine RH.doB [] 80 (hc := Tryz.call54) (ho := rfl) (hw := rfl) (hd := rfl) (hf := rfl) (hes := rfl) (hσ := rfl) (hn := rfl) (hV := fun _ => rfl) (hG := fun _ => rfl) (e := fun o : Option Plot => .av (.val (.tuple #[.agg #[ptrO o], intV 7]))) (hC := hA3) (hp := fun u hu => ⟨hG.ext hu.fact.1.1, hu.fact.2, Sl.own (B := w.heap.size) (hu.row (κ := kTCh) (l := D) (id := 40) rfl) (by omega)⟩) ?_
   intro pe m22 hm22
   refine V.RH.know (fun u => ((Ext w u ∧ IsO u pa ta) ∧ IsO u pb tb')) (fun u h => h.1) ?_
   refine RH.adv tk [] rfl rfl (by simp [hz31, Value.oneCell'] <;> omega) ?_
   refine V.RH.slotE 210 (mapE pe) rfl rfl ?_
   refine RH.adv tk [false] rfl rfl (by simp [hz31, Value.oneCell'] <;> omega) ?_
   refine RH.gives (ho := rfl) (hw := rfl) (hd := rfl) (hf := rfl) (hes := rfl) (hc := Tryz.call30) (e := .tt) (hC := fun u hu => awake_spec u (hG.ext hu.fact.1.1)) ?_
   intro m23 hm23
   refine RH.adv tk [] rfl rfl (by simp <;> omega) ?_
   refine RH.ret1 Tryz.func8 rfl rfl fun w hst => ⟨rfl, hst.fact.1.1⟩
open Go V RowKit Go.ChangeShapes Go.WideShapes Go.ChangeAt
theorem trieDiffs_lifted (os : Os) (started : os.Started) (H : Type) (enc : TypeId × Value → H) :
  ReturnsInHanded {} Tryz.checked os 8 .any (fun w args => (Rows.trieDiffsSpec.pre enc Tryz.prog Tryz.f8 [] false w args ∧ laidMetH Tryz.prog Rows.trieDiffsRow.laid w) ∧ sizedMet enc Tryz.prog Tryz.f8 (OpenSpec.ofChange Rows.trieDiffsSpec) false w args)
   (Rows.trieDiffsSpec.post enc Tryz.prog Tryz.f8 false true false false) := by
 refine wrap (C := Tryz.checked) (X := fun w _ => laidMetH Tryz.prog Rows.trieDiffsRow.laid w) (fun _ _ _ hh h => h.of_heap hh) ownKnobs started (by kernel_rfl) Tryz.func8
  (ChangeSpec.witness_shaped (enc := enc) (C := Tryz.checked) (os := os) (X := fun w _ => laidMetH Tryz.prog Rows.trieDiffsRow.laid w) false (World.laidAll Tryz.prog os Rows.trieDiffsRow.laid)
   #[.slice none 0 0, .slice none 0 0] 8 (World.laidAll_os _ _ _)
   (World.shaped_of_ZipB (by kernel_rfl) (by kernel_rfl)) (by kernel_rfl) (by kernel_rfl) (by kernel_rfl)
   (by rw [MakeChecks.laidMetH_plain _ _ _ (by kernel_rfl)]; exact laidMet_laidAll _ (by kernel_rfl) (by kernel_rfl))) ?_
 intro W base args ds gs before hval0 hW hsz0 hL hS
 have hval : ∀ (j : Nat) t v, Tryz.f8.params[j]? = some t → args[j]? = some v → Value.okWide Tryz.prog W .any base t v := hval0
 have hsz : (DataW.weightsEach Tryz.prog (Tryz.f8.params.toList ++ Rows.trieDiffsSpec.plain.varTypes Tryz.prog) (ds ++ gs)).all (· ≤ reachBytes) = true := hsz0
 have hW' := hW
 obtain ⟨p, q, hA0, hV, rfl, _, _⟩ := hW
 have hA : DataW.TrodAll enc Tryz.prog W 0 (fun _ => true) true Tryz.f8.params.toList args.toList ds p := hA0
 rw [Tryz.params8] at hA hval hsz
 obtain ⟨v0, v1, d0, d1, p0, p1, rfl, rfl, rfl, h0, h1⟩ := trodAll_two hA
 obtain ⟨rfl, rfl⟩ := trodVars_none hV
 have wt : ∀ {j : Nat} {t : TypeId} {d : DataW H}, [22, 22][j]? = some t → [d0, d1][j]? = some d → ∀ n ∈ d.weights Tryz.prog t, n ≤ reachBytes := by
  intro j t d ht hd n hn
  exact of_decide_eq_true (List.all_eq_true.1 hsz _ (DataW.weights_mem_each ht hd n hn))
 obtain ⟨x0, rfl, hx0⟩ := open_bytes h0 (wt (j := 0) rfl rfl) (hval 0 _ v0 rfl rfl)
 obtain ⟨x1, rfl, hx1⟩ := open_bytes h1 (wt (j := 1) rfl rfl) (hval 1 _ v1 rfl rfl)
 refine (diffs_walk W (glob_of hS (show laidMetH Tryz.prog Rows.trieShapeRow.laid W from hL)) x0.A x0.c x0.l hx0 x1.A x1.c x1.l hx1).mono fun e W' ⟨he, hb⟩ => ?_
 subst he
 exact ⟨_, rfl, _, _, _, [], _, [], hW', trodAll_mk1 (shut_bool Tryz.underlying4 _),
  trodAll_mk2 (Below.trod laidOuts (by kernel_rfl) (of_decide_eq_true (by kernel_rfl)) h0 hb (fun y hy => hW'.lt y (by simp [hy]))) (Below.trod laidOuts (by kernel_rfl) (of_decide_eq_true (by kernel_rfl)) h1 hb (fun y hy => hW'.lt y (by simp [hy]))), rfl, hb.frame _, fun h => by cases h⟩
end Go.Proofs.YtbfjmimiigjenaaGreatDoor
namespace Go.Proofs.YtbfjmimiigjenaaGreatDoor
open Go
theorem trieDiffs_c0 : (Rows.trieDiffsRow.wf (OpenSpec.ofChange Rows.trieDiffsSpec) : Bool) = true := by kernel_rfl
theorem trieDiffs_c1 : (laidOutB Tryz.prog : Bool) = true := by kernel_rfl
theorem trieDiffs_c2 : (mapsRowed Tryz.prog : Bool) = true := by kernel_rfl
theorem trieDiffs_c3 : (Tryz.f8.params.all (Tryz.prog.readableRec ·) : Bool) = true := by kernel_rfl
theorem trieDiffs_c4 : (namedTie Tryz.prog Rows.trieDiffsRow.named Rows.trieDiffsSpec.vars : Bool) = true := by kernel_rfl
theorem trieDiffs_c5 : (Rows.trieDiffsRow.stops == [] : Bool) = true := by kernel_rfl
theorem trieDiffs_c6 : (Tryz.prog.stops == [] : Bool) = true := by kernel_rfl
theorem trieDiffs_c7 : (Rows.trieDiffsRow.knobs == [] : Bool) = true := by kernel_rfl
theorem trieDiffs_c8 : (Tryz.prog.stopKnobs == [] : Bool) = true := by kernel_rfl
theorem trieDiffs_c9 : (Rows.trieDiffsRow.inPlace == Tryz.prog.inPlace 8 : Bool) = true := by kernel_rfl
theorem trieDiffs_c10 : (Rows.trieDiffsRow.unfollowed == Tryz.prog.unfollowed 8 : Bool) = true := by kernel_rfl
theorem trieDiffs_c11 : (Rows.trieDiffsRow.recurses == Tryz.prog.recurses 8 : Bool) = true := by kernel_rfl
theorem trieDiffs_c12 : (Rows.trieDiffsRow.named == Tryz.prog.varsNamed 8 : Bool) = true := by kernel_rfl
theorem trieDiffs_c13 : (Rows.trieDiffsRow.maps == (Tryz.f8.params.toList ++ Rows.trieDiffsSpec.plain.varTypes Tryz.prog).any (Tryz.prog.mapsRec ·) : Bool) = true := by kernel_rfl
theorem trieDiffs_c14 : (Rows.trieDiffsRow.ifaces == (Tryz.f8.params.toList ++ Rows.trieDiffsSpec.plain.varTypes Tryz.prog).any (Tryz.prog.ifacesRec ·) : Bool) = true := by kernel_rfl
theorem trieDiffs_c15 : (Rows.trieDiffsRow.mapsOut == Tryz.prog.mapsAmong Tryz.f8.resultTypes.toList : Bool) = true := by kernel_rfl
theorem trieDiffs_c16 : (Rows.trieDiffsRow.loops == (Tryz.f8.params.toList ++ Rows.trieDiffsSpec.plain.varTypes Tryz.prog).any (Tryz.prog.loopsFrom ·) : Bool) = true := by kernel_rfl
theorem trieDiffs_c17 : (Rows.trieDiffsRow.wideKeys == (Tryz.f8.params.toList ++ Rows.trieDiffsSpec.plain.varTypes Tryz.prog ++ Tryz.f8.resultTypes.toList).any (Tryz.prog.wideKeysFrom ·) : Bool) = true := by kernel_rfl
theorem trieDiffs_c18 : (Rows.trieDiffsSpec.vars.all (Tryz.prog.varReadable ·) : Bool) = true := by kernel_rfl
theorem trieDiffs_c19 : (Tryz.f8.resultTypes.all (fun t => Tryz.prog.readableRec t && decide (t < Tryz.prog.types.size)) : Bool) = true := by kernel_rfl
theorem trieDiffs_c20 : (Rows.trieDiffsRow.ifacesOut == Tryz.f8.resultTypes.toList.any (Tryz.prog.ifacesRec ·) : Bool) = true := by kernel_rfl
theorem trieDiffs_c21 : (Rows.trieDiffsRow.loopsOut == Tryz.f8.resultTypes.toList.any (Tryz.prog.loopsFrom ·) : Bool) = true := by kernel_rfl
theorem trieDiffs_c22 : (Rows.trieDiffsRow.plainKeys == Tryz.prog.plainKeys : Bool) = true := by kernel_rfl
theorem trieDiffs_c23 : (Rows.trieDiffsRow.shortTexts.isNone : Bool) = true := by kernel_rfl
theorem trieDiffs_c24 : (Tryz.prog.stopsHeard : Bool) = true := by kernel_rfl
theorem trieDiffs_c25 : (Tryz.prog.mayEnter : Bool) = true := by kernel_rfl
theorem trieDiffs_c26 : (Rows.trieDiffsRow.lifted == Tryz.prog.liftsFinal : Bool) = true := by kernel_rfl
theorem trieDiffs_c27 : (Tryz.prog.make == some Rows.trieDiffsRow.make : Bool) = true := by kernel_rfl
theorem trieDiffs_c28 : (Rows.trieDiffsRow.kinds == (if Rows.trieDiffsRow.domain.isEmpty then [] else Tryz.f8.params.toList.map fun t => match Tryz.prog.underlying t with | some (.int k) => some k | _ => none) : Bool) = true := by kernel_rfl
theorem trieDiffs_c29 : (Rows.trieDiffsRow.pinned == Rows.trieDiffsRow.pinnedBy : Bool) = true := by kernel_rfl
theorem trieDiffs_c30 : (Rows.trieDiffsRow.veiled == (Tryz.f8.params.toList ++ Rows.trieDiffsSpec.plain.varTypes Tryz.prog ++ Tryz.f8.resultTypes.toList).any (Tryz.prog.veiledRec ·) : Bool) = true := by kernel_rfl
theorem trieDiffs_c31 : (Rows.trieDiffsRow.veiledFits Tryz.prog Tryz.f8.params.toList (Tryz.f8.params.toList ++ Rows.trieDiffsSpec.plain.varTypes Tryz.prog ++ Tryz.f8.resultTypes.toList) : Bool) = true := by kernel_rfl
theorem trieDiffs_joined : joinedFacts Tryz.prog 8 Tryz.f8 Rows.trieDiffsSpec Rows.trieDiffsRow = true :=
 joined_of trieDiffs_c0 trieDiffs_c1 trieDiffs_c2 trieDiffs_c3 trieDiffs_c4 trieDiffs_c5 trieDiffs_c6 trieDiffs_c7 trieDiffs_c8 trieDiffs_c9 trieDiffs_c10 trieDiffs_c11 trieDiffs_c12 trieDiffs_c13 trieDiffs_c14 trieDiffs_c15 trieDiffs_c16 trieDiffs_c17 trieDiffs_c18 trieDiffs_c19 trieDiffs_c20 trieDiffs_c21 trieDiffs_c22 trieDiffs_c23 trieDiffs_c24 trieDiffs_c25 trieDiffs_c26 trieDiffs_c27 trieDiffs_c28 trieDiffs_c29 trieDiffs_c30 trieDiffs_c31
theorem trieDiffs_named : Tryz.prog.funcNamed "hoarstone/hoarstonelaw03.TrieDiffs" = some 8 := by kernel_rfl
theorem trieDiffs_inst : decide (Tryz.f8.isInstance Tryz.prog Rows.trieDiffsRow.origin Rows.trieDiffsRow.targs) = true := by kernel_rfl
theorem trieDiffs_wfText : Rows.trieDiffsRow.wfByText (OpenSpec.ofChange Rows.trieDiffsSpec) = true := by kernel_rfl
theorem trieDiffs_goes : (false = Rows.trieDiffsRow.goesBy Tryz.prog) := by kernel_rfl
theorem trieDiffs_wrapped : Tryz.f8.isWrapper Tryz.prog Rows.trieDiffsRow.wrapper Rows.trieDiffsRow.mainSum := by
 unfold Func.isWrapper; first | (rw [if_pos (by decide +kernel)]; kernel_rfl) | (rw [if_neg (by decide +kernel)]; exact ⟨rfl, rfl⟩)
theorem trieDiffs_prog : Rows.trieDiffsRow.program = Tryz.pinned.name := by kernel_rfl
theorem trieDiffs_sum : Rows.trieDiffsRow.sum = Tryz.pinned.sum := by kernel_rfl
theorem trieDiffs_spec : Rows.trieDiffsRow.spec = Rows.trieDiffsSpec.name := by kernel_rfl
theorem trieDiffs_holds : Rows.TrieDiffsSaid :=
 OpenClaim.holds_of_wide 8 Tryz.f8 trieDiffs_prog trieDiffs_sum trieDiffs_spec rfl rfl rfl rfl ⟨rfl, rfl, rfl, rfl, rfl⟩ rfl rfl rfl rfl rfl trieDiffs_named Tryz.func8 trieDiffs_joined
  (of_decide_eq_true trieDiffs_inst) trieDiffs_wrapped (fun os started H enc _ => trieDiffs_lifted os started H enc)
theorem trieDiffs_main : Tryz.prog.mainIs = some (Rows.trieDiffsCard.stood.harness.1, Rows.trieDiffsCard.stood.harness.2.toList) := by kernel_rfl
theorem trieDiffs_har : (!Rows.trieDiffsCard.stood.harness.1 && Rows.trieDiffsCard.stood.harness.2.isEmpty && !false) = false := by kernel_rfl
theorem trieDiffs_looks : false = Tryz.prog.looks [] := by kernel_rfl
theorem trieDiffs_plain : ([22, 22].all fun u => !Tryz.prog.wantsStandIn u) = true := by kernel_rfl
theorem trieDiffs_card_holds : Rows.TrieDiffsCardSaid :=
 Claim7.holds_tied_plain_at .later [] [.data, .data, .sentinel] true Rows.trieDiffsCard.stood.harness false
  trieDiffs_holds (fun _ h => by cases h) trieDiffs_wfText (fun _ h => by cases h) trieDiffs_row_tie rfl ⟨rfl, rfl⟩ trieDiffs_main trieDiffs_har
  (fun f fn hf hfn => by
   obtain rfl : f = 8 := (Option.some.inj (trieDiffs_named.symm.trans hf)).symm
   obtain rfl : fn = Tryz.f8 := (Option.some.inj (Tryz.func8.symm.trans hfn)).symm
   exact ⟨trieDiffs_looks, fun j t ht => by
    rw [Tryz.params8] at ht
    have hm : t ∈ [22, 22] := by simpa using Array.mem_of_getElem? ht
    exact (show Tryz.prog.wantsStandIn t = false by simpa using List.all_eq_true.1 trieDiffs_plain t hm)⟩)
  trieDiffs_goes
#print axioms trieDiffs_card_holds
end Go.Proofs.YtbfjmimiigjenaaGreatDoor
