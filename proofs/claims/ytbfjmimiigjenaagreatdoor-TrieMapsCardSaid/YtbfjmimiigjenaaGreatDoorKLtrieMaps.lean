/-
A part of the proof of TrieMaps: for every input the law returns true, and what was passed in reads as before; the listed package variables hold what the program's text lays. No further condition.
-/
import Derived.Test.YtbfjmimiigjenaaGreatDoorRows
import Derived.Test.YtbfjmimiigjenaaGreatDoorCards
import Derived.KernelRfl
import Derived.Test.YtbfjmimiigjenaaGreatDoorTie
import Derived.SevenTiedAt
import Derived.Test.YtbfjmimiigjenaaGreatDoorKG21
import Derived.Test.YtbfjmimiigjenaaGreatDoorKVZ
set_option maxRecDepth 100000
set_option linter.unusedVariables false
set_option linter.unusedSimpArgs false
namespace Go.Proofs.YtbfjmimiigjenaaGreatDoor
open Go V RowKit
set_option maxHeartbeats 1000000 in
theorem maps_walk (w : World) (hG : Glob w) (A : Option Addr) (c : Nat) (names : List Str) (hA : Sl kStr w A c names) (B : Option Addr) (d : Nat) (sums : List Sum) (hB : Sl kSum w B d sums) (name : Str) (x : Sum) :
  Gives Tryz.prog 9 [.slice A names.length c, .slice B sums.length d, strV name, sumV x] w .tt := by
 have hlim : lim = 140737488351232 := rfl
 have hz31 : (Tryz.t31).size = 1 := by kernel_rfl
 have hz1 : (Tryz.t9).size = 1 := by kernel_rfl
 have hz32 : (Tryz.t40).size = 32 := by kernel_rfl
 have hsB := hB.small
 refine enterH tk [(0, slE A names.length c), (1, slE B sums.length d), (2, strE name), (3, sumE x)] Tryz.func9 rfl Tryz.ntmps9 rfl rfl ?_
 refine RH.adv tk [] rfl rfl (by simp [hz32]) ?_
 refine RH.gv (boE (greatB names)) rfl rfl rfl Tryz.call47 (fun u hu => great_spec u A c names (hA.ext hu.fact)) ?_
 intro m1 hm1
 cases hgr : greatB names with
 | true =>
  refine RH.adv tk [true] rfl rfl (by simp [hgr]) ?_
  refine RH.gv .tt rfl rfl rfl Tryz.call30 (fun u hu => awake_spec u (hG.ext hu.fact)) ?_
  intro m9 hm9
  refine RH.a [] ?_
  refine RH.ret1 Tryz.func9 rfl rfl fun u hu => ⟨rfl, hu.fact⟩
 | false =>
 by_cases h2 : 620 < sums.length
 ·refine RH.adv tk [false, true] rfl rfl (by simp [hgr, h2] <;> omega) ?_
  refine RH.gv .tt rfl rfl rfl Tryz.call30 (fun u hu => awake_spec u (hG.ext hu.fact)) ?_
  intro m9 hm9
  refine RH.a [] ?_
  refine RH.ret1 Tryz.func9 rfl rfl fun u hu => ⟨rfl, hu.fact⟩
 by_cases h4 : 100 < name.length
 ·refine RH.adv tk [false, false, true] rfl rfl (by simp [hgr, h2, h4] <;> omega) ?_
  refine RH.gv .tt rfl rfl rfl Tryz.call30 (fun u hu => awake_spec u (hG.ext hu.fact)) ?_
  intro m9 hm9
  refine RH.a [] ?_
  refine RH.ret1 Tryz.func9 rfl rfl fun u hu => ⟨rfl, hu.fact⟩
 refine RH.adv tk [false, false, false] rfl rfl (by simp [hgr, h2, h4] <;> omega) ?_
 have hnl : names.length ≤ 620 := by
  unfold greatB at hgr
  simp only [Bool.or_eq_false_iff, decide_eq_false_iff_not] at hgr
  omega
 have gt := GoodO.from (names := names) (sums := sums)
 have hFrom := fun A c B d => From_spec A c names B d sums
 have hrFrom := rFrom_spec A c names B d sums
 generalize fromE names sums = ef at *
 generalize (if ef = 0 then fromO (names.zip sums) else none) = t at *
 have ga := gt.put name x
 have hPut := fun p => Put_tot p t gt name x (by omega)
 have hrPut := fun z => rPut_spec z t gt.wf (Nat.le_trans gt.many (by decide)) name x (by omega)
 generalize putR t name x = ra at *
 obtain ⟨a, ea⟩ := ra
 dsimp only at ga hPut hrPut
 have gb := gt.drop name
 have hDrop := fun p => Drop_tot p t gt name (by omega)
 have hrDrop := fun z => rDrop_spec z t gt.wf (Nat.le_trans gt.many (by decide)) name
 generalize dropR t name = rb at *
 obtain ⟨b, eb⟩ := rb
 dsimp only at gb hDrop hrDrop
 have hGet := fun u p (h : IsO u p t) => Get_spec u p t h gt.ok name (by omega)
 have hrGet := fun u z (h : RM u z (ksO t) (xsO t)) => rGet_spec u z t gt.wf h name
 generalize (getO t name).getD Sum.zero = sy at *
 generalize (if (getO t name).isSome = true then (0 : Int) else 6) = ey at *
 refine RH.tell [(0, slE A names.length c), (1, slE B sums.length d), (2, strE name), (7, .av (.box 0 w.heap.size 0)), (38, slE A names.length c)] [(0, some (.box w.heap.size [.val (sumV x)] 40))] [] rfl rfl rfl 8 ?_
 refine RH.dd [] 9 (fun z : Option Addr × Nat => rowS 8 z.1 names.length z.2) rfl rfl rfl Tryz.call26 (cloneStr A c names (by omega)) (fun u hu => hA.ext (hu.fact)) ?_
 rintro ⟨A1, c1⟩ n1 hn1
 refine RH.drop ?_
 refine V.RH.know (fun u => Ext w u) (fun u h => h) ?_
 refine RH.a [] ?_
 refine RH.tell [(0, slE A names.length c), (1, slE B sums.length d), (2, strE name), (7, .av (.box 0 w.heap.size 0)), (39, rowS 8 A1 names.length c1), (40, slE B sums.length d)] [(0, some (.box w.heap.size [.val (sumV x)] 40)), (8, rowE kStr A1 c1 names)] [] rfl rfl rfl 9 ?_
 refine RH.dd [] 10 (fun z : Option Addr × Nat => rowS 9 z.1 sums.length z.2) rfl rfl rfl Tryz.call38 (cloneD B d sums (by omega)) (fun u hu => hB.ext (hu.fact)) ?_
 rintro ⟨A2, c2⟩ n2 hn2
 refine RH.drop ?_
 refine V.RH.know (fun u => Ext w u) (fun u h => h) ?_
 refine RH.a [] ?_
 refine RH.tell [(0, slE A names.length c), (1, slE B sums.length d), (2, strE name), (7, .av (.box 0 w.heap.size 0)), (9, rowS 8 A1 names.length c1), (10, rowS 9 A2 sums.length c2), (43, rowS 8 A1 names.length c1), (44, rowS 9 A2 sums.length c2)] [(0, some (.box w.heap.size [.val (sumV x)] 40)), (8, rowE kStr A1 c1 names), (9, rowE kSum A2 c2 sums)] [] rfl rfl rfl 10 ?_
 refine RH.dd [] 11 (fun o : Option Plot => .av (.val (.tuple #[.agg #[ptrO o], intV ef]))) rfl rfl rfl Tryz.call17 (hFrom A1 c1 A2 c2) (fun u hu => ⟨hG.ext (hu.fact), Sl.own (B := w.heap.size) (hu.row (κ := kStr) (l := names) (id := 8) rfl) (by omega), Sl.own (B := w.heap.size) (hu.row (κ := kSum) (l := sums) (id := 9) rfl) (by omega)⟩) ?_
 intro pt n3 hn3
 refine V.RH.know (fun u => (Ext w u ∧ IsO u pt t)) (fun u h => ⟨h.1, h.2.now trivial⟩) ?_
 refine RH.adv tk [] rfl rfl (by first | (simp [hz1, hz32]; done) | (simp [hz31, Value.oneCell'] <;> omega)) ?_
 refine V.RH.slotE 46 (mapE pt) rfl rfl ?_
 refine RH.adv tk [] rfl rfl (by first | (simp [hz1, hz32]; done) | (simp [hz31, Value.oneCell'] <;> omega)) ?_
 refine RH.tell [(0, slE A names.length c), (1, slE B sums.length d), (2, strE name), (7, .av (.box 0 w.heap.size 0)), (9, rowS 8 A1 names.length c1), (10, rowS 9 A2 sums.length c2), (11, .av (.box 11 n3 0)), (12, intE ef), (49, slE A names.length c), (50, slE B sums.length d)] [(0, some (.box w.heap.size [.val (sumV x)] 40)), (8, rowE kStr A1 c1 names), (9, rowE kSum A2 c2 sums), (11, some (.box n3 ([.val (ptrO pt)]) 31))] [] rfl rfl rfl 13 ?_
 refine RH.dd [] 13 (fun z : At2 => .av (.val (.tuple #[(rmE z (ksO t) (xsO t)).v, intV ef]))) rfl rfl rfl Tryz.call48 hrFrom (fun u hu => ⟨hA.ext (hu.fact.1), hB.ext (hu.fact.1)⟩) ?_
 intro zt n4 hn4
 refine V.RH.know (fun u => ((Ext w u ∧ IsO u pt t) ∧ RM u zt (ksO t) (xsO t))) (fun u h => ⟨h.1, h.2.now trivial⟩) ?_
 refine RH.adv tk [] rfl rfl (by first | (simp [hz1, hz32]; done) | (simp [hz31, Value.oneCell'] <;> omega)) ?_
 refine V.RH.slotE 52 (rmE zt (ksO t) (xsO t)) rfl rfl ?_
 refine RH.adv tk [] rfl rfl (by first | (simp [hz1, hz32]; done) | (simp [hz31, Value.oneCell'] <;> omega)) ?_
 refine RH.a [false] ?_
 refine RH.gv .tt rfl rfl rfl Tryz.call57 (fun u hu => alike_spec u (hG.ext (hu.fact.1.1)) pt t hu.fact.1.2 zt hu.fact.2 gt) ?_
 intro n5 hn5
 refine RH.a [] ?_
 refine RH.gv .tt rfl rfl rfl Tryz.call28 (fun u hu => by have h9 := equalS_spec u A1 A c1 c names names (Sl.own (B := w.heap.size) (hu.row (κ := kStr) (l := names) (id := 8) rfl) (by omega)) (hA.ext (hu.fact.1.1)); rw [decide_eq_true rfl] at h9; exact h9) ?_
 intro n6 hn6
 refine RH.a [] ?_
 refine RH.gv .tt rfl rfl rfl Tryz.call58 (fun u hu => by have h9 := equalD_spec u A2 B c2 d sums sums (Sl.own (B := w.heap.size) (hu.row (κ := kSum) (l := sums) (id := 9) rfl) (by omega)) (hB.ext (hu.fact.1.1)); rw [decide_eq_true rfl] at h9; exact h9) ?_
 intro n7 hn7
 refine RH.a [] ?_
 refine RH.tell [(0, slE A names.length c), (1, slE B sums.length d), (2, strE name), (7, .av (.box 0 w.heap.size 0)), (9, rowS 8 A1 names.length c1), (10, rowS 9 A2 sums.length c2), (11, .av (.box 11 n3 0)), (12, intE ef), (13, .av (.box 13 n4 0)), (14, intE ef), (75, rowS 8 A1 names.length c1)] [(0, some (.box w.heap.size [.val (sumV x)] 40)), (8, rowE kStr A1 c1 names), (9, rowE kSum A2 c2 sums), (11, some (.box n3 ([.val (ptrO pt)]) 31)), (13, some (.box n4 (rmF zt (ksO t) (xsO t)) 81))] [] rfl rfl rfl 14 ?_
 refine RH.go rfl rfl (OpGo.clearK (κ := kStr) (A := A1) (c := c1) (l := names) (id := 8) tk rfl rfl rfl rfl rfl rfl rfl (List.all_eq_true.1 (by kernel_rfl)) rfl (by decide)) 14 ?_
 rintro ⟨⟩ n8 hn8
 refine RH.a [] ?_
 refine RH.tell [(0, slE A names.length c), (1, slE B sums.length d), (2, strE name), (7, .av (.box 0 w.heap.size 0)), (10, rowS 9 A2 sums.length c2), (11, .av (.box 11 n3 0)), (12, intE ef), (13, .av (.box 13 n4 0)), (14, intE ef), (76, rowS 9 A2 sums.length c2)] [(0, some (.box w.heap.size [.val (sumV x)] 40)), (9, rowE kSum A2 c2 sums), (11, some (.box n3 ([.val (ptrO pt)]) 31)), (13, some (.box n4 (rmF zt (ksO t) (xsO t)) 81))] [] rfl rfl rfl 14 ?_
 refine RH.go rfl rfl (OpGo.clearK (κ := kSum) (A := A2) (c := c2) (l := sums) (id := 9) tk rfl rfl rfl rfl rfl rfl rfl (List.all_eq_true.1 (by kernel_rfl)) rfl (by decide)) 14 ?_
 rintro ⟨⟩ n9 hn9
 refine RH.a [] ?_
 refine RH.tell [(0, slE A names.length c), (1, slE B sums.length d), (2, strE name), (7, .av (.box 0 w.heap.size 0)), (11, .av (.box 11 n3 0)), (12, intE ef), (13, .av (.box 13 n4 0)), (14, intE ef), (78, mapE pt), (79, strE name), (80, sumE x)] [(0, some (.box w.heap.size [.val (sumV x)] 40)), (11, some (.box n3 ([.val (ptrO pt)]) 31)), (13, some (.box n4 (rmF zt (ksO t) (xsO t)) 81))] [] rfl rfl rfl 15 ?_
 refine RH.dd [] 15 (fun o : Option Plot => .av (.val (.tuple #[.agg #[ptrO o], intV ea]))) rfl rfl rfl Tryz.call20 (hPut pt) (fun u hu => ⟨hG.ext (hu.fact.1.1), hu.fact.1.2⟩) ?_
 intro pa n10 hn10
 refine V.RH.know (fun u => (((Ext w u ∧ IsO u pt t) ∧ RM u zt (ksO t) (xsO t)) ∧ IsO u pa a)) (fun u h => ⟨h.1, h.2.now h.1.1.2⟩) ?_
 refine RH.adv tk [] rfl rfl (by first | (simp [hz1, hz32]; done) | (simp [hz31, Value.oneCell'] <;> omega)) ?_
 refine V.RH.slotE 82 (mapE pa) rfl rfl ?_
 refine RH.adv tk [] rfl rfl (by first | (simp [hz1, hz32]; done) | (simp [hz31, Value.oneCell'] <;> omega)) ?_
 refine RH.tell [(0, slE A names.length c), (1, slE B sums.length d), (2, strE name), (7, .av (.box 0 w.heap.size 0)), (11, .av (.box 11 n3 0)), (13, .av (.box 13 n4 0)), (14, intE ef), (15, .av (.box 15 n10 0)), (12, intE ea), (85, rmE zt (ksO t) (xsO t)), (86, strE name), (87, sumE x)] [(0, some (.box w.heap.size [.val (sumV x)] 40)), (11, some (.box n3 ([.val (ptrO pt)]) 31)), (13, some (.box n4 (rmF zt (ksO t) (xsO t)) 81)), (15, some (.box n10 ([.val (ptrO pa)]) 31))] [] rfl rfl rfl 16 ?_
 refine RH.dd [] 16 (fun z : At2 => .av (.val (.tuple #[(rmE z (ksO a) (xsO a)).v, intV ea]))) rfl rfl rfl Tryz.call59 (hrPut zt) (fun u hu => hu.fact.1.2) ?_
 intro za n11 hn11
 refine V.RH.know (fun u => ((((Ext w u ∧ IsO u pt t) ∧ RM u zt (ksO t) (xsO t)) ∧ IsO u pa a) ∧ RM u za (ksO a) (xsO a))) (fun u h => ⟨h.1, h.2.now trivial⟩) ?_
 refine RH.adv tk [] rfl rfl (by first | (simp [hz1, hz32]; done) | (simp [hz31, Value.oneCell'] <;> omega)) ?_
 refine V.RH.slotE 89 (rmE za (ksO a) (xsO a)) rfl rfl ?_
 refine RH.adv tk [] rfl rfl (by first | (simp [hz1, hz32]; done) | (simp [hz31, Value.oneCell'] <;> omega)) ?_
 refine RH.tell [(0, slE A names.length c), (1, slE B sums.length d), (2, strE name), (7, .av (.box 0 w.heap.size 0)), (11, .av (.box 11 n3 0)), (13, .av (.box 13 n4 0)), (15, .av (.box 15 n10 0)), (12, intE ea), (16, .av (.box 16 n11 0)), (14, intE ea), (92, mapE pt), (93, strE name)] [(0, some (.box w.heap.size [.val (sumV x)] 40)), (11, some (.box n3 ([.val (ptrO pt)]) 31)), (13, some (.box n4 (rmF zt (ksO t) (xsO t)) 81)), (15, some (.box n10 ([.val (ptrO pa)]) 31)), (16, some (.box n11 (rmF za (ksO a) (xsO a)) 81))] [] rfl rfl rfl 17 ?_
 refine RH.dd [] 17 (fun o : Option Plot => .av (.val (.tuple #[.agg #[ptrO o], intV eb]))) rfl rfl rfl Tryz.call22 (hDrop pt) (fun u hu => ⟨hG.ext (hu.fact.1.1.1.1), hu.fact.1.1.1.2⟩) ?_
 intro pb n12 hn12
 refine V.RH.know (fun u => (((((Ext w u ∧ IsO u pt t) ∧ RM u zt (ksO t) (xsO t)) ∧ IsO u pa a) ∧ RM u za (ksO a) (xsO a)) ∧ IsO u pb b)) (fun u h => ⟨h.1, h.2.now h.1.1.1.1.2⟩) ?_
 refine RH.adv tk [] rfl rfl (by first | (simp [hz1, hz32]; done) | (simp [hz31, Value.oneCell'] <;> omega)) ?_
 refine V.RH.slotE 95 (mapE pb) rfl rfl ?_
 refine RH.adv tk [] rfl rfl (by first | (simp [hz1, hz32]; done) | (simp [hz31, Value.oneCell'] <;> omega)) ?_
 refine RH.tell [(0, slE A names.length c), (1, slE B sums.length d), (2, strE name), (7, .av (.box 0 w.heap.size 0)), (11, .av (.box 11 n3 0)), (13, .av (.box 13 n4 0)), (15, .av (.box 15 n10 0)), (12, intE ea), (16, .av (.box 16 n11 0)), (14, intE ea), (17, .av (.box 17 n12 0)), (18, intE eb), (98, rmE zt (ksO t) (xsO t)), (99, strE name)] [(0, some (.box w.heap.size [.val (sumV x)] 40)), (11, some (.box n3 ([.val (ptrO pt)]) 31)), (13, some (.box n4 (rmF zt (ksO t) (xsO t)) 81)), (15, some (.box n10 ([.val (ptrO pa)]) 31)), (16, some (.box n11 (rmF za (ksO a) (xsO a)) 81)), (17, some (.box n12 ([.val (ptrO pb)]) 31))] [] rfl rfl rfl 19 ?_
 refine RH.dd [] 19 (fun z : At2 => .av (.val (.tuple #[(rmE z (ksO b) (xsO b)).v, intV eb]))) rfl rfl rfl Tryz.call60 (hrDrop zt) (fun u hu => hu.fact.1.1.1.2) ?_
 intro zb n13 hn13
 refine V.RH.know (fun u => ((((((Ext w u ∧ IsO u pt t) ∧ RM u zt (ksO t) (xsO t)) ∧ IsO u pa a) ∧ RM u za (ksO a) (xsO a)) ∧ IsO u pb b) ∧ RM u zb (ksO b) (xsO b))) (fun u h => ⟨h.1, h.2.now trivial⟩) ?_
 refine RH.adv tk [] rfl rfl (by first | (simp [hz1, hz32]; done) | (simp [hz31, Value.oneCell'] <;> omega)) ?_
 refine V.RH.slotE 101 (rmE zb (ksO b) (xsO b)) rfl rfl ?_
 refine RH.adv tk [] rfl rfl (by first | (simp [hz1, hz32]; done) | (simp [hz31, Value.oneCell'] <;> omega)) ?_
 refine RH.tell [(0, slE A names.length c), (1, slE B sums.length d), (2, strE name), (7, .av (.box 0 w.heap.size 0)), (11, .av (.box 11 n3 0)), (13, .av (.box 13 n4 0)), (15, .av (.box 15 n10 0)), (12, intE ea), (16, .av (.box 16 n11 0)), (14, intE ea), (17, .av (.box 17 n12 0)), (18, intE eb), (19, .av (.box 19 n13 0)), (20, intE eb), (104, mapE pt), (105, strE name)] [(0, some (.box w.heap.size [.val (sumV x)] 40)), (11, some (.box n3 ([.val (ptrO pt)]) 31)), (13, some (.box n4 (rmF zt (ksO t) (xsO t)) 81)), (15, some (.box n10 ([.val (ptrO pa)]) 31)), (16, some (.box n11 (rmF za (ksO a) (xsO a)) 81)), (17, some (.box n12 ([.val (ptrO pb)]) 31)), (19, some (.box n13 (rmF zb (ksO b) (xsO b)) 81))] [] rfl rfl rfl 21 ?_
 refine RH.gv (.av (.val (.tuple #[sumV sy, intV ey]))) rfl rfl rfl Tryz.call33 (fun u hu => hGet u pt hu.fact.1.1.1.1.1.2) ?_
 intro n14 hn14
 refine RH.adv tk [] rfl rfl (by first | (simp [hz1, hz32]; done) | (simp [hz31, Value.oneCell'] <;> omega)) ?_
 refine RH.tell [(0, slE A names.length c), (1, slE B sums.length d), (2, strE name), (7, .av (.box 0 w.heap.size 0)), (11, .av (.box 11 n3 0)), (13, .av (.box 13 n4 0)), (15, .av (.box 15 n10 0)), (12, intE ea), (16, .av (.box 16 n11 0)), (14, intE ea), (17, .av (.box 17 n12 0)), (18, intE eb), (19, .av (.box 19 n13 0)), (20, intE eb), (21, .av (.box 21 n14 0)), (22, intE ey), (110, rmE zt (ksO t) (xsO t)), (111, strE name)] [(0, some (.box w.heap.size [.val (sumV x)] 40)), (11, some (.box n3 ([.val (ptrO pt)]) 31)), (13, some (.box n4 (rmF zt (ksO t) (xsO t)) 81)), (15, some (.box n10 ([.val (ptrO pa)]) 31)), (16, some (.box n11 (rmF za (ksO a) (xsO a)) 81)), (17, some (.box n12 ([.val (ptrO pb)]) 31)), (19, some (.box n13 (rmF zb (ksO b) (xsO b)) 81)), (21, some (.box n14 [.val (sumV sy)] 40))] [] rfl rfl rfl 23 ?_
 refine RH.gv (.av (.val (.tuple #[sumV sy, intV ey]))) rfl rfl rfl Tryz.call61 (fun u hu => hrGet u zt hu.fact.1.1.1.1.2) ?_
 intro n15 hn15
 refine RH.adv tk [] rfl rfl (by first | (simp [hz1, hz32]; done) | (simp [hz31, Value.oneCell'] <;> omega)) ?_
 refine RH.tell [(0, slE A names.length c), (1, slE B sums.length d), (2, strE name), (7, .av (.box 0 w.heap.size 0)), (11, .av (.box 11 n3 0)), (13, .av (.box 13 n4 0)), (15, .av (.box 15 n10 0)), (12, intE ea), (16, .av (.box 16 n11 0)), (14, intE ea), (17, .av (.box 17 n12 0)), (18, intE eb), (19, .av (.box 19 n13 0)), (20, intE eb), (21, .av (.box 21 n14 0)), (22, intE ey), (23, .av (.box 23 n15 0)), (24, intE ey)] [(0, some (.box w.heap.size [.val (sumV x)] 40)), (11, some (.box n3 ([.val (ptrO pt)]) 31)), (13, some (.box n4 (rmF zt (ksO t) (xsO t)) 81)), (15, some (.box n10 ([.val (ptrO pa)]) 31)), (16, some (.box n11 (rmF za (ksO a) (xsO a)) 81)), (17, some (.box n12 ([.val (ptrO pb)]) 31)), (19, some (.box n13 (rmF zb (ksO b) (xsO b)) 81)), (21, some (.box n14 [.val (sumV sy)] 40)), (23, some (.box n15 [.val (sumV sy)] 40))] [] rfl rfl rfl 25 ?_
 refine RH.w [(0, some (.box w.heap.size [.val (sumV x)] 40)), (11, some (.box n3 ([.val (ptrO pt)]) 31)), (13, some (.box n4 (rmF zt (ksO t) (xsO t)) 81)), (15, some (.box n10 ([.val (ptrO pa)]) 31)), (16, some (.box n11 (rmF za (ksO a) (xsO a)) 81)), (17, some (.box n12 ([.val (ptrO pb)]) 31)), (19, some (.box n13 (rmF zb (ksO b) (xsO b)) 81)), (21, some (.box n14 [.val (sumV sy)] 40)), (23, some (.box n15 [.val (sumV sy)] 40))] 51 ?_
 refine RD.a [true] ?_
 refine RD.gv 9 .tt rfl rfl rfl Tryz.call62 (fun u hu => lives_spec u (hG.ext (hu.fact.1.1.1.1.1.1)) pa a hu.fact.1.1.1.2 za hu.fact.1.1.2 ga (name ++ [43]) (by simp; omega) x) ?_
 intro q9 hq9
 refine RD.a [] ?_
 refine RD.a [true] ?_
 refine RD.gv 21 .tt rfl rfl rfl Tryz.call62 (fun u hu => lives_spec u (hG.ext (hu.fact.1.1.1.1.1.1)) pb b hu.fact.1.2 zb hu.fact.2 gb name (by omega) x) ?_
 intro q21 hq21
 refine RD.a [] ?_
 refine RD.r 26 (boE (decide (sy = sy))) rfl rfl (fun w' a h hag => op_eq hag rfl rfl rfl rfl rfl (by kernel_rfl) (eq_sum w' 9998 _ _)) ?_
 refine RD.a [true, true] ?_
 refine RD.gv 36 .tt rfl rfl rfl Tryz.call57 (fun u hu => alike_spec u (hG.ext (hu.fact.1.1.1.1.1.1)) pt t hu.fact.1.1.1.1.1.2 zt hu.fact.1.1.1.1.2 gt) ?_
 intro q36 hq36
 refine RD.a [] ?_
 refine RD.gv 41 (boE (decide (enO t = enO a))) rfl rfl rfl Tryz.call23 (fun u hu => TSame_spec u pt t pa a hu.fact.1.1.1.1.1.2 gt.ok gt.low1000 hu.fact.1.1.1.2 ga.ok ga.low1000) ?_
 intro q41 hq41
 refine RD.a [] ?_
 refine RD.gv 44 (boE (decide (enO t = enO a))) rfl rfl rfl Tryz.call63 (fun u hu => rSame_spec u zt za (enO t) (enO a) hu.fact.1.1.1.1.2 hu.fact.1.1.2) ?_
 intro q44 hq44
 refine RD.a [] ?_
 refine RD.a [true] ?_
 refine RD.gv 48 .tt rfl rfl rfl Tryz.call30 (fun u hu => awake_spec u (hG.ext (hu.fact.1.1.1.1.1.1))) ?_
 intro q48 hq48
 refine RD.a [] ?_
 refine RD.e ?_
 refine RH.ret1 Tryz.func9 rfl rfl fun u hu => ⟨rfl, (hu.fact.1.1.1.1.1.1)⟩
open Go V RowKit Go.ChangeShapes Go.WideShapes Go.ChangeAt
theorem trieMaps_lifted (os : Os) (started : os.Started) (H : Type) (enc : TypeId × Value → H) :
  ReturnsInHanded {} Tryz.checked os 9 .any (fun w args => (Rows.trieMapsSpec.pre enc Tryz.prog Tryz.f9 [] false w args ∧ laidMetH Tryz.prog Rows.trieMapsRow.laid w) ∧ sizedMet enc Tryz.prog Tryz.f9 (OpenSpec.ofChange Rows.trieMapsSpec) false w args)
   (Rows.trieMapsSpec.post enc Tryz.prog Tryz.f9 false true false false) := by
 refine wrap (C := Tryz.checked) (X := fun w _ => laidMetH Tryz.prog Rows.trieMapsRow.laid w) (fun _ _ _ hh h => h.of_heap hh) ownKnobs started (by kernel_rfl) Tryz.func9
  (ChangeSpec.witness_shaped (enc := enc) (C := Tryz.checked) (os := os) (X := fun w _ => laidMetH Tryz.prog Rows.trieMapsRow.laid w) false (World.laidAll Tryz.prog os Rows.trieMapsRow.laid)
   #[.slice none 0 0, .slice none 0 0, .string ⟨#[]⟩, sumV Sum.zero] 8 (World.laidAll_os _ _ _)
   (World.shaped_of_ZipB (by kernel_rfl) (by kernel_rfl)) (by kernel_rfl) (by kernel_rfl) (by kernel_rfl)
   (by rw [MakeChecks.laidMetH_plain _ _ _ (by kernel_rfl)]; exact laidMet_laidAll _ (by kernel_rfl) (by kernel_rfl))) ?_
 intro W base args ds gs before hval0 hW hsz0 hL hS
 have hval : ∀ (j : Nat) t v, Tryz.f9.params[j]? = some t → args[j]? = some v → Value.okWide Tryz.prog W .any base t v := hval0
 have hsz : (DataW.weightsEach Tryz.prog (Tryz.f9.params.toList ++ Rows.trieMapsSpec.plain.varTypes Tryz.prog) (ds ++ gs)).all (· ≤ reachBytes) = true := hsz0
 have hW' := hW
 obtain ⟨p, q, hA0, hV, rfl, _, _⟩ := hW
 have hA : DataW.TrodAll enc Tryz.prog W 0 (fun _ => true) true Tryz.f9.params.toList args.toList ds p := hA0
 rw [Tryz.params9] at hA hval hsz
 obtain ⟨v0, v1, v2, v3, d0, d1, d2, d3, p0, p1, p2, p3, rfl, rfl, rfl, h0, h1, h2, h3⟩ := trodAll_four hA
 obtain ⟨rfl, rfl⟩ := trodVars_none hV
 have wt : ∀ {j : Nat} {t : TypeId} {d : DataW H}, [25, 26, 9, 40][j]? = some t → [d0, d1, d2, d3][j]? = some d → ∀ n ∈ d.weights Tryz.prog t, n ≤ reachBytes := by
  intro j t d ht hd n hn
  exact of_decide_eq_true (List.all_eq_true.1 hsz _ (DataW.weights_mem_each ht hd n hn))
 obtain ⟨x0, rfl, hx0⟩ := open_strs h0 (wt (j := 0) rfl rfl) (hval 0 _ v0 rfl rfl)
 obtain ⟨x1, rfl, hx1⟩ := open_sums h1 (wt (j := 1) rfl rfl) (hval 1 _ v1 rfl rfl)
 obtain ⟨x2, rfl, _, _, _⟩ := ChangeMaps.open_string Tryz.underlying9 (hval 2 _ v2 rfl rfl) h2
 obtain ⟨x3, rfl⟩ := open_sumA h3 (hval 3 _ v3 rfl rfl)
 refine (maps_walk W (glob_of hS (show laidMetH Tryz.prog Rows.trieShapeRow.laid W from hL)) x0.A x0.c x0.l hx0 x1.A x1.c x1.l hx1 x2.data.toList x3).mono fun e W' ⟨he, hb⟩ => ?_
 subst he
 exact ⟨_, rfl, _, _, _, [], _, [], hW', trodAll_mk1 (shut_bool Tryz.underlying4 _),
  trodAll_mk4 (Below.trod laidOuts (by kernel_rfl) (of_decide_eq_true (by kernel_rfl)) h0 hb (fun y hy => hW'.lt y (by simp [hy]))) (Below.trod laidOuts (by kernel_rfl) (of_decide_eq_true (by kernel_rfl)) h1 hb (fun y hy => hW'.lt y (by simp [hy]))) (Below.trod laidOuts (by kernel_rfl) (of_decide_eq_true (by kernel_rfl)) h2 hb (fun y hy => hW'.lt y (by simp [hy]))) (Below.trod laidOuts (by kernel_rfl) (of_decide_eq_true (by kernel_rfl)) h3 hb (fun y hy => hW'.lt y (by simp [hy]))), rfl, hb.frame _, fun h => by cases h⟩
end Go.Proofs.YtbfjmimiigjenaaGreatDoor
namespace Go.Proofs.YtbfjmimiigjenaaGreatDoor
open Go
theorem trieMaps_c0 : (Rows.trieMapsRow.wf (OpenSpec.ofChange Rows.trieMapsSpec) : Bool) = true := by kernel_rfl
theorem trieMaps_c1 : (laidOutB Tryz.prog : Bool) = true := by kernel_rfl
theorem trieMaps_c2 : (mapsRowed Tryz.prog : Bool) = true := by kernel_rfl
theorem trieMaps_c3 : (Tryz.f9.params.all (Tryz.prog.readableRec ·) : Bool) = true := by kernel_rfl
theorem trieMaps_c4 : (namedTie Tryz.prog Rows.trieMapsRow.named Rows.trieMapsSpec.vars : Bool) = true := by kernel_rfl
theorem trieMaps_c5 : (Rows.trieMapsRow.stops == [] : Bool) = true := by kernel_rfl
theorem trieMaps_c6 : (Tryz.prog.stops == [] : Bool) = true := by kernel_rfl
theorem trieMaps_c7 : (Rows.trieMapsRow.knobs == [] : Bool) = true := by kernel_rfl
theorem trieMaps_c8 : (Tryz.prog.stopKnobs == [] : Bool) = true := by kernel_rfl
theorem trieMaps_c9 : (Rows.trieMapsRow.inPlace == Tryz.prog.inPlace 9 : Bool) = true := by kernel_rfl
theorem trieMaps_c10 : (Rows.trieMapsRow.unfollowed == Tryz.prog.unfollowed 9 : Bool) = true := by kernel_rfl
theorem trieMaps_c11 : (Rows.trieMapsRow.recurses == Tryz.prog.recurses 9 : Bool) = true := by kernel_rfl
theorem trieMaps_c12 : (Rows.trieMapsRow.named == Tryz.prog.varsNamed 9 : Bool) = true := by kernel_rfl
theorem trieMaps_c13 : (Rows.trieMapsRow.maps == (Tryz.f9.params.toList ++ Rows.trieMapsSpec.plain.varTypes Tryz.prog).any (Tryz.prog.mapsRec ·) : Bool) = true := by kernel_rfl
theorem trieMaps_c14 : (Rows.trieMapsRow.ifaces == (Tryz.f9.params.toList ++ Rows.trieMapsSpec.plain.varTypes Tryz.prog).any (Tryz.prog.ifacesRec ·) : Bool) = true := by kernel_rfl
theorem trieMaps_c15 : (Rows.trieMapsRow.mapsOut == Tryz.prog.mapsAmong Tryz.f9.resultTypes.toList : Bool) = true := by kernel_rfl
theorem trieMaps_c16 : (Rows.trieMapsRow.loops == (Tryz.f9.params.toList ++ Rows.trieMapsSpec.plain.varTypes Tryz.prog).any (Tryz.prog.loopsFrom ·) : Bool) = true := by kernel_rfl
theorem trieMaps_c17 : (Rows.trieMapsRow.wideKeys == (Tryz.f9.params.toList ++ Rows.trieMapsSpec.plain.varTypes Tryz.prog ++ Tryz.f9.resultTypes.toList).any (Tryz.prog.wideKeysFrom ·) : Bool) = true := by kernel_rfl
theorem trieMaps_c18 : (Rows.trieMapsSpec.vars.all (Tryz.prog.varReadable ·) : Bool) = true := by kernel_rfl
theorem trieMaps_c19 : (Tryz.f9.resultTypes.all (fun t => Tryz.prog.readableRec t && decide (t < Tryz.prog.types.size)) : Bool) = true := by kernel_rfl
theorem trieMaps_c20 : (Rows.trieMapsRow.ifacesOut == Tryz.f9.resultTypes.toList.any (Tryz.prog.ifacesRec ·) : Bool) = true := by kernel_rfl
theorem trieMaps_c21 : (Rows.trieMapsRow.loopsOut == Tryz.f9.resultTypes.toList.any (Tryz.prog.loopsFrom ·) : Bool) = true := by kernel_rfl
theorem trieMaps_c22 : (Rows.trieMapsRow.plainKeys == Tryz.prog.plainKeys : Bool) = true := by kernel_rfl
theorem trieMaps_c23 : (Rows.trieMapsRow.shortTexts.isNone : Bool) = true := by kernel_rfl
theorem trieMaps_c24 : (Tryz.prog.stopsHeard : Bool) = true := by kernel_rfl
theorem trieMaps_c25 : (Tryz.prog.mayEnter : Bool) = true := by kernel_rfl
theorem trieMaps_c26 : (Rows.trieMapsRow.lifted == Tryz.prog.liftsFinal : Bool) = true := by kernel_rfl
theorem trieMaps_c27 : (Tryz.prog.make == some Rows.trieMapsRow.make : Bool) = true := by kernel_rfl
theorem trieMaps_c28 : (Rows.trieMapsRow.kinds == (if Rows.trieMapsRow.domain.isEmpty then [] else Tryz.f9.params.toList.map fun t => match Tryz.prog.underlying t with | some (.int k) => some k | _ => none) : Bool) = true := by kernel_rfl
theorem trieMaps_c29 : (Rows.trieMapsRow.pinned == Rows.trieMapsRow.pinnedBy : Bool) = true := by kernel_rfl
theorem trieMaps_c30 : (Rows.trieMapsRow.veiled == (Tryz.f9.params.toList ++ Rows.trieMapsSpec.plain.varTypes Tryz.prog ++ Tryz.f9.resultTypes.toList).any (Tryz.prog.veiledRec ·) : Bool) = true := by kernel_rfl
theorem trieMaps_c31 : (Rows.trieMapsRow.veiledFits Tryz.prog Tryz.f9.params.toList (Tryz.f9.params.toList ++ Rows.trieMapsSpec.plain.varTypes Tryz.prog ++ Tryz.f9.resultTypes.toList) : Bool) = true := by kernel_rfl
theorem trieMaps_joined : joinedFacts Tryz.prog 9 Tryz.f9 Rows.trieMapsSpec Rows.trieMapsRow = true :=
 joined_of trieMaps_c0 trieMaps_c1 trieMaps_c2 trieMaps_c3 trieMaps_c4 trieMaps_c5 trieMaps_c6 trieMaps_c7 trieMaps_c8 trieMaps_c9 trieMaps_c10 trieMaps_c11 trieMaps_c12 trieMaps_c13 trieMaps_c14 trieMaps_c15 trieMaps_c16 trieMaps_c17 trieMaps_c18 trieMaps_c19 trieMaps_c20 trieMaps_c21 trieMaps_c22 trieMaps_c23 trieMaps_c24 trieMaps_c25 trieMaps_c26 trieMaps_c27 trieMaps_c28 trieMaps_c29 trieMaps_c30 trieMaps_c31
theorem trieMaps_named : Tryz.prog.funcNamed "hoarstone/hoarstonelaw03.TrieMaps" = some 9 := by kernel_rfl
theorem trieMaps_inst : decide (Tryz.f9.isInstance Tryz.prog Rows.trieMapsRow.origin Rows.trieMapsRow.targs) = true := by kernel_rfl
theorem trieMaps_wfText : Rows.trieMapsRow.wfByText (OpenSpec.ofChange Rows.trieMapsSpec) = true := by kernel_rfl
theorem trieMaps_goes : (false = Rows.trieMapsRow.goesBy Tryz.prog) := by kernel_rfl
theorem trieMaps_wrapped : Tryz.f9.isWrapper Tryz.prog Rows.trieMapsRow.wrapper Rows.trieMapsRow.mainSum := by
 unfold Func.isWrapper; first | (rw [if_pos (by decide +kernel)]; kernel_rfl) | (rw [if_neg (by decide +kernel)]; exact ⟨rfl, rfl⟩)
theorem trieMaps_prog : Rows.trieMapsRow.program = Tryz.pinned.name := by kernel_rfl
theorem trieMaps_sum : Rows.trieMapsRow.sum = Tryz.pinned.sum := by kernel_rfl
theorem trieMaps_spec : Rows.trieMapsRow.spec = Rows.trieMapsSpec.name := by kernel_rfl
theorem trieMaps_holds : Rows.TrieMapsSaid :=
 OpenClaim.holds_of_wide 9 Tryz.f9 trieMaps_prog trieMaps_sum trieMaps_spec rfl rfl rfl rfl ⟨rfl, rfl, rfl, rfl, rfl⟩ rfl rfl rfl rfl rfl trieMaps_named Tryz.func9 trieMaps_joined
  (of_decide_eq_true trieMaps_inst) trieMaps_wrapped (fun os started H enc _ => trieMaps_lifted os started H enc)
theorem trieMaps_main : Tryz.prog.mainIs = some (Rows.trieMapsCard.stood.harness.1, Rows.trieMapsCard.stood.harness.2.toList) := by kernel_rfl
theorem trieMaps_har : (!Rows.trieMapsCard.stood.harness.1 && Rows.trieMapsCard.stood.harness.2.isEmpty && !false) = false := by kernel_rfl
theorem trieMaps_looks : false = Tryz.prog.looks [] := by kernel_rfl
theorem trieMaps_plain : ([25, 26, 9, 40].all fun u => !Tryz.prog.wantsStandIn u) = true := by kernel_rfl
theorem trieMaps_card_holds : Rows.TrieMapsCardSaid :=
 Claim7.holds_tied_plain_at .later [] [.data, .data, .sentinel] true Rows.trieMapsCard.stood.harness false
  trieMaps_holds (fun _ h => by cases h) trieMaps_wfText (fun _ h => by cases h) trieMaps_row_tie rfl ⟨rfl, rfl⟩ trieMaps_main trieMaps_har
  (fun f fn hf hfn => by
   obtain rfl : f = 9 := (Option.some.inj (trieMaps_named.symm.trans hf)).symm
   obtain rfl : fn = Tryz.f9 := (Option.some.inj (Tryz.func9.symm.trans hfn)).symm
   exact ⟨trieMaps_looks, fun j t ht => by
    rw [Tryz.params9] at ht
    have hm : t ∈ [25, 26, 9, 40] := by simpa using Array.mem_of_getElem? ht
    exact (show Tryz.prog.wantsStandIn t = false by simpa using List.all_eq_true.1 trieMaps_plain t hm)⟩)
  trieMaps_goes
#print axioms trieMaps_card_holds
end Go.Proofs.YtbfjmimiigjenaaGreatDoor
