/-
A part of the proof of TrieParts: for every input the law returns true, and what was passed in reads as before; the listed package variables hold what the program's text lays. No further condition.
-/
import Derived.Test.YtbfjmimiigjenaaGreatDoorRows
import Derived.Test.YtbfjmimiigjenaaGreatDoorCards
import Derived.KernelRfl
import Derived.Test.YtbfjmimiigjenaaGreatDoorTie
import Derived.SevenTiedAt
import Derived.Test.YtbfjmimiigjenaaGreatDoorKG13
import Derived.Test.YtbfjmimiigjenaaGreatDoorKVZ
set_option maxRecDepth 100000
set_option linter.unusedVariables false
set_option linter.unusedSimpArgs false
namespace Go.Proofs.YtbfjmimiigjenaaGreatDoor
open Go V RowKit
set_option maxHeartbeats 1000000 in
theorem parts_walk (w : World) (hG : Glob w) (A : Option Addr) (c : Nat) (names : List Str) (hA : Sl kStr w A c names) (B : Option Addr) (d : Nat) (others : List Str) (hB : Sl kStr w B d others)
  (C : Option Addr) (e : Nat) (sums : List Sum) (hC : Sl kSum w C e sums) (D : Option Addr) (f : Nat) (more : List Sum) (hD : Sl kSum w D f more) (begin : Str) :
  Gives Tryz.prog 10 [.slice A names.length c, .slice B others.length d, .slice C sums.length e, .slice D more.length f, strV begin] w .tt := by
 have hlim : lim = 140737488351232 := rfl
 have hz31 : (Tryz.t31).size = 1 := by kernel_rfl
 have hz1 : (Tryz.t9).size = 1 := by kernel_rfl
 have hz32 : (Tryz.t40).size = 32 := by kernel_rfl
 have hsC := hC.small
 have hsD := hD.small
 refine enterH tk [(0, slE A names.length c), (1, slE B others.length d), (2, slE C sums.length e), (3, slE D more.length f), (4, strE begin)] Tryz.func10 rfl Tryz.ntmps10 rfl rfl ?_
 refine RH.a [] ?_
 refine RH.gv (boE (greatB names)) rfl rfl rfl Tryz.call47 (fun u hu => great_spec u A c names (hA.ext hu.fact)) ?_
 intro m1 hm1
 cases hgr : greatB names with
 | true =>
  refine RH.adv tk [true] rfl rfl (by simp [hgr]) ?_
  refine RH.gv .tt rfl rfl rfl Tryz.call30 (fun u hu => awake_spec u (hG.ext hu.fact)) ?_
  intro m9 hm9
  refine RH.a [] ?_
  refine RH.ret1 Tryz.func10 rfl rfl fun u hu => ⟨rfl, hu.fact⟩
 | false =>
 refine RH.adv tk [false] rfl rfl (by simp [hgr]) ?_
 refine RH.gv (boE (greatB others)) rfl rfl rfl Tryz.call47 (fun u hu => great_spec u B d others (hB.ext hu.fact)) ?_
 intro m2 hm2
 cases hgo : greatB others with
 | true =>
  refine RH.adv tk [true] rfl rfl (by simp [hgo]) ?_
  refine RH.gv .tt rfl rfl rfl Tryz.call30 (fun u hu => awake_spec u (hG.ext hu.fact)) ?_
  intro m9 hm9
  refine RH.a [] ?_
  refine RH.ret1 Tryz.func10 rfl rfl fun u hu => ⟨rfl, hu.fact⟩
 | false =>
 by_cases h2 : 620 < sums.length
 ·refine RH.adv tk [false, true] rfl rfl (by simp [hgo, h2] <;> omega) ?_
  refine RH.gv .tt rfl rfl rfl Tryz.call30 (fun u hu => awake_spec u (hG.ext hu.fact)) ?_
  intro m9 hm9
  refine RH.a [] ?_
  refine RH.ret1 Tryz.func10 rfl rfl fun u hu => ⟨rfl, hu.fact⟩
 by_cases h3 : 620 < more.length
 ·refine RH.adv tk [false, false, true] rfl rfl (by simp [hgo, h2, h3] <;> omega) ?_
  refine RH.gv .tt rfl rfl rfl Tryz.call30 (fun u hu => awake_spec u (hG.ext hu.fact)) ?_
  intro m9 hm9
  refine RH.a [] ?_
  refine RH.ret1 Tryz.func10 rfl rfl fun u hu => ⟨rfl, hu.fact⟩
 by_cases h4 : 100 < begin.length
 ·refine RH.adv tk [false, false, false, true] rfl rfl (by simp [hgo, h2, h3, h4] <;> omega) ?_
  refine RH.gv .tt rfl rfl rfl Tryz.call30 (fun u hu => awake_spec u (hG.ext hu.fact)) ?_
  intro m9 hm9
  refine RH.a [] ?_
  refine RH.ret1 Tryz.func10 rfl rfl fun u hu => ⟨rfl, hu.fact⟩
 refine RH.adv tk [false, false, false, false] rfl rfl (by simp [hgo, h2, h3, h4] <;> omega) ?_
 have gs := GoodO.from (names := names) (sums := sums)
 have gt := GoodO.from (names := others) (sums := more)
 have hFrom1 := From_spec A c names C e sums
 have hrFrom1 := rFrom_spec A c names C e sums
 have hFrom2 := From_spec B d others D f more
 have hrFrom2 := rFrom_spec B d others D f more
 generalize fromE names sums = es at *
 generalize (if es = 0 then fromO (names.zip sums) else none) = s at *
 generalize fromE others more = et at *
 generalize (if et = 0 then fromO (others.zip more) else none) = t at *
 have ga := gs.below begin
 have hBelow := fun p => Below_spec p s gs.ok gs.low1000 begin (by omega)
 have hrBelow := fun z => rBelow_spec z s gs.wf (Nat.le_trans gs.many (by decide)) begin
 generalize fromO (belowL begin (enO s)) = a at *
 generalize (if belowL begin (enO s) = [] then (6 : Int) else 0) = ea at *
 have gc := gs.union gt
 have hUnion := fun p q => Union_spec p s q t gs.ok gs.low1000 gt.ok gt.low1000 (Nat.le_trans gs.many (by decide)) (Nat.le_trans gt.many (by decide))
 have hrUnion := fun y z => rUnion_spec y z s t gs.wf gt.wf (Nat.le_trans gs.many (by decide)) (Nat.le_trans gt.many (by decide))
 generalize unionE s t = ec at *
 generalize (if ec = 0 then fromO (enO s ++ enO t) else none) = uc at *
 have hDiff := fun p q => Diff_spec p s q t gs.ok gs.low1000 gt.ok gt.low1000 (Nat.le_trans gs.many (by decide)) (Nat.le_trans gt.many (by decide))
 have hrDiff := fun y z => rDiff_spec y z s t gs.wf gt.wf (Nat.le_trans gs.many (by decide)) (Nat.le_trans gt.many (by decide))
 obtain ⟨hLl, _⟩ := diff_fit gs gt
 generalize diffL s t = L at *
 refine RH.dd [] 11 (fun z : At2 => .av (.val (.tuple #[(rmE z (ksO s) (xsO s)).v, intV es]))) rfl rfl rfl Tryz.call48 hrFrom1 (fun u hu => ⟨hA.ext (hu.fact), hC.ext (hu.fact)⟩) ?_
 intro zv n1 hn1
 refine V.RH.know (fun u => (Ext w u ∧ RM u zv (ksO s) (xsO s))) (fun u h => ⟨h.1, h.2.now trivial⟩) ?_
 refine RH.adv tk [] rfl rfl (by first | (simp [hz1, hz32]; done) | (simp [hz31, Value.oneCell'] <;> omega)) ?_
 refine V.RH.slotE 51 (rmE zv (ksO s) (xsO s)) rfl rfl ?_
 refine RH.adv tk [] rfl rfl (by first | (simp [hz1, hz32]; done) | (simp [hz31, Value.oneCell'] <;> omega)) ?_
 refine RH.tell [(0, slE A names.length c), (1, slE B others.length d), (2, slE C sums.length e), (3, slE D more.length f), (4, strE begin), (11, .av (.box 11 n1 0)), (12, intE es), (54, slE B others.length d), (55, slE D more.length f)] [(11, some (.box n1 (rmF zv (ksO s) (xsO s)) 81))] [] rfl rfl rfl 13 ?_
 refine RH.dd [] 13 (fun z : At2 => .av (.val (.tuple #[(rmE z (ksO t) (xsO t)).v, intV et]))) rfl rfl rfl Tryz.call48 hrFrom2 (fun u hu => ⟨hB.ext (hu.fact.1), hD.ext (hu.fact.1)⟩) ?_
 intro zw n2 hn2
 refine V.RH.know (fun u => ((Ext w u ∧ RM u zv (ksO s) (xsO s)) ∧ RM u zw (ksO t) (xsO t))) (fun u h => ⟨h.1, h.2.now trivial⟩) ?_
 refine RH.adv tk [] rfl rfl (by first | (simp [hz1, hz32]; done) | (simp [hz31, Value.oneCell'] <;> omega)) ?_
 refine V.RH.slotE 57 (rmE zw (ksO t) (xsO t)) rfl rfl ?_
 refine RH.adv tk [] rfl rfl (by first | (simp [hz1, hz32]; done) | (simp [hz31, Value.oneCell'] <;> omega)) ?_
 by_cases h0 : es = 0
 case neg =>
  refine RH.adv tk [true] rfl rfl (by simp [h0]) ?_
  refine RH.gv .tt rfl rfl rfl Tryz.call30 (fun u hu => awake_spec u (hG.ext (hu.fact.1.1))) ?_
  intro m9 hm9
  refine RH.a [] ?_
  refine RH.ret1 Tryz.func10 rfl rfl fun u hu => ⟨rfl, (hu.fact.1.1)⟩
 subst h0
 by_cases h1 : et = 0
 case neg =>
  refine RH.adv tk [false, true] rfl rfl (by simp [h1]) ?_
  refine RH.gv .tt rfl rfl rfl Tryz.call30 (fun u hu => awake_spec u (hG.ext (hu.fact.1.1))) ?_
  intro m9 hm9
  refine RH.a [] ?_
  refine RH.ret1 Tryz.func10 rfl rfl fun u hu => ⟨rfl, (hu.fact.1.1)⟩
 subst h1
 refine RH.a [false, false] ?_
 refine RH.tell [(0, slE A names.length c), (1, slE B others.length d), (2, slE C sums.length e), (3, slE D more.length f), (4, strE begin), (11, .av (.box 11 n1 0)), (12, intE 0), (13, .av (.box 13 n2 0)), (14, intE 0), (67, slE A names.length c), (68, slE C sums.length e)] [(11, some (.box n1 (rmF zv (ksO s) (xsO s)) 81)), (13, some (.box n2 (rmF zw (ksO t) (xsO t)) 81))] [] rfl rfl rfl 15 ?_
 refine RH.dd [] 15 (fun o : Option Plot => .av (.val (.tuple #[.agg #[ptrO o], intV 0]))) rfl rfl rfl Tryz.call17 hFrom1 (fun u hu => ⟨hG.ext (hu.fact.1.1), hA.ext (hu.fact.1.1), hC.ext (hu.fact.1.1)⟩) ?_
 intro pm n3 hn3
 refine V.RH.know (fun u => (((Ext w u ∧ RM u zv (ksO s) (xsO s)) ∧ RM u zw (ksO t) (xsO t)) ∧ IsO u pm s)) (fun u h => ⟨h.1, h.2.now trivial⟩) ?_
 refine RH.adv tk [] rfl rfl (by first | (simp [hz1, hz32]; done) | (simp [hz31, Value.oneCell'] <;> omega)) ?_
 refine V.RH.slotE 70 (mapE pm) rfl rfl ?_
 refine RH.adv tk [] rfl rfl (by first | (simp [hz1, hz32]; done) | (simp [hz31, Value.oneCell'] <;> omega)) ?_
 refine RH.tell [(0, slE A names.length c), (1, slE B others.length d), (2, slE C sums.length e), (3, slE D more.length f), (4, strE begin), (11, .av (.box 11 n1 0)), (13, .av (.box 13 n2 0)), (14, intE 0), (15, .av (.box 15 n3 0)), (12, intE 0), (73, slE B others.length d), (74, slE D more.length f)] [(11, some (.box n1 (rmF zv (ksO s) (xsO s)) 81)), (13, some (.box n2 (rmF zw (ksO t) (xsO t)) 81)), (15, some (.box n3 ([.val (ptrO pm)]) 31))] [] rfl rfl rfl 16 ?_
 refine RH.dd [] 16 (fun o : Option Plot => .av (.val (.tuple #[.agg #[ptrO o], intV 0]))) rfl rfl rfl Tryz.call17 hFrom2 (fun u hu => ⟨hG.ext (hu.fact.1.1.1), hB.ext (hu.fact.1.1.1), hD.ext (hu.fact.1.1.1)⟩) ?_
 intro pn n4 hn4
 refine V.RH.know (fun u => ((((Ext w u ∧ RM u zv (ksO s) (xsO s)) ∧ RM u zw (ksO t) (xsO t)) ∧ IsO u pm s) ∧ IsO u pn t)) (fun u h => ⟨h.1, h.2.now trivial⟩) ?_
 refine RH.adv tk [] rfl rfl (by first | (simp [hz1, hz32]; done) | (simp [hz31, Value.oneCell'] <;> omega)) ?_
 refine V.RH.slotE 76 (mapE pn) rfl rfl ?_
 refine RH.adv tk [] rfl rfl (by first | (simp [hz1, hz32]; done) | (simp [hz31, Value.oneCell'] <;> omega)) ?_
 refine RH.a [false, false] ?_
 refine RH.tell [(0, slE A names.length c), (1, slE B others.length d), (2, slE C sums.length e), (3, slE D more.length f), (4, strE begin), (11, .av (.box 11 n1 0)), (13, .av (.box 13 n2 0)), (15, .av (.box 15 n3 0)), (12, intE 0), (16, .av (.box 16 n4 0)), (14, intE 0), (85, mapE pm), (86, strE begin)] [(11, some (.box n1 (rmF zv (ksO s) (xsO s)) 81)), (13, some (.box n2 (rmF zw (ksO t) (xsO t)) 81)), (15, some (.box n3 ([.val (ptrO pm)]) 31)), (16, some (.box n4 ([.val (ptrO pn)]) 31))] [] rfl rfl rfl 17 ?_
 refine RH.dd [] 17 (fun o : Option Plot => .av (.val (.tuple #[.agg #[ptrO o], intV ea]))) rfl rfl rfl Tryz.call31 (hBelow pm) (fun u hu => ⟨hG.ext (hu.fact.1.1.1.1), hu.fact.1.2⟩) ?_
 intro pa n5 hn5
 refine V.RH.know (fun u => (((((Ext w u ∧ RM u zv (ksO s) (xsO s)) ∧ RM u zw (ksO t) (xsO t)) ∧ IsO u pm s) ∧ IsO u pn t) ∧ IsO u pa a)) (fun u h => ⟨h.1, h.2.now trivial⟩) ?_
 refine RH.adv tk [] rfl rfl (by first | (simp [hz1, hz32]; done) | (simp [hz31, Value.oneCell'] <;> omega)) ?_
 refine V.RH.slotE 88 (mapE pa) rfl rfl ?_
 refine RH.adv tk [] rfl rfl (by first | (simp [hz1, hz32]; done) | (simp [hz31, Value.oneCell'] <;> omega)) ?_
 refine RH.tell [(0, slE A names.length c), (1, slE B others.length d), (2, slE C sums.length e), (3, slE D more.length f), (4, strE begin), (11, .av (.box 11 n1 0)), (13, .av (.box 13 n2 0)), (15, .av (.box 15 n3 0)), (16, .av (.box 16 n4 0)), (14, intE 0), (17, .av (.box 17 n5 0)), (12, intE ea), (91, rmE zv (ksO s) (xsO s)), (92, strE begin)] [(11, some (.box n1 (rmF zv (ksO s) (xsO s)) 81)), (13, some (.box n2 (rmF zw (ksO t) (xsO t)) 81)), (15, some (.box n3 ([.val (ptrO pm)]) 31)), (16, some (.box n4 ([.val (ptrO pn)]) 31)), (17, some (.box n5 ([.val (ptrO pa)]) 31))] [] rfl rfl rfl 18 ?_
 refine RH.dd [] 18 (fun z : At2 => .av (.val (.tuple #[(rmE z (ksO a) (xsO a)).v, intV ea]))) rfl rfl rfl Tryz.call64 (hrBelow zv) (fun u hu => hu.fact.1.1.1.1.2) ?_
 intro za n6 hn6
 refine V.RH.know (fun u => ((((((Ext w u ∧ RM u zv (ksO s) (xsO s)) ∧ RM u zw (ksO t) (xsO t)) ∧ IsO u pm s) ∧ IsO u pn t) ∧ IsO u pa a) ∧ RM u za (ksO a) (xsO a))) (fun u h => ⟨h.1, h.2.now trivial⟩) ?_
 refine RH.adv tk [] rfl rfl (by first | (simp [hz1, hz32]; done) | (simp [hz31, Value.oneCell'] <;> omega)) ?_
 refine V.RH.slotE 94 (rmE za (ksO a) (xsO a)) rfl rfl ?_
 refine RH.adv tk [] rfl rfl (by first | (simp [hz1, hz32]; done) | (simp [hz31, Value.oneCell'] <;> omega)) ?_
 refine RH.tell [(0, slE A names.length c), (1, slE B others.length d), (2, slE C sums.length e), (3, slE D more.length f), (4, strE begin), (11, .av (.box 11 n1 0)), (13, .av (.box 13 n2 0)), (15, .av (.box 15 n3 0)), (16, .av (.box 16 n4 0)), (17, .av (.box 17 n5 0)), (12, intE ea), (18, .av (.box 18 n6 0)), (14, intE ea), (97, mapE pm), (98, mapE pn)] [(11, some (.box n1 (rmF zv (ksO s) (xsO s)) 81)), (13, some (.box n2 (rmF zw (ksO t) (xsO t)) 81)), (15, some (.box n3 ([.val (ptrO pm)]) 31)), (16, some (.box n4 ([.val (ptrO pn)]) 31)), (17, some (.box n5 ([.val (ptrO pa)]) 31)), (18, some (.box n6 (rmF za (ksO a) (xsO a)) 81))] [] rfl rfl rfl 19 ?_
 refine RH.dd [] 19 (fun o : Option Plot => .av (.val (.tuple #[.agg #[ptrO o], intV ec]))) rfl rfl rfl Tryz.call34 (hUnion pm pn) (fun u hu => ⟨hG.ext (hu.fact.1.1.1.1.1.1), hu.fact.1.1.1.2, hu.fact.1.1.2⟩) ?_
 intro pc n7 hn7
 refine V.RH.know (fun u => (((((((Ext w u ∧ RM u zv (ksO s) (xsO s)) ∧ RM u zw (ksO t) (xsO t)) ∧ IsO u pm s) ∧ IsO u pn t) ∧ IsO u pa a) ∧ RM u za (ksO a) (xsO a)) ∧ IsO u pc uc)) (fun u h => ⟨h.1, h.2.now trivial⟩) ?_
 refine RH.adv tk [] rfl rfl (by first | (simp [hz1, hz32]; done) | (simp [hz31, Value.oneCell'] <;> omega)) ?_
 refine V.RH.slotE 100 (mapE pc) rfl rfl ?_
 refine RH.adv tk [] rfl rfl (by first | (simp [hz1, hz32]; done) | (simp [hz31, Value.oneCell'] <;> omega)) ?_
 refine RH.tell [(0, slE A names.length c), (1, slE B others.length d), (2, slE C sums.length e), (3, slE D more.length f), (4, strE begin), (11, .av (.box 11 n1 0)), (13, .av (.box 13 n2 0)), (15, .av (.box 15 n3 0)), (16, .av (.box 16 n4 0)), (17, .av (.box 17 n5 0)), (12, intE ea), (18, .av (.box 18 n6 0)), (14, intE ea), (19, .av (.box 19 n7 0)), (20, intE ec), (103, rmE zv (ksO s) (xsO s)), (104, rmE zw (ksO t) (xsO t))] [(11, some (.box n1 (rmF zv (ksO s) (xsO s)) 81)), (13, some (.box n2 (rmF zw (ksO t) (xsO t)) 81)), (15, some (.box n3 ([.val (ptrO pm)]) 31)), (16, some (.box n4 ([.val (ptrO pn)]) 31)), (17, some (.box n5 ([.val (ptrO pa)]) 31)), (18, some (.box n6 (rmF za (ksO a) (xsO a)) 81)), (19, some (.box n7 ([.val (ptrO pc)]) 31))] [] rfl rfl rfl 21 ?_
 refine RH.dd [] 21 (fun z : At2 => .av (.val (.tuple #[(rmE z (ksO uc) (xsO uc)).v, intV ec]))) rfl rfl rfl Tryz.call65 (hrUnion zv zw) (fun u hu => ⟨hu.fact.1.1.1.1.1.1.2, hu.fact.1.1.1.1.1.2⟩) ?_
 intro zc n8 hn8
 refine V.RH.know (fun u => ((((((((Ext w u ∧ RM u zv (ksO s) (xsO s)) ∧ RM u zw (ksO t) (xsO t)) ∧ IsO u pm s) ∧ IsO u pn t) ∧ IsO u pa a) ∧ RM u za (ksO a) (xsO a)) ∧ IsO u pc uc) ∧ RM u zc (ksO uc) (xsO uc))) (fun u h => ⟨h.1, h.2.now h.1.1.1.1.1.1.1.2⟩) ?_
 refine RH.adv tk [] rfl rfl (by first | (simp [hz1, hz32]; done) | (simp [hz31, Value.oneCell'] <;> omega)) ?_
 refine V.RH.slotE 106 (rmE zc (ksO uc) (xsO uc)) rfl rfl ?_
 refine RH.adv tk [] rfl rfl (by first | (simp [hz1, hz32]; done) | (simp [hz31, Value.oneCell'] <;> omega)) ?_
 refine RH.tell [(0, slE A names.length c), (1, slE B others.length d), (2, slE C sums.length e), (3, slE D more.length f), (4, strE begin), (11, .av (.box 11 n1 0)), (13, .av (.box 13 n2 0)), (15, .av (.box 15 n3 0)), (16, .av (.box 16 n4 0)), (17, .av (.box 17 n5 0)), (12, intE ea), (18, .av (.box 18 n6 0)), (14, intE ea), (19, .av (.box 19 n7 0)), (20, intE ec), (21, .av (.box 21 n8 0)), (22, intE ec), (108, mapE pm), (109, mapE pn)] [(11, some (.box n1 (rmF zv (ksO s) (xsO s)) 81)), (13, some (.box n2 (rmF zw (ksO t) (xsO t)) 81)), (15, some (.box n3 ([.val (ptrO pm)]) 31)), (16, some (.box n4 ([.val (ptrO pn)]) 31)), (17, some (.box n5 ([.val (ptrO pa)]) 31)), (18, some (.box n6 (rmF za (ksO a) (xsO a)) 81)), (19, some (.box n7 ([.val (ptrO pc)]) 31)), (21, some (.box n8 (rmF zc (ksO uc) (xsO uc)) 81))] [] rfl rfl rfl 40 ?_
 refine RH.dd [] 41 (fun z : Option Addr × Nat => rowS 40 z.1 L.length z.2) rfl rfl rfl Tryz.call53 (hDiff pm pn) (fun u hu => ⟨hu.fact.1.1.1.1.1.2, hu.fact.1.1.1.1.2⟩) ?_
 rintro ⟨A1, c1⟩ n9 hn9
 refine RH.drop ?_
 refine V.RH.know (fun u => ((((((((Ext w u ∧ RM u zv (ksO s) (xsO s)) ∧ RM u zw (ksO t) (xsO t)) ∧ IsO u pm s) ∧ IsO u pn t) ∧ IsO u pa a) ∧ RM u za (ksO a) (xsO a)) ∧ IsO u pc uc) ∧ RM u zc (ksO uc) (xsO uc))) (fun u h => h) ?_
 refine RH.a [] ?_
 refine RH.tell [(0, slE A names.length c), (1, slE B others.length d), (2, slE C sums.length e), (3, slE D more.length f), (4, strE begin), (11, .av (.box 11 n1 0)), (13, .av (.box 13 n2 0)), (15, .av (.box 15 n3 0)), (16, .av (.box 16 n4 0)), (17, .av (.box 17 n5 0)), (12, intE ea), (18, .av (.box 18 n6 0)), (14, intE ea), (19, .av (.box 19 n7 0)), (20, intE ec), (21, .av (.box 21 n8 0)), (22, intE ec), (23, rowS 40 A1 L.length c1), (111, rowS 40 A1 L.length c1), (112, rmE zv (ksO s) (xsO s)), (113, rmE zw (ksO t) (xsO t))] [(11, some (.box n1 (rmF zv (ksO s) (xsO s)) 81)), (13, some (.box n2 (rmF zw (ksO t) (xsO t)) 81)), (15, some (.box n3 ([.val (ptrO pm)]) 31)), (16, some (.box n4 ([.val (ptrO pn)]) 31)), (17, some (.box n5 ([.val (ptrO pa)]) 31)), (18, some (.box n6 (rmF za (ksO a) (xsO a)) 81)), (19, some (.box n7 ([.val (ptrO pc)]) 31)), (21, some (.box n8 (rmF zc (ksO uc) (xsO uc)) 81)), (40, rowE kTCh A1 c1 L)] [] rfl rfl rfl 41 ?_
 refine RH.dd [] 42 (fun z : Option Addr × Nat => rowS 41 z.1 L.length z.2) rfl rfl rfl Tryz.call67 (hrDiff zv zw) (fun u hu => ⟨hu.fact.1.1.1.1.1.1.1.2, hu.fact.1.1.1.1.1.1.2⟩) ?_
 rintro ⟨A2, c2⟩ n10 hn10
 refine RH.drop ?_
 refine V.RH.know (fun u => ((((((((Ext w u ∧ RM u zv (ksO s) (xsO s)) ∧ RM u zw (ksO t) (xsO t)) ∧ IsO u pm s) ∧ IsO u pn t) ∧ IsO u pa a) ∧ RM u za (ksO a) (xsO a)) ∧ IsO u pc uc) ∧ RM u zc (ksO uc) (xsO uc))) (fun u h => h) ?_
 refine RH.a [] ?_
 refine RH.tell [(0, slE A names.length c), (1, slE B others.length d), (2, slE C sums.length e), (3, slE D more.length f), (4, strE begin), (11, .av (.box 11 n1 0)), (13, .av (.box 13 n2 0)), (15, .av (.box 15 n3 0)), (16, .av (.box 16 n4 0)), (17, .av (.box 17 n5 0)), (12, intE ea), (18, .av (.box 18 n6 0)), (14, intE ea), (19, .av (.box 19 n7 0)), (20, intE ec), (21, .av (.box 21 n8 0)), (22, intE ec), (23, rowS 40 A1 L.length c1), (111, rowS 40 A1 L.length c1), (114, rowS 41 A2 L.length c2)] [(11, some (.box n1 (rmF zv (ksO s) (xsO s)) 81)), (13, some (.box n2 (rmF zw (ksO t) (xsO t)) 81)), (15, some (.box n3 ([.val (ptrO pm)]) 31)), (16, some (.box n4 ([.val (ptrO pn)]) 31)), (17, some (.box n5 ([.val (ptrO pa)]) 31)), (18, some (.box n6 (rmF za (ksO a) (xsO a)) 81)), (19, some (.box n7 ([.val (ptrO pc)]) 31)), (21, some (.box n8 (rmF zc (ksO uc) (xsO uc)) 81)), (40, rowE kTCh A1 c1 L), (41, rowE kRCh A2 c2 L)] [] rfl rfl rfl 42 ?_
 refine RH.gv .tt rfl rfl rfl Tryz.call66 (fun u hu => eqChg_spec u A1 A2 c1 c2 L (Sl.own (B := w.heap.size) (hu.row (κ := kTCh) (l := L) (id := 40) rfl) (by omega)) (Sl.own (B := w.heap.size) (hu.row (κ := kRCh) (l := L) (id := 41) rfl) (by omega)) 68 (fun xs u => Tryz.call68 xs u) parts1_spec) ?_
 intro n77 hn77
 refine RH.a [] ?_
 refine RH.tell [(0, slE A names.length c), (1, slE B others.length d), (2, slE C sums.length e), (3, slE D more.length f), (4, strE begin), (11, .av (.box 11 n1 0)), (13, .av (.box 13 n2 0)), (15, .av (.box 15 n3 0)), (16, .av (.box 16 n4 0)), (17, .av (.box 17 n5 0)), (12, intE ea), (18, .av (.box 18 n6 0)), (14, intE ea), (19, .av (.box 19 n7 0)), (20, intE ec), (21, .av (.box 21 n8 0)), (22, intE ec), (24, .tt)] [(11, some (.box n1 (rmF zv (ksO s) (xsO s)) 81)), (13, some (.box n2 (rmF zw (ksO t) (xsO t)) 81)), (15, some (.box n3 ([.val (ptrO pm)]) 31)), (16, some (.box n4 ([.val (ptrO pn)]) 31)), (17, some (.box n5 ([.val (ptrO pa)]) 31)), (18, some (.box n6 (rmF za (ksO a) (xsO a)) 81)), (19, some (.box n7 ([.val (ptrO pc)]) 31)), (21, some (.box n8 (rmF zc (ksO uc) (xsO uc)) 81))] [] rfl rfl rfl 42 ?_
 refine RH.w [(11, some (.box n1 (rmF zv (ksO s) (xsO s)) 81)), (13, some (.box n2 (rmF zw (ksO t) (xsO t)) 81)), (15, some (.box n3 ([.val (ptrO pm)]) 31)), (16, some (.box n4 ([.val (ptrO pn)]) 31)), (17, some (.box n5 ([.val (ptrO pa)]) 31)), (18, some (.box n6 (rmF za (ksO a) (xsO a)) 81)), (19, some (.box n7 ([.val (ptrO pc)]) 31)), (21, some (.box n8 (rmF zc (ksO uc) (xsO uc)) 81))] 48 ?_
 refine RD.a [true] ?_
 refine RD.gv 7 (sumE (sum1 7)) rfl rfl rfl Tryz.call21 (fun u hu => one3_spec u _) ?_
 intro q7 hq7
 refine RD.gv 8 .tt rfl rfl rfl Tryz.call62 (fun u hu => lives_spec u (hG.ext (hu.fact.1.1.1.1.1.1.1.1)) pa a hu.fact.1.1.1.2 za hu.fact.1.1.2 ga begin (by omega) (sum1 7)) ?_
 intro q8 hq8
 refine RD.a [] ?_
 refine RD.a [true] ?_
 refine RD.gv 19 (sumE (sum1 7)) rfl rfl rfl Tryz.call21 (fun u hu => one3_spec u _) ?_
 intro q19 hq19
 refine RD.gv 20 .tt rfl rfl rfl Tryz.call62 (fun u hu => lives_spec u (hG.ext (hu.fact.1.1.1.1.1.1.1.1)) pc uc hu.fact.1.2 zc hu.fact.2 gc begin (by omega) (sum1 7)) ?_
 intro q20 hq20
 refine RD.a [] ?_
 refine RD.gv 28 (boE (decide (enO s = enO t))) rfl rfl rfl Tryz.call23 (fun u hu => TSame_spec u pm s pn t hu.fact.1.1.1.1.1.2 gs.ok gs.low1000 hu.fact.1.1.1.1.2 gt.ok gt.low1000) ?_
 intro q28 hq28
 refine RD.a [] ?_
 refine RD.gv 31 (boE (decide (enO s = enO t))) rfl rfl rfl Tryz.call63 (fun u hu => rSame_spec u zv zw (enO s) (enO t) hu.fact.1.1.1.1.1.1.1.2 hu.fact.1.1.1.1.1.1.2) ?_
 intro q31 hq31
 refine RD.a [] ?_
 refine RD.a [true] ?_
 refine RD.gv 37 .tt rfl rfl rfl Tryz.call57 (fun u hu => alike_spec u (hG.ext (hu.fact.1.1.1.1.1.1.1.1)) pm s hu.fact.1.1.1.1.1.2 zv hu.fact.1.1.1.1.1.1.1.2 gs) ?_
 intro q37 hq37
 refine RD.a [] ?_
 refine RD.gv 42 .tt rfl rfl rfl Tryz.call57 (fun u hu => alike_spec u (hG.ext (hu.fact.1.1.1.1.1.1.1.1)) pn t hu.fact.1.1.1.1.2 zw hu.fact.1.1.1.1.1.1.2 gt) ?_
 intro q42 hq42
 refine RD.a [] ?_
 refine RD.gv 45 .tt rfl rfl rfl Tryz.call30 (fun u hu => awake_spec u (hG.ext (hu.fact.1.1.1.1.1.1.1.1))) ?_
 intro q45 hq45
 refine RD.a [] ?_
 refine RD.e ?_
 refine RH.ret1 Tryz.func10 rfl rfl fun u hu => ⟨rfl, (hu.fact.1.1.1.1.1.1.1.1)⟩
open Go V RowKit Go.ChangeShapes Go.WideShapes Go.ChangeAt
theorem trieParts_lifted (os : Os) (started : os.Started) (H : Type) (enc : TypeId × Value → H) :
  ReturnsInHanded {} Tryz.checked os 10 .any (fun w args => (Rows.triePartsSpec.pre enc Tryz.prog Tryz.f10 [] false w args ∧ laidMetH Tryz.prog Rows.triePartsRow.laid w) ∧ sizedMet enc Tryz.prog Tryz.f10 (OpenSpec.ofChange Rows.triePartsSpec) false w args)
   (Rows.triePartsSpec.post enc Tryz.prog Tryz.f10 false true false false) := by
 refine wrap (C := Tryz.checked) (X := fun w _ => laidMetH Tryz.prog Rows.triePartsRow.laid w) (fun _ _ _ hh h => h.of_heap hh) ownKnobs started (by kernel_rfl) Tryz.func10
  (ChangeSpec.witness_shaped (enc := enc) (C := Tryz.checked) (os := os) (X := fun w _ => laidMetH Tryz.prog Rows.triePartsRow.laid w) false (World.laidAll Tryz.prog os Rows.triePartsRow.laid)
   #[.slice none 0 0, .slice none 0 0, .slice none 0 0, .slice none 0 0, .string ⟨#[]⟩] 8 (World.laidAll_os _ _ _)
   (World.shaped_of_ZipB (by kernel_rfl) (by kernel_rfl)) (by kernel_rfl) (by kernel_rfl) (by kernel_rfl)
   (by rw [MakeChecks.laidMetH_plain _ _ _ (by kernel_rfl)]; exact laidMet_laidAll _ (by kernel_rfl) (by kernel_rfl))) ?_
 intro W base args ds gs before hval0 hW hsz0 hL hS
 have hval : ∀ (j : Nat) t v, Tryz.f10.params[j]? = some t → args[j]? = some v → Value.okWide Tryz.prog W .any base t v := hval0
 have hsz : (DataW.weightsEach Tryz.prog (Tryz.f10.params.toList ++ Rows.triePartsSpec.plain.varTypes Tryz.prog) (ds ++ gs)).all (· ≤ reachBytes) = true := hsz0
 have hW' := hW
 obtain ⟨p, q, hA0, hV, rfl, _, _⟩ := hW
 have hA : DataW.TrodAll enc Tryz.prog W 0 (fun _ => true) true Tryz.f10.params.toList args.toList ds p := hA0
 rw [Tryz.params10] at hA hval hsz
 obtain ⟨v0, v1, v2, v3, v4, d0, d1, d2, d3, d4, p0, p1, p2, p3, p4, rfl, rfl, rfl, h0, h1, h2, h3, h4⟩ := trodAll_five hA
 obtain ⟨rfl, rfl⟩ := trodVars_none hV
 have wt : ∀ {j : Nat} {t : TypeId} {d : DataW H}, [25, 25, 26, 26, 9][j]? = some t → [d0, d1, d2, d3, d4][j]? = some d → ∀ n ∈ d.weights Tryz.prog t, n ≤ reachBytes := by
  intro j t d ht hd n hn
  exact of_decide_eq_true (List.all_eq_true.1 hsz _ (DataW.weights_mem_each ht hd n hn))
 obtain ⟨x0, rfl, hx0⟩ := open_strs h0 (wt (j := 0) rfl rfl) (hval 0 _ v0 rfl rfl)
 obtain ⟨x1, rfl, hx1⟩ := open_strs h1 (wt (j := 1) rfl rfl) (hval 1 _ v1 rfl rfl)
 obtain ⟨x2, rfl, hx2⟩ := open_sums h2 (wt (j := 2) rfl rfl) (hval 2 _ v2 rfl rfl)
 obtain ⟨x3, rfl, hx3⟩ := open_sums h3 (wt (j := 3) rfl rfl) (hval 3 _ v3 rfl rfl)
 obtain ⟨x4, rfl, _, _, _⟩ := ChangeMaps.open_string Tryz.underlying9 (hval 4 _ v4 rfl rfl) h4
 refine (parts_walk W (glob_of hS (show laidMetH Tryz.prog Rows.trieShapeRow.laid W from hL)) x0.A x0.c x0.l hx0 x1.A x1.c x1.l hx1 x2.A x2.c x2.l hx2 x3.A x3.c x3.l hx3 x4.data.toList).mono fun e W' ⟨he, hb⟩ => ?_
 subst he
 exact ⟨_, rfl, _, _, _, [], _, [], hW', trodAll_mk1 (shut_bool Tryz.underlying4 _),
  trodAll_mk5 (Below.trod laidOuts (by kernel_rfl) (of_decide_eq_true (by kernel_rfl)) h0 hb (fun y hy => hW'.lt y (by simp [hy]))) (Below.trod laidOuts (by kernel_rfl) (of_decide_eq_true (by kernel_rfl)) h1 hb (fun y hy => hW'.lt y (by simp [hy]))) (Below.trod laidOuts (by kernel_rfl) (of_decide_eq_true (by kernel_rfl)) h2 hb (fun y hy => hW'.lt y (by simp [hy]))) (Below.trod laidOuts (by kernel_rfl) (of_decide_eq_true (by kernel_rfl)) h3 hb (fun y hy => hW'.lt y (by simp [hy]))) (Below.trod laidOuts (by kernel_rfl) (of_decide_eq_true (by kernel_rfl)) h4 hb (fun y hy => hW'.lt y (by simp [hy]))), rfl, hb.frame _, fun h => by cases h⟩
end Go.Proofs.YtbfjmimiigjenaaGreatDoor
namespace Go.Proofs.YtbfjmimiigjenaaGreatDoor
open Go
theorem trieParts_c0 : (Rows.triePartsRow.wf (OpenSpec.ofChange Rows.triePartsSpec) : Bool) = true := by kernel_rfl
theorem trieParts_c1 : (laidOutB Tryz.prog : Bool) = true := by kernel_rfl
theorem trieParts_c2 : (mapsRowed Tryz.prog : Bool) = true := by kernel_rfl
theorem trieParts_c3 : (Tryz.f10.params.all (Tryz.prog.readableRec ·) : Bool) = true := by kernel_rfl
theorem trieParts_c4 : (namedTie Tryz.prog Rows.triePartsRow.named Rows.triePartsSpec.vars : Bool) = true := by kernel_rfl
theorem trieParts_c5 : (Rows.triePartsRow.stops == [] : Bool) = true := by kernel_rfl
theorem trieParts_c6 : (Tryz.prog.stops == [] : Bool) = true := by kernel_rfl
theorem trieParts_c7 : (Rows.triePartsRow.knobs == [] : Bool) = true := by kernel_rfl
theorem trieParts_c8 : (Tryz.prog.stopKnobs == [] : Bool) = true := by kernel_rfl
theorem trieParts_c9 : (Rows.triePartsRow.inPlace == Tryz.prog.inPlace 10 : Bool) = true := by kernel_rfl
theorem trieParts_c10 : (Rows.triePartsRow.unfollowed == Tryz.prog.unfollowed 10 : Bool) = true := by kernel_rfl
theorem trieParts_c11 : (Rows.triePartsRow.recurses == Tryz.prog.recurses 10 : Bool) = true := by kernel_rfl
theorem trieParts_c12 : (Rows.triePartsRow.named == Tryz.prog.varsNamed 10 : Bool) = true := by kernel_rfl
theorem trieParts_c13 : (Rows.triePartsRow.maps == (Tryz.f10.params.toList ++ Rows.triePartsSpec.plain.varTypes Tryz.prog).any (Tryz.prog.mapsRec ·) : Bool) = true := by kernel_rfl
theorem trieParts_c14 : (Rows.triePartsRow.ifaces == (Tryz.f10.params.toList ++ Rows.triePartsSpec.plain.varTypes Tryz.prog).any (Tryz.prog.ifacesRec ·) : Bool) = true := by kernel_rfl
theorem trieParts_c15 : (Rows.triePartsRow.mapsOut == Tryz.prog.mapsAmong Tryz.f10.resultTypes.toList : Bool) = true := by kernel_rfl
theorem trieParts_c16 : (Rows.triePartsRow.loops == (Tryz.f10.params.toList ++ Rows.triePartsSpec.plain.varTypes Tryz.prog).any (Tryz.prog.loopsFrom ·) : Bool) = true := by kernel_rfl
theorem trieParts_c17 : (Rows.triePartsRow.wideKeys == (Tryz.f10.params.toList ++ Rows.triePartsSpec.plain.varTypes Tryz.prog ++ Tryz.f10.resultTypes.toList).any (Tryz.prog.wideKeysFrom ·) : Bool) = true := by kernel_rfl
theorem trieParts_c18 : (Rows.triePartsSpec.vars.all (Tryz.prog.varReadable ·) : Bool) = true := by kernel_rfl
theorem trieParts_c19 : (Tryz.f10.resultTypes.all (fun t => Tryz.prog.readableRec t && decide (t < Tryz.prog.types.size)) : Bool) = true := by kernel_rfl
theorem trieParts_c20 : (Rows.triePartsRow.ifacesOut == Tryz.f10.resultTypes.toList.any (Tryz.prog.ifacesRec ·) : Bool) = true := by kernel_rfl
theorem trieParts_c21 : (Rows.triePartsRow.loopsOut == Tryz.f10.resultTypes.toList.any (Tryz.prog.loopsFrom ·) : Bool) = true := by kernel_rfl
theorem trieParts_c22 : (Rows.triePartsRow.plainKeys == Tryz.prog.plainKeys : Bool) = true := by kernel_rfl
theorem trieParts_c23 : (Rows.triePartsRow.shortTexts.isNone : Bool) = true := by kernel_rfl
theorem trieParts_c24 : (Tryz.prog.stopsHeard : Bool) = true := by kernel_rfl
theorem trieParts_c25 : (Tryz.prog.mayEnter : Bool) = true := by kernel_rfl
theorem trieParts_c26 : (Rows.triePartsRow.lifted == Tryz.prog.liftsFinal : Bool) = true := by kernel_rfl
theorem trieParts_c27 : (Tryz.prog.make == some Rows.triePartsRow.make : Bool) = true := by kernel_rfl
theorem trieParts_c28 : (Rows.triePartsRow.kinds == (if Rows.triePartsRow.domain.isEmpty then [] else Tryz.f10.params.toList.map fun t => match Tryz.prog.underlying t with | some (.int k) => some k | _ => none) : Bool) = true := by kernel_rfl
theorem trieParts_c29 : (Rows.triePartsRow.pinned == Rows.triePartsRow.pinnedBy : Bool) = true := by kernel_rfl
theorem trieParts_c30 : (Rows.triePartsRow.veiled == (Tryz.f10.params.toList ++ Rows.triePartsSpec.plain.varTypes Tryz.prog ++ Tryz.f10.resultTypes.toList).any (Tryz.prog.veiledRec ·) : Bool) = true := by kernel_rfl
theorem trieParts_c31 : (Rows.triePartsRow.veiledFits Tryz.prog Tryz.f10.params.toList (Tryz.f10.params.toList ++ Rows.triePartsSpec.plain.varTypes Tryz.prog ++ Tryz.f10.resultTypes.toList) : Bool) = true := by kernel_rfl
theorem trieParts_joined : joinedFacts Tryz.prog 10 Tryz.f10 Rows.triePartsSpec Rows.triePartsRow = true :=
 joined_of trieParts_c0 trieParts_c1 trieParts_c2 trieParts_c3 trieParts_c4 trieParts_c5 trieParts_c6 trieParts_c7 trieParts_c8 trieParts_c9 trieParts_c10 trieParts_c11 trieParts_c12 trieParts_c13 trieParts_c14 trieParts_c15 trieParts_c16 trieParts_c17 trieParts_c18 trieParts_c19 trieParts_c20 trieParts_c21 trieParts_c22 trieParts_c23 trieParts_c24 trieParts_c25 trieParts_c26 trieParts_c27 trieParts_c28 trieParts_c29 trieParts_c30 trieParts_c31
theorem trieParts_named : Tryz.prog.funcNamed "hoarstone/hoarstonelaw03.TrieParts" = some 10 := by kernel_rfl
theorem trieParts_inst : decide (Tryz.f10.isInstance Tryz.prog Rows.triePartsRow.origin Rows.triePartsRow.targs) = true := by kernel_rfl
theorem trieParts_wfText : Rows.triePartsRow.wfByText (OpenSpec.ofChange Rows.triePartsSpec) = true := by kernel_rfl
theorem trieParts_goes : (false = Rows.triePartsRow.goesBy Tryz.prog) := by kernel_rfl
theorem trieParts_wrapped : Tryz.f10.isWrapper Tryz.prog Rows.triePartsRow.wrapper Rows.triePartsRow.mainSum := by
 unfold Func.isWrapper; first | (rw [if_pos (by decide +kernel)]; kernel_rfl) | (rw [if_neg (by decide +kernel)]; exact ⟨rfl, rfl⟩)
theorem trieParts_prog : Rows.triePartsRow.program = Tryz.pinned.name := by kernel_rfl
theorem trieParts_sum : Rows.triePartsRow.sum = Tryz.pinned.sum := by kernel_rfl
theorem trieParts_spec : Rows.triePartsRow.spec = Rows.triePartsSpec.name := by kernel_rfl
theorem trieParts_holds : Rows.TriePartsSaid :=
 OpenClaim.holds_of_wide 10 Tryz.f10 trieParts_prog trieParts_sum trieParts_spec rfl rfl rfl rfl ⟨rfl, rfl, rfl, rfl, rfl⟩ rfl rfl rfl rfl rfl trieParts_named Tryz.func10 trieParts_joined
  (of_decide_eq_true trieParts_inst) trieParts_wrapped (fun os started H enc _ => trieParts_lifted os started H enc)
theorem trieParts_main : Tryz.prog.mainIs = some (Rows.triePartsCard.stood.harness.1, Rows.triePartsCard.stood.harness.2.toList) := by kernel_rfl
theorem trieParts_har : (!Rows.triePartsCard.stood.harness.1 && Rows.triePartsCard.stood.harness.2.isEmpty && !false) = false := by kernel_rfl
theorem trieParts_looks : false = Tryz.prog.looks [] := by kernel_rfl
theorem trieParts_plain : ([25, 25, 26, 26, 9].all fun u => !Tryz.prog.wantsStandIn u) = true := by kernel_rfl
theorem trieParts_card_holds : Rows.TriePartsCardSaid :=
 Claim7.holds_tied_plain_at .later [] [.data, .data, .sentinel] true Rows.triePartsCard.stood.harness false
  trieParts_holds (fun _ h => by cases h) trieParts_wfText (fun _ h => by cases h) trieParts_row_tie rfl ⟨rfl, rfl⟩ trieParts_main trieParts_har
  (fun f fn hf hfn => by
   obtain rfl : f = 10 := (Option.some.inj (trieParts_named.symm.trans hf)).symm
   obtain rfl : fn = Tryz.f10 := (Option.some.inj (Tryz.func10.symm.trans hfn)).symm
   exact ⟨trieParts_looks, fun j t ht => by
    rw [Tryz.params10] at ht
    have hm : t ∈ [25, 25, 26, 26, 9] := by simpa using Array.mem_of_getElem? ht
    exact (show Tryz.prog.wantsStandIn t = false by simpa using List.all_eq_true.1 trieParts_plain t hm)⟩)
  trieParts_goes
#print axioms trieParts_card_holds
end Go.Proofs.YtbfjmimiigjenaaGreatDoor
