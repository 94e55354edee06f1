/-
A part of the proof of TrieApplies: for every input the law returns true, and what was passed in reads as before; the listed package variables hold what the program's text lays. No further condition.
-/
import Derived.Test.YtbfjmimiigjenaaGreatDoorRows
import Derived.Test.YtbfjmimiigjenaaGreatDoorCards
import Derived.KernelRfl
import Derived.Test.YtbfjmimiigjenaaGreatDoorTie
import Derived.SevenTiedAt
import Derived.Test.YtbfjmimiigjenaaGreatDoorKG13
import Derived.Test.YtbfjmimiigjenaaGreatDoorKVZ
set_option maxRecDepth 100000
set_option linter.unusedVariables false
set_option linter.unusedSimpArgs false
namespace Go.Proofs.YtbfjmimiigjenaaGreatDoor
open Go V RowKit
def firstN (l : List TChg) : Str := match l with | [] => [] | c :: _ => c.name
theorem firstN_zero {l : List TChg} (h : l.length = 0) : firstN l = [] := by rw [List.length_eq_zero_iff.1 h]; rfl
theorem firstN_pos {l : List TChg} (h : 0 < l.length) : firstN l = (l[0]).name := by
 cases l with
 | nil => cases h
 | cons c r => rfl
set_option maxHeartbeats 1000000 in
theorem applies_walk (w : World) (hG : Glob w) (A : Option Addr) (c : Nat) (names : List Str) (hA : Sl kStr w A c names) (B : Option Addr) (d : Nat) (sums : List Sum) (hB : Sl kSum w B d sums) (C : Option Addr) (e : Nat) (l : List TChg) (hC : Sl kTCh w C e l) :
  Gives Tryz.prog 11 [.slice A names.length c, .slice B sums.length d, .slice C l.length e] w .tt := by
 have hlim : lim = 140737488351232 := rfl
 have hz31 : (Tryz.t31).size = 1 := by kernel_rfl
 have hz1 : (Tryz.t9).size = 1 := by kernel_rfl
 have hz32 : (Tryz.t40).size = 32 := by kernel_rfl
 have hsB := hB.small
 have hsC := hC.small
 refine enterH tk [(0, slE A names.length c), (1, slE B sums.length d), (2, slE C l.length e)] Tryz.func11 rfl Tryz.ntmps11 rfl rfl ?_
 refine RH.a [] ?_
 refine RH.gv (boE (greatB names)) rfl rfl rfl Tryz.call47 (fun u hu => great_spec u A c names (hA.ext hu.fact)) ?_
 intro m1 hm1
 cases hgr : greatB names with
 | true =>
  refine RH.adv tk [true] rfl rfl (by simp [hgr]) ?_
  refine RH.gv .tt rfl rfl rfl Tryz.call30 (fun u hu => awake_spec u (hG.ext hu.fact)) ?_
  intro m9 hm9
  refine RH.a [] ?_
  refine RH.ret1 Tryz.func11 rfl rfl fun u hu => ⟨rfl, hu.fact⟩
 | false =>
 by_cases h2 : 620 < sums.length
 ·refine RH.adv tk [false, true] rfl rfl (by simp [hgr, h2] <;> omega) ?_
  refine RH.gv .tt rfl rfl rfl Tryz.call30 (fun u hu => awake_spec u (hG.ext hu.fact)) ?_
  intro m9 hm9
  refine RH.a [] ?_
  refine RH.ret1 Tryz.func11 rfl rfl fun u hu => ⟨rfl, hu.fact⟩
 by_cases h3 : 200 < l.length
 ·refine RH.adv tk [false, false, true] rfl rfl (by simp [hgr, h2, h3] <;> omega) ?_
  refine RH.gv .tt rfl rfl rfl Tryz.call30 (fun u hu => awake_spec u (hG.ext hu.fact)) ?_
  intro m9 hm9
  refine RH.a [] ?_
  refine RH.ret1 Tryz.func11 rfl rfl fun u hu => ⟨rfl, hu.fact⟩
 refine RH.adv tk [false, false, false] rfl rfl (by simp [hgr, h2, h3] <;> omega) ?_
 refine RH.gv (boE (l.any longC)) rfl rfl rfl Tryz.call69 (fun u hu => containsFuncC u C e l (hC.ext hu.fact) 70 [] [] longC ⟨fun xs w => Tryz.call70 xs w, fun s _ u' _ => lawA1_spec u' s⟩) ?_
 intro m2 hm2
 cases hlo : l.any longC with
 | true =>
  refine RH.adv tk [true] rfl rfl (by simp [hlo]) ?_
  refine RH.gv .tt rfl rfl rfl Tryz.call30 (fun u hu => awake_spec u (hG.ext hu.fact)) ?_
  intro m9 hm9
  refine RH.a [] ?_
  refine RH.ret1 Tryz.func11 rfl rfl fun u hu => ⟨rfl, hu.fact⟩
 | false =>
 have hLn : ∀ x ∈ l, x.name.length ≤ 1000 := fun x hx => by
  have := List.any_eq_false.1 hlo x hx
  simp [longC] at this
  omega
 refine RH.adv tk [false] rfl rfl (by simp [hlo]) ?_
 have gt := GoodO.from (names := names) (sums := sums)
 have hFrom := From_spec A c names B d sums
 have hrFrom := rFrom_spec A c names B d sums
 generalize fromE names sums = ef at *
 generalize (if ef = 0 then fromO (names.zip sums) else none) = t at *
 refine RH.dd [] 7 (fun z : At2 => .av (.val (.tuple #[(rmE z (ksO t) (xsO t)).v, intV ef]))) rfl rfl rfl Tryz.call48 hrFrom (fun u hu => ⟨hA.ext hu.fact, hB.ext hu.fact⟩) ?_
 intro zt n1 hn1
 refine V.RH.know (fun u => (Ext w u ∧ RM u zt (ksO t) (xsO t))) (fun u h => ⟨h.1, h.2.now trivial⟩) ?_
 refine RH.adv tk [] rfl rfl (by first | (simp [hz1, hz32]; done) | (simp [hz31, Value.oneCell'] <;> omega)) ?_
 refine V.RH.slotE 41 (rmE zt (ksO t) (xsO t)) rfl rfl ?_
 refine RH.adv tk [] rfl rfl (by first | (simp [hz1, hz32]; done) | (simp [hz31, Value.oneCell'] <;> omega)) ?_
 by_cases h0 : ef = 0
 case neg =>
  refine RH.adv tk [true] rfl rfl (by simp [h0]) ?_
  refine RH.gv .tt rfl rfl rfl Tryz.call30 (fun u hu => awake_spec u (hG.ext hu.fact.1)) ?_
  intro m9 hm9
  refine RH.a [] ?_
  refine RH.ret1 Tryz.func11 rfl rfl fun u hu => ⟨rfl, hu.fact.1⟩
 subst h0
 refine RH.a [false] ?_
 refine RH.dd [] 9 (fun o : Option Plot => .av (.val (.tuple #[.agg #[ptrO o], intV 0]))) rfl rfl rfl Tryz.call17 hFrom (fun u hu => ⟨hG.ext (hu.fact.1), hA.ext (hu.fact.1), hB.ext (hu.fact.1)⟩) ?_
 intro pt n2 hn2
 refine V.RH.know (fun u => ((Ext w u ∧ RM u zt (ksO t) (xsO t)) ∧ IsO u pt t)) (fun u h => ⟨h.1, h.2.now trivial⟩) ?_
 refine RH.adv tk [] rfl rfl (by first | (simp [hz1, hz32]; done) | (simp [hz31, Value.oneCell'] <;> omega)) ?_
 refine V.RH.slotE 50 (mapE pt) rfl rfl ?_
 refine RH.adv tk [] rfl rfl (by first | (simp [hz1, hz32]; done) | (simp [hz31, Value.oneCell'] <;> omega)) ?_
 refine RH.tell [(0, slE A names.length c), (1, slE B sums.length d), (2, slE C l.length e), (7, .av (.box 7 n1 0)), (8, intE 0), (9, .av (.box 9 n2 0)), (10, intE 0), (52, slE C l.length e)] [(7, some (.box n1 (rmF zt (ksO t) (xsO t)) 81)), (9, some (.box n2 ([.val (ptrO pt)]) 31))] [] rfl rfl rfl 60 ?_
 refine RH.dd [] 61 (fun z : Option Addr × Nat => rowS 60 z.1 l.length z.2) rfl rfl rfl Tryz.call71 (cloneC C e l (by omega)) (fun u hu => hC.ext (hu.fact.1.1)) ?_
 rintro ⟨C1, e1⟩ n3 hn3
 refine RH.drop ?_
 refine V.RH.know (fun u => ((Ext w u ∧ RM u zt (ksO t) (xsO t)) ∧ IsO u pt t)) (fun u h => h) ?_
 refine RH.a [] ?_
 refine RH.tell [(0, slE A names.length c), (1, slE B sums.length d), (2, slE C l.length e), (7, .av (.box 7 n1 0)), (8, intE 0), (9, .av (.box 9 n2 0)), (10, intE 0), (11, rowS 60 C1 l.length e1), (55, mapE pt), (56, rowS 60 C1 l.length e1)] [(7, some (.box n1 (rmF zt (ksO t) (xsO t)) 81)), (9, some (.box n2 ([.val (ptrO pt)]) 31)), (60, rowE kTCh C1 e1 l)] [] rfl rfl rfl 61 ?_
 have go := GoodO.apply l gt
 have hApply := Apply_spec pt t gt.ok gt.low gt.many C1 e1 l hLn (by omega)
 have hrApply := fun C e => rApply_spec zt t gt C e l
 generalize applyO t l = ro at *
 obtain ⟨a, ea⟩ := ro
 dsimp only at go hApply hrApply
 refine RH.dd [] 12 (fun o : Option Plot => .av (.val (.tuple #[.agg #[ptrO o], intV ea]))) rfl rfl rfl Tryz.call54 hApply (fun u hu => ⟨hG.ext (hu.fact.1.1), hu.fact.2, Sl.own (B := w.heap.size) (hu.row (κ := kTCh) (l := l) (id := 60) rfl) (by omega)⟩) ?_
 intro pa n4 hn4
 refine V.RH.know (fun u => (((Ext w u ∧ RM u zt (ksO t) (xsO t)) ∧ IsO u pt t) ∧ IsO u pa a)) (fun u h => ⟨h.1, h.2.now h.1.2⟩) ?_
 refine RH.adv tk [] rfl rfl (by first | (simp [hz1, hz32]; done) | (simp [hz31, Value.oneCell'] <;> omega)) ?_
 refine V.RH.slotE 58 (mapE pa) rfl rfl ?_
 refine RH.adv tk [] rfl rfl (by first | (simp [hz1, hz32]; done) | (simp [hz31, Value.oneCell'] <;> omega)) ?_
 refine RH.nilrow 50 kRCh.T kRCh.sz 51 ?_
 refine RH.loop (α := Nat × (Option Addr × Nat)) (fun q => [(0, slE A names.length c), (1, slE B sums.length d), (2, slE C l.length e), (7, .av (.box 7 n1 0)), (8, intE 0), (9, .av (.box 9 n2 0)), (10, intE 0), (11, rowS 60 C1 l.length e1), (12, .av (.box 12 n4 0)), (13, intE ea), (60, slE C l.length e), (61, intE l.length), (14, rowS 50 q.2.1 (l.take q.1).length q.2.2), (62, intE q.1)]) (fun q => [(7, some (.box n1 (rmF zt (ksO t) (xsO t)) 81)), (9, some (.box n2 ([.val (ptrO pt)]) 31)), (60, rowE kTCh C1 e1 l), (12, some (.box n4 ([.val (ptrO pa)]) 31)), (50, rowE kRCh q.2.1 q.2.2 (l.take q.1))]) (fun q u => ((((Ext w u ∧ RM u zt (ksO t) (xsO t)) ∧ IsO u pt t) ∧ IsO u pa a)) ∧ q.1 ≤ l.length) (fun q => l.length - q.1) (0, (none, 0)) rfl rfl (fun u h => ⟨h, Nat.zero_le _⟩) ?_
 rintro ⟨i, C2, e2⟩ m20
 refine RH.pure (fun u h => h.2) fun hi => ?_
 refine V.RH.know (fun u => (((Ext w u ∧ RM u zt (ksO t) (xsO t)) ∧ IsO u pt t) ∧ IsO u pa a)) (fun u h => h.1) ?_
 dsimp only at hi ⊢
 by_cases hlt : i < l.length
 case pos =>
  have hts : l.take (i + 1) = l.take i ++ [l[i]] := List.take_succ_eq_append_getElem hlt
  have htl : (l.take i).length = i := by rw [List.length_take]; omega
  refine RH.adv tk [true] rfl rfl (by simp [hC.ptr hlt] <;> omega) ?_
  refine RH.loadS (.st (tchF l[i])) rfl rfl rfl rfl (fun u hu => (hC.ext (hu.fact.1.1.1)).load hlt) ?_
  refine RH.toNx 80 ?_
  refine RH.a [] ?_
  refine RH.apK (κ := kRCh) (id := 50) (l := l.take i) (r := [l[i]]) rfl rfl rfl rfl rfl rfl elt_rch rfl rfl (fun u hu => hu.liR (κ := kRCh) (l := [l[i]]) (id := 81) rfl (by simp [hlim])) (by simp; omega) (by simp [hlim]; omega) ?_
  intro C3 e3 m21 hm21
  rw [← hts]
  refine RH.a [] ?_
  exact RH.again (i + 1, (C3, e3)) (.head _) rfl rfl (by show l.length - (i + 1) < l.length - i; omega) fun u h => ⟨h, hlt⟩
 have hil : i = l.length := by omega
 rw [hil, List.take_length]
 refine RH.adv tk [false] rfl rfl (by simp [hil]) ?_
 refine RH.tell [(0, slE A names.length c), (1, slE B sums.length d), (2, slE C l.length e), (7, .av (.box 7 n1 0)), (8, intE 0), (9, .av (.box 9 n2 0)), (10, intE 0), (11, rowS 60 C1 l.length e1), (12, .av (.box 12 n4 0)), (13, intE ea), (14, rowS 50 C2 l.length e2), (72, rmE zt (ksO t) (xsO t)), (73, rowS 50 C2 l.length e2)] [(7, some (.box n1 (rmF zt (ksO t) (xsO t)) 81)), (9, some (.box n2 ([.val (ptrO pt)]) 31)), (60, rowE kTCh C1 e1 l), (12, some (.box n4 ([.val (ptrO pa)]) 31)), (50, rowE kRCh C2 e2 l)] [] rfl rfl rfl 70 ?_
 refine RH.dd [] 17 (fun z : At2 => .av (.val (.tuple #[(rmE z (ksO a) (xsO a)).v, intV ea]))) rfl rfl rfl Tryz.call72 (hrApply C2 e2) (fun u hu => ⟨hu.fact.1.1.2, Sl.own (B := w.heap.size) (hu.row (κ := kRCh) (l := l) (id := 50) rfl) (by omega)⟩) ?_
 intro za n5 hn5
 refine V.RH.know (fun u => ((((Ext w u ∧ RM u zt (ksO t) (xsO t)) ∧ IsO u pt t) ∧ IsO u pa a) ∧ RM u za (ksO a) (xsO a))) (fun u h => ⟨h.1, h.2.now h.1.1.1.2⟩) ?_
 refine RH.adv tk [] rfl rfl (by first | (simp [hz1, hz32]; done) | (simp [hz31, Value.oneCell'] <;> omega)) ?_
 refine V.RH.slotE 75 (rmE za (ksO a) (xsO a)) rfl rfl ?_
 refine RH.adv tk [] rfl rfl (by first | (simp [hz1, hz32]; done) | (simp [hz31, Value.oneCell'] <;> omega)) ?_
 apply RH.joinK (α := Unit) (fun _ => [(0, slE A names.length c), (1, slE B sums.length d), (2, slE C l.length e), (7, .av (.box 7 n1 0)), (8, intE 0), (9, .av (.box 9 n2 0)), (10, intE 0), (11, rowS 60 C1 l.length e1), (12, .av (.box 12 n4 0)), (13, intE ea), (14, rowS 50 C2 l.length e2), (17, .av (.box 17 n5 0)), (18, intE ea), (19, strE (firstN l))]) (fun _ => [(7, some (.box n1 (rmF zt (ksO t) (xsO t)) 81)), (9, some (.box n2 ([.val (ptrO pt)]) 31)), (60, rowE kTCh C1 e1 l), (12, some (.box n4 ([.val (ptrO pa)]) 31)), (50, rowE kRCh C2 e2 l), (17, some (.box n5 (rmF za (ksO a) (xsO a)) 81))]) (fun _ u => ((((Ext w u ∧ RM u zt (ksO t) (xsO t)) ∧ IsO u pt t) ∧ IsO u pa a) ∧ RM u za (ksO a) (xsO a)))
 case h1 =>
  by_cases hl0 : l.length = 0
  case pos =>
   rw [firstN_zero hl0]
   refine RH.adv tk [false] rfl rfl (by simp [List.length_eq_zero_iff.1 hl0]) ?_
   exact RH.mtS () [] (.head _) rfl rfl rfl fun u h => h
  have hl1 : 0 < l.length := by omega
  rw [firstN_pos hl1]
  refine RH.adv tk [true] rfl rfl (by simp [hC.ptr hl1] <;> omega) ?_
  refine RH.loadS (strE (l[0]).name) rfl rfl rfl rfl (fun u hu => tch_name (hC.ext (hu.fact.1.1.1.1)) hl1) ?_
  refine RH.a [] ?_
  exact RH.mtS () [] (.head _) rfl rfl rfl fun u h => h
 rintro ⟨⟩ m30
 have hfn : (firstN l).length ≤ 1000 := by
  by_cases hl0 : l.length = 0
  case pos => rw [firstN_zero hl0]; exact Nat.zero_le _
  rw [firstN_pos (by omega)]; exact hLn _ (List.getElem_mem _)
 generalize firstN l = fnm at *
 refine RH.w [(7, some (.box n1 (rmF zt (ksO t) (xsO t)) 81)), (9, some (.box n2 ([.val (ptrO pt)]) 31)), (60, rowE kTCh C1 e1 l), (12, some (.box n4 ([.val (ptrO pa)]) 31)), (50, rowE kRCh C2 e2 l), (17, some (.box n5 (rmF za (ksO a) (xsO a)) 81))] 28 ?_
 refine RD.a [true, true] ?_
 refine RD.gv 11 (sumE (sum1 7)) rfl rfl rfl Tryz.call21 (fun u hu => one3_spec u _) ?_
 intro q11 hq11
 refine RD.gv 12 .tt rfl rfl rfl Tryz.call62 (fun u hu => lives_spec u (hG.ext (hu.fact.1.1.1.1)) pa a hu.fact.1.2 za hu.fact.2 go fnm hfn (sum1 7)) ?_
 intro q12 hq12
 refine RD.a [] ?_
 refine RD.gv 17 .tt rfl rfl rfl Tryz.call57 (fun u hu => alike_spec u (hG.ext (hu.fact.1.1.1.1)) pt t hu.fact.1.1.2 zt hu.fact.1.1.1.2 gt) ?_
 intro q17 hq17
 refine RD.a [] ?_
 refine RD.gv 22 .tt rfl rfl rfl Tryz.call73 (fun u hu => by have h9 := equalC_spec u C1 C e1 e l l (Sl.own (B := w.heap.size) (hu.row (κ := kTCh) (l := l) (id := 60) rfl) (by omega)) (hC.ext (hu.fact.1.1.1.1)); rw [decide_eq_true rfl] at h9; exact h9) ?_
 intro q22 hq22
 refine RD.a [] ?_
 refine RD.gv 25 .tt rfl rfl rfl Tryz.call30 (fun u hu => awake_spec u (hG.ext (hu.fact.1.1.1.1))) ?_
 intro q25 hq25
 refine RD.a [] ?_
 refine RD.e ?_
 refine RH.ret1 Tryz.func11 rfl rfl fun u hu => ⟨rfl, (hu.fact.1.1.1.1)⟩
open Go V RowKit Go.ChangeShapes Go.WideShapes Go.ChangeAt
theorem trieApplies_lifted (os : Os) (started : os.Started) (H : Type) (enc : TypeId × Value → H) :
  ReturnsInHanded {} Tryz.checked os 11 .any (fun w args => (Rows.trieAppliesSpec.pre enc Tryz.prog Tryz.f11 [] false w args ∧ laidMetH Tryz.prog Rows.trieAppliesRow.laid w) ∧ sizedMet enc Tryz.prog Tryz.f11 (OpenSpec.ofChange Rows.trieAppliesSpec) false w args)
   (Rows.trieAppliesSpec.post enc Tryz.prog Tryz.f11 false true false false) := by
 refine wrap (C := Tryz.checked) (X := fun w _ => laidMetH Tryz.prog Rows.trieAppliesRow.laid w) (fun _ _ _ hh h => h.of_heap hh) ownKnobs started (by kernel_rfl) Tryz.func11
  (ChangeSpec.witness_shaped (enc := enc) (C := Tryz.checked) (os := os) (X := fun w _ => laidMetH Tryz.prog Rows.trieAppliesRow.laid w) false (World.laidAll Tryz.prog os Rows.trieAppliesRow.laid)
   #[.slice none 0 0, .slice none 0 0, .slice none 0 0] 8 (World.laidAll_os _ _ _)
   (World.shaped_of_ZipB (by kernel_rfl) (by kernel_rfl)) (by kernel_rfl) (by kernel_rfl) (by kernel_rfl)
   (by rw [MakeChecks.laidMetH_plain _ _ _ (by kernel_rfl)]; exact laidMet_laidAll _ (by kernel_rfl) (by kernel_rfl))) ?_
 intro W base args ds gs before hval0 hW hsz0 hL hS
 have hval : ∀ (j : Nat) t v, Tryz.f11.params[j]? = some t → args[j]? = some v → Value.okWide Tryz.prog W .any base t v := hval0
 have hsz : (DataW.weightsEach Tryz.prog (Tryz.f11.params.toList ++ Rows.trieAppliesSpec.plain.varTypes Tryz.prog) (ds ++ gs)).all (· ≤ reachBytes) = true := hsz0
 have hW' := hW
 obtain ⟨p, q, hA0, hV, rfl, _, _⟩ := hW
 have hA : DataW.TrodAll enc Tryz.prog W 0 (fun _ => true) true Tryz.f11.params.toList args.toList ds p := hA0
 rw [Tryz.params11] at hA hval hsz
 obtain ⟨v0, v1, v2, d0, d1, d2, p0, p1, p2, rfl, rfl, rfl, h0, h1, h2⟩ := trodAll_three hA
 obtain ⟨rfl, rfl⟩ := trodVars_none hV
 have wt : ∀ {j : Nat} {t : TypeId} {d : DataW H}, [25, 26, 91][j]? = some t → [d0, d1, d2][j]? = some d → ∀ n ∈ d.weights Tryz.prog t, n ≤ reachBytes := by
  intro j t d ht hd n hn
  exact of_decide_eq_true (List.all_eq_true.1 hsz _ (DataW.weights_mem_each ht hd n hn))
 obtain ⟨x0, rfl, hx0⟩ := open_strs h0 (wt (j := 0) rfl rfl) (hval 0 _ v0 rfl rfl)
 obtain ⟨x1, rfl, hx1⟩ := open_sums h1 (wt (j := 1) rfl rfl) (hval 1 _ v1 rfl rfl)
 obtain ⟨x2, rfl, hx2⟩ := open_tchs h2 (wt (j := 2) rfl rfl) (hval 2 _ v2 rfl rfl)
 refine (applies_walk W (glob_of hS (show laidMetH Tryz.prog Rows.trieShapeRow.laid W from hL)) x0.A x0.c x0.l hx0 x1.A x1.c x1.l hx1 x2.A x2.c x2.l hx2).mono fun e W' ⟨he, hb⟩ => ?_
 subst he
 exact ⟨_, rfl, _, _, _, [], _, [], hW', trodAll_mk1 (shut_bool Tryz.underlying4 _),
  trodAll_mk3 (Below.trod laidOuts (by kernel_rfl) (of_decide_eq_true (by kernel_rfl)) h0 hb (fun y hy => hW'.lt y (by simp [hy]))) (Below.trod laidOuts (by kernel_rfl) (of_decide_eq_true (by kernel_rfl)) h1 hb (fun y hy => hW'.lt y (by simp [hy]))) (Below.trod laidOuts (by kernel_rfl) (of_decide_eq_true (by kernel_rfl)) h2 hb (fun y hy => hW'.lt y (by simp [hy]))), rfl, hb.frame _, fun h => by cases h⟩
end Go.Proofs.YtbfjmimiigjenaaGreatDoor
namespace Go.Proofs.YtbfjmimiigjenaaGreatDoor
open Go
theorem trieApplies_c0 : (Rows.trieAppliesRow.wf (OpenSpec.ofChange Rows.trieAppliesSpec) : Bool) = true := by kernel_rfl
theorem trieApplies_c1 : (laidOutB Tryz.prog : Bool) = true := by kernel_rfl
theorem trieApplies_c2 : (mapsRowed Tryz.prog : Bool) = true := by kernel_rfl
theorem trieApplies_c3 : (Tryz.f11.params.all (Tryz.prog.readableRec ·) : Bool) = true := by kernel_rfl
theorem trieApplies_c4 : (namedTie Tryz.prog Rows.trieAppliesRow.named Rows.trieAppliesSpec.vars : Bool) = true := by kernel_rfl
theorem trieApplies_c5 : (Rows.trieAppliesRow.stops == [] : Bool) = true := by kernel_rfl
theorem trieApplies_c6 : (Tryz.prog.stops == [] : Bool) = true := by kernel_rfl
theorem trieApplies_c7 : (Rows.trieAppliesRow.knobs == [] : Bool) = true := by kernel_rfl
theorem trieApplies_c8 : (Tryz.prog.stopKnobs == [] : Bool) = true := by kernel_rfl
theorem trieApplies_c9 : (Rows.trieAppliesRow.inPlace == Tryz.prog.inPlace 11 : Bool) = true := by kernel_rfl
theorem trieApplies_c10 : (Rows.trieAppliesRow.unfollowed == Tryz.prog.unfollowed 11 : Bool) = true := by kernel_rfl
theorem trieApplies_c11 : (Rows.trieAppliesRow.recurses == Tryz.prog.recurses 11 : Bool) = true := by kernel_rfl
theorem trieApplies_c12 : (Rows.trieAppliesRow.named == Tryz.prog.varsNamed 11 : Bool) = true := by kernel_rfl
theorem trieApplies_c13 : (Rows.trieAppliesRow.maps == (Tryz.f11.params.toList ++ Rows.trieAppliesSpec.plain.varTypes Tryz.prog).any (Tryz.prog.mapsRec ·) : Bool) = true := by kernel_rfl
theorem trieApplies_c14 : (Rows.trieAppliesRow.ifaces == (Tryz.f11.params.toList ++ Rows.trieAppliesSpec.plain.varTypes Tryz.prog).any (Tryz.prog.ifacesRec ·) : Bool) = true := by kernel_rfl
theorem trieApplies_c15 : (Rows.trieAppliesRow.mapsOut == Tryz.prog.mapsAmong Tryz.f11.resultTypes.toList : Bool) = true := by kernel_rfl
theorem trieApplies_c16 : (Rows.trieAppliesRow.loops == (Tryz.f11.params.toList ++ Rows.trieAppliesSpec.plain.varTypes Tryz.prog).any (Tryz.prog.loopsFrom ·) : Bool) = true := by kernel_rfl
theorem trieApplies_c17 : (Rows.trieAppliesRow.wideKeys == (Tryz.f11.params.toList ++ Rows.trieAppliesSpec.plain.varTypes Tryz.prog ++ Tryz.f11.resultTypes.toList).any (Tryz.prog.wideKeysFrom ·) : Bool) = true := by kernel_rfl
theorem trieApplies_c18 : (Rows.trieAppliesSpec.vars.all (Tryz.prog.varReadable ·) : Bool) = true := by kernel_rfl
theorem trieApplies_c19 : (Tryz.f11.resultTypes.all (fun t => Tryz.prog.readableRec t && decide (t < Tryz.prog.types.size)) : Bool) = true := by kernel_rfl
theorem trieApplies_c20 : (Rows.trieAppliesRow.ifacesOut == Tryz.f11.resultTypes.toList.any (Tryz.prog.ifacesRec ·) : Bool) = true := by kernel_rfl
theorem trieApplies_c21 : (Rows.trieAppliesRow.loopsOut == Tryz.f11.resultTypes.toList.any (Tryz.prog.loopsFrom ·) : Bool) = true := by kernel_rfl
theorem trieApplies_c22 : (Rows.trieAppliesRow.plainKeys == Tryz.prog.plainKeys : Bool) = true := by kernel_rfl
theorem trieApplies_c23 : (Rows.trieAppliesRow.shortTexts.isNone : Bool) = true := by kernel_rfl
theorem trieApplies_c24 : (Tryz.prog.stopsHeard : Bool) = true := by kernel_rfl
theorem trieApplies_c25 : (Tryz.prog.mayEnter : Bool) = true := by kernel_rfl
theorem trieApplies_c26 : (Rows.trieAppliesRow.lifted == Tryz.prog.liftsFinal : Bool) = true := by kernel_rfl
theorem trieApplies_c27 : (Tryz.prog.make == some Rows.trieAppliesRow.make : Bool) = true := by kernel_rfl
theorem trieApplies_c28 : (Rows.trieAppliesRow.kinds == (if Rows.trieAppliesRow.domain.isEmpty then [] else Tryz.f11.params.toList.map fun t => match Tryz.prog.underlying t with | some (.int k) => some k | _ => none) : Bool) = true := by kernel_rfl
theorem trieApplies_c29 : (Rows.trieAppliesRow.pinned == Rows.trieAppliesRow.pinnedBy : Bool) = true := by kernel_rfl
theorem trieApplies_c30 : (Rows.trieAppliesRow.veiled == (Tryz.f11.params.toList ++ Rows.trieAppliesSpec.plain.varTypes Tryz.prog ++ Tryz.f11.resultTypes.toList).any (Tryz.prog.veiledRec ·) : Bool) = true := by kernel_rfl
theorem trieApplies_c31 : (Rows.trieAppliesRow.veiledFits Tryz.prog Tryz.f11.params.toList (Tryz.f11.params.toList ++ Rows.trieAppliesSpec.plain.varTypes Tryz.prog ++ Tryz.f11.resultTypes.toList) : Bool) = true := by kernel_rfl
theorem trieApplies_joined : joinedFacts Tryz.prog 11 Tryz.f11 Rows.trieAppliesSpec Rows.trieAppliesRow = true :=
 joined_of trieApplies_c0 trieApplies_c1 trieApplies_c2 trieApplies_c3 trieApplies_c4 trieApplies_c5 trieApplies_c6 trieApplies_c7 trieApplies_c8 trieApplies_c9 trieApplies_c10 trieApplies_c11 trieApplies_c12 trieApplies_c13 trieApplies_c14 trieApplies_c15 trieApplies_c16 trieApplies_c17 trieApplies_c18 trieApplies_c19 trieApplies_c20 trieApplies_c21 trieApplies_c22 trieApplies_c23 trieApplies_c24 trieApplies_c25 trieApplies_c26 trieApplies_c27 trieApplies_c28 trieApplies_c29 trieApplies_c30 trieApplies_c31
theorem trieApplies_named : Tryz.prog.funcNamed "hoarstone/hoarstonelaw03.TrieApplies" = some 11 := by kernel_rfl
theorem trieApplies_inst : decide (Tryz.f11.isInstance Tryz.prog Rows.trieAppliesRow.origin Rows.trieAppliesRow.targs) = true := by kernel_rfl
theorem trieApplies_wfText : Rows.trieAppliesRow.wfByText (OpenSpec.ofChange Rows.trieAppliesSpec) = true := by kernel_rfl
theorem trieApplies_goes : (false = Rows.trieAppliesRow.goesBy Tryz.prog) := by kernel_rfl
theorem trieApplies_wrapped : Tryz.f11.isWrapper Tryz.prog Rows.trieAppliesRow.wrapper Rows.trieAppliesRow.mainSum := by
 unfold Func.isWrapper; first | (rw [if_pos (by decide +kernel)]; kernel_rfl) | (rw [if_neg (by decide +kernel)]; exact ⟨rfl, rfl⟩)
theorem trieApplies_prog : Rows.trieAppliesRow.program = Tryz.pinned.name := by kernel_rfl
theorem trieApplies_sum : Rows.trieAppliesRow.sum = Tryz.pinned.sum := by kernel_rfl
theorem trieApplies_spec : Rows.trieAppliesRow.spec = Rows.trieAppliesSpec.name := by kernel_rfl
theorem trieApplies_holds : Rows.TrieAppliesSaid :=
 OpenClaim.holds_of_wide 11 Tryz.f11 trieApplies_prog trieApplies_sum trieApplies_spec rfl rfl rfl rfl ⟨rfl, rfl, rfl, rfl, rfl⟩ rfl rfl rfl rfl rfl trieApplies_named Tryz.func11 trieApplies_joined
  (of_decide_eq_true trieApplies_inst) trieApplies_wrapped (fun os started H enc _ => trieApplies_lifted os started H enc)
theorem trieApplies_main : Tryz.prog.mainIs = some (Rows.trieAppliesCard.stood.harness.1, Rows.trieAppliesCard.stood.harness.2.toList) := by kernel_rfl
theorem trieApplies_har : (!Rows.trieAppliesCard.stood.harness.1 && Rows.trieAppliesCard.stood.harness.2.isEmpty && !false) = false := by kernel_rfl
theorem trieApplies_looks : false = Tryz.prog.looks [] := by kernel_rfl
theorem trieApplies_plain : ([25, 26, 91].all fun u => !Tryz.prog.wantsStandIn u) = true := by kernel_rfl
theorem trieApplies_card_holds : Rows.TrieAppliesCardSaid :=
 Claim7.holds_tied_plain_at .later [] [.data, .data, .sentinel] true Rows.trieAppliesCard.stood.harness false
  trieApplies_holds (fun _ h => by cases h) trieApplies_wfText (fun _ h => by cases h) trieApplies_row_tie rfl ⟨rfl, rfl⟩ trieApplies_main trieApplies_har
  (fun f fn hf hfn => by
   obtain rfl : f = 11 := (Option.some.inj (trieApplies_named.symm.trans hf)).symm
   obtain rfl : fn = Tryz.f11 := (Option.some.inj (Tryz.func11.symm.trans hfn)).symm
   exact ⟨trieApplies_looks, fun j t ht => by
    rw [Tryz.params11] at ht
    have hm : t ∈ [25, 26, 91] := by simpa using Array.mem_of_getElem? ht
    exact (show Tryz.prog.wantsStandIn t = false by simpa using List.all_eq_true.1 trieApplies_plain t hm)⟩)
  trieApplies_goes
#print axioms trieApplies_card_holds
end Go.Proofs.YtbfjmimiigjenaaGreatDoor
