/-
Lemmas. No condition.
-/
import Derived.Test.YtbfjmimiigjenaaGreatDoorKQ36
import Derived.Test.YtbfjmimiigjenaaGreatDoorKVMakeR
set_option maxRecDepth 10000
set_option linter.unusedVariables false
set_option linter.unusedSectionVars false
set_option linter.unusedSimpArgs false
namespace Go.Proofs.YtbfjmimiigjenaaGreatDoor
open Go V RowKit
abbrev s0E (x : (Option Addr × Nat) × (Option Addr × Nat)) : Stp := ⟨[97], false, Sum.zero, x.1.1, [98, 99], x.1.2, x.2.1, [oA, oB], x.2.2⟩
abbrev s1E (x : (Option Addr × Nat) × (Option Addr × Nat)) : Stp := ⟨[], true, sA, x.1.1, [], x.1.2, x.2.1, [], x.2.2⟩
theorem inv0 {s : Stp} (h : s.dat = st0) : ∃ x, s = s0E x := by
 obtain ⟨a, b, c, d, e, f, g, i, j⟩ := s
 unfold Stp.dat st0 at h
 simp only [Prod.mk.injEq] at h
 obtain ⟨rfl, rfl, rfl, rfl, rfl⟩ := h
 exact ⟨((d, f), (g, j)), rfl⟩
theorem inv1 {s : Stp} (h : s.dat = st1) : ∃ x, s = s1E x := by
 obtain ⟨a, b, c, d, e, f, g, i, j⟩ := s
 unfold Stp.dat st1 at h
 simp only [Prod.mk.injEq] at h
 obtain ⟨rfl, rfl, rfl, rfl, rfl⟩ := h
 exact ⟨((d, f), (g, j)), rfl⟩
theorem invL2 {l : List Stp} (h : l.map Stp.dat = [st0, st1]) : ∃ x y, l = [s0E x, s1E y] := by
 cases l with
 | nil => exact absurd (congrArg List.length h) (by simp)
 | cons a r =>
  cases r with
  | nil => exact absurd (congrArg List.length h) (by simp)
  | cons b r =>
   cases r with
   | cons _ _ => exact absurd (congrArg List.length h) (by simp)
   | nil =>
    simp only [List.map_cons, List.map_nil, List.cons.injEq, and_true] at h
    obtain ⟨x, rfl⟩ := inv0 h.1
    obtain ⟨y, rfl⟩ := inv1 h.2
    exact ⟨x, y, rfl⟩
theorem invL1 {l : List Stp} (h : l.map Stp.dat = [st0]) : ∃ x, l = [s0E x] := by
 cases l with
 | nil => exact absurd (congrArg List.length h) (by simp)
 | cons a r =>
  cases r with
  | cons _ _ => exact absurd (congrArg List.length h) (by simp)
  | nil =>
   simp only [List.map_cons, List.map_nil, List.cons.injEq, and_true] at h
   obtain ⟨x, rfl⟩ := inv0 h
   exact ⟨x, rfl⟩
theorem invLe {l : List Stp} (h : l.map Stp.dat = [st1]) : ∃ x, l = [s1E x] := by
 cases l with
 | nil => exact absurd (congrArg List.length h) (by simp)
 | cons a r =>
  cases r with
  | cons _ _ => exact absurd (congrArg List.length h) (by simp)
  | nil =>
   simp only [List.map_cons, List.map_nil, List.cons.injEq, and_true] at h
   obtain ⟨x, rfl⟩ := inv1 h
   exact ⟨x, rfl⟩
theorem op_bytes {n : Nat} {env : SEnv} {a : Act} (ha : Agree n a (kn env)) {o : Oper} {x : Operand} {ex : EV} {A : Option Addr} {c : Nat} {l : List UInt8} {w : World} (hop : o.op = .convert 22 9 x) (hx : evE env x = some ex) (hxv : ex.v = .slice A l.length c) (hne : l ≠ []) (hs : Sl kBy w A c l) :
  (execOp a.eval o).run Tryz.prog w = .ok (.value (strE l).v) w := by
 have hxv' : a.eval x = .slice A l.length c := (ev_run ha hx).trans hxv
 have hp := hs.addr hne
 unfold Ptr at hp
 have h := run_convert_bytes_back (P := Tryz.prog) w 22 9 5 ⟨blkA A, offA A, none⟩ c l (tk.und rfl) (tk.und rfl) (tk.und rfl) (fun j hj => by
  rw [Addr.add_lit]
  refine hs.cells j _ ?_
  rw [← map_flat, List.getElem?_map, List.getElem?_eq_getElem hj]
  rfl)
 simp only [execOp, hop, hxv']
 rw [hp, Sem.run_bind, h]
 rfl
set_option maxHeartbeats 4000000 in
theorem awake_spec (w : World) (hG : Glob w) : Gives Tryz.prog 30 [] w .tt := by
 have hlim : lim = 140737488351232 := rfl
 have hz31 : (Tryz.t31).size = 1 := by kernel_rfl
 refine enterH tk [] Tryz.func30 rfl Tryz.ntmps30 rfl rfl ?_
 refine RH.adv tk [] rfl rfl (by simp <;> omega) ?_
 refine RH.doB [] 5 (hc := Tryz.call100) (ho := rfl) (hw := rfl) (hd := rfl) (hf := rfl) (hes := rfl) (hσ := rfl) (hn := rfl) (hV := fun _ => rfl) (hG := fun _ => rfl) (e := fun o : Option Plot => mapE o) (hC := lmade_spec (some ⟨w.heap.size, 0, none⟩) 2 [[97, 98], [97, 99]] (by decide) fe_ab) (hp := fun u hu => ⟨hG.ext hu.fact, Sl.own (B := w.heap.size) (hu.row (κ := kStr) (l := [[97, 98], [97, 99]]) (id := 0) rfl) (by simp [hlim])⟩) ?_
 rintro o1 m1 hm1
 refine V.RH.know (fun u => Ext w u ∧ IsO u o1 (some tM)) (fun u h => ⟨h.1, made_ab ▸ h.2.now trivial⟩) ?_
 refine RH.adv tk [] rfl rfl (by simp [hz31, Value.oneCell'] <;> omega) ?_
 refine RH.tell [(1, .av (.box 5 m1 0)), (34, mapE o1)] [(5, some (.box m1 [.val (ptrO o1)] 31))] [] rfl rfl rfl 20 ?_
 refine RH.doB [] 22 (hc := Tryz.call52) (ho := rfl) (hw := rfl) (hd := rfl) (hf := rfl) (hes := rfl) (hσ := rfl) (hn := rfl) (hV := fun _ => rfl) (hG := fun _ => rfl) (e := fun y : (Option Addr × Nat) × List Stp => .av (.val (.tuple #[.slice y.1.1 y.2.length y.1.2, intV 0]))) (hC := Way_ok o1 (some tM) ok_tM.1 [97, 98] (by decide)) (hp := fun u hu => hu.fact.2) ?_
 rintro ⟨⟨A1, c1⟩, l1⟩ m2 hm2
 refine RH.pure (fun u hu => (hu.2.now trivial).1.trans way_ab) fun hl1 => ?_
 obtain ⟨x0, x1, rfl⟩ := invL2 hl1
 refine RH.free (i := 20) rfl ?_
 refine V.RH.know (fun u => Ext w u ∧ IsO u o1 (some tM) ∧ Sl kStp u A1 c1 [s0E x0, s1E x1] ∧ (s0E x0).ok u ∧ (s1E x1).ok u) (fun u h => ⟨h.1.1.1, h.1.1.2, Sl.own h.2 (by simp [hlim]), (h.1.2.now trivial).2 _ (.head _), (h.1.2.now trivial).2 _ (.tail _ (.head _))⟩) ?_
 refine RH.adv tk [] rfl rfl (by simp <;> omega) ?_
 refine RH.tell [(1, .av (.box 5 m1 0)), (39, mapE o1), (2, slE A1 2 c1), (3, intE 0)] [(5, some (.box m1 [.val (ptrO o1)] 31))] [] rfl rfl rfl 30 ?_
 refine RH.doB [] 32 (hc := Tryz.call52) (ho := rfl) (hw := rfl) (hd := rfl) (hf := rfl) (hes := rfl) (hσ := rfl) (hn := rfl) (hV := fun _ => rfl) (hG := fun _ => rfl) (e := fun y : (Option Addr × Nat) × List Stp => .av (.val (.tuple #[.slice y.1.1 y.2.length y.1.2, intV 0]))) (hC := Way_ok o1 (some tM) ok_tM.1 [97, 100] (by decide)) (hp := fun u hu => hu.fact.2.1) ?_
 rintro ⟨⟨A2, c2⟩, l2⟩ m3 hm3
 refine RH.pure (fun u hu => (hu.2.now trivial).1.trans way_ad) fun hl2 => ?_
 obtain ⟨x2, rfl⟩ := invL1 hl2
 refine RH.free (i := 30) rfl ?_
 refine V.RH.know (fun u => (Ext w u ∧ IsO u o1 (some tM) ∧ Sl kStp u A1 c1 [s0E x0, s1E x1] ∧ (s0E x0).ok u ∧ (s1E x1).ok u) ∧ Sl kStp u A2 c2 [s0E x2] ∧ (s0E x2).ok u) (fun u h => ⟨h.1.1, Sl.own h.2 (by simp [hlim]), (h.1.2.now trivial).2 _ (.head _)⟩) ?_
 refine RH.adv tk [] rfl rfl (by simp <;> omega) ?_
 refine RH.tell [(1, .av (.box 5 m1 0)), (44, mapE o1), (2, slE A1 2 c1), (3, intE 0), (4, slE A2 1 c2), (5, intE 0)] [(5, some (.box m1 [.val (ptrO o1)] 31))] [] rfl rfl rfl 40 ?_
 refine RH.doB [] 42 (hc := Tryz.call52) (ho := rfl) (hw := rfl) (hd := rfl) (hf := rfl) (hes := rfl) (hσ := rfl) (hn := rfl) (hV := fun _ => rfl) (hG := fun _ => rfl) (e := fun y : (Option Addr × Nat) × List Stp => .av (.val (.tuple #[.slice y.1.1 y.2.length y.1.2, intV 0]))) (hC := Way_ok o1 (some tM) ok_tM.1 [] (by decide)) (hp := fun u hu => hu.fact.1.2.1) ?_
 rintro ⟨⟨A3, c3⟩, l3⟩ m4 hm4
 refine RH.pure (fun u hu => (hu.2.now trivial).1.trans way_0) fun hl3 => ?_
 obtain ⟨x3, rfl⟩ := invL1 hl3
 refine V.RH.know (fun u => (Ext w u ∧ IsO u o1 (some tM) ∧ Sl kStp u A1 c1 [s0E x0, s1E x1] ∧ (s0E x0).ok u ∧ (s1E x1).ok u) ∧ Sl kStp u A2 c2 [s0E x2] ∧ (s0E x2).ok u) (fun u h => h.1) ?_
 refine RH.adv tk [] rfl rfl (by simp <;> omega) ?_
 refine RH.tell [(1, .av (.box 5 m1 0)), (2, slE A1 2 c1), (3, intE 0), (4, slE A2 1 c2), (5, intE 0), (6, slE A3 1 c3), (7, intE 0)] [(5, some (.box m1 [.val (ptrO o1)] 31))] [] rfl rfl rfl 50 ?_
 refine RH.pure (fun u h => (⟨h.1.2.2.1.ptr (i := 0) (Nat.succ_pos _), h.2.1.ptr (i := 0) (Nat.succ_pos _)⟩ : Ptr A1 ∧ Ptr A2)) fun ⟨hpA1, hpA2⟩ => ?_
 refine RH.draw rfl [] rfl 76 rfl rfl ?_
 refine RD.adv tk (by kernel_rfl) [false, false] rfl rfl (by simp [hpA1] <;> omega) ?_
 refine RD.load (by kernel_rfl) (i := 11) (strE [97]) rfl rfl rfl rfl rfl rfl (fun u hu => stp_stem hu.1.2.2.1 (i := 0) (Nat.succ_pos _)) ?_
 refine RD.adv tk (by kernel_rfl) [false] rfl rfl (by simp [hpA1] <;> omega) ?_
 refine RD.load (by kernel_rfl) (i := 18) (boE false) rfl rfl rfl rfl rfl rfl (fun u hu => stp_has hu.1.2.2.1 (i := 0) (Nat.succ_pos _)) ?_
 refine RD.adv tk (by kernel_rfl) [false] rfl rfl (by simp [hpA1] <;> omega) ?_
 refine RD.load (by kernel_rfl) (i := 24) (slE x0.1.1 2 x0.1.2) rfl rfl rfl rfl rfl rfl (fun u hu => stp_bytes hu.1.2.2.1 (i := 0) (Nat.succ_pos _)) ?_
 refine RD.read (by kernel_rfl) (i := 25) (strE [98, 99]) rfl rfl rfl rfl rfl rfl (fun u a h hag => op_bytes (A := x0.1.1) (c := x0.1.2) (l := [98, 99]) hag rfl rfl rfl (by simp) h.1.2.2.2.1.1) ?_
 refine RD.adv tk (by kernel_rfl) [false] rfl rfl (by simp [hpA1] <;> omega) ?_
 refine RD.load (by kernel_rfl) (i := 32) (slE x0.2.1 2 x0.2.2) rfl rfl rfl rfl rfl rfl (fun u hu => stp_nodes hu.1.2.2.1 (i := 0) (Nat.succ_pos _)) ?_
 refine RD.adv tk (by kernel_rfl) [false] rfl rfl (by simp [hpA1] <;> omega) ?_
 refine RD.load (by kernel_rfl) (i := 40) (strE []) rfl rfl rfl rfl rfl rfl (fun u hu => stp_stem hu.1.2.2.1 (i := 1) (Nat.succ_lt_succ (Nat.succ_pos _))) ?_
 refine RD.adv tk (by kernel_rfl) [false] rfl rfl (by simp [hpA1] <;> omega) ?_
 refine RD.load (by kernel_rfl) (i := 47) (boE true) rfl rfl rfl rfl rfl rfl (fun u hu => stp_has hu.1.2.2.1 (i := 1) (Nat.succ_lt_succ (Nat.succ_pos _))) ?_
 refine RD.adv tk (by kernel_rfl) [false] rfl rfl (by simp [hpA1] <;> omega) ?_
 refine RD.load (by kernel_rfl) (i := 54) (sumE sA) rfl rfl rfl rfl rfl rfl (fun u hu => stp_sum hu.1.2.2.1 (i := 1) (Nat.succ_lt_succ (Nat.succ_pos _))) ?_
 refine RD.gives (i := 55) (sumE (sum1 1)) rfl (by kernel_rfl) rfl rfl rfl rfl Tryz.call21 (fun u hu => one3_spec u 1) rfl (fun _ h => h) ?_
 intro m5 hm5
 refine RD.read (by kernel_rfl) (i := 56) (boE (!decide (sA = sum1 1))) rfl rfl rfl rfl rfl rfl (fun w' a h hag => op_neq hag rfl rfl rfl rfl rfl (by kernel_rfl) (eq_sum w' 9998 _ _)) ?_
 refine RD.adv tk (by kernel_rfl) [false, false, false, false] rfl rfl (by simp [sA]) ?_
 refine RD.done (.inl rfl) (by kernel_rfl) ?_
 refine RH.adv tk [false] rfl rfl (by simp <;> omega) ?_
 refine RH.tell [(1, .av (.box 5 m1 0)), (2, slE A1 2 c1), (4, slE A2 1 c2), (125, mapE o1)] [(5, some (.box m1 [.val (ptrO o1)] 31))] [] rfl rfl rfl 50 ?_
 refine RH.gives (ho := rfl) (hw := rfl) (hd := rfl) (hf := rfl) (hes := rfl) (hc := Tryz.call24) (e := sumE tM.own) (hC := fun u hu => Root_spec u (hG.ext hu.fact.1.1) o1 (some tM) hu.fact.1.2.1) ?_
 intro m6 hm6
 refine RH.adv tk [] rfl rfl (by simp <;> omega) ?_
 refine RH.gives (ho := rfl) (hw := rfl) (hd := rfl) (hf := rfl) (hes := rfl) (hc := Tryz.call40) (e := verV (sA, true, 0)) (hC := fun u hu => by
  have := Verify_spec u (hG.ext hu.fact.1.1) tM.own [97, 98] A1 c1 [s0E x0, s1E x1] hu.fact.1.2.2.1 (fun s hs => by
   simp only [List.mem_cons, List.not_mem_nil, or_false] at hs
   rcases hs with rfl | rfl
   ·exact hu.fact.1.2.2.2.1
   ·exact hu.fact.1.2.2.2.2) (fun s hs => by
   simp only [List.mem_cons, List.not_mem_nil, or_false] at hs
   rcases hs with rfl | rfl <;> simp)
  have e : verifyR tM.own [97, 98] ([s0E x0, s1E x1].map Stp.dat) = (sA, true, 0) := ver_ab
  rw [e] at this
  exact this) ?_
 intro m7 hm7
 refine RH.adv tk [] rfl rfl (by simp) ?_
 refine RH.tell [(1, .av (.box 5 m1 0)), (4, slE A2 1 c2), (8, .av (.box 50 m7 0)), (9, boE true), (3, intE 0), (133, mapE o1)] [(5, some (.box m1 [.val (ptrO o1)] 31)), (50, some (.box m7 [.val (sumV sA)] 40))] [] rfl rfl rfl 51 ?_
 refine RH.gives (ho := rfl) (hw := rfl) (hd := rfl) (hf := rfl) (hes := rfl) (hc := Tryz.call24) (e := sumE tM.own) (hC := fun u hu => Root_spec u (hG.ext hu.fact.1.1) o1 (some tM) hu.fact.1.2.1) ?_
 intro m8 hm8
 refine RH.adv tk [] rfl rfl (by simp <;> omega) ?_
 refine RH.gives (ho := rfl) (hw := rfl) (hd := rfl) (hf := rfl) (hes := rfl) (hc := Tryz.call40) (e := verV (Sum.zero, false, 0)) (hC := fun u hu => by
  have := Verify_spec u (hG.ext hu.fact.1.1) tM.own [97, 100] A2 c2 [s0E x2] hu.fact.2.1 (fun s hs => by
   simp only [List.mem_cons, List.not_mem_nil, or_false] at hs
   subst hs
   exact hu.fact.2.2) (fun s hs => by
   simp only [List.mem_cons, List.not_mem_nil, or_false] at hs
   subst hs; simp)
  have e : verifyR tM.own [97, 100] ([s0E x2].map Stp.dat) = (Sum.zero, false, 0) := ver_ad
  rw [e] at this
  exact this) ?_
 intro m9 hm9
 refine RH.adv tk [] rfl rfl (by simp) ?_
 refine RH.tell [(1, .av (.box 5 m1 0)), (8, .av (.box 50 m7 0)), (9, boE true), (3, intE 0), (5, intE 0), (11, boE false), (140, .av (.val (.slice (some ⟨m9 + 1, 0, none⟩) 1 1)))] [(5, some (.box m1 [.val (ptrO o1)] 31)), (50, some (.box m7 [.val (sumV sA)] 40)), (52, rowE kStr (some ⟨m9 + 1, 0, none⟩) 1 [[]])] [] rfl rfl rfl 53 ?_
 refine RH.doB [] 60 (hc := Tryz.call100) (ho := rfl) (hw := rfl) (hd := rfl) (hf := rfl) (hes := rfl) (hσ := rfl) (hn := rfl) (hV := fun _ => rfl) (hG := fun _ => rfl) (e := fun o : Option Plot => mapE o) (hC := lmade_spec (some ⟨m9 + 1, 0, none⟩) 1 [[]] (by decide) fe_e) (hp := fun u hu => ⟨hG.ext hu.fact.1.1, Sl.own (B := w.heap.size) (hu.row (κ := kStr) (l := [[]]) (id := 52) rfl) (by simp [hlim])⟩) ?_
 rintro o2 m10 hm10
 refine V.RH.know (fun u => Ext w u ∧ IsO u o1 (some tM) ∧ IsO u o2 (some lM)) (fun u h => ⟨h.1.1.1, h.1.1.2.1, made_e ▸ h.2.now trivial⟩) ?_
 refine RH.adv tk [] rfl rfl (by simp [hz31, Value.oneCell'] <;> omega) ?_
 refine RH.tell [(1, .av (.box 5 m1 0)), (8, .av (.box 50 m7 0)), (9, boE true), (3, intE 0), (5, intE 0), (11, boE false), (12, .av (.box 60 m10 0)), (143, mapE o2)] [(5, some (.box m1 [.val (ptrO o1)] 31)), (50, some (.box m7 [.val (sumV sA)] 40)), (60, some (.box m10 [.val (ptrO o2)] 31))] [] rfl rfl rfl 62 ?_
 refine RH.doB [] 64 (hc := Tryz.call52) (ho := rfl) (hw := rfl) (hd := rfl) (hf := rfl) (hes := rfl) (hσ := rfl) (hn := rfl) (hV := fun _ => rfl) (hG := fun _ => rfl) (e := fun y : (Option Addr × Nat) × List Stp => .av (.val (.tuple #[.slice y.1.1 y.2.length y.1.2, intV 0]))) (hC := Way_ok o2 (some lM) ok_lM.1 [] (by decide)) (hp := fun u hu => hu.fact.2.2) ?_
 rintro ⟨⟨A4, c4⟩, l4⟩ m11 hm11
 refine RH.pure (fun u hu => (hu.2.now trivial).1.trans way_e) fun hl4 => ?_
 obtain ⟨x4, rfl⟩ := invLe hl4
 refine V.RH.know (fun u => Ext w u ∧ IsO u o1 (some tM) ∧ IsO u o2 (some lM)) (fun u h => h.1) ?_
 refine RH.adv tk [] rfl rfl (by simp [hz31, Value.oneCell'] <;> omega) ?_
 refine RH.tell [(1, .av (.box 5 m1 0)), (8, .av (.box 50 m7 0)), (9, boE true), (3, intE 0), (5, intE 0), (11, boE false), (12, .av (.box 60 m10 0)), (7, intE 0), (13, slE A4 1 c4), (14, .av (.box 64 m11 0))] [(5, some (.box m1 [.val (ptrO o1)] 31)), (50, some (.box m7 [.val (sumV sA)] 40)), (60, some (.box m10 [.val (ptrO o2)] 31)), (64, some (.box m11 [.val (.pointer none)] 31))] [] rfl rfl rfl 66 ?_
 -- the region with orders
 have hz34 : [u8V 0, u8V 1, u8V 1] ++ (Builtin.zeroCells ((Tryz.t5).zero.getD undef).cells 31).toList = ([0, 1, 1] ++ List.replicate 31 (0 : UInt8)).flatMap kBy.cs := by kernel_rfl
 have hoe : lM.own = shaW (([0, 1, 1] ++ List.replicate 31 (0 : UInt8)) ++ [0, 0]) := own_e
 apply RH.joinK (α := Unit) (fun _ => [(1, .av (.box 5 m1 0)), (14, .av (.box 64 m11 0))]) (fun _ => [(5, some (.box m1 [.val (ptrO o1)] 31)), (64, some (.box m11 [.val (.pointer none)] 31))]) (fun _ u => Ext w u ∧ IsO u o1 (some tM))
 ·refine RH.draw rfl [(5, some (.box m1 [.val (ptrO o1)] 31)), (50, some (.box m7 [.val (sumV sA)] 40)), (60, some (.box m10 [.val (ptrO o2)] 31)), (64, some (.box m11 [.val (.pointer none)] 31))] rfl 43 rfl rfl ?_
  refine RD.adv tk (by kernel_rfl) [false, false] rfl rfl (by simp <;> omega) ?_
  refine RD.gives (i := 8) (sumE (sum1 1)) rfl (by kernel_rfl) rfl rfl rfl rfl Tryz.call21 (fun u hu => one3_spec u 1) rfl (fun _ h => h) ?_
  intro m12 hm12
  refine RD.read (by kernel_rfl) (i := 9) (boE (!decide (sA = sum1 1))) rfl rfl rfl rfl rfl rfl (fun w' a h hag => op_neq hag rfl rfl rfl rfl rfl (by kernel_rfl) (eq_sum w' 9998 _ _)) ?_
  refine RD.adv tk (by kernel_rfl) [false, false, false, false, false] rfl rfl (by simp [sA]) ?_
  refine RD.three (i := 29) (j := 30) (q := 32) (by kernel_rfl) ?_ ?_ ?_
  ·refine opD_go rfl rfl (OpGo.gives (sumE lM.own) rfl rfl rfl rfl Tryz.call24 (fun u hu => Root_spec u (hG.ext hu.fact.1) o2 (some lM) hu.fact.2.2)) 80 (fun _ => rfl) (fun _ _ h => h) ?_
   rintro ⟨⟩ n29 hn29
   refine RD.adv tk (by kernel_rfl) [] rfl rfl (by simp <;> omega) ?_
   refine RD.two (i := 30) (j := 32) (by kernel_rfl) ?_ ?_
   ·refine opD_step tk (nx := 70) (i := 30) rfl rfl rfl rfl ?_ rfl (fun _ h => h) ⟨rfl, rfl⟩ ?_
    ·first | trivial | (simp; done)
    refine RD.adv tk (by kernel_rfl) [] rfl rfl (by simp <;> omega) ?_
    refine RD.two (i := 31) (j := 32) (by kernel_rfl) ?_ ?_
    ·refine opD_go rfl rfl (OpGo.appendMakeR (id := 71) (b := ⟨n29, 0, none⟩) (sl := 3) (cap := 3) (q := 31) (e := 5) (i := Tryz.t5) (z := (Tryz.t5).zero.getD undef) (olds := [u8V 0, u8V 1, u8V 1]) tk rfl (by kernel_rfl) (by kernel_rfl) (by kernel_rfl) (by kernel_rfl) (by decide) (by kernel_rfl) rfl rfl rfl rfl (fun w' hst j v hj => ?_) (by decide) (by decide) (by decide) (by simp [maxLen])) 73 (fun _ => rfl) (fun _ _ h => h) ?_
     ·have := (Sl.own (B := w.heap.size) (hst.row (κ := kBy) (l := [0, 1, 1]) (id := 70) rfl) (by simp [hlim])).cells j v hj
      rw [Addr.add_lit]
      exact this
     rintro c31 n31 hn31
     rw [hz34]
     refine RD.adv tk (by kernel_rfl) [] rfl rfl (by simp <;> omega) ?_
     refine RD.step tk (nx := 72) (i := 32) rfl (by kernel_rfl) rfl rfl rfl ?_ rfl (fun _ h => h) ⟨rfl, rfl⟩ ?_
     ·first | trivial | (simp; done)
     refine RD.adv tk (by kernel_rfl) [] rfl rfl (by simp <;> omega) ?_
     refine RD.apK (nx := 80) (i := 33) (κ := kBy) (id := 71) (l := ([0, 1, 1] ++ List.replicate 31 (0 : UInt8))) (r := [0, 0]) rfl (by kernel_rfl) rfl rfl rfl rfl rfl elt_byte rfl rfl (fun w' hst => hst.liR (id := 72) (κ := kBy) (l := [0, 0]) rfl (by simp [hlim])) (by decide) (by decide) (fun _ _ => rfl) (fun _ h => h) ?_
     intro A33 c33 n33 hn33
     refine RD.adv tk (by kernel_rfl) [] rfl rfl (by simp <;> omega) ?_
     refine RD.gives (i := 34) (sumE (shaW (([0, 1, 1] ++ List.replicate 31 (0 : UInt8)) ++ [0, 0]))) rfl (by kernel_rfl) rfl rfl rfl rfl Tryz.call78 (fun u hu => Of_spec u (hG.ext hu.fact.1) A33 c33 (([0, 1, 1] ++ List.replicate 31 (0 : UInt8)) ++ [0, 0]) (Sl.own (B := w.heap.size) (hu.row (κ := kBy) (l := (([0, 1, 1] ++ List.replicate 31 (0 : UInt8)) ++ [0, 0])) (id := 71) rfl) (by simp [hlim])) (by decide)) rfl (fun _ h => h) ?_
     intro n34 hn34
     refine RD.read (by kernel_rfl) (i := 35) (boE (!decide (lM.own = shaW (([0, 1, 1] ++ List.replicate 31 (0 : UInt8)) ++ [0, 0])))) rfl rfl rfl rfl rfl rfl (fun w' a h hag => op_neq hag rfl rfl rfl rfl rfl (by kernel_rfl) (eq_sum w' 9998 _ _)) ?_
     refine RD.adv tk (by kernel_rfl) [false] rfl rfl (by simp [hoe]) ?_
     refine RD.gives (i := 39) (sumE (shaW [])) rfl (by kernel_rfl) rfl rfl rfl rfl Tryz.call24 (fun u hu => Root_spec u (hG.ext hu.fact.1) none none trivial) rfl (fun _ h => h) ?_
     intro n39 hn39
     refine RD.gives (i := 40) (sumE (shaW [])) rfl (by kernel_rfl) rfl rfl rfl rfl Tryz.call78 (fun u hu => Of_spec u (hG.ext hu.fact.1) none 0 [] (Sl.void u) (by decide)) rfl (fun _ h => h) ?_
     intro n40 hn40
     refine RD.read (by kernel_rfl) (i := 41) (boE (!decide (shaW [] = shaW []))) rfl rfl rfl rfl rfl rfl (fun w' a h hag => op_neq hag rfl rfl rfl rfl rfl (by kernel_rfl) (eq_sum w' 9998 _ _)) ?_
     refine RD.adv tk (by kernel_rfl) [] rfl rfl (by simp <;> omega) ?_
     refine RD.done (.inl rfl) (by kernel_rfl) ?_
     refine RH.adv tk [false] rfl rfl (by simp) ?_
     exact RH.mtS () [] (.head _) rfl rfl rfl fun u h => ⟨h.1, h.2.1⟩
    ·refine opD_step tk (nx := 72) (i := 32) rfl rfl rfl rfl ?_ rfl (fun _ h => h) ⟨rfl, rfl⟩ ?_
     ·first | trivial | (simp; done)
     refine RD.adv tk (by kernel_rfl) [] rfl rfl (by simp <;> omega) ?_
     refine RD.go (i := 31) rfl (by kernel_rfl) rfl (OpGo.appendMakeR (id := 71) (b := ⟨n29, 0, none⟩) (sl := 3) (cap := 3) (q := 31) (e := 5) (i := Tryz.t5) (z := (Tryz.t5).zero.getD undef) (olds := [u8V 0, u8V 1, u8V 1]) tk rfl (by kernel_rfl) (by kernel_rfl) (by kernel_rfl) (by kernel_rfl) (by decide) (by kernel_rfl) rfl rfl rfl rfl (fun w' hst j v hj => ?_) (by decide) (by decide) (by decide) (by simp [maxLen])) 73 (fun _ => rfl) (fun _ _ h => h) ?_
     ·have := (Sl.own (B := w.heap.size) (hst.row (κ := kBy) (l := [0, 1, 1]) (id := 70) rfl) (by simp [hlim])).cells j v hj
      rw [Addr.add_lit]
      exact this
     rintro c31 n31 hn31
     rw [hz34]
     refine RD.adv tk (by kernel_rfl) [] rfl rfl (by simp <;> omega) ?_
     refine RD.apK (nx := 80) (i := 33) (κ := kBy) (id := 71) (l := ([0, 1, 1] ++ List.replicate 31 (0 : UInt8))) (r := [0, 0]) rfl (by kernel_rfl) rfl rfl rfl rfl rfl elt_byte rfl rfl (fun w' hst => hst.liR (id := 72) (κ := kBy) (l := [0, 0]) rfl (by simp [hlim])) (by decide) (by decide) (fun _ _ => rfl) (fun _ h => h) ?_
     intro A33 c33 n33 hn33
     refine RD.adv tk (by kernel_rfl) [] rfl rfl (by simp <;> omega) ?_
     refine RD.gives (i := 34) (sumE (shaW (([0, 1, 1] ++ List.replicate 31 (0 : UInt8)) ++ [0, 0]))) rfl (by kernel_rfl) rfl rfl rfl rfl Tryz.call78 (fun u hu => Of_spec u (hG.ext hu.fact.1) A33 c33 (([0, 1, 1] ++ List.replicate 31 (0 : UInt8)) ++ [0, 0]) (Sl.own (B := w.heap.size) (hu.row (κ := kBy) (l := (([0, 1, 1] ++ List.replicate 31 (0 : UInt8)) ++ [0, 0])) (id := 71) rfl) (by simp [hlim])) (by decide)) rfl (fun _ h => h) ?_
     intro n34 hn34
     refine RD.read (by kernel_rfl) (i := 35) (boE (!decide (lM.own = shaW (([0, 1, 1] ++ List.replicate 31 (0 : UInt8)) ++ [0, 0])))) rfl rfl rfl rfl rfl rfl (fun w' a h hag => op_neq hag rfl rfl rfl rfl rfl (by kernel_rfl) (eq_sum w' 9998 _ _)) ?_
     refine RD.adv tk (by kernel_rfl) [false] rfl rfl (by simp [hoe]) ?_
     refine RD.gives (i := 39) (sumE (shaW [])) rfl (by kernel_rfl) rfl rfl rfl rfl Tryz.call24 (fun u hu => Root_spec u (hG.ext hu.fact.1) none none trivial) rfl (fun _ h => h) ?_
     intro n39 hn39
     refine RD.gives (i := 40) (sumE (shaW [])) rfl (by kernel_rfl) rfl rfl rfl rfl Tryz.call78 (fun u hu => Of_spec u (hG.ext hu.fact.1) none 0 [] (Sl.void u) (by decide)) rfl (fun _ h => h) ?_
     intro n40 hn40
     refine RD.read (by kernel_rfl) (i := 41) (boE (!decide (shaW [] = shaW []))) rfl rfl rfl rfl rfl rfl (fun w' a h hag => op_neq hag rfl rfl rfl rfl rfl (by kernel_rfl) (eq_sum w' 9998 _ _)) ?_
     refine RD.adv tk (by kernel_rfl) [] rfl rfl (by simp <;> omega) ?_
     refine RD.done (.inl rfl) (by kernel_rfl) ?_
     refine RH.adv tk [false] rfl rfl (by simp) ?_
     exact RH.mtS () [] (.head _) rfl rfl rfl fun u h => ⟨h.1, h.2.1⟩
   ·refine opD_step tk (nx := 72) (i := 32) rfl rfl rfl rfl ?_ rfl (fun _ h => h) ⟨rfl, rfl⟩ ?_
    ·first | trivial | (simp; done)
    refine RD.adv tk (by kernel_rfl) [] rfl rfl (by simp <;> omega) ?_
    refine RD.step tk (nx := 70) (i := 30) rfl (by kernel_rfl) rfl rfl rfl ?_ rfl (fun _ h => h) ⟨rfl, rfl⟩ ?_
    ·first | trivial | (simp; done)
    refine RD.adv tk (by kernel_rfl) [] rfl rfl (by simp <;> omega) ?_
    refine RD.go (i := 31) rfl (by kernel_rfl) rfl (OpGo.appendMakeR (id := 71) (b := ⟨n29 + 1, 0, none⟩) (sl := 3) (cap := 3) (q := 31) (e := 5) (i := Tryz.t5) (z := (Tryz.t5).zero.getD undef) (olds := [u8V 0, u8V 1, u8V 1]) tk rfl (by kernel_rfl) (by kernel_rfl) (by kernel_rfl) (by kernel_rfl) (by decide) (by kernel_rfl) rfl rfl rfl rfl (fun w' hst j v hj => ?_) (by decide) (by decide) (by decide) (by simp [maxLen])) 73 (fun _ => rfl) (fun _ _ h => h) ?_
    ·have := (Sl.own (B := w.heap.size) (hst.row (κ := kBy) (l := [0, 1, 1]) (id := 70) rfl) (by simp [hlim])).cells j v hj
     rw [Addr.add_lit]
     exact this
    rintro c31 n31 hn31
    rw [hz34]
    refine RD.adv tk (by kernel_rfl) [] rfl rfl (by simp <;> omega) ?_
    refine RD.apK (nx := 80) (i := 33) (κ := kBy) (id := 71) (l := ([0, 1, 1] ++ List.replicate 31 (0 : UInt8))) (r := [0, 0]) rfl (by kernel_rfl) rfl rfl rfl rfl rfl elt_byte rfl rfl (fun w' hst => hst.liR (id := 72) (κ := kBy) (l := [0, 0]) rfl (by simp [hlim])) (by decide) (by decide) (fun _ _ => rfl) (fun _ h => h) ?_
    intro A33 c33 n33 hn33
    refine RD.adv tk (by kernel_rfl) [] rfl rfl (by simp <;> omega) ?_
    refine RD.gives (i := 34) (sumE (shaW (([0, 1, 1] ++ List.replicate 31 (0 : UInt8)) ++ [0, 0]))) rfl (by kernel_rfl) rfl rfl rfl rfl Tryz.call78 (fun u hu => Of_spec u (hG.ext hu.fact.1) A33 c33 (([0, 1, 1] ++ List.replicate 31 (0 : UInt8)) ++ [0, 0]) (Sl.own (B := w.heap.size) (hu.row (κ := kBy) (l := (([0, 1, 1] ++ List.replicate 31 (0 : UInt8)) ++ [0, 0])) (id := 71) rfl) (by simp [hlim])) (by decide)) rfl (fun _ h => h) ?_
    intro n34 hn34
    refine RD.read (by kernel_rfl) (i := 35) (boE (!decide (lM.own = shaW (([0, 1, 1] ++ List.replicate 31 (0 : UInt8)) ++ [0, 0])))) rfl rfl rfl rfl rfl rfl (fun w' a h hag => op_neq hag rfl rfl rfl rfl rfl (by kernel_rfl) (eq_sum w' 9998 _ _)) ?_
    refine RD.adv tk (by kernel_rfl) [false] rfl rfl (by simp [hoe]) ?_
    refine RD.gives (i := 39) (sumE (shaW [])) rfl (by kernel_rfl) rfl rfl rfl rfl Tryz.call24 (fun u hu => Root_spec u (hG.ext hu.fact.1) none none trivial) rfl (fun _ h => h) ?_
    intro n39 hn39
    refine RD.gives (i := 40) (sumE (shaW [])) rfl (by kernel_rfl) rfl rfl rfl rfl Tryz.call78 (fun u hu => Of_spec u (hG.ext hu.fact.1) none 0 [] (Sl.void u) (by decide)) rfl (fun _ h => h) ?_
    intro n40 hn40
    refine RD.read (by kernel_rfl) (i := 41) (boE (!decide (shaW [] = shaW []))) rfl rfl rfl rfl rfl rfl (fun w' a h hag => op_neq hag rfl rfl rfl rfl rfl (by kernel_rfl) (eq_sum w' 9998 _ _)) ?_
    refine RD.adv tk (by kernel_rfl) [] rfl rfl (by simp <;> omega) ?_
    refine RD.done (.inl rfl) (by kernel_rfl) ?_
    refine RH.adv tk [false] rfl rfl (by simp) ?_
    exact RH.mtS () [] (.head _) rfl rfl rfl fun u h => ⟨h.1, h.2.1⟩
  ·refine opD_step tk (nx := 70) (i := 30) rfl rfl rfl rfl ?_ rfl (fun _ h => h) ⟨rfl, rfl⟩ ?_
   ·first | trivial | (simp; done)
   refine RD.adv tk (by kernel_rfl) [] rfl rfl (by simp <;> omega) ?_
   refine RD.two (i := 29) (j := 32) (by kernel_rfl) ?_ ?_
   ·refine opD_go rfl rfl (OpGo.gives (sumE lM.own) rfl rfl rfl rfl Tryz.call24 (fun u hu => Root_spec u (hG.ext hu.fact.1) o2 (some lM) hu.fact.2.2)) 80 (fun _ => rfl) (fun _ _ h => h) ?_
    rintro ⟨⟩ n29 hn29
    refine RD.adv tk (by kernel_rfl) [] rfl rfl (by simp <;> omega) ?_
    refine RD.two (i := 31) (j := 32) (by kernel_rfl) ?_ ?_
    ·refine opD_go rfl rfl (OpGo.appendMakeR (id := 71) (b := ⟨m12, 0, none⟩) (sl := 3) (cap := 3) (q := 31) (e := 5) (i := Tryz.t5) (z := (Tryz.t5).zero.getD undef) (olds := [u8V 0, u8V 1, u8V 1]) tk rfl (by kernel_rfl) (by kernel_rfl) (by kernel_rfl) (by kernel_rfl) (by decide) (by kernel_rfl) rfl rfl rfl rfl (fun w' hst j v hj => ?_) (by decide) (by decide) (by decide) (by simp [maxLen])) 73 (fun _ => rfl) (fun _ _ h => h) ?_
     ·have := (Sl.own (B := w.heap.size) (hst.row (κ := kBy) (l := [0, 1, 1]) (id := 70) rfl) (by simp [hlim])).cells j v hj
      rw [Addr.add_lit]
      exact this
     rintro c31 n31 hn31
     rw [hz34]
     refine RD.adv tk (by kernel_rfl) [] rfl rfl (by simp <;> omega) ?_
     refine RD.step tk (nx := 72) (i := 32) rfl (by kernel_rfl) rfl rfl rfl ?_ rfl (fun _ h => h) ⟨rfl, rfl⟩ ?_
     ·first | trivial | (simp; done)
     refine RD.adv tk (by kernel_rfl) [] rfl rfl (by simp <;> omega) ?_
     refine RD.apK (nx := 80) (i := 33) (κ := kBy) (id := 71) (l := ([0, 1, 1] ++ List.replicate 31 (0 : UInt8))) (r := [0, 0]) rfl (by kernel_rfl) rfl rfl rfl rfl rfl elt_byte rfl rfl (fun w' hst => hst.liR (id := 72) (κ := kBy) (l := [0, 0]) rfl (by simp [hlim])) (by decide) (by decide) (fun _ _ => rfl) (fun _ h => h) ?_
     intro A33 c33 n33 hn33
     refine RD.adv tk (by kernel_rfl) [] rfl rfl (by simp <;> omega) ?_
     refine RD.gives (i := 34) (sumE (shaW (([0, 1, 1] ++ List.replicate 31 (0 : UInt8)) ++ [0, 0]))) rfl (by kernel_rfl) rfl rfl rfl rfl Tryz.call78 (fun u hu => Of_spec u (hG.ext hu.fact.1) A33 c33 (([0, 1, 1] ++ List.replicate 31 (0 : UInt8)) ++ [0, 0]) (Sl.own (B := w.heap.size) (hu.row (κ := kBy) (l := (([0, 1, 1] ++ List.replicate 31 (0 : UInt8)) ++ [0, 0])) (id := 71) rfl) (by simp [hlim])) (by decide)) rfl (fun _ h => h) ?_
     intro n34 hn34
     refine RD.read (by kernel_rfl) (i := 35) (boE (!decide (lM.own = shaW (([0, 1, 1] ++ List.replicate 31 (0 : UInt8)) ++ [0, 0])))) rfl rfl rfl rfl rfl rfl (fun w' a h hag => op_neq hag rfl rfl rfl rfl rfl (by kernel_rfl) (eq_sum w' 9998 _ _)) ?_
     refine RD.adv tk (by kernel_rfl) [false] rfl rfl (by simp [hoe]) ?_
     refine RD.gives (i := 39) (sumE (shaW [])) rfl (by kernel_rfl) rfl rfl rfl rfl Tryz.call24 (fun u hu => Root_spec u (hG.ext hu.fact.1) none none trivial) rfl (fun _ h => h) ?_
     intro n39 hn39
     refine RD.gives (i := 40) (sumE (shaW [])) rfl (by kernel_rfl) rfl rfl rfl rfl Tryz.call78 (fun u hu => Of_spec u (hG.ext hu.fact.1) none 0 [] (Sl.void u) (by decide)) rfl (fun _ h => h) ?_
     intro n40 hn40
     refine RD.read (by kernel_rfl) (i := 41) (boE (!decide (shaW [] = shaW []))) rfl rfl rfl rfl rfl rfl (fun w' a h hag => op_neq hag rfl rfl rfl rfl rfl (by kernel_rfl) (eq_sum w' 9998 _ _)) ?_
     refine RD.adv tk (by kernel_rfl) [] rfl rfl (by simp <;> omega) ?_
     refine RD.done (.inl rfl) (by kernel_rfl) ?_
     refine RH.adv tk [false] rfl rfl (by simp) ?_
     exact RH.mtS () [] (.head _) rfl rfl rfl fun u h => ⟨h.1, h.2.1⟩
    ·refine opD_step tk (nx := 72) (i := 32) rfl rfl rfl rfl ?_ rfl (fun _ h => h) ⟨rfl, rfl⟩ ?_
     ·first | trivial | (simp; done)
     refine RD.adv tk (by kernel_rfl) [] rfl rfl (by simp <;> omega) ?_
     refine RD.go (i := 31) rfl (by kernel_rfl) rfl (OpGo.appendMakeR (id := 71) (b := ⟨m12, 0, none⟩) (sl := 3) (cap := 3) (q := 31) (e := 5) (i := Tryz.t5) (z := (Tryz.t5).zero.getD undef) (olds := [u8V 0, u8V 1, u8V 1]) tk rfl (by kernel_rfl) (by kernel_rfl) (by kernel_rfl) (by kernel_rfl) (by decide) (by kernel_rfl) rfl rfl rfl rfl (fun w' hst j v hj => ?_) (by decide) (by decide) (by decide) (by simp [maxLen])) 73 (fun _ => rfl) (fun _ _ h => h) ?_
     ·have := (Sl.own (B := w.heap.size) (hst.row (κ := kBy) (l := [0, 1, 1]) (id := 70) rfl) (by simp [hlim])).cells j v hj
      rw [Addr.add_lit]
      exact this
     rintro c31 n31 hn31
     rw [hz34]
     refine RD.adv tk (by kernel_rfl) [] rfl rfl (by simp <;> omega) ?_
     refine RD.apK (nx := 80) (i := 33) (κ := kBy) (id := 71) (l := ([0, 1, 1] ++ List.replicate 31 (0 : UInt8))) (r := [0, 0]) rfl (by kernel_rfl) rfl rfl rfl rfl rfl elt_byte rfl rfl (fun w' hst => hst.liR (id := 72) (κ := kBy) (l := [0, 0]) rfl (by simp [hlim])) (by decide) (by decide) (fun _ _ => rfl) (fun _ h => h) ?_
     intro A33 c33 n33 hn33
     refine RD.adv tk (by kernel_rfl) [] rfl rfl (by simp <;> omega) ?_
     refine RD.gives (i := 34) (sumE (shaW (([0, 1, 1] ++ List.replicate 31 (0 : UInt8)) ++ [0, 0]))) rfl (by kernel_rfl) rfl rfl rfl rfl Tryz.call78 (fun u hu => Of_spec u (hG.ext hu.fact.1) A33 c33 (([0, 1, 1] ++ List.replicate 31 (0 : UInt8)) ++ [0, 0]) (Sl.own (B := w.heap.size) (hu.row (κ := kBy) (l := (([0, 1, 1] ++ List.replicate 31 (0 : UInt8)) ++ [0, 0])) (id := 71) rfl) (by simp [hlim])) (by decide)) rfl (fun _ h => h) ?_
     intro n34 hn34
     refine RD.read (by kernel_rfl) (i := 35) (boE (!decide (lM.own = shaW (([0, 1, 1] ++ List.replicate 31 (0 : UInt8)) ++ [0, 0])))) rfl rfl rfl rfl rfl rfl (fun w' a h hag => op_neq hag rfl rfl rfl rfl rfl (by kernel_rfl) (eq_sum w' 9998 _ _)) ?_
     refine RD.adv tk (by kernel_rfl) [false] rfl rfl (by simp [hoe]) ?_
     refine RD.gives (i := 39) (sumE (shaW [])) rfl (by kernel_rfl) rfl rfl rfl rfl Tryz.call24 (fun u hu => Root_spec u (hG.ext hu.fact.1) none none trivial) rfl (fun _ h => h) ?_
     intro n39 hn39
     refine RD.gives (i := 40) (sumE (shaW [])) rfl (by kernel_rfl) rfl rfl rfl rfl Tryz.call78 (fun u hu => Of_spec u (hG.ext hu.fact.1) none 0 [] (Sl.void u) (by decide)) rfl (fun _ h => h) ?_
     intro n40 hn40
     refine RD.read (by kernel_rfl) (i := 41) (boE (!decide (shaW [] = shaW []))) rfl rfl rfl rfl rfl rfl (fun w' a h hag => op_neq hag rfl rfl rfl rfl rfl (by kernel_rfl) (eq_sum w' 9998 _ _)) ?_
     refine RD.adv tk (by kernel_rfl) [] rfl rfl (by simp <;> omega) ?_
     refine RD.done (.inl rfl) (by kernel_rfl) ?_
     refine RH.adv tk [false] rfl rfl (by simp) ?_
     exact RH.mtS () [] (.head _) rfl rfl rfl fun u h => ⟨h.1, h.2.1⟩
   ·refine opD_step tk (nx := 72) (i := 32) rfl rfl rfl rfl ?_ rfl (fun _ h => h) ⟨rfl, rfl⟩ ?_
    ·first | trivial | (simp; done)
    refine RD.adv tk (by kernel_rfl) [] rfl rfl (by simp <;> omega) ?_
    refine RD.gives (nx := 80) (i := 29) (sumE lM.own) rfl (by kernel_rfl) rfl rfl rfl rfl Tryz.call24 (fun u hu => Root_spec u (hG.ext hu.fact.1) o2 (some lM) hu.fact.2.2) rfl (fun _ h => h) ?_
    intro n29 hn29
    refine RD.adv tk (by kernel_rfl) [] rfl rfl (by simp <;> omega) ?_
    refine RD.go (i := 31) rfl (by kernel_rfl) rfl (OpGo.appendMakeR (id := 71) (b := ⟨m12, 0, none⟩) (sl := 3) (cap := 3) (q := 31) (e := 5) (i := Tryz.t5) (z := (Tryz.t5).zero.getD undef) (olds := [u8V 0, u8V 1, u8V 1]) tk rfl (by kernel_rfl) (by kernel_rfl) (by kernel_rfl) (by kernel_rfl) (by decide) (by kernel_rfl) rfl rfl rfl rfl (fun w' hst j v hj => ?_) (by decide) (by decide) (by decide) (by simp [maxLen])) 73 (fun _ => rfl) (fun _ _ h => h) ?_
    ·have := (Sl.own (B := w.heap.size) (hst.row (κ := kBy) (l := [0, 1, 1]) (id := 70) rfl) (by simp [hlim])).cells j v hj
     rw [Addr.add_lit]
     exact this
    rintro c31 n31 hn31
    rw [hz34]
    refine RD.adv tk (by kernel_rfl) [] rfl rfl (by simp <;> omega) ?_
    refine RD.apK (nx := 80) (i := 33) (κ := kBy) (id := 71) (l := ([0, 1, 1] ++ List.replicate 31 (0 : UInt8))) (r := [0, 0]) rfl (by kernel_rfl) rfl rfl rfl rfl rfl elt_byte rfl rfl (fun w' hst => hst.liR (id := 72) (κ := kBy) (l := [0, 0]) rfl (by simp [hlim])) (by decide) (by decide) (fun _ _ => rfl) (fun _ h => h) ?_
    intro A33 c33 n33 hn33
    refine RD.adv tk (by kernel_rfl) [] rfl rfl (by simp <;> omega) ?_
    refine RD.gives (i := 34) (sumE (shaW (([0, 1, 1] ++ List.replicate 31 (0 : UInt8)) ++ [0, 0]))) rfl (by kernel_rfl) rfl rfl rfl rfl Tryz.call78 (fun u hu => Of_spec u (hG.ext hu.fact.1) A33 c33 (([0, 1, 1] ++ List.replicate 31 (0 : UInt8)) ++ [0, 0]) (Sl.own (B := w.heap.size) (hu.row (κ := kBy) (l := (([0, 1, 1] ++ List.replicate 31 (0 : UInt8)) ++ [0, 0])) (id := 71) rfl) (by simp [hlim])) (by decide)) rfl (fun _ h => h) ?_
    intro n34 hn34
    refine RD.read (by kernel_rfl) (i := 35) (boE (!decide (lM.own = shaW (([0, 1, 1] ++ List.replicate 31 (0 : UInt8)) ++ [0, 0])))) rfl rfl rfl rfl rfl rfl (fun w' a h hag => op_neq hag rfl rfl rfl rfl rfl (by kernel_rfl) (eq_sum w' 9998 _ _)) ?_
    refine RD.adv tk (by kernel_rfl) [false] rfl rfl (by simp [hoe]) ?_
    refine RD.gives (i := 39) (sumE (shaW [])) rfl (by kernel_rfl) rfl rfl rfl rfl Tryz.call24 (fun u hu => Root_spec u (hG.ext hu.fact.1) none none trivial) rfl (fun _ h => h) ?_
    intro n39 hn39
    refine RD.gives (i := 40) (sumE (shaW [])) rfl (by kernel_rfl) rfl rfl rfl rfl Tryz.call78 (fun u hu => Of_spec u (hG.ext hu.fact.1) none 0 [] (Sl.void u) (by decide)) rfl (fun _ h => h) ?_
    intro n40 hn40
    refine RD.read (by kernel_rfl) (i := 41) (boE (!decide (shaW [] = shaW []))) rfl rfl rfl rfl rfl rfl (fun w' a h hag => op_neq hag rfl rfl rfl rfl rfl (by kernel_rfl) (eq_sum w' 9998 _ _)) ?_
    refine RD.adv tk (by kernel_rfl) [] rfl rfl (by simp <;> omega) ?_
    refine RD.done (.inl rfl) (by kernel_rfl) ?_
    refine RH.adv tk [false] rfl rfl (by simp) ?_
    exact RH.mtS () [] (.head _) rfl rfl rfl fun u h => ⟨h.1, h.2.1⟩
  ·refine opD_step tk (nx := 72) (i := 32) rfl rfl rfl rfl ?_ rfl (fun _ h => h) ⟨rfl, rfl⟩ ?_
   ·first | trivial | (simp; done)
   refine RD.adv tk (by kernel_rfl) [] rfl rfl (by simp <;> omega) ?_
   refine RD.two (i := 29) (j := 30) (by kernel_rfl) ?_ ?_
   ·refine opD_go rfl rfl (OpGo.gives (sumE lM.own) rfl rfl rfl rfl Tryz.call24 (fun u hu => Root_spec u (hG.ext hu.fact.1) o2 (some lM) hu.fact.2.2)) 80 (fun _ => rfl) (fun _ _ h => h) ?_
    rintro ⟨⟩ n29 hn29
    refine RD.adv tk (by kernel_rfl) [] rfl rfl (by simp <;> omega) ?_
    refine RD.step tk (nx := 70) (i := 30) rfl (by kernel_rfl) rfl rfl rfl ?_ rfl (fun _ h => h) ⟨rfl, rfl⟩ ?_
    ·first | trivial | (simp; done)
    refine RD.adv tk (by kernel_rfl) [] rfl rfl (by simp <;> omega) ?_
    refine RD.go (i := 31) rfl (by kernel_rfl) rfl (OpGo.appendMakeR (id := 71) (b := ⟨n29, 0, none⟩) (sl := 3) (cap := 3) (q := 31) (e := 5) (i := Tryz.t5) (z := (Tryz.t5).zero.getD undef) (olds := [u8V 0, u8V 1, u8V 1]) tk rfl (by kernel_rfl) (by kernel_rfl) (by kernel_rfl) (by kernel_rfl) (by decide) (by kernel_rfl) rfl rfl rfl rfl (fun w' hst j v hj => ?_) (by decide) (by decide) (by decide) (by simp [maxLen])) 73 (fun _ => rfl) (fun _ _ h => h) ?_
    ·have := (Sl.own (B := w.heap.size) (hst.row (κ := kBy) (l := [0, 1, 1]) (id := 70) rfl) (by simp [hlim])).cells j v hj
     rw [Addr.add_lit]
     exact this
    rintro c31 n31 hn31
    rw [hz34]
    refine RD.adv tk (by kernel_rfl) [] rfl rfl (by simp <;> omega) ?_
    refine RD.apK (nx := 80) (i := 33) (κ := kBy) (id := 71) (l := ([0, 1, 1] ++ List.replicate 31 (0 : UInt8))) (r := [0, 0]) rfl (by kernel_rfl) rfl rfl rfl rfl rfl elt_byte rfl rfl (fun w' hst => hst.liR (id := 72) (κ := kBy) (l := [0, 0]) rfl (by simp [hlim])) (by decide) (by decide) (fun _ _ => rfl) (fun _ h => h) ?_
    intro A33 c33 n33 hn33
    refine RD.adv tk (by kernel_rfl) [] rfl rfl (by simp <;> omega) ?_
    refine RD.gives (i := 34) (sumE (shaW (([0, 1, 1] ++ List.replicate 31 (0 : UInt8)) ++ [0, 0]))) rfl (by kernel_rfl) rfl rfl rfl rfl Tryz.call78 (fun u hu => Of_spec u (hG.ext hu.fact.1) A33 c33 (([0, 1, 1] ++ List.replicate 31 (0 : UInt8)) ++ [0, 0]) (Sl.own (B := w.heap.size) (hu.row (κ := kBy) (l := (([0, 1, 1] ++ List.replicate 31 (0 : UInt8)) ++ [0, 0])) (id := 71) rfl) (by simp [hlim])) (by decide)) rfl (fun _ h => h) ?_
    intro n34 hn34
    refine RD.read (by kernel_rfl) (i := 35) (boE (!decide (lM.own = shaW (([0, 1, 1] ++ List.replicate 31 (0 : UInt8)) ++ [0, 0])))) rfl rfl rfl rfl rfl rfl (fun w' a h hag => op_neq hag rfl rfl rfl rfl rfl (by kernel_rfl) (eq_sum w' 9998 _ _)) ?_
    refine RD.adv tk (by kernel_rfl) [false] rfl rfl (by simp [hoe]) ?_
    refine RD.gives (i := 39) (sumE (shaW [])) rfl (by kernel_rfl) rfl rfl rfl rfl Tryz.call24 (fun u hu => Root_spec u (hG.ext hu.fact.1) none none trivial) rfl (fun _ h => h) ?_
    intro n39 hn39
    refine RD.gives (i := 40) (sumE (shaW [])) rfl (by kernel_rfl) rfl rfl rfl rfl Tryz.call78 (fun u hu => Of_spec u (hG.ext hu.fact.1) none 0 [] (Sl.void u) (by decide)) rfl (fun _ h => h) ?_
    intro n40 hn40
    refine RD.read (by kernel_rfl) (i := 41) (boE (!decide (shaW [] = shaW []))) rfl rfl rfl rfl rfl rfl (fun w' a h hag => op_neq hag rfl rfl rfl rfl rfl (by kernel_rfl) (eq_sum w' 9998 _ _)) ?_
    refine RD.adv tk (by kernel_rfl) [] rfl rfl (by simp <;> omega) ?_
    refine RD.done (.inl rfl) (by kernel_rfl) ?_
    refine RH.adv tk [false] rfl rfl (by simp) ?_
    exact RH.mtS () [] (.head _) rfl rfl rfl fun u h => ⟨h.1, h.2.1⟩
   ·refine opD_step tk (nx := 70) (i := 30) rfl rfl rfl rfl ?_ rfl (fun _ h => h) ⟨rfl, rfl⟩ ?_
    ·first | trivial | (simp; done)
    refine RD.adv tk (by kernel_rfl) [] rfl rfl (by simp <;> omega) ?_
    refine RD.gives (nx := 80) (i := 29) (sumE lM.own) rfl (by kernel_rfl) rfl rfl rfl rfl Tryz.call24 (fun u hu => Root_spec u (hG.ext hu.fact.1) o2 (some lM) hu.fact.2.2) rfl (fun _ h => h) ?_
    intro n29 hn29
    refine RD.adv tk (by kernel_rfl) [] rfl rfl (by simp <;> omega) ?_
    refine RD.go (i := 31) rfl (by kernel_rfl) rfl (OpGo.appendMakeR (id := 71) (b := ⟨m12 + 1, 0, none⟩) (sl := 3) (cap := 3) (q := 31) (e := 5) (i := Tryz.t5) (z := (Tryz.t5).zero.getD undef) (olds := [u8V 0, u8V 1, u8V 1]) tk rfl (by kernel_rfl) (by kernel_rfl) (by kernel_rfl) (by kernel_rfl) (by decide) (by kernel_rfl) rfl rfl rfl rfl (fun w' hst j v hj => ?_) (by decide) (by decide) (by decide) (by simp [maxLen])) 73 (fun _ => rfl) (fun _ _ h => h) ?_
    ·have := (Sl.own (B := w.heap.size) (hst.row (κ := kBy) (l := [0, 1, 1]) (id := 70) rfl) (by simp [hlim])).cells j v hj
     rw [Addr.add_lit]
     exact this
    rintro c31 n31 hn31
    rw [hz34]
    refine RD.adv tk (by kernel_rfl) [] rfl rfl (by simp <;> omega) ?_
    refine RD.apK (nx := 80) (i := 33) (κ := kBy) (id := 71) (l := ([0, 1, 1] ++ List.replicate 31 (0 : UInt8))) (r := [0, 0]) rfl (by kernel_rfl) rfl rfl rfl rfl rfl elt_byte rfl rfl (fun w' hst => hst.liR (id := 72) (κ := kBy) (l := [0, 0]) rfl (by simp [hlim])) (by decide) (by decide) (fun _ _ => rfl) (fun _ h => h) ?_
    intro A33 c33 n33 hn33
    refine RD.adv tk (by kernel_rfl) [] rfl rfl (by simp <;> omega) ?_
    refine RD.gives (i := 34) (sumE (shaW (([0, 1, 1] ++ List.replicate 31 (0 : UInt8)) ++ [0, 0]))) rfl (by kernel_rfl) rfl rfl rfl rfl Tryz.call78 (fun u hu => Of_spec u (hG.ext hu.fact.1) A33 c33 (([0, 1, 1] ++ List.replicate 31 (0 : UInt8)) ++ [0, 0]) (Sl.own (B := w.heap.size) (hu.row (κ := kBy) (l := (([0, 1, 1] ++ List.replicate 31 (0 : UInt8)) ++ [0, 0])) (id := 71) rfl) (by simp [hlim])) (by decide)) rfl (fun _ h => h) ?_
    intro n34 hn34
    refine RD.read (by kernel_rfl) (i := 35) (boE (!decide (lM.own = shaW (([0, 1, 1] ++ List.replicate 31 (0 : UInt8)) ++ [0, 0])))) rfl rfl rfl rfl rfl rfl (fun w' a h hag => op_neq hag rfl rfl rfl rfl rfl (by kernel_rfl) (eq_sum w' 9998 _ _)) ?_
    refine RD.adv tk (by kernel_rfl) [false] rfl rfl (by simp [hoe]) ?_
    refine RD.gives (i := 39) (sumE (shaW [])) rfl (by kernel_rfl) rfl rfl rfl rfl Tryz.call24 (fun u hu => Root_spec u (hG.ext hu.fact.1) none none trivial) rfl (fun _ h => h) ?_
    intro n39 hn39
    refine RD.gives (i := 40) (sumE (shaW [])) rfl (by kernel_rfl) rfl rfl rfl rfl Tryz.call78 (fun u hu => Of_spec u (hG.ext hu.fact.1) none 0 [] (Sl.void u) (by decide)) rfl (fun _ h => h) ?_
    intro n40 hn40
    refine RD.read (by kernel_rfl) (i := 41) (boE (!decide (shaW [] = shaW []))) rfl rfl rfl rfl rfl rfl (fun w' a h hag => op_neq hag rfl rfl rfl rfl rfl (by kernel_rfl) (eq_sum w' 9998 _ _)) ?_
    refine RD.adv tk (by kernel_rfl) [] rfl rfl (by simp <;> omega) ?_
    refine RD.done (.inl rfl) (by kernel_rfl) ?_
    refine RH.adv tk [false] rfl rfl (by simp) ?_
    exact RH.mtS () [] (.head _) rfl rfl rfl fun u h => ⟨h.1, h.2.1⟩
 rintro ⟨⟩ m13
 refine RH.toNx 100 ?_
 apply RH.joinK (α := Nat × Plot) (fun z => [(1, .av (.box 5 m1 0)), (15, .av (.box 100 z.1 0)), (3, intE 0)]) (fun z => [(5, some (.box m1 [.val (ptrO o1)] 31)), (64, some (.box m11 [.val (.pointer none)] 31)), (100, some (.box z.1 [.val (ptrO (some z.2))] 31))]) (fun z u => Ext w u ∧ IsO u o1 (some tM) ∧ IsO u (some z.2) tb1)
 ·refine RH.adv tk [] rfl rfl (by simp <;> omega) ?_
  refine RH.draw rfl [(5, some (.box m1 [.val (ptrO o1)] 31)), (64, some (.box m11 [.val (.pointer none)] 31))] rfl 9 rfl rfl ?_
  refine RD.adv tk (by kernel_rfl) [] rfl rfl (by simp <;> omega) ?_
  refine RD.two (i := 1) (j := 6) (by kernel_rfl) ?_ ?_
  ·refine opD_go rfl rfl (OpGo.gives (sumE (sum1 2)) rfl rfl rfl rfl Tryz.call21 (fun u hu => one3_spec u _)) 102 (fun _ => rfl) (fun _ _ h => h) ?_
   rintro ⟨⟩ q1a hq1a
   refine RD.adv tk (by kernel_rfl) [] rfl rfl (by simp <;> omega) ?_
   refine RD.two (i := 2) (j := 6) (by kernel_rfl) ?_ ?_
   ·refine V.opD_doesB (i := 2) [] 102 102 (fun b1 : Plot => .av (.val (.tuple #[.agg #[ptrV b1.b], intV 0]))) rfl rfl rfl rfl rfl Tryz.call20 (Put_ok none (none) ok_none.1 [98] sB (by decide) (.inr (by decide))) rfl rfl (fun _ => rfl) (fun _ => rfl) (fun u hu => ⟨hG.ext hu.fact.1, trivial⟩) (fun _ => rfl) (fun _ h => h) ?_
    rintro b2a q2a hq2a
    refine RD.adv tk (by kernel_rfl) [] rfl rfl (by simp <;> omega) ?_
    refine RD.step tk (nx := 100) (i := 6) rfl (by kernel_rfl) rfl rfl rfl ?_ rfl (fun _ h => h.1) ⟨rfl, rfl⟩ ?_
    ·first | trivial | (simp; done) | (simp [AllOb, Ob.P, hz31, Value.oneCell']; done)
    refine RD.adv tk (by kernel_rfl) [] rfl rfl (by simp <;> omega) ?_
    refine V.RD.slotE 194 (mapE (some b2a)) rfl rfl ?_
    refine RD.step tk (nx := 102) (i := 7) rfl (by kernel_rfl) rfl rfl rfl ?_ rfl (fun _ h => h.1) rfl ?_
    ·first | trivial | (simp; done) | (simp [AllOb, Ob.P, hz31, Value.oneCell']; done)
    refine RD.adv tk (by kernel_rfl) [] rfl rfl (by simp <;> omega) ?_
    refine RD.done (.inl rfl) (by kernel_rfl) ?_
    exact RH.mtS (q2a, b2a) [] (.head _) rfl rfl rfl fun u h => ⟨h.1.1, h.1.2, h.2.now trivial⟩
   ·refine opD_step tk (nx := 100) (i := 6) rfl rfl rfl rfl ?_ rfl (fun _ h => h) ⟨rfl, rfl⟩ ?_
    ·first | trivial | (simp; done) | (simp [AllOb, Ob.P, hz31, Value.oneCell']; done)
    refine RD.adv tk (by kernel_rfl) [] rfl rfl (by simp <;> omega) ?_
    refine RD.doB (nx := 102) (i := 2) [] 102 (fun b1 : Plot => .av (.val (.tuple #[.agg #[ptrV b1.b], intV 0]))) rfl (by kernel_rfl) rfl rfl rfl rfl Tryz.call20 (Put_ok none (none) ok_none.1 [98] sB (by decide) (.inr (by decide))) rfl rfl (fun _ => rfl) (fun _ => rfl) (fun u hu => ⟨hG.ext hu.fact.1, trivial⟩) (fun _ => rfl) (fun _ h => h) ?_
    rintro b2a q2a hq2a
    refine RD.adv tk (by kernel_rfl) [] rfl rfl (by simp <;> omega) ?_
    refine V.RD.slotE 194 (mapE (some b2a)) rfl rfl ?_
    refine RD.step tk (nx := 102) (i := 7) rfl (by kernel_rfl) rfl rfl rfl ?_ rfl (fun _ h => h.1) rfl ?_
    ·first | trivial | (simp; done) | (simp [AllOb, Ob.P, hz31, Value.oneCell']; done)
    refine RD.adv tk (by kernel_rfl) [] rfl rfl (by simp <;> omega) ?_
    refine RD.done (.inl rfl) (by kernel_rfl) ?_
    exact RH.mtS (q1a, b2a) [] (.head _) rfl rfl rfl fun u h => ⟨h.1.1, h.1.2, h.2.now trivial⟩
  ·refine opD_step tk (nx := 100) (i := 6) rfl rfl rfl rfl ?_ rfl (fun _ h => h) ⟨rfl, rfl⟩ ?_
   ·first | trivial | (simp; done) | (simp [AllOb, Ob.P, hz31, Value.oneCell']; done)
   refine RD.adv tk (by kernel_rfl) [] rfl rfl (by simp <;> omega) ?_
   refine RD.gives (nx := 102) (i := 1) (sumE (sum1 2)) rfl (by kernel_rfl) rfl rfl rfl rfl Tryz.call21 (fun u hu => one3_spec u _) rfl (fun _ h => h) ?_
   intro q1a hq1a
   refine RD.adv tk (by kernel_rfl) [] rfl rfl (by simp <;> omega) ?_
   refine RD.doB (nx := 102) (i := 2) [] 102 (fun b1 : Plot => .av (.val (.tuple #[.agg #[ptrV b1.b], intV 0]))) rfl (by kernel_rfl) rfl rfl rfl rfl Tryz.call20 (Put_ok none (none) ok_none.1 [98] sB (by decide) (.inr (by decide))) rfl rfl (fun _ => rfl) (fun _ => rfl) (fun u hu => ⟨hG.ext hu.fact.1, trivial⟩) (fun _ => rfl) (fun _ h => h) ?_
   rintro b2a q2a hq2a
   refine RD.adv tk (by kernel_rfl) [] rfl rfl (by simp <;> omega) ?_
   refine V.RD.slotE 194 (mapE (some b2a)) rfl rfl ?_
   refine RD.step tk (nx := 102) (i := 7) rfl (by kernel_rfl) rfl rfl rfl ?_ rfl (fun _ h => h.1) rfl ?_
   ·first | trivial | (simp; done) | (simp [AllOb, Ob.P, hz31, Value.oneCell']; done)
   refine RD.adv tk (by kernel_rfl) [] rfl rfl (by simp <;> omega) ?_
   refine RD.done (.inl rfl) (by kernel_rfl) ?_
   exact RH.mtS (m13, b2a) [] (.head _) rfl rfl rfl fun u h => ⟨h.1.1, h.1.2, h.2.now trivial⟩
 rintro ⟨ma, La⟩ m14
 refine RH.toNx 110 ?_
 dsimp only
 apply RH.joinK (α := Nat × Plot) (fun z => [(1, .av (.box 5 m1 0)), (3, intE 0), (16, .av (.box 110 z.1 0)), (5, intE 0)]) (fun z => [(5, some (.box m1 [.val (ptrO o1)] 31)), (100, some (.box ma [.val (ptrO (some La))] 31)), (110, some (.box z.1 [.val (ptrO (some z.2))] 31))]) (fun z u => Ext w u ∧ IsO u o1 (some tM) ∧ IsO u (some z.2) tboth)
 ·refine RH.adv tk [] rfl rfl (by simp <;> omega) ?_
  refine RH.draw rfl [(5, some (.box m1 [.val (ptrO o1)] 31)), (100, some (.box ma [.val (ptrO (some La))] 31))] rfl 9 rfl rfl ?_
  refine RD.adv tk (by kernel_rfl) [] rfl rfl (by simp <;> omega) ?_
  refine RD.two (i := 1) (j := 6) (by kernel_rfl) ?_ ?_
  ·refine opD_go rfl rfl (OpGo.gives (sumE (sum1 1)) rfl rfl rfl rfl Tryz.call21 (fun u hu => one3_spec u _)) 112 (fun _ => rfl) (fun _ _ h => h) ?_
   rintro ⟨⟩ q1b hq1b
   refine RD.adv tk (by kernel_rfl) [] rfl rfl (by simp <;> omega) ?_
   refine RD.two (i := 2) (j := 6) (by kernel_rfl) ?_ ?_
   ·refine V.opD_doesB (i := 2) [] 112 112 (fun b1 : Plot => .av (.val (.tuple #[.agg #[ptrV b1.b], intV 0]))) rfl rfl rfl rfl rfl Tryz.call20 (Put_ok (some La) (tb1) ok_tb1.1 [97] sA (by decide) (.inr (by have := ok_tb1.2.2; omega))) rfl rfl (fun _ => rfl) (fun _ => rfl) (fun u hu => ⟨hG.ext hu.fact.1, hu.fact.2.2⟩) (fun _ => rfl) (fun _ h => h) ?_
    rintro b2b q2b hq2b
    refine RD.adv tk (by kernel_rfl) [] rfl rfl (by simp <;> omega) ?_
    refine RD.step tk (nx := 110) (i := 6) rfl (by kernel_rfl) rfl rfl rfl ?_ rfl (fun _ h => h.1) ⟨rfl, rfl⟩ ?_
    ·first | trivial | (simp; done) | (simp [AllOb, Ob.P, hz31, Value.oneCell']; done)
    refine RD.adv tk (by kernel_rfl) [] rfl rfl (by simp <;> omega) ?_
    refine V.RD.slotE 200 (mapE (some b2b)) rfl rfl ?_
    refine RD.step tk (nx := 112) (i := 7) rfl (by kernel_rfl) rfl rfl rfl ?_ rfl (fun _ h => h.1) rfl ?_
    ·first | trivial | (simp; done) | (simp [AllOb, Ob.P, hz31, Value.oneCell']; done)
    refine RD.adv tk (by kernel_rfl) [] rfl rfl (by simp <;> omega) ?_
    refine RD.done (.inl rfl) (by kernel_rfl) ?_
    exact RH.mtS (q2b, b2b) [] (.head _) rfl rfl rfl fun u h => ⟨h.1.1, h.1.2.1, h.2.now h.1.2.2⟩
   ·refine opD_step tk (nx := 110) (i := 6) rfl rfl rfl rfl ?_ rfl (fun _ h => h) ⟨rfl, rfl⟩ ?_
    ·first | trivial | (simp; done) | (simp [AllOb, Ob.P, hz31, Value.oneCell']; done)
    refine RD.adv tk (by kernel_rfl) [] rfl rfl (by simp <;> omega) ?_
    refine RD.doB (nx := 112) (i := 2) [] 112 (fun b1 : Plot => .av (.val (.tuple #[.agg #[ptrV b1.b], intV 0]))) rfl (by kernel_rfl) rfl rfl rfl rfl Tryz.call20 (Put_ok (some La) (tb1) ok_tb1.1 [97] sA (by decide) (.inr (by have := ok_tb1.2.2; omega))) rfl rfl (fun _ => rfl) (fun _ => rfl) (fun u hu => ⟨hG.ext hu.fact.1, hu.fact.2.2⟩) (fun _ => rfl) (fun _ h => h) ?_
    rintro b2b q2b hq2b
    refine RD.adv tk (by kernel_rfl) [] rfl rfl (by simp <;> omega) ?_
    refine V.RD.slotE 200 (mapE (some b2b)) rfl rfl ?_
    refine RD.step tk (nx := 112) (i := 7) rfl (by kernel_rfl) rfl rfl rfl ?_ rfl (fun _ h => h.1) rfl ?_
    ·first | trivial | (simp; done) | (simp [AllOb, Ob.P, hz31, Value.oneCell']; done)
    refine RD.adv tk (by kernel_rfl) [] rfl rfl (by simp <;> omega) ?_
    refine RD.done (.inl rfl) (by kernel_rfl) ?_
    exact RH.mtS (q1b, b2b) [] (.head _) rfl rfl rfl fun u h => ⟨h.1.1, h.1.2.1, h.2.now h.1.2.2⟩
  ·refine opD_step tk (nx := 110) (i := 6) rfl rfl rfl rfl ?_ rfl (fun _ h => h) ⟨rfl, rfl⟩ ?_
   ·first | trivial | (simp; done) | (simp [AllOb, Ob.P, hz31, Value.oneCell']; done)
   refine RD.adv tk (by kernel_rfl) [] rfl rfl (by simp <;> omega) ?_
   refine RD.gives (nx := 112) (i := 1) (sumE (sum1 1)) rfl (by kernel_rfl) rfl rfl rfl rfl Tryz.call21 (fun u hu => one3_spec u _) rfl (fun _ h => h) ?_
   intro q1b hq1b
   refine RD.adv tk (by kernel_rfl) [] rfl rfl (by simp <;> omega) ?_
   refine RD.doB (nx := 112) (i := 2) [] 112 (fun b1 : Plot => .av (.val (.tuple #[.agg #[ptrV b1.b], intV 0]))) rfl (by kernel_rfl) rfl rfl rfl rfl Tryz.call20 (Put_ok (some La) (tb1) ok_tb1.1 [97] sA (by decide) (.inr (by have := ok_tb1.2.2; omega))) rfl rfl (fun _ => rfl) (fun _ => rfl) (fun u hu => ⟨hG.ext hu.fact.1, hu.fact.2.2⟩) (fun _ => rfl) (fun _ h => h) ?_
   rintro b2b q2b hq2b
   refine RD.adv tk (by kernel_rfl) [] rfl rfl (by simp <;> omega) ?_
   refine V.RD.slotE 200 (mapE (some b2b)) rfl rfl ?_
   refine RD.step tk (nx := 112) (i := 7) rfl (by kernel_rfl) rfl rfl rfl ?_ rfl (fun _ h => h.1) rfl ?_
   ·first | trivial | (simp; done) | (simp [AllOb, Ob.P, hz31, Value.oneCell']; done)
   refine RD.adv tk (by kernel_rfl) [] rfl rfl (by simp <;> omega) ?_
   refine RD.done (.inl rfl) (by kernel_rfl) ?_
   exact RH.mtS (m14, b2b) [] (.head _) rfl rfl rfl fun u h => ⟨h.1.1, h.1.2.1, h.2.now h.1.2.2⟩
 rintro ⟨mb, Lb⟩ m15
 refine RH.toNx 120 ?_
 dsimp only
 refine RH.adv tk [] rfl rfl (by simp <;> omega) ?_
 refine RH.doB [] 122 (hc := Tryz.call22) (ho := rfl) (hw := rfl) (hd := rfl) (hf := rfl) (hes := rfl) (hσ := rfl) (hn := rfl) (hV := fun _ => rfl) (hG := fun _ => rfl) (e := fun o : Option Plot => .av (.val (.tuple #[.agg #[ptrO o], intV 0]))) (hC := Drop_ok (some Lb) tboth ok_tboth.1 ok_tboth.2.1 [98] (by decide) (by rw [get_b]; rfl)) (hp := fun u hu => ⟨hG.ext hu.fact.1, hu.fact.2.2⟩) ?_
 rintro o5 m16 hm16
 refine V.RH.know (fun u => Ext w u ∧ IsO u o1 (some tM) ∧ IsO u (some Lb) tboth ∧ IsO u o5 tfew) (fun u h => ⟨h.1.1, h.1.2.1, h.1.2.2, h.2.now h.1.2.2⟩) ?_
 refine RH.adv tk [] rfl rfl (by simp [hz31, Value.oneCell'] <;> omega) ?_
 refine V.RH.slotE 205 (mapE o5) rfl rfl ?_
 refine RH.adv tk [] rfl rfl (by simp [hz31, Value.oneCell'] <;> omega) ?_
 refine RH.tell [(1, .av (.box 5 m1 0)), (3, intE 0), (5, intE 0), (7, intE 0), (16, .av (.box 110 mb 0)), (17, .av (.box 122 m16 0))] [(5, some (.box m1 [.val (ptrO o1)] 31)), (110, some (.box mb [.val (ptrO (some Lb))] 31)), (122, some (.box m16 [.val (ptrO o5)] 31))] [] rfl rfl rfl 130 ?_
 apply RH.joinK (α := Nat × Plot) (fun z => [(1, .av (.box 5 m1 0)), (3, intE 0), (5, intE 0), (7, intE 0), (16, .av (.box 110 mb 0)), (18, .av (.box 130 z.1 0)), (19, intE 0)]) (fun z => [(5, some (.box m1 [.val (ptrO o1)] 31)), (110, some (.box mb [.val (ptrO (some Lb))] 31)), (122, some (.box m16 [.val (ptrO o5)] 31)), (130, some (.box z.1 [.val (ptrO (some z.2))] 31))]) (fun z u => Ext w u ∧ IsO u o1 (some tM) ∧ IsO u (some Lb) tboth ∧ IsO u (some z.2) tagain)
 ·refine RH.adv tk [] rfl rfl (by simp <;> omega) ?_
  refine RH.draw rfl [(5, some (.box m1 [.val (ptrO o1)] 31)), (110, some (.box mb [.val (ptrO (some Lb))] 31)), (122, some (.box m16 [.val (ptrO o5)] 31))] rfl 9 rfl rfl ?_
  refine RD.adv tk (by kernel_rfl) [] rfl rfl (by simp <;> omega) ?_
  refine RD.two (i := 1) (j := 6) (by kernel_rfl) ?_ ?_
  ·refine opD_go rfl rfl (OpGo.gives (sumE (sum1 2)) rfl rfl rfl rfl Tryz.call21 (fun u hu => one3_spec u _)) 132 (fun _ => rfl) (fun _ _ h => h) ?_
   rintro ⟨⟩ q1c hq1c
   refine RD.adv tk (by kernel_rfl) [] rfl rfl (by simp <;> omega) ?_
   refine RD.two (i := 2) (j := 6) (by kernel_rfl) ?_ ?_
   ·refine V.opD_doesB (i := 2) [] 132 132 (fun b1 : Plot => .av (.val (.tuple #[.agg #[ptrV b1.b], intV 0]))) rfl rfl rfl rfl rfl Tryz.call20 (Put_ok o5 (tfew) ok_tfew.1 [98] sB (by decide) (.inr (by have := ok_tfew.2.2; omega))) rfl rfl (fun _ => rfl) (fun _ => rfl) (fun u hu => ⟨hG.ext hu.fact.1, hu.fact.2.2.2⟩) (fun _ => rfl) (fun _ h => h) ?_
    rintro b2c q2c hq2c
    refine RD.adv tk (by kernel_rfl) [] rfl rfl (by simp <;> omega) ?_
    refine RD.step tk (nx := 130) (i := 6) rfl (by kernel_rfl) rfl rfl rfl ?_ rfl (fun _ h => h.1) ⟨rfl, rfl⟩ ?_
    ·first | trivial | (simp; done) | (simp [AllOb, Ob.P, hz31, Value.oneCell']; done)
    refine RD.adv tk (by kernel_rfl) [] rfl rfl (by simp <;> omega) ?_
    refine V.RD.slotE 211 (mapE (some b2c)) rfl rfl ?_
    refine RD.step tk (nx := 132) (i := 7) rfl (by kernel_rfl) rfl rfl rfl ?_ rfl (fun _ h => h.1) rfl ?_
    ·first | trivial | (simp; done) | (simp [AllOb, Ob.P, hz31, Value.oneCell']; done)
    refine RD.adv tk (by kernel_rfl) [] rfl rfl (by simp <;> omega) ?_
    refine RD.done (.inl rfl) (by kernel_rfl) ?_
    exact RH.mtS (q2c, b2c) [] (.head _) rfl rfl rfl fun u h => ⟨h.1.1, h.1.2.1, h.1.2.2.1, h.2.now h.1.2.2.2⟩
   ·refine opD_step tk (nx := 130) (i := 6) rfl rfl rfl rfl ?_ rfl (fun _ h => h) ⟨rfl, rfl⟩ ?_
    ·first | trivial | (simp; done) | (simp [AllOb, Ob.P, hz31, Value.oneCell']; done)
    refine RD.adv tk (by kernel_rfl) [] rfl rfl (by simp <;> omega) ?_
    refine RD.doB (nx := 132) (i := 2) [] 132 (fun b1 : Plot => .av (.val (.tuple #[.agg #[ptrV b1.b], intV 0]))) rfl (by kernel_rfl) rfl rfl rfl rfl Tryz.call20 (Put_ok o5 (tfew) ok_tfew.1 [98] sB (by decide) (.inr (by have := ok_tfew.2.2; omega))) rfl rfl (fun _ => rfl) (fun _ => rfl) (fun u hu => ⟨hG.ext hu.fact.1, hu.fact.2.2.2⟩) (fun _ => rfl) (fun _ h => h) ?_
    rintro b2c q2c hq2c
    refine RD.adv tk (by kernel_rfl) [] rfl rfl (by simp <;> omega) ?_
    refine V.RD.slotE 211 (mapE (some b2c)) rfl rfl ?_
    refine RD.step tk (nx := 132) (i := 7) rfl (by kernel_rfl) rfl rfl rfl ?_ rfl (fun _ h => h.1) rfl ?_
    ·first | trivial | (simp; done) | (simp [AllOb, Ob.P, hz31, Value.oneCell']; done)
    refine RD.adv tk (by kernel_rfl) [] rfl rfl (by simp <;> omega) ?_
    refine RD.done (.inl rfl) (by kernel_rfl) ?_
    exact RH.mtS (q1c, b2c) [] (.head _) rfl rfl rfl fun u h => ⟨h.1.1, h.1.2.1, h.1.2.2.1, h.2.now h.1.2.2.2⟩
  ·refine opD_step tk (nx := 130) (i := 6) rfl rfl rfl rfl ?_ rfl (fun _ h => h) ⟨rfl, rfl⟩ ?_
   ·first | trivial | (simp; done) | (simp [AllOb, Ob.P, hz31, Value.oneCell']; done)
   refine RD.adv tk (by kernel_rfl) [] rfl rfl (by simp <;> omega) ?_
   refine RD.gives (nx := 132) (i := 1) (sumE (sum1 2)) rfl (by kernel_rfl) rfl rfl rfl rfl Tryz.call21 (fun u hu => one3_spec u _) rfl (fun _ h => h) ?_
   intro q1c hq1c
   refine RD.adv tk (by kernel_rfl) [] rfl rfl (by simp <;> omega) ?_
   refine RD.doB (nx := 132) (i := 2) [] 132 (fun b1 : Plot => .av (.val (.tuple #[.agg #[ptrV b1.b], intV 0]))) rfl (by kernel_rfl) rfl rfl rfl rfl Tryz.call20 (Put_ok o5 (tfew) ok_tfew.1 [98] sB (by decide) (.inr (by have := ok_tfew.2.2; omega))) rfl rfl (fun _ => rfl) (fun _ => rfl) (fun u hu => ⟨hG.ext hu.fact.1, hu.fact.2.2.2⟩) (fun _ => rfl) (fun _ h => h) ?_
   rintro b2c q2c hq2c
   refine RD.adv tk (by kernel_rfl) [] rfl rfl (by simp <;> omega) ?_
   refine V.RD.slotE 211 (mapE (some b2c)) rfl rfl ?_
   refine RD.step tk (nx := 132) (i := 7) rfl (by kernel_rfl) rfl rfl rfl ?_ rfl (fun _ h => h.1) rfl ?_
   ·first | trivial | (simp; done) | (simp [AllOb, Ob.P, hz31, Value.oneCell']; done)
   refine RD.adv tk (by kernel_rfl) [] rfl rfl (by simp <;> omega) ?_
   refine RD.done (.inl rfl) (by kernel_rfl) ?_
   exact RH.mtS (m16 + 1, b2c) [] (.head _) rfl rfl rfl fun u h => ⟨h.1.1, h.1.2.1, h.1.2.2.1, h.2.now h.1.2.2.2⟩
 rintro ⟨md, Ld⟩ m17
 refine RH.toNx 140 ?_
 dsimp only
 refine RH.adv tk [] rfl rfl (by simp <;> omega) ?_
 refine RH.gives (ho := rfl) (hw := rfl) (hd := rfl) (hf := rfl) (hes := rfl) (hc := Tryz.call22) (e := .av (.val (.tuple #[.agg #[.pointer none], intV 6]))) (hC := fun u hu => Drop_none u (some Lb) tboth hu.fact.2.2.1 ok_tboth.1 [99] (by decide) get_c) ?_
 intro m18 hm18
 refine RH.adv tk [] rfl rfl (by simp [hz31, Value.oneCell'] <;> omega) ?_
 refine V.RH.slotE 216 (mapE none) rfl rfl ?_
 refine RH.adv tk [] rfl rfl (by simp [hz31, Value.oneCell'] <;> omega) ?_
 refine RH.tell [(1, .av (.box 5 m1 0)), (3, intE 0), (5, intE 0), (7, intE 0), (16, .av (.box 110 mb 0)), (18, .av (.box 130 md 0)), (19, intE 0), (21, intE 6), (219, mapE o1)] [(5, some (.box m1 [.val (ptrO o1)] 31)), (110, some (.box mb [.val (ptrO (some Lb))] 31)), (130, some (.box md [.val (ptrO (some Ld))] 31))] [] rfl rfl rfl 150 ?_
 have hBel := Below_spec o1 (some tM) ok_tM.1 ok_tM.2.1 [97] (by decide)
 rw [below_a, if_neg (by simp)] at hBel
 refine RH.doB [] 152 (hc := Tryz.call31) (ho := rfl) (hw := rfl) (hd := rfl) (hf := rfl) (hes := rfl) (hσ := rfl) (hn := rfl) (hV := fun _ => rfl) (hG := fun _ => rfl) (e := fun o : Option Plot => .av (.val (.tuple #[.agg #[ptrO o], intV 0]))) (hC := hBel) (hp := fun u hu => ⟨hG.ext hu.fact.1, hu.fact.2.1⟩) ?_
 rintro o7 m19 hm19
 refine V.RH.know (fun u => (Ext w u ∧ IsO u (some Lb) tboth ∧ IsO u (some Ld) tagain) ∧ IsO u o7 (fromO [([98], sA), ([99], sB)])) (fun u h => ⟨⟨h.1.1, h.1.2.2.1, h.1.2.2.2⟩, h.2.now trivial⟩) ?_
 refine RH.adv tk [] rfl rfl (by simp [hz31, Value.oneCell'] <;> omega) ?_
 refine V.RH.slotE 221 (mapE o7) rfl rfl ?_
 refine RH.adv tk [] rfl rfl (by simp [hz31, Value.oneCell'] <;> omega) ?_
 refine RH.gives (ho := rfl) (hw := rfl) (hd := rfl) (hf := rfl) (hes := rfl) (hc := Tryz.call45) (e := .av (.val (.tuple #[.agg #[.pointer none], intV 2, intV 4]))) (hC := fun u hu => Decode_rest u (some ⟨m19 + 1, 0, none⟩) 3 (Sl.own (B := w.heap.size) (hu.row (κ := kBy) (l := [0, 0, 7]) (id := 153) rfl) (by simp [hlim]))) ?_
 intro m20 hm20
 refine RH.adv tk [] rfl rfl (by simp [hz31, Value.oneCell'] <;> omega) ?_
 refine V.RH.slotE 226 (mapE none) rfl rfl ?_
 refine RH.adv tk [] rfl rfl (by simp [hz31, Value.oneCell'] <;> omega) ?_
 refine RH.gives (ho := rfl) (hw := rfl) (hd := rfl) (hf := rfl) (hes := rfl) (hc := Tryz.call45) (e := .av (.val (.tuple #[.agg #[.pointer none], intV ((1 : Nat) : Int), intV 4]))) (hC := fun u hu => Decode_short u (some ⟨m20 + 1, 0, none⟩) 1 [0] (Sl.own (B := w.heap.size) (hu.row (κ := kBy) (l := [0]) (id := 155) rfl) (by simp [hlim])) (by simp)) ?_
 intro m21 hm21
 refine RH.adv tk [] rfl rfl (by simp [hz31, Value.oneCell'] <;> omega) ?_
 refine V.RH.slotE 232 (mapE none) rfl rfl ?_
 refine RH.adv tk [] rfl rfl (by simp [hz31, Value.oneCell'] <;> omega) ?_
 refine RH.tell [(3, intE 0), (5, intE 0), (7, intE 0), (16, .av (.box 110 mb 0)), (18, .av (.box 130 md 0)), (19, intE 0), (21, intE 6), (22, .av (.box 152 m19 0)), (23, intE 0), (25, intE 2), (26, intE 4), (28, intE 1), (29, intE 4), (235, .av (.val (.slice (some ⟨m21 + 1, 0, none⟩) 1 1)))] [(110, some (.box mb [.val (ptrO (some Lb))] 31)), (130, some (.box md [.val (ptrO (some Ld))] 31)), (152, some (.box m19 [.val (ptrO o7)] 31)), (157, rowE kStr (some ⟨m21 + 1, 0, none⟩) 1 [[97]])] [] rfl rfl rfl 160 ?_
 refine RH.doB [] 162 (hc := Tryz.call100) (ho := rfl) (hw := rfl) (hd := rfl) (hf := rfl) (hes := rfl) (hσ := rfl) (hn := rfl) (hV := fun _ => rfl) (hG := fun _ => rfl) (e := fun o : Option Plot => mapE o) (hC := lmade_spec (some ⟨m21 + 1, 0, none⟩) 1 [[97]] (by decide) fe_a) (hp := fun u hu => ⟨hG.ext hu.fact.1.1, Sl.own (B := w.heap.size) (hu.row (κ := kStr) (l := [[97]]) (id := 157) rfl) (by simp [hlim])⟩) ?_
 rintro o8 m22 hm22
 refine V.RH.know (fun u => ((Ext w u ∧ IsO u (some Lb) tboth ∧ IsO u (some Ld) tagain) ∧ IsO u o7 (fromO [([98], sA), ([99], sB)])) ∧ IsO u o8 (some (leaf [97] sA))) (fun u h => ⟨h.1, made_a ▸ h.2.now trivial⟩) ?_
 refine RH.adv tk [] rfl rfl (by simp <;> omega) ?_
 refine RH.doB [] 166 (hc := Tryz.call100) (ho := rfl) (hw := rfl) (hd := rfl) (hf := rfl) (hes := rfl) (hσ := rfl) (hn := rfl) (hV := fun _ => rfl) (hG := fun _ => rfl) (e := fun o : Option Plot => mapE o) (hC := lmade_spec (some ⟨m22, 0, none⟩) 1 [[98]] (by decide) fe_b) (hp := fun u hu => ⟨hG.ext hu.fact.1.1.1, Sl.own (B := w.heap.size) (hu.row (κ := kStr) (l := [[98]]) (id := 162) rfl) (by simp [hlim])⟩) ?_
 rintro o9 m23 hm23
 refine V.RH.know (fun u => (((Ext w u ∧ IsO u (some Lb) tboth ∧ IsO u (some Ld) tagain) ∧ IsO u o7 (fromO [([98], sA), ([99], sB)])) ∧ IsO u o8 (some (leaf [97] sA))) ∧ IsO u o9 (some (leaf [98] sA))) (fun u h => ⟨h.1, made_b ▸ h.2.now trivial⟩) ?_
 have hDiff := Diff_spec o8 (some (leaf [97] sA)) o9 (some (leaf [98] sA)) ok_la.1 ok_la.2.1 ok_lb.1 ok_lb.2.1 (by have := ok_la.2.2; omega) (by have := ok_lb.2.2; omega)
 rw [diff_ab] at hDiff
 refine RH.doB [] 172 (hc := Tryz.call53) (ho := rfl) (hw := rfl) (hd := rfl) (hf := rfl) (hes := rfl) (hσ := rfl) (hn := rfl) (hV := fun _ => rfl) (hG := fun _ => rfl) (e := fun y : Option Addr × Nat => .av (.val (.slice y.1 2 y.2))) (hC := hDiff) (hp := fun u hu => ⟨hu.fact.1.2, hu.fact.2⟩) ?_
 rintro ⟨AD, cD⟩ m24 hm24
 refine RH.drop ?_
 dsimp only
 refine RH.free (i := 166) rfl ?_
 refine V.RH.know (fun u => ((Ext w u ∧ IsO u (some Lb) tboth ∧ IsO u (some Ld) tagain) ∧ IsO u o7 (fromO [([98], sA), ([99], sB)])) ∧ Sl kTCh u AD cD [dA, dB]) (fun u h => ⟨h.1.1.1, Sl.own h.2 (by simp [hlim])⟩) ?_
 refine RH.adv tk [] rfl rfl (by simp <;> omega) ?_
 refine RH.tell [(3, intE 0), (5, intE 0), (7, intE 0), (16, .av (.box 110 mb 0)), (18, .av (.box 130 md 0)), (19, intE 0), (21, intE 6), (22, .av (.box 152 m19 0)), (23, intE 0), (25, intE 2), (26, intE 4), (28, intE 1), (29, intE 4), (30, slE AD 2 cD)] [(110, some (.box mb [.val (ptrO (some Lb))] 31)), (130, some (.box md [.val (ptrO (some Ld))] 31)), (152, some (.box m19 [.val (ptrO o7)] 31))] [] rfl rfl rfl 180 ?_
 refine RH.pure (fun u h => (h.2.ptr (i := 0) (Nat.succ_pos _) : Ptr AD)) fun hpD => ?_
 have hN1 := TNames_spec (some Lb) tboth 1000 ok_tboth.1 ok_tboth.2.1 (Nat.le_refl _)
 rw [names_both] at hN1
 have ok_o7 := from_all (N := 1000) [([98], sA), ([99], sB)] (Nat.le_refl _) (by decide) (by decide)
 have hN2 := TNames_spec o7 (fromO [([98], sA), ([99], sB)]) 1000 ok_o7.1 ok_o7.2.1 (Nat.le_refl _)
 rw [names_below] at hN2
 have hroot : rootO tagain = rootO tboth := by rw [again_both]
 refine RH.draw rfl [(110, some (.box mb [.val (ptrO (some Lb))] 31)), (130, some (.box md [.val (ptrO (some Ld))] 31)), (152, some (.box m19 [.val (ptrO o7)] 31))] rfl 89 rfl rfl ?_
 refine RD.adv tk (by kernel_rfl) [true, true] rfl rfl (by simp) ?_
 refine RD.two (i := 8) (j := 9) (by kernel_rfl) ?_ ?_
 ·refine V.opD_doesB (i := 8) [] 180 182 (fun y : Option Addr × Nat => rowS 180 y.1 2 y.2) rfl rfl rfl rfl rfl Tryz.call29 hN1 rfl rfl (fun _ => rfl) (fun _ => rfl) (fun u hu => hu.fact.1.1.2.1) (fun _ => rfl) (fun _ h => h) ?_
  rintro ⟨A8, c8⟩ p8 hp8
  refine RD.adv tk (by kernel_rfl) [] rfl rfl (by simp <;> omega) ?_
  refine RD.step tk (nx := 185) (i := 9) rfl (by kernel_rfl) rfl rfl rfl ?_ rfl (fun _ h => h.1) ⟨rfl, rfl⟩ ?_
  ·first | trivial | (simp; done)
  refine RD.adv tk (by kernel_rfl) [] rfl rfl (by simp <;> omega) ?_
  refine RD.gives (nx := 200) (i := 10) (boE (decide (([[97], [98]] : List Str) = [[97], [98]]))) rfl (by kernel_rfl) rfl rfl rfl rfl Tryz.call28 (fun u hu => equalS_spec u A8 (some ⟨p8, 0, none⟩) c8 2 [[97], [98]] [[97], [98]] (Sl.own (B := w.heap.size) (hu.row (κ := kStr) (l := [[97], [98]]) (id := 180) rfl) (by simp [hlim])) (Sl.own (B := w.heap.size) (hu.row (κ := kStr) (l := [[97], [98]]) (id := 185) rfl) (by simp [hlim]))) rfl (fun _ h => h.1) ?_
  intro p10 hp10
  refine RD.adv tk (by kernel_rfl) [true, true, true] rfl rfl (by simp) ?_
  refine RD.gives (nx := 200) (i := 22) (sumE (rootO tagain)) rfl (by kernel_rfl) rfl rfl rfl rfl Tryz.call24 (fun u hu => Root_spec u (hG.ext hu.fact.1.1.1.1) (some Ld) tagain hu.fact.1.1.1.2.2) rfl (fun _ h => h.1) ?_
  intro p22 hp22
  refine RD.adv tk (by kernel_rfl) [] rfl rfl (by simp <;> omega) ?_
  refine RD.gives (nx := 200) (i := 24) (sumE (rootO tboth)) rfl (by kernel_rfl) rfl rfl rfl rfl Tryz.call24 (fun u hu => Root_spec u (hG.ext hu.fact.1.1.1.1) (some Lb) tboth hu.fact.1.1.1.2.1) rfl (fun _ h => h.1) ?_
  intro p24 hp24
  refine RD.read (by kernel_rfl) (i := 25) (boE (decide (rootO tagain = rootO tboth))) rfl rfl rfl rfl rfl rfl (fun w' a h hag => op_eq hag rfl rfl rfl rfl rfl (by kernel_rfl) (eq_sum w' 9998 _ _)) ?_
  refine RD.adv tk (by kernel_rfl) [true, true, true] rfl rfl (by simp [hroot]) ?_
  refine RD.two (i := 37) (j := 38) (by kernel_rfl) ?_ ?_
  ·refine V.opD_doesB (i := 37) [] 190 192 (fun y : Option Addr × Nat => rowS 190 y.1 2 y.2) rfl rfl rfl rfl rfl Tryz.call29 hN2 rfl rfl (fun _ => rfl) (fun _ => rfl) (fun u hu => hu.fact.1.1.2) (fun _ => rfl) (fun _ h => h.1) ?_
   rintro ⟨A37, c37⟩ p37 hp37
   refine RD.adv tk (by kernel_rfl) [] rfl rfl (by simp <;> omega) ?_
   refine RD.step tk (nx := 195) (i := 38) rfl (by kernel_rfl) rfl rfl rfl ?_ rfl (fun _ h => h.1.1) ⟨rfl, rfl⟩ ?_
   ·first | trivial | (simp; done)
   refine RD.adv tk (by kernel_rfl) [] rfl rfl (by simp <;> omega) ?_
   refine RD.gives (nx := 200) (i := 39) (boE (decide (([[98], [99]] : List Str) = [[98], [99]]))) rfl (by kernel_rfl) rfl rfl rfl rfl Tryz.call28 (fun u hu => equalS_spec u A37 (some ⟨p37, 0, none⟩) c37 2 [[98], [99]] [[98], [99]] (Sl.own (B := w.heap.size) (hu.row (κ := kStr) (l := [[98], [99]]) (id := 190) rfl) (by simp [hlim])) (Sl.own (B := w.heap.size) (hu.row (κ := kStr) (l := [[98], [99]]) (id := 195) rfl) (by simp [hlim]))) rfl (fun _ h => h.1.1) ?_
   intro p39 hp39
   refine RD.adv tk (by kernel_rfl) [true, true, true, true, true, true] rfl rfl (by simp [hpD]) ?_
   refine RD.load (by kernel_rfl) (i := 66) (boE true) rfl rfl rfl rfl rfl rfl (fun u hu => by have h := tch_had hu.2 (i := 0) (Nat.succ_pos _); exact h) ?_
   refine RD.adv tk (by kernel_rfl) [true] rfl rfl (by simp [hpD]) ?_
   refine RD.load (by kernel_rfl) (i := 72) (boE false) rfl rfl rfl rfl rfl rfl (fun u hu => by have h := tch_has hu.2 (i := 0) (Nat.succ_pos _); exact h) ?_
   refine RD.adv tk (by kernel_rfl) [true] rfl rfl (by simp [hpD]) ?_
   refine RD.load (by kernel_rfl) (i := 79) (p := ⟨blkA AD, offA AD + 1 * 67 + 1, none⟩) (boE false) rfl rfl rfl rfl rfl (by kernel_rfl) (fun u hu => by have h := tch_had hu.2 (i := 1) (Nat.succ_lt_succ (Nat.succ_pos _)); exact h) ?_
   refine RD.adv tk (by kernel_rfl) [true] rfl rfl (by simp [hpD]) ?_
   refine RD.load (by kernel_rfl) (i := 86) (p := ⟨blkA AD, offA AD + 1 * 67 + 2, none⟩) (boE true) rfl rfl rfl rfl rfl (by kernel_rfl) (fun u hu => by have h := tch_has hu.2 (i := 1) (Nat.succ_lt_succ (Nat.succ_pos _)); exact h) ?_
   refine RD.adv tk (by kernel_rfl) [] rfl rfl (by simp <;> omega) ?_
   refine RD.done (.inl rfl) (by kernel_rfl) ?_
   refine RH.ret1 Tryz.func30 rfl rfl fun u hst => ⟨rfl, hst.fact.1.1.1.1.1⟩
  ·refine opD_step tk (nx := 195) (i := 38) rfl rfl rfl rfl ?_ rfl (fun _ h => h.1) ⟨rfl, rfl⟩ ?_
   ·first | trivial | (simp; done)
   refine RD.adv tk (by kernel_rfl) [] rfl rfl (by simp <;> omega) ?_
   refine RD.doB (nx := 190) (i := 37) [] 192 (fun y : Option Addr × Nat => rowS 190 y.1 2 y.2) rfl (by kernel_rfl) rfl rfl rfl rfl Tryz.call29 hN2 rfl rfl (fun _ => rfl) (fun _ => rfl) (fun u hu => hu.fact.1.1.2) (fun _ => rfl) (fun _ h => h.1) ?_
   rintro ⟨A37, c37⟩ p37 hp37
   refine RD.adv tk (by kernel_rfl) [] rfl rfl (by simp <;> omega) ?_
   refine RD.gives (nx := 200) (i := 39) (boE (decide (([[98], [99]] : List Str) = [[98], [99]]))) rfl (by kernel_rfl) rfl rfl rfl rfl Tryz.call28 (fun u hu => equalS_spec u A37 (some ⟨p24, 0, none⟩) c37 2 [[98], [99]] [[98], [99]] (Sl.own (B := w.heap.size) (hu.row (κ := kStr) (l := [[98], [99]]) (id := 190) rfl) (by simp [hlim])) (Sl.own (B := w.heap.size) (hu.row (κ := kStr) (l := [[98], [99]]) (id := 195) rfl) (by simp [hlim]))) rfl (fun _ h => h.1.1) ?_
   intro p39 hp39
   refine RD.adv tk (by kernel_rfl) [true, true, true, true, true, true] rfl rfl (by simp [hpD]) ?_
   refine RD.load (by kernel_rfl) (i := 66) (boE true) rfl rfl rfl rfl rfl rfl (fun u hu => by have h := tch_had hu.2 (i := 0) (Nat.succ_pos _); exact h) ?_
   refine RD.adv tk (by kernel_rfl) [true] rfl rfl (by simp [hpD]) ?_
   refine RD.load (by kernel_rfl) (i := 72) (boE false) rfl rfl rfl rfl rfl rfl (fun u hu => by have h := tch_has hu.2 (i := 0) (Nat.succ_pos _); exact h) ?_
   refine RD.adv tk (by kernel_rfl) [true] rfl rfl (by simp [hpD]) ?_
   refine RD.load (by kernel_rfl) (i := 79) (p := ⟨blkA AD, offA AD + 1 * 67 + 1, none⟩) (boE false) rfl rfl rfl rfl rfl (by kernel_rfl) (fun u hu => by have h := tch_had hu.2 (i := 1) (Nat.succ_lt_succ (Nat.succ_pos _)); exact h) ?_
   refine RD.adv tk (by kernel_rfl) [true] rfl rfl (by simp [hpD]) ?_
   refine RD.load (by kernel_rfl) (i := 86) (p := ⟨blkA AD, offA AD + 1 * 67 + 2, none⟩) (boE true) rfl rfl rfl rfl rfl (by kernel_rfl) (fun u hu => by have h := tch_has hu.2 (i := 1) (Nat.succ_lt_succ (Nat.succ_pos _)); exact h) ?_
   refine RD.adv tk (by kernel_rfl) [] rfl rfl (by simp <;> omega) ?_
   refine RD.done (.inl rfl) (by kernel_rfl) ?_
   refine RH.ret1 Tryz.func30 rfl rfl fun u hst => ⟨rfl, hst.fact.1.1.1.1.1⟩
 ·refine opD_step tk (nx := 185) (i := 9) rfl rfl rfl rfl ?_ rfl (fun _ h => h) ⟨rfl, rfl⟩ ?_
  ·first | trivial | (simp; done)
  refine RD.adv tk (by kernel_rfl) [] rfl rfl (by simp <;> omega) ?_
  refine RD.doB (nx := 180) (i := 8) [] 182 (fun y : Option Addr × Nat => rowS 180 y.1 2 y.2) rfl (by kernel_rfl) rfl rfl rfl rfl Tryz.call29 hN1 rfl rfl (fun _ => rfl) (fun _ => rfl) (fun u hu => hu.fact.1.1.2.1) (fun _ => rfl) (fun _ h => h) ?_
  rintro ⟨A8, c8⟩ p8 hp8
  refine RD.adv tk (by kernel_rfl) [] rfl rfl (by simp <;> omega) ?_
  refine RD.gives (nx := 200) (i := 10) (boE (decide (([[97], [98]] : List Str) = [[97], [98]]))) rfl (by kernel_rfl) rfl rfl rfl rfl Tryz.call28 (fun u hu => equalS_spec u A8 (some ⟨m24, 0, none⟩) c8 2 [[97], [98]] [[97], [98]] (Sl.own (B := w.heap.size) (hu.row (κ := kStr) (l := [[97], [98]]) (id := 180) rfl) (by simp [hlim])) (Sl.own (B := w.heap.size) (hu.row (κ := kStr) (l := [[97], [98]]) (id := 185) rfl) (by simp [hlim]))) rfl (fun _ h => h.1) ?_
  intro p10 hp10
  refine RD.adv tk (by kernel_rfl) [true, true, true] rfl rfl (by simp) ?_
  refine RD.gives (nx := 200) (i := 22) (sumE (rootO tagain)) rfl (by kernel_rfl) rfl rfl rfl rfl Tryz.call24 (fun u hu => Root_spec u (hG.ext hu.fact.1.1.1.1) (some Ld) tagain hu.fact.1.1.1.2.2) rfl (fun _ h => h.1) ?_
  intro p22 hp22
  refine RD.adv tk (by kernel_rfl) [] rfl rfl (by simp <;> omega) ?_
  refine RD.gives (nx := 200) (i := 24) (sumE (rootO tboth)) rfl (by kernel_rfl) rfl rfl rfl rfl Tryz.call24 (fun u hu => Root_spec u (hG.ext hu.fact.1.1.1.1) (some Lb) tboth hu.fact.1.1.1.2.1) rfl (fun _ h => h.1) ?_
  intro p24 hp24
  refine RD.read (by kernel_rfl) (i := 25) (boE (decide (rootO tagain = rootO tboth))) rfl rfl rfl rfl rfl rfl (fun w' a h hag => op_eq hag rfl rfl rfl rfl rfl (by kernel_rfl) (eq_sum w' 9998 _ _)) ?_
  refine RD.adv tk (by kernel_rfl) [true, true, true] rfl rfl (by simp [hroot]) ?_
  refine RD.two (i := 37) (j := 38) (by kernel_rfl) ?_ ?_
  ·refine V.opD_doesB (i := 37) [] 190 192 (fun y : Option Addr × Nat => rowS 190 y.1 2 y.2) rfl rfl rfl rfl rfl Tryz.call29 hN2 rfl rfl (fun _ => rfl) (fun _ => rfl) (fun u hu => hu.fact.1.1.2) (fun _ => rfl) (fun _ h => h.1) ?_
   rintro ⟨A37, c37⟩ p37 hp37
   refine RD.adv tk (by kernel_rfl) [] rfl rfl (by simp <;> omega) ?_
   refine RD.step tk (nx := 195) (i := 38) rfl (by kernel_rfl) rfl rfl rfl ?_ rfl (fun _ h => h.1.1) ⟨rfl, rfl⟩ ?_
   ·first | trivial | (simp; done)
   refine RD.adv tk (by kernel_rfl) [] rfl rfl (by simp <;> omega) ?_
   refine RD.gives (nx := 200) (i := 39) (boE (decide (([[98], [99]] : List Str) = [[98], [99]]))) rfl (by kernel_rfl) rfl rfl rfl rfl Tryz.call28 (fun u hu => equalS_spec u A37 (some ⟨p37, 0, none⟩) c37 2 [[98], [99]] [[98], [99]] (Sl.own (B := w.heap.size) (hu.row (κ := kStr) (l := [[98], [99]]) (id := 190) rfl) (by simp [hlim])) (Sl.own (B := w.heap.size) (hu.row (κ := kStr) (l := [[98], [99]]) (id := 195) rfl) (by simp [hlim]))) rfl (fun _ h => h.1.1) ?_
   intro p39 hp39
   refine RD.adv tk (by kernel_rfl) [true, true, true, true, true, true] rfl rfl (by simp [hpD]) ?_
   refine RD.load (by kernel_rfl) (i := 66) (boE true) rfl rfl rfl rfl rfl rfl (fun u hu => by have h := tch_had hu.2 (i := 0) (Nat.succ_pos _); exact h) ?_
   refine RD.adv tk (by kernel_rfl) [true] rfl rfl (by simp [hpD]) ?_
   refine RD.load (by kernel_rfl) (i := 72) (boE false) rfl rfl rfl rfl rfl rfl (fun u hu => by have h := tch_has hu.2 (i := 0) (Nat.succ_pos _); exact h) ?_
   refine RD.adv tk (by kernel_rfl) [true] rfl rfl (by simp [hpD]) ?_
   refine RD.load (by kernel_rfl) (i := 79) (p := ⟨blkA AD, offA AD + 1 * 67 + 1, none⟩) (boE false) rfl rfl rfl rfl rfl (by kernel_rfl) (fun u hu => by have h := tch_had hu.2 (i := 1) (Nat.succ_lt_succ (Nat.succ_pos _)); exact h) ?_
   refine RD.adv tk (by kernel_rfl) [true] rfl rfl (by simp [hpD]) ?_
   refine RD.load (by kernel_rfl) (i := 86) (p := ⟨blkA AD, offA AD + 1 * 67 + 2, none⟩) (boE true) rfl rfl rfl rfl rfl (by kernel_rfl) (fun u hu => by have h := tch_has hu.2 (i := 1) (Nat.succ_lt_succ (Nat.succ_pos _)); exact h) ?_
   refine RD.adv tk (by kernel_rfl) [] rfl rfl (by simp <;> omega) ?_
   refine RD.done (.inl rfl) (by kernel_rfl) ?_
   refine RH.ret1 Tryz.func30 rfl rfl fun u hst => ⟨rfl, hst.fact.1.1.1.1.1⟩
  ·refine opD_step tk (nx := 195) (i := 38) rfl rfl rfl rfl ?_ rfl (fun _ h => h.1) ⟨rfl, rfl⟩ ?_
   ·first | trivial | (simp; done)
   refine RD.adv tk (by kernel_rfl) [] rfl rfl (by simp <;> omega) ?_
   refine RD.doB (nx := 190) (i := 37) [] 192 (fun y : Option Addr × Nat => rowS 190 y.1 2 y.2) rfl (by kernel_rfl) rfl rfl rfl rfl Tryz.call29 hN2 rfl rfl (fun _ => rfl) (fun _ => rfl) (fun u hu => hu.fact.1.1.2) (fun _ => rfl) (fun _ h => h.1) ?_
   rintro ⟨A37, c37⟩ p37 hp37
   refine RD.adv tk (by kernel_rfl) [] rfl rfl (by simp <;> omega) ?_
   refine RD.gives (nx := 200) (i := 39) (boE (decide (([[98], [99]] : List Str) = [[98], [99]]))) rfl (by kernel_rfl) rfl rfl rfl rfl Tryz.call28 (fun u hu => equalS_spec u A37 (some ⟨p24, 0, none⟩) c37 2 [[98], [99]] [[98], [99]] (Sl.own (B := w.heap.size) (hu.row (κ := kStr) (l := [[98], [99]]) (id := 190) rfl) (by simp [hlim])) (Sl.own (B := w.heap.size) (hu.row (κ := kStr) (l := [[98], [99]]) (id := 195) rfl) (by simp [hlim]))) rfl (fun _ h => h.1.1) ?_
   intro p39 hp39
   refine RD.adv tk (by kernel_rfl) [true, true, true, true, true, true] rfl rfl (by simp [hpD]) ?_
   refine RD.load (by kernel_rfl) (i := 66) (boE true) rfl rfl rfl rfl rfl rfl (fun u hu => by have h := tch_had hu.2 (i := 0) (Nat.succ_pos _); exact h) ?_
   refine RD.adv tk (by kernel_rfl) [true] rfl rfl (by simp [hpD]) ?_
   refine RD.load (by kernel_rfl) (i := 72) (boE false) rfl rfl rfl rfl rfl rfl (fun u hu => by have h := tch_has hu.2 (i := 0) (Nat.succ_pos _); exact h) ?_
   refine RD.adv tk (by kernel_rfl) [true] rfl rfl (by simp [hpD]) ?_
   refine RD.load (by kernel_rfl) (i := 79) (p := ⟨blkA AD, offA AD + 1 * 67 + 1, none⟩) (boE false) rfl rfl rfl rfl rfl (by kernel_rfl) (fun u hu => by have h := tch_had hu.2 (i := 1) (Nat.succ_lt_succ (Nat.succ_pos _)); exact h) ?_
   refine RD.adv tk (by kernel_rfl) [true] rfl rfl (by simp [hpD]) ?_
   refine RD.load (by kernel_rfl) (i := 86) (p := ⟨blkA AD, offA AD + 1 * 67 + 2, none⟩) (boE true) rfl rfl rfl rfl rfl (by kernel_rfl) (fun u hu => by have h := tch_has hu.2 (i := 1) (Nat.succ_lt_succ (Nat.succ_pos _)); exact h) ?_
   refine RD.adv tk (by kernel_rfl) [] rfl rfl (by simp <;> omega) ?_
   refine RD.done (.inl rfl) (by kernel_rfl) ?_
   refine RH.ret1 Tryz.func30 rfl rfl fun u hst => ⟨rfl, hst.fact.1.1.1.1.1⟩
end Go.Proofs.YtbfjmimiigjenaaGreatDoor
namespace Go.Proofs.YtbfjmimiigjenaaGreatDoor
open Go V
theorem V.RD.lastStep0 {P : Program} {f : Fr} {n : Nat} {S : Stops} {R : Ending → World → Prop} {tb : TT} {B0 : Nat} {I : World → Prop} {H : Heap} {nx m : Nat} {env : SEnv} {k : List Item} {ops : Array Oper} {i : Nat} {l : List Bool} {G0 : Heap} {I0 : World → Prop} {o : Oper} (hk : tb.Ok P) {v : Option EV} {H' : Heap} {nx' m' : Nat} {ob : List Ob} {eq : List Eqn}
  (ho : ops.toList[i]? = some o) (hr : Region.ready .any ops l.toArray = [i]) (hw : wantE env ops o.guard = .yes) (hf : finB ops i = true) (hl : Region.ready .any ops (l.set i true).toArray = [])
  (hs : stepOp tb env H nx m [] [] o.op = some (v, H', nx', m', ob, eq)) (heq : AllEqn eq) (hob : AllOb ob) (hm : m ≤ m') {env' : SEnv} (hv : OutOk n v o.dst env env')
  (h : ∀ m1, m ≤ m1 → RH P f n tb B0 S R k env' H' nx' m1 I) : RD P f n tb B0 S R k ops G0 I0 (0 + 1) l env H nx m I := by
 refine RD.last (E := fun _ : Unit => env') (G := fun _ => H') (F := fun _ => I) ho hr hw hf ?_ nx' hl fun _ m1 hm1 => h m1 hm1
 intro w a hmw hst ha
 unfold OutOk at hv
 obtain ⟨w', q1, q2, q3, _⟩ := stepOp_ok hk ha hst hmw hs hob heq
 unfold Oper.wp
 rw [q1]
 cases v with
 | none =>
  cases hd : o.dst with
  | none =>
   rw [hd] at hv
   have hv : env' = env := hv
   subst hv
   exact ⟨(), by rw [hd]; exact ha, by omega, q2⟩
  | some d => rw [hd] at hv; exact hv.elim
 | some e =>
  cases hd : o.dst with
  | none => rw [hd] at hv; exact hv.elim
  | some d =>
   rw [hd] at hv
   obtain ⟨hdn, rfl⟩ := hv
   refine ⟨(), ?_, by omega, q2⟩
   rw [kn_cons, hd]
   exact ha.put (Nat.lt_of_lt_of_le (Nat.lt_succ_self d) (Nat.le_of_ble_eq_true hdn)) _
structure Sto where
 A : Option Addr
 c : Nat
 l : List UInt8
 at_ : Nat
 seed : Int
def stoB (b : Nat) (s : Sto) : HE := .box b [.val (.slice s.A s.l.length s.c), .val (intV s.at_), .val (.int .u64 s.seed)] 150
def Sto.to (s : Sto) (y : Nat × Int) : Sto := ⟨s.A, s.c, s.l, y.1, y.2⟩
def stepZ (z : Int) : Int := ((z * 6364136223846793005) % 18446744073709551616 + 1442695040888963407) % 18446744073709551616
def outZ (z : Int) : Int := (z % 18446744073709551616).fdiv (2 ^ min (Int.toNat 40) IntKind.u64.bits)
theorem outZ_range (z : Int) : 0 ≤ outZ z ∧ outZ z < 16777216 := by
 have e : (2 : Int) ^ min (Int.toNat 40) IntKind.u64.bits = 1099511627776 := by decide
 unfold outZ
 rw [e, Int.fdiv_eq_ediv_of_nonneg _ (by decide)]
 omega
theorem outZ_i64 (z : Int) : -9223372036854775808 ≤ (z % 18446744073709551616).fdiv (2 ^ min 40 IntKind.u64.bits) ∧ (z % 18446744073709551616).fdiv (2 ^ min 40 IntKind.u64.bits) ≤ 9223372036854775807 := by
 have := outZ_range z
 have e : outZ z = (z % 18446744073709551616).fdiv (2 ^ min 40 IntKind.u64.bits) := rfl
 omega
theorem out_int (z : Int) : intV ((outZ z).toNat : Nat) = .int .i64 (outZ z) := by
 unfold intV
 rw [Int.toNat_of_nonneg (outZ_range z).1]
set_option maxHeartbeats 1000000 in
theorem draw_spec (b : Nat) (s : Sto) (hn : s.l.length ≤ 300) (ha : s.at_ ≤ 1000000000) :
  Does Tryz.prog tb 139 [.pointer (some ⟨b, 0, none⟩)] [(0, some (stoB b s))] (fun u => Sl kBy u s.A s.c s.l) (fun y : Nat × Nat × Int => intV y.1) (fun y => [(0, some (stoB b (s.to y.2)))]) (fun y _ _ => y.1 < 16777216 ∧ y.2.1 ≤ s.at_ + 1) := by
 obtain ⟨A, c, l, a, z⟩ := s
 dsimp only at hn ha
 unfold stoB Sto.to
 dsimp only
 refine Does.enter tk [(0, .av (.box 0 b 0))] Tryz.func139 rfl Tryz.ntmps139 rfl rfl 1 ?_
 intro B0 m0 K
 by_cases h0 : 0 < l.length
 ·have hq : ((a : Int) % (l.length : Int)).toNat = a % l.length := by rw [← Int.natCast_emod]; exact Int.toNat_natCast _
  have hq1 : 0 ≤ (a : Int) % (l.length : Int) := Int.emod_nonneg _ (by omega)
  have hq2 : (a : Int) % (l.length : Int) < l.length := Int.emod_lt_of_pos _ (by omega)
  have hq3 : a % l.length < l.length := Nat.mod_lt _ h0
  refine RH.pure (fun u h => h.2.ptr hq3) fun hptr => ?_
  refine RH.adv tk [true] rfl rfl (by simp <;> omega) ?_
  refine RH.draw rfl [(0, some (.box b [.val (.slice A l.length c), .val (intV a), .val (.int .u64 z)] 150))] rfl 25 rfl rfl ?_
  refine RD.adv tk (by kernel_rfl) [] rfl rfl (by simp [hptr, hq1, hq2, h0] <;> omega) ?_
  refine RD.loadS (i := 19) (.av (.val (u8V l[a % l.length]))) rfl (by kernel_rfl) rfl rfl rfl (fun u hu => by rw [hq]; exact hu.fact.2.load hq3) rfl (fun _ h => h) ?_
  intro m1 hm1
  refine RD.adv tk (by kernel_rfl) [] rfl rfl (by simp) ?_
  refine RD.lastStep0 (i := 24) tk rfl (by kernel_rfl) rfl (by kernel_rfl) (by kernel_rfl) rfl rfl ?_ (Nat.le_refl _) rfl ?_
  ·first | trivial | (simp; done)
  intro m2 hm2
  refine RH.adv tk [] rfl rfl (by simp; exact ⟨outZ_i64 _, by omega, by omega⟩) ?_
  refine RH.ret1 Tryz.func139 rfl rfl fun w hst => ⟨((outZ ((IntKind.u64.wrap ↑(BitVec.ofInt IntKind.u64.bits z ^^^ BitVec.ofInt IntKind.u64.bits (↑l[a % l.length].toNat % 18446744073709551616)).toNat) * 6364136223846793005 % 18446744073709551616 + 1442695040888963407)).toNat, a + 1, stepZ ((IntKind.u64.wrap ↑(BitVec.ofInt IntKind.u64.bits z ^^^ BitVec.ofInt IntKind.u64.bits (↑l[a % l.length].toNat % 18446744073709551616)).toNat))), ?_, hst.out [(0, 0)] rfl rfl fun u h => ⟨h.1, ?_, ?_⟩⟩
  ·rw [out_int]; rfl
  ·have := outZ_range ((IntKind.u64.wrap ↑(BitVec.ofInt IntKind.u64.bits z ^^^ BitVec.ofInt IntKind.u64.bits (↑l[a % l.length].toNat % 18446744073709551616)).toNat) * 6364136223846793005 % 18446744073709551616 + 1442695040888963407); dsimp only; omega
  ·dsimp only; omega
 ·have h1 : l.length = 0 := by omega
  refine RH.adv tk [false] rfl rfl (by simp [h1]; exact outZ_i64 _) ?_
  refine RH.ret1 Tryz.func139 rfl rfl fun w hst => ⟨((outZ (z * 6364136223846793005 % 18446744073709551616 + 1442695040888963407)).toNat, a, stepZ (z)), ?_, hst.out [(0, 0)] rfl rfl fun u h => ⟨h.1, ?_, ?_⟩⟩
  ·rw [out_int]; rfl
  ·have := outZ_range (z * 6364136223846793005 % 18446744073709551616 + 1442695040888963407); dsimp only; omega
  ·dsimp only; omega
theorem rem_nat (v n : Nat) : ((v : Int) % (n : Int)) = ((v % n : Nat) : Int) := (Int.natCast_emod v n).symm
theorem less_spec (b : Nat) (s : Sto) (hn : s.l.length ≤ 300) (ha : s.at_ ≤ 1000000000) (n : Nat) (h1 : 0 < n) (h2 : n ≤ 1000000) :
  Does Tryz.prog tb 76 [.pointer (some ⟨b, 0, none⟩), intV n] [(0, some (stoB b s))] (fun u => Sl kBy u s.A s.c s.l) (fun y : Nat × Nat × Int => intV y.1) (fun y => [(0, some (stoB b (s.to y.2)))]) (fun y _ _ => y.1 < n ∧ y.2.1 ≤ s.at_ + 1) := by
 refine Does.enter tk [(0, .av (.box 0 b 0)), (1, intE n)] Tryz.func76 rfl Tryz.ntmps76 rfl rfl 1 ?_
 intro B0 m0 K
 refine RH.adv tk [false] rfl rfl (by simp [h1] <;> omega) ?_
 refine RH.doB [(0, 0)] 2 (hc := Tryz.call139) (ho := rfl) (hw := rfl) (hd := rfl) (hf := rfl) (hes := rfl) (hσ := rfl) (hn := rfl) (hV := fun _ => rfl) (hG := fun _ => rfl) (e := fun y : Nat × Nat × Int => intE y.1) (hC := draw_spec b s hn ha) (hp := fun u hu => hu.fact.2) ?_
 rintro ⟨v, a2, z2⟩ m2 hm2
 refine RH.pure (fun u h => h.2) fun hv => ?_
 have hm : v % n < n := Nat.mod_lt _ h1
 have hq := rem_nat v n
 refine RH.adv tk [] rfl rfl (by simp [hq] <;> omega) ?_
 refine RH.ret1 Tryz.func76 rfl rfl fun w hst => ⟨(v % n, a2, z2), ?_, hst.out [(0, 0)] rfl rfl fun u h => ⟨h.1.1, hm, hv.2⟩⟩
 dsimp only
 rw [← hq]; rfl
theorem build_sto (w : World) (A : Option Addr) (n c : Nat) : (Instr.build 150 #[(0, .slice A n c), (2, .int .u64 88172645463325252)]).run Tryz.prog w = .ok (.agg #[.slice A n c, intV 0, .int .u64 88172645463325252]) w := by
 refine run_build w _ _ _ ?_
 kernel_rfl
theorem OfK_spec (A : Option Addr) (c : Nat) (l : List UInt8) :
  Does Tryz.prog tb 15 [.slice A l.length c] [] (fun u => Sl kBy u A c l) (fun y : Nat × Option Addr × Nat => .pointer (some ⟨y.1, 0, none⟩)) (fun y => [(0, some (stoB y.1 ⟨y.2.1, y.2.2, l.take 300, 0, 88172645463325252⟩)), (1, rowE kBy y.2.1 y.2.2 (l.take 300))]) (fun _ _ _ => True) := by
 refine Does.enter tk [(0, slE A l.length c)] Tryz.func15 rfl Tryz.ntmps15 rfl rfl 0 ?_
 intro B0 m0 K
 refine RH.pure (fun u h => And.intro h.2.cap h.2.small) fun ⟨hcap, hsm⟩ => ?_
 have hl : lim = 140737488351232 := rfl
 refine RH.adv tk [] rfl rfl (by simp <;> omega) ?_
 have ht : (l.take 300).length ≤ l.length := by rw [List.length_take]; omega
 have ht3 : (l.take 300).length ≤ 300 := by rw [List.length_take]; omega
 refine RH.read (intE (((l.take 300).length : Nat) : Int)) rfl rfl rfl rfl (fun w' a _ ha => ?_) ?_
 ·have h1 : a.eval (.tmp 5) = .int .i64 l.length := ev_run (e := intE l.length) ha rfl
  have e : (if (300 : Int) < (l.length : Int) then (300 : Int) else (l.length : Int)) = (((l.take 300).length : Nat) : Int) := by rw [List.length_take]; split <;> omega
  have h2 : (Builtin.min_ #[3, 3] 3 #[.int .i64 l.length, .int .i64 300]).run Tryz.prog w' = .ok (.int .i64 (((l.take 300).length : Nat) : Int)) w' := by
   simp [Builtin.min_, Builtin.min2, e]
  have h3 : a.eval (.const (.int .i64 300)) = .int .i64 300 := rfl
  show (execOp a.eval ⟨some 6, .call ⟨.builtin .min, #[.tmp 5, .const (.int .i64 300)], #[3, 3]⟩, 3, _, _, _⟩).run Tryz.prog w' = _
  simp only [execOp, resolve, invoke, builtin, Sem.run_bind, Sem.run_pure, Result.andThen_ok, List.map_toArray, List.map_cons, List.map_nil, h1, h3, h2]
  rfl
 have hsl : ∀ u, Sl kBy u A c l → Sl kBy u A c (l.take 300) := fun u h => by
  by_cases h3 : 300 ≤ l.length
  ·exact Sl.take h 300 h3
  ·rw [List.take_of_length_le (by omega)]; exact h
 refine RH.adv tk [] rfl rfl (by simp <;> omega) ?_
 refine RH.doB [] 1 (hc := Tryz.call90) (ho := rfl) (hw := rfl) (hd := rfl) (hf := rfl) (hes := rfl) (hσ := rfl) (hn := rfl) (hV := fun _ => rfl) (hG := fun _ => rfl) (e := fun y : Option Addr × Nat => rowS 0 y.1 (l.take 300).length y.2) (hC := cloneB A c (l.take 300) (by omega)) (hp := fun u hu => hsl u hu.fact.2) ?_
 rintro ⟨A1, c1⟩ m1 hm1
 refine RH.drop ?_
 refine RH.read (.st [.val (.slice A1 (l.take 300).length c1), .val (intV 0), .val (.int .u64 88172645463325252)]) rfl rfl rfl rfl (fun w' a _ ha => ?_) ?_
 ·have h1 : a.eval (.tmp 8) = .slice A1 (l.take 300).length c1 := ev_run (e := rowS 0 A1 (l.take 300).length c1) ha rfl
  have h3 : a.eval (.const (.int .u64 88172645463325252)) = .int .u64 88172645463325252 := rfl
  simp only [execOp, List.map_toArray, List.map_cons, List.map_nil, h1, h3, build_sto, Sem.run_bind, Result.andThen_ok, Sem.run_pure]
  rfl
 refine RH.adv tk [] rfl rfl (by simp <;> omega) ?_
 refine RH.ret1 Tryz.func15 rfl rfl fun w hst => ⟨(m1, A1, c1), rfl, hst.out [(0, 1), (1, 0)] rfl rfl fun u h => ⟨h.1, trivial⟩⟩
open Go V RowKit
theorem seldom_spec (b : Nat) (s : Sto) (hn : s.l.length ≤ 300) (ha : s.at_ ≤ 1000000000) (n : Nat) (h1 : 0 < n) (h2 : n ≤ 1000000) :
  Does Tryz.prog tb 19 [.pointer (some ⟨b, 0, none⟩), intV n] [(0, some (stoB b s))] (fun u => Sl kBy u s.A s.c s.l) (fun y : Bool × Nat × Int => .bool y.1) (fun y => [(0, some (stoB b (s.to y.2)))]) (fun y _ _ => y.2.1 ≤ s.at_ + 1) := by
 refine Does.enter tk [(0, .av (.box 0 b 0)), (1, intE n)] Tryz.func19 rfl Tryz.ntmps19 rfl rfl 1 ?_
 intro B0 m0 K
 refine RH.adv tk [] rfl rfl (by simp <;> omega) ?_
 refine RH.doB [(0, 0)] 2 (hc := Tryz.call76) (ho := rfl) (hw := rfl) (hd := rfl) (hf := rfl) (hes := rfl) (hσ := rfl) (hn := rfl) (hV := fun _ => rfl) (hG := fun _ => rfl) (e := fun y : Nat × Nat × Int => intE y.1) (hC := less_spec b s hn ha n h1 h2) (hp := fun u hu => hu.fact.2) ?_
 rintro ⟨v, a2, z2⟩ m2 hm2
 refine RH.pure (fun u h => h.2) fun hv => ?_
 refine RH.adv tk [] rfl rfl (by simp <;> omega) ?_
 refine RH.ret1 Tryz.func19 rfl rfl fun w hst => ⟨(decide ((v : Int) = 0), a2, z2), rfl, hst.out [(0, 0)] rfl rfl fun u h => ⟨h.1.1, hv.2⟩⟩
theorem idxStr_spec (w : World) (A : Option Addr) (c : Nat) (l : List Str) (h : Sl kStr w A c l) (x : Str) : Gives Tryz.prog 244 [.slice A l.length c, strV x] w (intE (idxOf (fun y => decide (x = y)) l 0)) := by
 have hl : lim = 140737488351232 := rfl
 have hsm := h.small
 refine enterH tk [(0, slE A l.length c), (1, strE x)] Tryz.func244 rfl Tryz.ntmps244 rfl rfl ?_
 refine RH.adv tk [] rfl rfl (by simp <;> omega) ?_
 refine RH.loop (α := Nat) (fun i => [(0, slE A l.length c), (1, strE x), (7, intE l.length), (8, intE i)]) (fun _ => []) (fun i w' => Ext w w' ∧ i ≤ l.length ∧ (l.take i).any (fun y => decide (x = y)) = false) (fun i => l.length - i) 0
  rfl rfl (fun w' h => ⟨h, Nat.zero_le _, rfl⟩) ?_
 intro i m
 refine RH.pure (fun w' h => h.2) fun ⟨hi, hpre⟩ => ?_
 by_cases hlt : i < l.length
 ·have hts : l.take (i + 1) = l.take i ++ [l[i]] := List.take_succ_eq_append_getElem hlt
  have hp := h.ptr hlt
  refine RH.adv tk [true] rfl rfl (by simp [hp] <;> omega) ?_
  refine RH.load (strE l[i]) rfl rfl rfl rfl (fun w' h' => (h.ext h'.1).load hlt) ?_
  by_cases hp : x = l[i]
  ·refine RH.adv tk [true] rfl rfl (by simp [hp] <;> omega) ?_
   refine RH.ret1 Tryz.func244 rfl rfl fun w' hst => ⟨?_, hst.fact.1⟩
   rw [idxOf_at _ l 0 i hlt hpre (by simpa using hp), Nat.zero_add]
  ·refine RH.adv tk [false] rfl rfl (by simp [hp] <;> omega) ?_
   refine RH.again (i + 1) (.head _) rfl rfl (by omega) fun w' h => ⟨h.1, by omega, ?_⟩
   rw [hts, List.any_append, hpre]; simp [hp]
 ·rw [List.take_of_length_le (by omega)] at hpre
  refine RH.adv tk [false] rfl rfl (by simp <;> omega) ?_
  refine RH.ret1 Tryz.func244 rfl rfl fun w' hst => ⟨?_, hst.fact.1⟩
  rw [idxOf_none _ l 0 hpre]
def hasS (l : List Str) (x : Str) : Bool := l.any fun y => decide (x = y)
theorem conStr_spec (w : World) (A : Option Addr) (c : Nat) (l : List Str) (h : Sl kStr w A c l) (x : Str) : Gives Tryz.prog 166 [.slice A l.length c, strV x] w (boE (hasS l x)) := by
 refine enterH tk [(0, slE A l.length c), (1, strE x)] Tryz.func166 rfl Tryz.ntmps166 rfl rfl ?_
 refine RH.adv tk [] rfl rfl (by simp <;> omega) ?_
 refine RH.gives (intE (idxOf (fun y => decide (x = y)) l 0)) rfl rfl rfl rfl rfl Tryz.call244 (fun w' hst => idxStr_spec w' A c l (h.ext hst.fact) x) ?_
 intro m' hm'
 refine RH.adv tk [] rfl rfl (by simp <;> omega) ?_
 refine RH.ret1 Tryz.func166 rfl rfl fun w' hst => ⟨?_, hst.fact⟩
 have : decide (0 ≤ idxOf (fun y => decide (x = y)) l 0) = hasS l x := by rw [Bool.eq_iff_iff]; simp only [decide_eq_true_eq]; exact idxOf_ge _ l 0
 simp [this, EV.v, AV.v]
section
variable {n : Nat} {B0 : Nat} {I : World → Prop} {H : Heap} {m : Nat} {env : SEnv}
end
def nmK (t : Str) : Prop := t.length ≤ 50 ∧ (99 : UInt8) ∉ t
theorem nmK_nil : nmK [] := ⟨Nat.zero_le _, by simp⟩
theorem nmK_take {t : Str} (h : nmK t) (n : Nat) : nmK (t.take n) := ⟨by rw [List.length_take]; have := h.1; omega, fun hm => h.2 (List.mem_of_mem_take hm)⟩
theorem nmK_more {t : Str} (h : nmK t) (h2 : t.length < 50) {c : UInt8} (hc : c ∈ ([97, 98, 0, 255] : List UInt8)) : nmK (t ++ [c]) := ⟨by simp; omega, by
 rw [List.mem_append, List.mem_singleton]
 rintro (hm | rfl)
 ·exact h.2 hm
 ·exact absurd hc (by decide)⟩
theorem hasS_mem (l : List Str) (x : Str) : hasS l x = true ↔ x ∈ l := by
 unfold hasS
 rw [List.any_eq_true]
 constructor
 ·rintro ⟨y, hy, h⟩
  simp only [decide_eq_true_eq] at h
  subst h; exact hy
 ·exact fun h => ⟨x, h, by simp⟩
abbrev letters : List UInt8 := [97, 98, 0, 255]
set_option maxHeartbeats 1000000 in
theorem named03_spec (b : Nat) (s : Sto) (hn : s.l.length ≤ 300) (ha : s.at_ ≤ 100000) (most : Nat) (h2 : most ≤ 50) :
  Does Tryz.prog tb 91 [.pointer (some ⟨b, 0, none⟩), intV most] [(0, some (stoB b s))] (fun u => Sl kBy u s.A s.c s.l)
   (fun y : (Nat × Int) × (Option Addr × Nat) × List Str => .slice y.2.1.1 y.2.2.length y.2.1.2)
   (fun y => [(0, some (stoB b (s.to y.1))), (1, rowE kStr y.2.1.1 y.2.1.2 y.2.2)])
   (fun y _ _ => (y.2.2.Nodup ∧ (∀ t ∈ y.2.2, nmK t) ∧ y.2.2.length ≤ most) ∧ y.1.1 ≤ s.at_ + 1 + 7 * most) := by
 have hl : lim = 140737488351232 := rfl
 refine Does.enter tk [(0, .av (.box 0 b 0)), (1, intE most)] Tryz.func91 rfl Tryz.ntmps91 rfl rfl 1 ?_
 intro B0 m0 K
 refine RH.nilrow 1 kStr.T kStr.sz 2 ?_
 refine RH.adv tk [] rfl rfl (by simp <;> omega) ?_
 refine RH.doB [(0, 0)] 3 (hc := Tryz.call76) (ho := rfl) (hw := rfl) (hd := rfl) (hf := rfl) (hes := rfl) (hσ := rfl) (hn := rfl) (hV := fun _ => rfl) (hG := fun _ => rfl) (e := fun y : Nat × Nat × Int => intE y.1) (hC := less_spec b s hn (by omega) (most + 1) (by omega) (by omega)) (hp := fun u hu => hu.fact.2) ?_
 rintro ⟨n, st0⟩ m1 hm1
 refine RH.pure (fun u h => h.2) fun hnn => ?_
 dsimp only at hnn
 have hs0 : st0.1 ≤ s.at_ + 1 := hnn.2
 refine RH.adv tk [] rfl rfl (by simp <;> omega) ?_
 refine RH.loop (α := Nat × (Nat × Int) × (Option Addr × Nat) × List Str) (fun z => [(0, .av (.box 0 b 0)), (1, intE most), (5, rowS 1 z.2.2.1.1 z.2.2.2.length z.2.2.1.2), (11, intE n), (12, intE z.1)]) (fun z => [(0, some (stoB b (s.to z.2.1))), (1, rowE kStr z.2.2.1.1 z.2.2.1.2 z.2.2.2)])
  (fun z u => (K u ∧ Sl kBy u s.A s.c s.l) ∧ z.1 ≤ n ∧ (z.2.2.2.Nodup ∧ (∀ t ∈ z.2.2.2, nmK t) ∧ z.2.2.2.length ≤ z.1) ∧ z.2.1.1 ≤ s.at_ + 1 + 7 * z.1) (fun z => n - z.1) (0, st0, (none, 0), []) rfl rfl (fun u h => ⟨h.1, Nat.zero_le _, ⟨List.nodup_nil, by simp, Nat.le_refl _⟩, hs0⟩) ?_
 rintro ⟨k, st, ⟨A, c⟩, l⟩ m2
 refine RH.pure (fun u h => h.2) fun ⟨hk, ⟨hnd, hnm, hlk⟩, hst⟩ => ?_
 dsimp only at hk hnd hnm hlk hst ⊢
 by_cases hkn : k < n
 ·refine RH.adv tk [true] rfl rfl (by simp; omega) ?_
  apply RH.joinK (α := Str × Nat × Int) (fun z => [(0, .av (.box 0 b 0)), (1, intE most), (5, rowS 1 A l.length c), (11, intE n), (12, intE k), (6, strE z.1), (35, .av (.box 0 b 0))]) (fun z => [(0, some (stoB b (s.to z.2))), (1, rowE kStr A c l)]) (fun z u => (K u ∧ Sl kBy u s.A s.c s.l) ∧ nmK z.1 ∧ z.2.1 ≤ st.1 + 3)
  ·by_cases h0 : 0 < l.length
   ·refine RH.adv tk [true] rfl rfl (by simp [h0] <;> omega) ?_
    refine RH.doB [(0, 0)] 3 (hc := Tryz.call19) (ho := rfl) (hw := rfl) (hd := rfl) (hf := rfl) (hes := rfl) (hσ := rfl) (hn := rfl) (hV := fun _ => rfl) (hG := fun _ => rfl) (e := fun y : Bool × Nat × Int => boE y.1) (hC := seldom_spec b (s.to st) hn (by show st.1 ≤ _; omega) 2 (by omega) (by omega)) (hp := fun u hu => hu.fact.1.2) ?_
    rintro ⟨q, st1⟩ m3 hm3
    refine RH.pure (fun u h => h.2) fun hq => ?_
    dsimp only at hq
    have hs1 : st1.1 ≤ st.1 + 1 := hq
    cases q with
    | false =>
     refine RH.adv tk [false] rfl rfl (by simp <;> omega) ?_
     exact RH.mtS ([], st1) [] (.head _) rfl rfl rfl fun u h => ⟨h.1.1, nmK_nil, (by omega : st1.1 ≤ st.1 + 3)⟩
    | true =>
     refine RH.adv tk [true] rfl rfl (by simp <;> omega) ?_
     refine RH.doB [(0, 0)] 3 (hc := Tryz.call76) (ho := rfl) (hw := rfl) (hd := rfl) (hf := rfl) (hes := rfl) (hσ := rfl) (hn := rfl) (hV := fun _ => rfl) (hG := fun _ => rfl) (e := fun y : Nat × Nat × Int => intE y.1) (hC := less_spec b (s.to st1) hn (by show st1.1 ≤ _; omega) l.length (by omega) (by omega)) (hp := fun u hu => hu.fact.1.1.2) ?_
     rintro ⟨i, st2⟩ m4 hm4
     refine RH.pure (fun u h => h.2) fun hi => ?_
     dsimp only at hi
     have hs2 : st2.1 ≤ st1.1 + 1 := hi.2
     refine RH.pureS (fun u hu => hu.ptr (id := 1) (κ := kStr) (l := l) rfl (by intro e; rw [e] at h0; cases h0)) fun hptr => ?_
     refine RH.adv tk [] rfl rfl (by simp [hptr] <;> omega) ?_
     refine RH.loadS (strE l[i]) rfl rfl rfl rfl (fun u hu => hu.loadRow (κ := kStr) (id := 1) (l := l) rfl (by omega) hi.1) ?_
     have hle : List.length l[i] ≤ 50 := (hnm _ (List.getElem_mem hi.1)).1
     refine RH.adv tk [] rfl rfl (by simp <;> omega) ?_
     refine RH.doB [(0, 0)] 3 (hc := Tryz.call76) (ho := rfl) (hw := rfl) (hd := rfl) (hf := rfl) (hes := rfl) (hσ := rfl) (hn := rfl) (hV := fun _ => rfl) (hG := fun _ => rfl) (e := fun y : Nat × Nat × Int => intE y.1) (hC := less_spec b (s.to st2) hn (by show st2.1 ≤ _; omega) (l[i].length + 1) (by omega) (by have := (hnm _ (List.getElem_mem hi.1)).1; omega)) (hp := fun u hu => hu.fact.1.1.1.2) ?_
     rintro ⟨j, st3⟩ m5 hm5
     refine RH.pure (fun u h => h.2) fun hj => ?_
     dsimp only at hj
     have hs3 : st3.1 ≤ st2.1 + 1 := hj.2
     refine RH.adv tk [] rfl rfl (by simp; exact Nat.le_of_lt_succ hj.1) ?_
     exact RH.mtS (l[i].take j, st3) [] (.head _) rfl rfl rfl fun u h => ⟨h.1.1.1.1, nmK_take (hnm _ (List.getElem_mem hi.1)) j, (by omega : st3.1 ≤ st.1 + 3)⟩
   ·refine RH.adv tk [false] rfl rfl (by simp [h0] <;> omega) ?_
    exact RH.mtS ([], st) [] (.head _) rfl rfl rfl fun u h => ⟨h.1, nmK_nil, Nat.le_add_right _ _⟩
  rintro ⟨t, st3⟩ m5
  refine RH.pure (fun u h => h.2) fun ⟨ht, hst3⟩ => ?_
  dsimp only at ht hst3 ⊢
  refine RH.toNx 4 ?_
  refine RH.doB [(0, 0)] 3 (hc := Tryz.call76) (ho := rfl) (hw := rfl) (hd := rfl) (hf := rfl) (hes := rfl) (hσ := rfl) (hn := rfl) (hV := fun _ => rfl) (hG := fun _ => rfl) (e := fun y : Nat × Nat × Int => intE y.1) (hC := less_spec b (s.to st3) hn (by show st3.1 ≤ _; omega) 4 (by omega) (by omega)) (hp := fun u hu => hu.fact.1.2) ?_
  rintro ⟨q, st4⟩ m6 hm6
  refine RH.pure (fun u h => h.2) fun hq => ?_
  dsimp only at hq
  have hs4 : st4.1 ≤ st3.1 + 1 := hq.2
  refine RH.adv tk [] rfl rfl (by simp <;> omega) ?_
  refine RH.loop (α := Nat × Str × (Nat × Int)) (fun z => [(0, .av (.box 0 b 0)), (1, intE most), (5, rowS 1 A l.length c), (11, intE n), (12, intE k), (6, strE z.2.1), (36, intE q), (37, intE z.1)]) (fun z => [(0, some (stoB b (s.to z.2.2))), (1, rowE kStr A c l)])
   (fun z u => (K u ∧ Sl kBy u s.A s.c s.l) ∧ z.1 ≤ q ∧ nmK z.2.1 ∧ z.2.2.1 ≤ st4.1 + z.1) (fun z => q - z.1) (0, t, st4) rfl rfl (fun u h => ⟨h.1.1, Nat.zero_le _, ht, Nat.le_refl _⟩) ?_
  rintro ⟨j, t, st5⟩ m7
  refine RH.pure (fun u h => h.2) fun ⟨hj, ht, hst5⟩ => ?_
  dsimp only at hj ht hst5 ⊢
  by_cases hjq : j < q
  ·refine RH.adv tk [true] rfl rfl (by simp; omega) ?_
   refine RH.doB [(0, 0)] 4 (hc := Tryz.call76) (ho := rfl) (hw := rfl) (hd := rfl) (hf := rfl) (hes := rfl) (hσ := rfl) (hn := rfl) (hV := fun _ => rfl) (hG := fun _ => rfl) (e := fun y : Nat × Nat × Int => intE y.1) (hC := less_spec b (s.to st5) hn (by show st5.1 ≤ _; omega) 4 (by omega) (by omega)) (hp := fun u hu => hu.fact.1.2) ?_
   rintro ⟨r, st6⟩ m8 hm8
   refine RH.pure (fun u h => h.2) fun hr => ?_
   dsimp only at hr
   have hs6 : st6.1 ≤ st5.1 + 1 := hr.2
   refine RH.adv tk [] rfl rfl (by simp; exact ⟨rfl, by omega⟩) ?_
   have hr4 : r < letters.length := hr.1
   refine RH.loadS (.av (.val (u8V letters[r]))) rfl rfl rfl rfl (fun u hu => hu.loadRow (κ := kBy) (id := 3) (l := letters) rfl (by show 4 ≤ lim; decide) hr4) ?_
   have hcm : letters[r] ∈ letters := List.getElem_mem hr4
   generalize letters[r] = ch at hcm ⊢
   by_cases h50 : t.length < 50
   ·refine RH.adv tk [true] rfl rfl (by simp [h50] <;> omega) ?_
    refine RH.go rfl rfl (OpGo.byteStr (A := some ⟨m8, 0, none⟩) (c := 1) (l := [ch]) rfl rfl rfl (by simp) (fun u hu => Sl.own (B := B0) (hu.row (κ := kBy) (l := [ch]) (id := 4) rfl) (by simp [hl]))) 5 ?_
    rintro ⟨⟩ m9 hm9
    refine RH.adv tk [] rfl rfl (by simp <;> omega) ?_
    refine RH.again (j + 1, t ++ [ch], st6) (.head _) rfl rfl (by dsimp only; omega) fun u h => ⟨h.1.1, by dsimp only; omega, nmK_more ht h50 hcm, by dsimp only; omega⟩
   ·refine RH.adv tk [false] rfl rfl (by simp [h50] <;> omega) ?_
    refine RH.again (j + 1, t, st6) (.head _) rfl rfl (by dsimp only; omega) fun u h => ⟨h.1.1, by dsimp only; omega, ht, by dsimp only; omega⟩
  ·obtain rfl : j = q := by omega
   refine RH.adv tk [false] rfl rfl (by simp) ?_
   refine RH.gives (ho := rfl) (hw := rfl) (hd := rfl) (hf := rfl) (hes := rfl) (hc := Tryz.call166) (e := boE (hasS l t)) (hC := fun u hu => conStr_spec u A c l (Sl.own (B := B0) (hu.row (κ := kStr) (l := l) (id := 1) rfl) (by omega)) t) ?_
   intro m8 hm8
   by_cases hh : hasS l t = true
   ·refine RH.adv tk [false] rfl rfl (by simp [hh] <;> omega) ?_
    refine RH.again (k + 1, st5, (A, c), l) (.tail _ (.head _)) rfl rfl (by dsimp only; omega) fun u h => ⟨h.1, by dsimp only; omega, ⟨hnd, hnm, by dsimp only; omega⟩, by dsimp only; omega⟩
   ·have hh2 : hasS l t = false := by simpa using hh
    refine RH.adv tk [true] rfl rfl (by simp [hh2] <;> omega) ?_
    refine RH.apK (κ := kStr) (id := 1) (l := l) (r := [t]) rfl rfl rfl rfl rfl rfl elt_str rfl rfl (fun w hst => hst.liR (κ := kStr) (l := [t]) (id := 3) rfl (by simp [hl])) (by simp; omega) (by simp; omega) ?_
    intro A' c' m' hm'
    refine RH.adv tk [] rfl rfl (by simp <;> omega) ?_
    refine RH.again (k + 1, st5, (A', c'), l ++ [t]) (.tail _ (.head _)) rfl rfl (by dsimp only; omega) fun u h => ⟨h.1, by dsimp only; omega, ⟨?_, ?_, by simp; omega⟩, by dsimp only; omega⟩
    ·refine List.nodup_append.2 ⟨hnd, by simp, ?_⟩
     intro x hx y hy e
     rw [List.mem_singleton] at hy
     subst hy; subst e
     exact hh ((hasS_mem l x).2 hx)
    ·intro x hx
     rw [List.mem_append, List.mem_singleton] at hx
     rcases hx with hx | rfl
     ·exact hnm x hx
     ·exact ht
 ·obtain rfl : k = n := by omega
  refine RH.adv tk [false] rfl rfl (by simp) ?_
  refine RH.ret1 Tryz.func91 rfl rfl fun w hst => ⟨(st, (A, c), l), rfl, hst.out [] rfl rfl fun u h => ⟨h.1.1, ⟨hnd, hnm, by dsimp only; omega⟩, by dsimp only; omega⟩⟩
theorem u8_of (v : Nat) : Value.int .u8 ((v : Int) % 256) = u8V (UInt8.ofNat v) := by
 unfold u8V
 congr 1
set_option maxHeartbeats 1000000 in
theorem filled_spec (b : Nat) (s : Sto) (hn : s.l.length ≤ 300) (ha : s.at_ ≤ 1000) (most : Nat) (h2 : most ≤ 50) :
  Does Tryz.prog tb 16 [.pointer (some ⟨b, 0, none⟩), intV most] [(0, some (stoB b s))] (fun u => Sl kBy u s.A s.c s.l)
   (fun y : (Nat × Int) × (Option Addr × Nat) × (Option Addr × Nat) × List Str × List Sum => .tuple #[.slice y.2.1.1 y.2.2.2.1.length y.2.1.2, .slice y.2.2.1.1 y.2.2.2.2.length y.2.2.1.2])
   (fun y => [(0, some (stoB b (s.to y.1))), (1, rowE kStr y.2.1.1 y.2.1.2 y.2.2.2.1), (2, rowE kSum y.2.2.1.1 y.2.2.1.2 y.2.2.2.2)])
   (fun y _ _ => (y.2.2.2.1.Nodup ∧ (∀ t ∈ y.2.2.2.1, nmK t) ∧ y.2.2.2.1.length ≤ most) ∧ y.2.2.2.2.length = y.2.2.2.1.length ∧ y.1.1 ≤ s.at_ + 1 + 8 * most) := by
 have hl : lim = 140737488351232 := rfl
 refine Does.enter tk [(0, .av (.box 0 b 0)), (1, intE most)] Tryz.func16 rfl Tryz.ntmps16 rfl rfl 1 ?_
 intro B0 m0 K
 refine RH.adv tk [] rfl rfl (by simp <;> omega) ?_
 refine RH.doB [(0, 0)] 3 (hc := Tryz.call91) (ho := rfl) (hw := rfl) (hd := rfl) (hf := rfl) (hes := rfl) (hσ := rfl) (hn := rfl) (hV := fun _ => rfl) (hG := fun _ => rfl) (e := fun y : (Nat × Int) × (Option Addr × Nat) × List Str => rowS 2 y.2.1.1 y.2.2.length y.2.1.2) (hC := named03_spec b s hn (by omega) most h2) (hp := fun u hu => hu.fact.2) ?_
 rintro ⟨st0, ⟨A, c⟩, l⟩ m1 hm1
 refine RH.pure (fun u h => h.2) fun ⟨⟨hnd, hnm, hlm⟩, hst0⟩ => ?_
 dsimp only at hnd hnm hlm hst0 ⊢
 refine RH.nilrow 3 kSum.T kSum.sz 4 ?_
 refine RH.adv tk [] rfl rfl (by simp <;> omega) ?_
 refine RH.loop (α := Nat × (Nat × Int) × (Option Addr × Nat) × List Sum) (fun z => [(0, .av (.box 0 b 0)), (6, rowS 2 A l.length c), (7, rowS 3 z.2.2.1.1 z.2.2.2.length z.2.2.1.2), (12, intE l.length), (13, intE z.1)]) (fun z => [(0, some (stoB b (s.to z.2.1))), (2, rowE kStr A c l), (3, rowE kSum z.2.2.1.1 z.2.2.1.2 z.2.2.2)])
  (fun z u => (K u ∧ Sl kBy u s.A s.c s.l) ∧ z.1 ≤ l.length ∧ z.2.2.2.length = z.1 ∧ z.2.1.1 ≤ st0.1 + z.1) (fun z => l.length - z.1) (0, st0, (none, 0), []) rfl rfl (fun u h => ⟨h.1, Nat.zero_le _, rfl, Nat.le_refl _⟩) ?_
 rintro ⟨i, st, ⟨B, d⟩, xs⟩ m2
 refine RH.pure (fun u h => h.2) fun ⟨hi, hx, hst⟩ => ?_
 dsimp only at hi hx hst ⊢
 by_cases hlt : i < l.length
 ·refine RH.adv tk [true] rfl rfl (by simp <;> omega) ?_
  refine RH.doB [(0, 0)] 4 (hc := Tryz.call76) (ho := rfl) (hw := rfl) (hd := rfl) (hf := rfl) (hes := rfl) (hσ := rfl) (hn := rfl) (hV := fun _ => rfl) (hG := fun _ => rfl) (e := fun y : Nat × Nat × Int => intE y.1) (hC := less_spec b (s.to st) hn (by show st.1 ≤ _; omega) 4 (by omega) (by omega)) (hp := fun u hu => hu.fact.1.2) ?_
  rintro ⟨v, st1⟩ m3 hm3
  refine RH.pure (fun u h => h.2) fun hv => ?_
  dsimp only at hv
  have hs1 : st1.1 ≤ st.1 + 1 := hv.2
  refine RH.adv tk [] rfl rfl (by simp <;> omega) ?_
  dsimp only
  rw [u8_of v]
  refine RH.gives (ho := rfl) (hw := rfl) (hd := rfl) (hf := rfl) (hes := rfl) (hc := Tryz.call21) (e := sumE (sum1 (UInt8.ofNat v))) (hC := fun u hu => one3_spec u _) ?_
  intro m4 hm4
  refine RH.adv tk [] rfl rfl (by simp <;> omega) ?_
  refine RH.apK (κ := kSum) (id := 3) (l := xs) (r := [sum1 (UInt8.ofNat v)]) rfl rfl rfl rfl rfl rfl elt_sum rfl rfl (fun w hst => hst.liR (κ := kSum) (l := [sum1 (UInt8.ofNat v)]) (id := 4) rfl (by simp [hl])) (by simp; omega) (by simp; omega) ?_
  intro B' d' m' hm'
  refine RH.adv tk [] rfl rfl (by simp <;> omega) ?_
  refine RH.again (i + 1, st1, (B', d'), xs ++ [sum1 (UInt8.ofNat v)]) (.head _) rfl rfl (by dsimp only; omega) fun u h => ⟨h.1.1, by dsimp only; omega, by simp [hx], by dsimp only; omega⟩
 ·obtain rfl : i = l.length := by omega
  refine RH.adv tk [false] rfl rfl (by simp <;> omega) ?_
  refine RH.ret2 Tryz.func16 rfl rfl rfl fun w hst => ⟨(st, (A, c), (B, d), l, xs), rfl, hst.out [(0, 0), (1, 2), (2, 3)] rfl rfl fun u h => ⟨h.1.1, ⟨hnd, hnm, hlm⟩, hx, by dsimp only; omega⟩⟩
theorem less_lt : ∀ a b : Str, Op.bytesLess a b = true → a < b
 | [], [] => by simp [Op.bytesLess]
 | [], _ :: _ => fun _ => List.Lex.nil
 | _ :: _, [] => by simp [Op.bytesLess]
 | a :: x, b :: y => by
  intro h
  unfold Op.bytesLess at h
  by_cases h1 : a < b
  ·exact List.Lex.rel h1
  ·simp [h1] at h
   obtain ⟨rfl, h⟩ := h
   exact List.Lex.cons (less_lt x y h)
theorem wf_from : ∀ l : List (Str × Sum), wfO (fromO l) := by
 intro l
 have : ∀ (l : List (Str × Sum)) (t : Option Tree), wfO t → wfO (l.foldl (fun t e => some (putO t e.1 e.2)) t) := by
  intro l
  induction l with
  | nil => exact fun t h => h
  | cons e r ih => exact fun t h => ih _ (putO_wf h _ _)
 exact this l none trivial
theorem get_fold : ∀ (l : List (Str × Sum)) (t : Option Tree), wfO t → ∀ n, n ∉ l.map Prod.fst → getO (l.foldl (fun t e => some (putO t e.1 e.2)) t) n = getO t n
 | [], _, _, _, _ => rfl
 | e :: r, t, ht, n, hn => by
  rw [List.map_cons, List.mem_cons, not_or] at hn
  rw [List.foldl_cons, get_fold r _ (putO_wf ht _ _) n hn.2, putO_get ht, if_neg hn.1]
theorem get_from_none {l : List (Str × Sum)} {n : Str} (h : n ∉ l.map Prod.fst) : getO (fromO l) n = none := get_fold l none trivial n h
theorem get_fold_mem : ∀ (l : List (Str × Sum)) (t : Option Tree), wfO t → (l.map Prod.fst).Nodup → ∀ n x, (n, x) ∈ l → getO (l.foldl (fun t e => some (putO t e.1 e.2)) t) n = some x
 | [], _, _, _, _, _, h => by cases h
 | e :: r, t, ht, hd, n, x, h => by
  rw [List.map_cons, List.nodup_cons] at hd
  rw [List.foldl_cons]
  rcases List.mem_cons.1 h with rfl | h
  ·rw [get_fold r _ (putO_wf ht _ _) _ hd.1, putO_get ht, if_pos rfl]
  ·exact get_fold_mem r _ (putO_wf ht _ _) hd.2 n x h
theorem get_from {l : List (Str × Sum)} (hd : (l.map Prod.fst).Nodup) {n : Str} {x : Sum} (h : (n, x) ∈ l) : getO (fromO l) n = some x := get_fold_mem l none trivial hd n x h
theorem get_from_iff {l : List (Str × Sum)} (hd : (l.map Prod.fst).Nodup) (n : Str) (x : Sum) : getO (fromO l) n = some x ↔ (n, x) ∈ l := by
 constructor
 ·intro h
  by_cases hn : n ∈ l.map Prod.fst
  ·obtain ⟨⟨m, y⟩, hm, rfl⟩ := List.mem_map.1 hn
   have := get_from hd hm
   rw [this] at h
   injection h with h
   subst h; exact hm
  ·rw [get_from_none hn] at h; cases h
 ·exact get_from hd
theorem names_sorted {l : List (Str × Sum)} (hd : (l.map Prod.fst).Nodup) : (enO (fromO l)).map Prod.fst = sortN (l.map Prod.fst) := by
 have hw := wf_from l
 have hr := entsO_rise hw
 refine (sortN_eq ?_ ?_).symm
 ·have hnd : ((enO (fromO l)).map Prod.fst).Nodup := by
   rw [List.Nodup, List.pairwise_map]
   refine hr.imp fun {a b} h e => ?_
   have := less_lt _ _ h
   rw [e] at this
   exact List.lt_irrefl _ this
  refine (List.perm_ext_iff_of_nodup hnd hd).2 fun n => ?_
  constructor
  ·intro h
   obtain ⟨⟨m, y⟩, hm, rfl⟩ := List.mem_map.1 h
   have := (get_from_iff hd m y).1 ((meO hw m y).1 hm)
   exact List.mem_map.2 ⟨_, this, rfl⟩
  ·intro h
   obtain ⟨⟨m, y⟩, hm, rfl⟩ := List.mem_map.1 h
   exact List.mem_map.2 ⟨(m, y), (meO hw m y).2 ((get_from_iff hd m y).2 hm), rfl⟩
 ·rw [List.pairwise_map]
  exact hr.imp fun {a b} h => by
   simp only [decide_eq_true_eq]
   exact List.le_of_lt (less_lt _ _ h)
theorem scan_all : ∀ (r met : List Str), (met ++ r).Nodup → (∀ n ∈ r, n.length ≤ 60) → scanN met r = 0
 | [], _, _, _ => rfl
 | n :: r, met, hd, hs => by
  have h1 : ¬ 60 < n.length := by have := hs n (.head _); omega
  have h2 : ¬ hasN met n = true := by
   unfold hasN
   rw [List.any_eq_true]
   rintro ⟨m, hm, he⟩
   simp only [decide_eq_true_eq] at he
   subst he
   exact (List.nodup_append.1 hd).2.2 m hm m (.head _) rfl
  rw [scan_next h1 h2]
  exact scan_all r (met ++ [n]) (by rw [List.append_assoc]; exact hd) fun m hm => hs m (.tail _ hm)
theorem from_ok {names : List Str} {sums : List Sum} (hl : sums.length = names.length) (hm : names.length ≤ 600) (hd : names.Nodup) (hs : ∀ n ∈ names, n.length ≤ 60) : fromE names sums = 0 := by
 unfold fromE
 rw [if_neg (fun h => h hl.symm), if_neg (by omega)]
 exact scan_all names [] hd hs
theorem zip_fst {names : List Str} {sums : List Sum} (hl : sums.length = names.length) : (names.zip sums).map Prod.fst = names := List.map_fst_zip (by omega)
end Go.Proofs.YtbfjmimiigjenaaGreatDoor
