/-
A part of the proofs of the laws of a seat: contracts of functions and lemmas on them; the listed package variables hold what the program's text lays. No further condition.
-/
import Derived.Test.YtagnkcdhenilbaaGreatDoorKPC7
set_option linter.unusedVariables false
set_option linter.unusedSectionVars false
set_option linter.unusedSimpArgs false
namespace Go.Proofs.YtagnkcdhenilbaaGreatDoor
open Go V RowKit

theorem wBases1 (r0 r1 r2 r3 : Nat) (LA : Option Addr) : Does Tryz.prog tb 63 [.slice LA 4 4, sumV sB, sumV sC] [] (fun u => Glob u ∧ Sl kCom u LA 4 (cs4 none (some ⟨r1, 0, none⟩) (some ⟨r2, 0, none⟩) (some ⟨r3, 0, none⟩) 0 1 1 2) ∧ ∀ q ∈ (cs4 none (some ⟨r1, 0, none⟩) (some ⟨r2, 0, none⟩) (some ⟨r3, 0, none⟩) 0 1 1 2), Sl kSum u q.ps.A q.ps.c q.ps.l) (fun z : Option Addr × Nat => .tuple #[.slice z.1 1 z.2, intV 0]) (fun z => [(0, rowE kSum z.1 z.2 [sA])]) (fun _ _ _ => True) := by
  have h := Bases_spec LA 4 (cs4 none (some ⟨r1, 0, none⟩) (some ⟨r2, 0, none⟩) (some ⟨r3, 0, none⟩) 0 1 1 2) sB sC
  rw [base1] at h
  exact h
theorem wBases2 (r0 r1 r2 r3 : Nat) (LA : Option Addr) : Does Tryz.prog tb 63 [.slice LA 4 4, sumV sB, sumV sD] [] (fun u => Glob u ∧ Sl kCom u LA 4 (cs4 none (some ⟨r1, 0, none⟩) (some ⟨r2, 0, none⟩) (some ⟨r3, 0, none⟩) 0 1 1 2) ∧ ∀ q ∈ (cs4 none (some ⟨r1, 0, none⟩) (some ⟨r2, 0, none⟩) (some ⟨r3, 0, none⟩) 0 1 1 2), Sl kSum u q.ps.A q.ps.c q.ps.l) (fun z : Option Addr × Nat => .tuple #[.slice z.1 1 z.2, intV 0]) (fun z => [(0, rowE kSum z.1 z.2 [sB])]) (fun _ _ _ => True) := by
  have h := Bases_spec LA 4 (cs4 none (some ⟨r1, 0, none⟩) (some ⟨r2, 0, none⟩) (some ⟨r3, 0, none⟩) 0 1 1 2) sB sD
  rw [base2] at h
  exact h

theorem nilD (w : World) : Sl kSum w none 0 [] := ⟨Nat.le_refl _, Nat.zero_le _, fun h => absurd rfl h, fun j v h => by simp at h, fun _ => ⟨rfl, rfl⟩⟩

theorem V.RunD.four {P : Program} {f : Fr} {n : Nat} {S : Stops} {R : Ending → World → Prop} {tb : TT} {B0 : Nat} {I : World → Prop} {H : Heap} {nx m : Nat} {env : SEnv} {k : List Item} {ops : Array Oper} {l : List Bool} {G : Heap} {I0 : World → Prop} {fuel : Nat} {i j q r : Nat} (hr : Region.ready .any ops l.toArray = [i, j, q, r])
    (h1 : ∀ w a, w.heap.size = m → St tb B0 H I w → Agree n a (kn env) → wpOp P ops (QD P f n S R k) i (fun a' w' => St tb B0 G I0 w' ∧ V.wpAnyH P .any ops (QD P f n S R k) (St tb B0 G I0) fuel (l.set i true).toArray a' w') a w)
    (h2 : ∀ w a, w.heap.size = m → St tb B0 H I w → Agree n a (kn env) → wpOp P ops (QD P f n S R k) j (fun a' w' => St tb B0 G I0 w' ∧ V.wpAnyH P .any ops (QD P f n S R k) (St tb B0 G I0) fuel (l.set j true).toArray a' w') a w)
    (h3 : ∀ w a, w.heap.size = m → St tb B0 H I w → Agree n a (kn env) → wpOp P ops (QD P f n S R k) q (fun a' w' => St tb B0 G I0 w' ∧ V.wpAnyH P .any ops (QD P f n S R k) (St tb B0 G I0) fuel (l.set q true).toArray a' w') a w)
    (h4 : ∀ w a, w.heap.size = m → St tb B0 H I w → Agree n a (kn env) → wpOp P ops (QD P f n S R k) r (fun a' w' => St tb B0 G I0 w' ∧ V.wpAnyH P .any ops (QD P f n S R k) (St tb B0 G I0) fuel (l.set r true).toArray a' w') a w) :
    RunD P f n tb B0 S R k ops G I0 (fuel + 1) l env H nx m I := by
  intro w a hm hst hst0 ha
  refine V.wpAnyH_all hr (by simp) fun z hz => ?_
  have hz : z = i ∨ z = j ∨ z = q ∨ z = r := by simpa using hz
  rcases hz with rfl | rfl | rfl | rfl
  · have := h1 w a hm hst ha; simpa using this
  · have := h2 w a hm hst ha; simpa using this
  · have := h3 w a hm hst ha; simpa using this
  · have := h4 w a hm hst ha; simpa using this

set_option maxRecDepth 10000 in
set_option maxHeartbeats 2000000 in
theorem awake_spec (w : World) (hG : Glob w) : Gives Tryz.prog 15 [] w .tt := by
  have hl : lim = 140737488351232 := rfl
  refine enterH tb_ok [] Tryz.func15 rfl Tryz.ntmps15 rfl rfl ?_
  refine RunH.adv tb_ok [] rfl rfl (by simp <;> omega) ?_
  refine RunH.doesB [] 2 (hc := Tryz.call80) (ho := rfl) (hw := rfl) (hd := rfl) (hf := rfl) (hes := rfl) (hσ := rfl) (hn := rfl) (hV := fun _ => rfl) (hG := fun _ => rfl) (e := fun z : Option Addr × Nat => .st [.row 1 (.slice z.1 t1.length z.2), .val (.slice none 0 0)]) (hC := terms_spec _ _ q1 (by decide)) (hp := fun u hu => Sl.own (B := w.heap.size) (hu.row (κ := kPair) (l := q1) (id := 0) rfl) (by decide)) ?_
  rintro ⟨A1, c1⟩ m1 hm1
  refine RunH.drop ?_
  refine RunH.adv tb_ok [] rfl rfl (by simp <;> omega) ?_
  refine RunH.doesB [] 3 (hc := Tryz.call24) (ho := rfl) (hw := rfl) (hd := rfl) (hf := rfl) (hes := rfl) (hσ := rfl) (hn := rfl) (hV := fun _ => rfl) (hG := fun _ => rfl) (e := fun z : Option Addr × Nat => .av (.val (.tuple #[.slice z.1 3 z.2, intV 0]))) (hC := wFind (A1, c1)) (hp := fun u hu => ⟨(hG.ext hu.fact).max, Sl.own (B := w.heap.size) (hu.row (κ := kEntry) (l := t1) (id := 1) rfl) (by show t1.length ≤ lim; decide), nil_ok u⟩) ?_
  rintro ⟨A2, c2⟩ m2 hm2
  refine RunH.drop ?_
  refine RunH.adv tb_ok [] rfl rfl (by simp <;> omega) ?_
  refine RunH.gives (ho := rfl) (hw := rfl) (hd := rfl) (hf := rfl) (hes := rfl) (hc := Tryz.call26) (e := .av (.val (.tuple #[sumV (plainS t1 [] 1 [109, 97, 112]), intV 7]))) (hC := fun u hu => wPlain1 u (A1, c1) (hG.ext hu.fact).max ⟨Sl.own (B := w.heap.size) (hu.row (κ := kEntry) (l := t1) (id := 1) rfl) (by show t1.length ≤ lim; decide), nil_ok u⟩) ?_
  intro m3 hm3
  generalize plainS t1 [] 1 [109, 97, 112] = sx
  refine RunH.adv tb_ok [] rfl rfl (by simp [AllOb, Ob.P, sum_len, sz_sum, one_int, u8V_one]) ?_
  refine RunH.gives (ho := rfl) (hw := rfl) (hd := rfl) (hf := rfl) (hes := rfl) (hc := Tryz.call26) (e := .av (.val (.tuple #[sumV (sumN 1), intV 0]))) (hC := fun u hu => wPlain2 u (A1, c1) (hG.ext hu.fact).max ⟨Sl.own (B := w.heap.size) (hu.row (κ := kEntry) (l := t1) (id := 1) rfl) (by show t1.length ≤ lim; decide), nil_ok u⟩) ?_
  intro m4 hm4
  refine RunH.adv tb_ok [] rfl rfl (by simp [AllOb, Ob.P, sum_len, sz_sum, one_int, u8V_one]) ?_
  refine RunH.read (sumE (sumN 2)) rfl rfl rfl rfl (fun u a _ hag => ?_) ?_
  · have e1 : a.eval (.const (.int .u8 2)) = u8V 2 := ev_run (e := .av (.val (u8V 2))) hag rfl
    simp only [execOp, List.map_toArray, List.map_cons, List.map_nil, e1, build_sum, Sem.run_bind, Result.andThen_ok, Sem.run_pure]
    rfl
  refine RunH.gives (ho := rfl) (hw := rfl) (hd := rfl) (hf := rfl) (hes := rfl) (hc := Tryz.call31) (e := .av (.val (.tuple #[strV [105, 100], intV 0]))) (hC := fun u hu => wName1 u (A1, c1) (hG.ext hu.fact).max ⟨Sl.own (B := w.heap.size) (hu.row (κ := kEntry) (l := t1) (id := 1) rfl) (by show t1.length ≤ lim; decide), nil_ok u⟩) ?_
  intro m5 hm5
  refine RunH.adv tb_ok [] rfl rfl (by simp <;> omega) ?_
  refine RunH.read (sumE (sumN 1)) rfl rfl rfl rfl (fun u a _ hag => ?_) ?_
  · have e1 : a.eval (.const (.int .u8 1)) = u8V 1 := ev_run (e := .av (.val (u8V 1))) hag rfl
    simp only [execOp, List.map_toArray, List.map_cons, List.map_nil, e1, build_sum, Sem.run_bind, Result.andThen_ok, Sem.run_pure]
    rfl
  refine RunH.gives (ho := rfl) (hw := rfl) (hd := rfl) (hf := rfl) (hes := rfl) (hc := Tryz.call31) (e := .av (.val (.tuple #[strV [97, 46, 109, 97, 112], intV 0]))) (hC := fun u hu => wName2 u (A1, c1) (hG.ext hu.fact).max ⟨Sl.own (B := w.heap.size) (hu.row (κ := kEntry) (l := t1) (id := 1) rfl) (by show t1.length ≤ lim; decide), nil_ok u⟩) ?_
  intro m6 hm6
  refine RunH.adv tb_ok [false, false, false, false] rfl rfl (by simp [AllOb, Ob.P, sum_len, sz_sum, one_int, u8V_one]) ?_
  refine RunH.read (sumE (sumN 1)) rfl rfl rfl rfl (fun u a _ hag => ?_) ?_
  · have e1 : a.eval (.const (.int .u8 1)) = u8V 1 := ev_run (e := .av (.val (u8V 1))) hag rfl
    simp only [execOp, List.map_toArray, List.map_cons, List.map_nil, e1, build_sum, Sem.run_bind, Result.andThen_ok, Sem.run_pure]
    rfl
  refine RunH.read .ff rfl rfl rfl rfl (fun u a _ hag => ?_) ?_
  · have e : EV.ff.v = (EV.av (.val (.bool (!decide ((sumN 1 : Sum) = sumN 1))))).v := by simp [EV.v, AV.v]
    rw [e]
    exact op_neq hag rfl rfl rfl rfl rfl (by kernel_rfl) (eq_sum u 9998 _ _)
  refine RunH.adv tb_ok [false, false, false, false] rfl rfl (by simp [AllOb, Ob.P, sum_len, sz_sum, one_int, u8V_one]) ?_
  refine RunH.tell [(105, .av (.row 5 (.slice (some ⟨m6, 0, none⟩) 2 2))), (6, .av (.box 4 m4 0))] [(5, rowE kPair (some ⟨m6, 0, none⟩) 2 q2), (4, some (.box m4 [.val (sumV (sumN 1))] 39))] [] rfl rfl rfl 6 ?_
  refine RunH.doesB [] 7 (hc := Tryz.call80) (ho := rfl) (hw := rfl) (hd := rfl) (hf := rfl) (hes := rfl) (hσ := rfl) (hn := rfl) (hV := fun _ => rfl) (hG := fun _ => rfl) (e := fun z : Option Addr × Nat => .st [.row 6 (.slice z.1 t2.length z.2), .val (.slice none 0 0)]) (hC := terms_spec _ _ q2 (by decide)) (hp := fun u hu => Sl.own (B := w.heap.size) (hu.row (κ := kPair) (l := q2) (id := 5) rfl) (by decide)) ?_
  rintro ⟨A6, c6⟩ m7 hm7
  refine RunH.drop ?_
  refine RunH.adv tb_ok [] rfl rfl (by simp <;> omega) ?_
  refine RunH.gives (ho := rfl) (hw := rfl) (hd := rfl) (hf := rfl) (hes := rfl) (hc := Tryz.call26) (e := .av (.val (.tuple #[sumV (sumN 1), intV 0]))) (hC := fun u hu => wPlain3 u (A6, c6) (hG.ext hu.fact).max ⟨Sl.own (B := w.heap.size) (hu.row (κ := kEntry) (l := t2) (id := 6) rfl) (by show t2.length ≤ lim; decide), nil_ok u⟩) ?_
  intro m8 hm8
  refine RunH.adv tb_ok [] rfl rfl (by simp [AllOb, Ob.P, sum_len, sz_sum, one_int, u8V_one]) ?_
  refine RunH.read (sumE (sumN 2)) rfl rfl rfl rfl (fun u a _ hag => ?_) ?_
  · have e1 : a.eval (.const (.int .u8 2)) = u8V 2 := ev_run (e := .av (.val (u8V 2))) hag rfl
    simp only [execOp, List.map_toArray, List.map_cons, List.map_nil, e1, build_sum, Sem.run_bind, Result.andThen_ok, Sem.run_pure]
    rfl
  refine RunH.gives (ho := rfl) (hw := rfl) (hd := rfl) (hf := rfl) (hes := rfl) (hc := Tryz.call31) (e := .av (.val (.tuple #[strV [108, 105, 115, 116, 46, 109, 97, 112], intV 0]))) (hC := fun u hu => wName3 u (A6, c6) (hG.ext hu.fact).max ⟨Sl.own (B := w.heap.size) (hu.row (κ := kEntry) (l := t2) (id := 6) rfl) (by show t2.length ≤ lim; decide), nil_ok u⟩) ?_
  intro m9 hm9
  refine RunH.adv tb_ok [] rfl rfl (by simp <;> omega) ?_
  refine RunH.doesB [] 10 (hc := Tryz.call80) (ho := rfl) (hw := rfl) (hd := rfl) (hf := rfl) (hes := rfl) (hσ := rfl) (hn := rfl) (hV := fun _ => rfl) (hG := fun _ => rfl) (e := fun z : Option Addr × Nat => .st [.row 9 (.slice z.1 t3.length z.2), .val (.slice none 0 0)]) (hC := terms_spec _ _ q3 (by decide)) (hp := fun u hu => Sl.own (B := w.heap.size) (hu.row (κ := kPair) (l := q3) (id := 8) rfl) (by decide)) ?_
  rintro ⟨A9, c9⟩ m10 hm10
  refine RunH.drop ?_
  refine RunH.adv tb_ok [] rfl rfl (by simp <;> omega) ?_
  refine RunH.doesB [] 13 (hc := Tryz.call33) (ho := rfl) (hw := rfl) (hd := rfl) (hf := rfl) (hes := rfl) (hσ := rfl) (hn := rfl) (hV := fun _ => rfl) (hG := fun _ => rfl) (e := fun y : (Option Addr × Nat) × (Option Addr × Nat) => .av (.val (.tuple #[.agg #[.slice y.1.1 t4.length y.1.2, .slice y.2.1 0 y.2.2], intV 0]))) (hC := wUnder (A9, c9)) (hp := fun u hu => ⟨(hG.ext hu.fact).max, ⟨Sl.own (B := w.heap.size) (hu.row (κ := kEntry) (l := t3) (id := 9) rfl) (by show t3.length ≤ lim; decide), nil_ok u⟩⟩) ?_
  rintro ⟨⟨A11, c11⟩, ⟨A12, c12⟩⟩ m11 hm11
  refine RunH.drop ?_
  refine RunH.adv tb_ok [] rfl rfl (by simp <;> omega) ?_
  refine RunH.tell [(14, .av (.box 13 m11 0)), (127, intE 0), (126, .st [.row 11 (.slice A11 t4.length c11), .row 12 (.slice A12 0 c12)]), (13, .av (.box 10 m10 0)), (6, .av (.box 4 m4 0)), (3, intE 0), (5, intE 0), (8, strE [108, 105, 115, 116, 46, 109, 97, 112])] [(13, some (.box m11 [.val (.slice none 0 0), .val (.slice none 0 0)] 24)), (11, rowE kEntry A11 c11 t4), (12, rowE kEntry A12 c12 []), (10, some (.box m10 [.row 9 (.slice A9 t3.length c9), .val (.slice none 0 0)] 24)), (9, rowE kEntry A9 c9 t3), (4, some (.box m4 [.val (sumV (sumN 1))] 39))] [] rfl rfl rfl 14 ?_
  refine RunH.adv tb_ok [] rfl rfl (by simp <;> omega) ?_
  refine RunH.doesB [] 14 (hc := Tryz.call35) (ho := rfl) (hw := rfl) (hd := rfl) (hf := rfl) (hes := rfl) (hσ := rfl) (hn := rfl) (hV := fun _ => rfl) (hG := fun _ => rfl) (e := fun q : (Option Addr × Nat) × (Option Addr × Nat) => .av (.val (.tuple #[.agg #[.slice q.1.1 5 q.1.2, .slice q.2.1 (putL [100] [] []).length q.2.2], intV 0]))) (hC := wInto1 (A9, c9) ((A11, c11), (A12, c12))) (hp := fun u hu => ⟨(hG.ext hu.fact).max, ⟨Sl.own (B := w.heap.size) (hu.row (κ := kEntry) (l := t3) (id := 9) rfl) (by show t3.length ≤ lim; decide), nil_ok u⟩, ⟨Sl.own (B := w.heap.size) (hu.row (κ := kEntry) (l := t4) (id := 11) rfl) (by show t4.length ≤ lim; decide), Sl.own (B := w.heap.size) (hu.row (κ := kEntry) (l := ([] : List Entry)) (id := 12) rfl) (by show ([] : List Entry).length ≤ lim; decide)⟩⟩) ?_
  rintro ⟨⟨A14, c14⟩, ⟨A15, c15⟩⟩ m14 hm14
  refine RunH.drop ?_
  generalize (putL [100] [] []).length = lz
  refine RunH.adv tb_ok [] rfl rfl (by simp <;> omega) ?_
  refine RunH.tell [(15, .av (.box 14 m14 0)), (133, intE 0), (132, .st [.val (.slice A14 5 c14), .val (.slice A15 lz c15)]), (14, .av (.box 13 m11 0)), (7, intE 0), (13, .av (.box 10 m10 0)), (6, .av (.box 4 m4 0)), (3, intE 0), (5, intE 0), (8, strE [108, 105, 115, 116, 46, 109, 97, 112])] [(14, some (.box m14 [.val (.slice none 0 0), .val (.slice none 0 0)] 24)), (13, some (.box m11 [.row 11 (.slice A11 t4.length c11), .row 12 (.slice A12 0 c12)] 24)), (11, rowE kEntry A11 c11 t4), (12, rowE kEntry A12 c12 []), (10, some (.box m10 [.row 9 (.slice A9 t3.length c9), .val (.slice none 0 0)] 24)), (9, rowE kEntry A9 c9 t3), (4, some (.box m4 [.val (sumV (sumN 1))] 39))] [] rfl rfl rfl 15 ?_
  refine RunH.adv tb_ok [] rfl rfl (by simp <;> omega) ?_
  refine RunH.doesB [] 15 (hc := Tryz.call35) (ho := rfl) (hw := rfl) (hd := rfl) (hf := rfl) (hes := rfl) (hσ := rfl) (hn := rfl) (hV := fun _ => rfl) (hG := fun _ => rfl) (e := fun q : (Option Addr × Nat) × (Option Addr × Nat) => .av (.val (.tuple #[.agg #[.slice q.1.1 0 q.1.2, .slice q.2.1 0 q.2.2], intV 5]))) (hC := wInto2 (A9, c9) ((A11, c11), (A12, c12))) (hp := fun u hu => ⟨(hG.ext hu.fact).max, ⟨Sl.own (B := w.heap.size) (hu.row (κ := kEntry) (l := t3) (id := 9) rfl) (by show t3.length ≤ lim; decide), nil_ok u⟩, ⟨Sl.own (B := w.heap.size) (hu.row (κ := kEntry) (l := t4) (id := 11) rfl) (by show t4.length ≤ lim; decide), Sl.own (B := w.heap.size) (hu.row (κ := kEntry) (l := ([] : List Entry)) (id := 12) rfl) (by show ([] : List Entry).length ≤ lim; decide)⟩⟩) ?_
  rintro ⟨⟨A16, c16⟩, ⟨A17, c17⟩⟩ m15 hm15
  refine RunH.drop ?_
  refine RunH.adv tb_ok [] rfl rfl (by simp <;> omega) ?_
  refine RunH.tell [(11, intE 5), (9, intE 0), (15, .av (.box 14 m14 0)), (14, .av (.box 13 m11 0)), (7, intE 0), (13, .av (.box 10 m10 0)), (6, .av (.box 4 m4 0)), (3, intE 0), (5, intE 0), (8, strE [108, 105, 115, 116, 46, 109, 97, 112])] [(14, some (.box m14 [.val (.slice A14 5 c14), .val (.slice A15 lz c15)] 24)), (13, some (.box m11 [.row 11 (.slice A11 t4.length c11), .row 12 (.slice A12 0 c12)] 24)), (11, rowE kEntry A11 c11 t4), (12, rowE kEntry A12 c12 []), (10, some (.box m10 [.row 9 (.slice A9 t3.length c9), .val (.slice none 0 0)] 24)), (9, rowE kEntry A9 c9 t3), (4, some (.box m4 [.val (sumV (sumN 1))] 39))] [] rfl rfl rfl 15 ?_
  refine RunH.draw rfl [(4, some (.box m4 [.val (sumV (sumN 1))] 39)), (13, some (.box m11 [.row 11 (.slice A11 t4.length c11), .row 12 (.slice A12 0 c12)] 24)), (14, some (.box m14 [.val (.slice A14 5 c14), .val (.slice A15 lz c15)] 24))] rfl 42 rfl rfl ?_
  refine RunD.adv tb_ok (by kernel_rfl) [false] rfl rfl (by simp [AllOb, Ob.P, sum_len, sz_sum, one_int, u8V_one]) ?_
  refine RunD.read (by kernel_rfl) (i := 4) (sumE (sumN 1)) rfl rfl rfl rfl rfl rfl (fun u a _ hag => ?_) ?_
  · have e1 : a.eval (.const (.int .u8 1)) = u8V 1 := ev_run (e := .av (.val (u8V 1))) hag rfl
    simp only [execOp, List.map_toArray, List.map_cons, List.map_nil, e1, build_sum, Sem.run_bind, Result.andThen_ok, Sem.run_pure]
    rfl
  refine RunD.read (by kernel_rfl) (i := 5) .ff rfl rfl rfl rfl rfl rfl (fun u a _ hag => ?_) ?_
  · have e : EV.ff.v = (EV.av (.val (.bool (!decide ((sumN 1 : Sum) = sumN 1))))).v := by simp [EV.v, AV.v]
    rw [e]
    exact op_neq hag rfl rfl rfl rfl rfl (by kernel_rfl) (eq_sum u 9998 _ _)
  refine RunD.adv tb_ok (by kernel_rfl) [false, false, false] rfl rfl (by simp [AllOb, Ob.P, sum_len, sz_sum, one_int, u8V_one]) ?_
  refine RunD.step tb_ok (i := 23) rfl (by kernel_rfl) rfl rfl rfl (by simp [AllOb, Ob.P, one_int, u8V_one]; try exact ⟨rfl, rfl, rfl, rfl⟩) rfl (fun _ h => h) ⟨rfl, rfl⟩ ?_
  refine RunD.adv tb_ok (by kernel_rfl) [] rfl rfl (by simp [AllOb, Ob.P, sum_len, sz_sum, one_int, u8V_one]) ?_
  refine RunD.doesB (i := 24) [] 17 (fun z : Option Addr × Nat => .st [.row 16 (.slice z.1 t4.length z.2), .val (.slice none 0 0)]) rfl (by kernel_rfl) rfl rfl rfl rfl Tryz.call80 (terms_spec _ _ q4 (by decide)) rfl rfl (fun _ => rfl) (fun _ => rfl) (fun u hu => Sl.own (B := w.heap.size) (hu.row (κ := kPair) (l := q4) (id := 15) rfl) (by decide)) (fun _ => rfl) (fun _ h => h) ?_
  rintro ⟨A18, c18⟩ m18 hm18
  refine RunD.adv tb_ok (by kernel_rfl) [] rfl rfl (by simp [AllOb, Ob.P, sum_len, sz_sum, one_int, u8V_one]) ?_
  refine RunD.gives (i := 25) (boolE (decide (t4 = t4) && decide (([] : List Entry) = []))) rfl (by kernel_rfl) rfl rfl rfl rfl Tryz.call21 (fun u hu => space_Same u (spc2 ((A11, c11), (A12, c12)) t4) (spcOf (A18, c18) t4) ⟨Sl.own (B := w.heap.size) (hu.row (κ := kEntry) (l := t4) (id := 11) rfl) (by show t4.length ≤ lim; decide), Sl.own (B := w.heap.size) (hu.row (κ := kEntry) (l := ([] : List Entry)) (id := 12) rfl) (by show ([] : List Entry).length ≤ lim; decide)⟩ ⟨Sl.own (B := w.heap.size) (hu.row (κ := kEntry) (l := t4) (id := 16) rfl) (by show t4.length ≤ lim; decide), nil_ok u⟩) rfl (fun _ h => h.1) ?_
  intro m19 hm19
  refine RunD.adv tb_ok (by kernel_rfl) [false, false, false] rfl rfl (by simp [AllOb, Ob.P, sum_len, sz_sum, one_int, u8V_one]) ?_
  refine RunD.done (.inl rfl) (by kernel_rfl) ?_
  refine RunH.facts (Ext w) (fun u h => h.1) ?_
  refine RunH.adv tb_ok [false] rfl rfl (by simp [AllOb, Ob.P, sum_len, sz_sum, one_int, u8V_one]) ?_
  refine RunH.tell [(183, .st [.row 9 (.slice A9 t3.length c9), .val (.slice none 0 0)]), (184, sumE (sumN 1)), (13, .av (.box 10 m10 0)), (6, .av (.box 4 m4 0))] [(10, some (.box m10 [.row 9 (.slice A9 t3.length c9), .val (.slice none 0 0)] 24)), (9, rowE kEntry A9 c9 t3), (4, some (.box m4 [.val (sumV (sumN 1))] 39))] [] rfl rfl rfl 15 ?_
  refine RunH.doesB [] 15 (hc := Tryz.call46) (ho := rfl) (hw := rfl) (hd := rfl) (hf := rfl) (hes := rfl) (hσ := rfl) (hn := rfl) (hV := fun _ => rfl) (hG := fun _ => rfl) (e := fun q : (Option Addr × Nat) × (Option Addr × Nat) => .av (.val (.tuple #[.agg #[.slice q.1.1 0 q.1.2, .slice q.2.1 0 q.2.2], intV 4]))) (hC := wAdd1 (A9, c9) (sumN 1)) (hp := fun u hu => ⟨(hG.ext hu.fact).max, ⟨Sl.own (B := w.heap.size) (hu.row (κ := kEntry) (l := t3) (id := 9) rfl) (by show t3.length ≤ lim; decide), nil_ok u⟩⟩) ?_
  rintro ⟨⟨_, _⟩, ⟨_, _⟩⟩ m20 hm20
  refine RunH.drop ?_
  refine RunH.adv tb_ok [] rfl rfl (by simp [AllOb, Ob.P, sum_len, sz_sum, one_int, u8V_one]) ?_
  refine RunH.doesB [] 15 (hc := Tryz.call46) (ho := rfl) (hw := rfl) (hd := rfl) (hf := rfl) (hes := rfl) (hσ := rfl) (hn := rfl) (hV := fun _ => rfl) (hG := fun _ => rfl) (e := fun q : (Option Addr × Nat) × (Option Addr × Nat) => .av (.val (.tuple #[.agg #[.slice q.1.1 0 q.1.2, .slice q.2.1 0 q.2.2], intV 4]))) (hC := wAdd2 (A9, c9) (sumN 1)) (hp := fun u hu => ⟨(hG.ext hu.fact).max, ⟨Sl.own (B := w.heap.size) (hu.row (κ := kEntry) (l := t3) (id := 9) rfl) (by show t3.length ≤ lim; decide), nil_ok u⟩⟩) ?_
  rintro ⟨⟨_, _⟩, ⟨_, _⟩⟩ m20 hm20
  refine RunH.drop ?_
  refine RunH.adv tb_ok [] rfl rfl (by simp [AllOb, Ob.P, sum_len, sz_sum, one_int, u8V_one]) ?_
  refine RunH.doesB [] 15 (hc := Tryz.call51) (ho := rfl) (hw := rfl) (hd := rfl) (hf := rfl) (hes := rfl) (hσ := rfl) (hn := rfl) (hV := fun _ => rfl) (hG := fun _ => rfl) (e := fun q : (Option Addr × Nat) × (Option Addr × Nat) => .av (.val (.tuple #[.agg #[.slice q.1.1 0 q.1.2, .slice q.2.1 0 q.2.2], intV 5]))) (hC := wMove (A9, c9)) (hp := fun u hu => ⟨(hG.ext hu.fact).max, ⟨Sl.own (B := w.heap.size) (hu.row (κ := kEntry) (l := t3) (id := 9) rfl) (by show t3.length ≤ lim; decide), nil_ok u⟩⟩) ?_
  rintro ⟨⟨_, _⟩, ⟨_, _⟩⟩ m20 hm20
  refine RunH.drop ?_
  refine RunH.adv tb_ok [] rfl rfl (by simp [AllOb, Ob.P, sum_len, sz_sum, one_int, u8V_one]) ?_
  refine RunH.doesB [] 15 (hc := Tryz.call45) (ho := rfl) (hw := rfl) (hd := rfl) (hf := rfl) (hes := rfl) (hσ := rfl) (hn := rfl) (hV := fun _ => rfl) (hG := fun _ => rfl) (e := fun q : (Option Addr × Nat) × (Option Addr × Nat) => .av (.val (.tuple #[.agg #[.slice q.1.1 0 q.1.2, .slice q.2.1 0 q.2.2], intV 3]))) (hC := wDrop (A9, c9)) (hp := fun u hu => ⟨(hG.ext hu.fact).max, ⟨Sl.own (B := w.heap.size) (hu.row (κ := kEntry) (l := t3) (id := 9) rfl) (by show t3.length ≤ lim; decide), nil_ok u⟩⟩) ?_
  rintro ⟨⟨_, _⟩, ⟨_, _⟩⟩ m20 hm20
  refine RunH.drop ?_
  refine RunH.adv tb_ok [] rfl rfl (by simp [AllOb, Ob.P, sum_len, sz_sum, one_int, u8V_one]) ?_
  refine RunH.tell [(206, .st [.val (sumV Sum.zero), .val (.slice none 0 0), .val (strV [49])]), (16, .av (.box 0 m20 0)), (3, intE 4), (5, intE 4), (7, intE 5), (9, intE 3)] [(0, some (.box m20 [.val (sumV Sum.zero), .val (.slice none 0 0), .val (strV [49])] 73))] [(0, 15)] rfl rfl rfl 1 ?_
  refine RunH.gives (ho := rfl) (hw := rfl) (hd := rfl) (hf := rfl) (hes := rfl) (hc := Tryz.call56) (e := .av (.val (.tuple #[sumV sA, intV 0]))) (hC := fun u hu => by
    have h := Commit_spec u (hG.ext hu.fact) ⟨Sum.zero, ⟨none, 0, []⟩, [49]⟩ (nilD u)
    dsimp only at h
    rw [comA, ceA] at h
    exact h) ?_
  intro m21 hm21
  refine RunH.adv tb_ok [] rfl rfl (by simp [AllOb, Ob.P, sum_len, sz_sum, one_int, u8V_one]) ?_
  refine RunH.tell [(16, .av (.box 0 m20 0)), (17, .av (.box 1 m21 0)), (3, intE 4), (5, intE 4), (7, intE 5), (9, intE 3)] [(1, some (.box m21 [.val (sumV sA)] 39)), (0, some (.box m20 [.val (sumV Sum.zero), .val (.slice none 0 0), .val (strV [49])] 73))] [] rfl rfl rfl 2 ?_
  apply RunH.joinK (α := Nat × Nat × Nat × Nat) (fun z => [(16, .av (.box 0 m20 0)), (17, .av (.box 1 m21 0)), (19, .av (.box 4 z.2.2.1 0)), (20, .av (.box 5 z.2.2.2 0)), (3, intE 4), (5, intE 4), (7, intE 5), (9, intE 3)]) (fun z => [(0, some (.box m20 [.val (sumV Sum.zero), .val (.slice none 0 0), .val (strV [49])] 73)), (1, some (.box m21 [.val (sumV sA)] 39)), (2, rowE kSum (some ⟨z.1, 0, none⟩) 1 [sA]), (3, rowE kSum (some ⟨z.2.1, 0, none⟩) 1 [sA]), (4, some (.box z.2.2.1 [.val (sumV Sum.zero), .val (.slice (some ⟨z.1, 0, none⟩) 1 1), .val (strV [50])] 73)), (5, some (.box z.2.2.2 [.val (sumV Sum.zero), .val (.slice (some ⟨z.2.1, 0, none⟩) 1 1), .val (strV [51])] 73))]) (fun _ u => Ext w u)
  · refine RunH.draw rfl [(1, some (.box m21 [.val (sumV sA)] 39))] rfl 10 rfl rfl ?_
    refine RunD.adv tb_ok (by kernel_rfl) [] rfl rfl (by simp [AllOb, Ob.P, sum_len, sz_sum, one_int, u8V_one]) ?_
    refine RunD.four (i := 1) (j := 4) (q := 6) (r := 7) (by kernel_rfl) ?_ ?_ ?_ ?_
    · refine opD_step tb_ok (nx := 2) (i := 1) rfl rfl rfl rfl ?_ rfl (fun _ h => h) ⟨rfl, rfl⟩ ?_
      · first | trivial | (simp [AllOb, Ob.P, sum_len, sz_sum, one_int, u8V_one]; done) | exact ⟨⟨rfl, List.all_eq_true.1 (by kernel_rfl)⟩, trivial⟩
      refine RunD.adv tb_ok (by kernel_rfl) [] rfl rfl (by simp [AllOb, Ob.P, sum_len, sz_sum, one_int, u8V_one]) ?_
      refine RunD.three (i := 4) (j := 6) (q := 7) (by kernel_rfl) ?_ ?_ ?_
      · refine opD_step tb_ok (nx := 3) (i := 4) rfl rfl rfl rfl ?_ rfl (fun _ h => h) ⟨rfl, rfl⟩ ?_
        · first | trivial | (simp [AllOb, Ob.P, sum_len, sz_sum, one_int, u8V_one]; done) | exact ⟨⟨rfl, List.all_eq_true.1 (by kernel_rfl)⟩, trivial⟩
        refine RunD.adv tb_ok (by kernel_rfl) [] rfl rfl (by simp [AllOb, Ob.P, sum_len, sz_sum, one_int, u8V_one]) ?_
        refine RunD.two (i := 6) (j := 7) (by kernel_rfl) ?_ ?_
        · refine opD_step tb_ok (nx := 4) (i := 6) rfl rfl rfl rfl ?_ rfl (fun _ h => h) ⟨rfl, rfl⟩ ?_
          · first | trivial | (simp [AllOb, Ob.P, sum_len, sz_sum, one_int, u8V_one]; done) | exact ⟨⟨rfl, List.all_eq_true.1 (by kernel_rfl)⟩, trivial⟩
          refine RunD.adv tb_ok (by kernel_rfl) [] rfl rfl (by simp [AllOb, Ob.P, sum_len, sz_sum, one_int, u8V_one]) ?_
          refine RunD.step tb_ok (i := 7) rfl (by kernel_rfl) rfl rfl rfl ?_ rfl (fun _ h => h) ⟨rfl, rfl⟩ ?_
          · first | trivial | (simp [AllOb, Ob.P, sum_len, sz_sum, one_int, u8V_one]; done) | exact ⟨⟨rfl, List.all_eq_true.1 (by kernel_rfl)⟩, trivial⟩
          refine RunD.adv tb_ok (by kernel_rfl) [] rfl rfl (by simp [AllOb, Ob.P, sum_len, sz_sum, one_int, u8V_one]) ?_
          refine RunD.step tb_ok (i := 8) rfl (by kernel_rfl) rfl rfl rfl ?_ rfl (fun _ h => h) rfl ?_
          · first | trivial | (simp [AllOb, Ob.P, sum_len, sz_sum, one_int, u8V_one]; done) | exact ⟨⟨rfl, List.all_eq_true.1 (by kernel_rfl)⟩, trivial⟩
          refine RunD.adv tb_ok (by kernel_rfl) [] rfl rfl (by simp [AllOb, Ob.P, sum_len, sz_sum, one_int, u8V_one]) ?_
          refine RunD.step tb_ok (i := 9) rfl (by kernel_rfl) rfl rfl rfl ?_ rfl (fun _ h => h) rfl ?_
          · first | trivial | (simp [AllOb, Ob.P, sum_len, sz_sum, one_int, u8V_one]; done) | exact ⟨⟨rfl, List.all_eq_true.1 (by kernel_rfl)⟩, trivial⟩
          refine RunD.done (.inl rfl) (by kernel_rfl) ?_
          refine RunH.objBoxV (id := 4) [.val (sumV Sum.zero), .val (.slice (some ⟨(m21 + 1), 0, none⟩) 1 1), .val (strV [50])] rfl rfl ⟨⟨rfl, vok_sum _, rfl, ⟨rfl, Tryz.t71, rfl, rfl⟩, rfl, vok_str _, trivial⟩, Tryz.t73, rfl, by simp [flat, AV.v, Value.cells, sumV, Sum.zero]; try rfl⟩ ?_
          refine RunH.objBoxV (id := 5) [.val (sumV Sum.zero), .val (.slice (some ⟨(m21 + 1 + 1), 0, none⟩) 1 1), .val (strV [51])] rfl rfl ⟨⟨rfl, vok_sum _, rfl, ⟨rfl, Tryz.t71, rfl, rfl⟩, rfl, vok_str _, trivial⟩, Tryz.t73, rfl, by simp [flat, AV.v, Value.cells, sumV, Sum.zero]; try rfl⟩ ?_
          refine RunH.meetS ((m21 + 1), (m21 + 1 + 1), (m21 + 1 + 1 + 1), (m21 + 1 + 1 + 1 + 1)) [(2, 2), (3, 3), (4, 4), (5, 5)] (.head _) ?_ ?_ ?_ ?_
          · rfl
          · rfl
          · rfl
          · exact fun w h => h
        · refine opD_step tb_ok (nx := 4) (i := 7) rfl rfl rfl rfl ?_ rfl (fun _ h => h) ⟨rfl, rfl⟩ ?_
          · first | trivial | (simp [AllOb, Ob.P, sum_len, sz_sum, one_int, u8V_one]; done) | exact ⟨⟨rfl, List.all_eq_true.1 (by kernel_rfl)⟩, trivial⟩
          refine RunD.adv tb_ok (by kernel_rfl) [] rfl rfl (by simp [AllOb, Ob.P, sum_len, sz_sum, one_int, u8V_one]) ?_
          refine RunD.step tb_ok (i := 6) rfl (by kernel_rfl) rfl rfl rfl ?_ rfl (fun _ h => h) ⟨rfl, rfl⟩ ?_
          · first | trivial | (simp [AllOb, Ob.P, sum_len, sz_sum, one_int, u8V_one]; done) | exact ⟨⟨rfl, List.all_eq_true.1 (by kernel_rfl)⟩, trivial⟩
          refine RunD.adv tb_ok (by kernel_rfl) [] rfl rfl (by simp [AllOb, Ob.P, sum_len, sz_sum, one_int, u8V_one]) ?_
          refine RunD.step tb_ok (i := 8) rfl (by kernel_rfl) rfl rfl rfl ?_ rfl (fun _ h => h) rfl ?_
          · first | trivial | (simp [AllOb, Ob.P, sum_len, sz_sum, one_int, u8V_one]; done) | exact ⟨⟨rfl, List.all_eq_true.1 (by kernel_rfl)⟩, trivial⟩
          refine RunD.adv tb_ok (by kernel_rfl) [] rfl rfl (by simp [AllOb, Ob.P, sum_len, sz_sum, one_int, u8V_one]) ?_
          refine RunD.step tb_ok (i := 9) rfl (by kernel_rfl) rfl rfl rfl ?_ rfl (fun _ h => h) rfl ?_
          · first | trivial | (simp [AllOb, Ob.P, sum_len, sz_sum, one_int, u8V_one]; done) | exact ⟨⟨rfl, List.all_eq_true.1 (by kernel_rfl)⟩, trivial⟩
          refine RunD.done (.inl rfl) (by kernel_rfl) ?_
          refine RunH.objBoxV (id := 5) [.val (sumV Sum.zero), .val (.slice (some ⟨(m21 + 1), 0, none⟩) 1 1), .val (strV [50])] rfl rfl ⟨⟨rfl, vok_sum _, rfl, ⟨rfl, Tryz.t71, rfl, rfl⟩, rfl, vok_str _, trivial⟩, Tryz.t73, rfl, by simp [flat, AV.v, Value.cells, sumV, Sum.zero]; try rfl⟩ ?_
          refine RunH.objBoxV (id := 4) [.val (sumV Sum.zero), .val (.slice (some ⟨(m21 + 1 + 1), 0, none⟩) 1 1), .val (strV [51])] rfl rfl ⟨⟨rfl, vok_sum _, rfl, ⟨rfl, Tryz.t71, rfl, rfl⟩, rfl, vok_str _, trivial⟩, Tryz.t73, rfl, by simp [flat, AV.v, Value.cells, sumV, Sum.zero]; try rfl⟩ ?_
          refine RunH.meetS ((m21 + 1), (m21 + 1 + 1), (m21 + 1 + 1 + 1 + 1), (m21 + 1 + 1 + 1)) [(2, 2), (3, 3), (4, 5), (5, 4)] (.head _) ?_ ?_ ?_ ?_
          · rfl
          · rfl
          · rfl
          · exact fun w h => h
      · refine opD_step tb_ok (nx := 3) (i := 6) rfl rfl rfl rfl ?_ rfl (fun _ h => h) ⟨rfl, rfl⟩ ?_
        · first | trivial | (simp [AllOb, Ob.P, sum_len, sz_sum, one_int, u8V_one]; done) | exact ⟨⟨rfl, List.all_eq_true.1 (by kernel_rfl)⟩, trivial⟩
        refine RunD.adv tb_ok (by kernel_rfl) [] rfl rfl (by simp [AllOb, Ob.P, sum_len, sz_sum, one_int, u8V_one]) ?_
        refine RunD.two (i := 4) (j := 7) (by kernel_rfl) ?_ ?_
        · refine opD_step tb_ok (nx := 4) (i := 4) rfl rfl rfl rfl ?_ rfl (fun _ h => h) ⟨rfl, rfl⟩ ?_
          · first | trivial | (simp [AllOb, Ob.P, sum_len, sz_sum, one_int, u8V_one]; done) | exact ⟨⟨rfl, List.all_eq_true.1 (by kernel_rfl)⟩, trivial⟩
          refine RunD.adv tb_ok (by kernel_rfl) [] rfl rfl (by simp [AllOb, Ob.P, sum_len, sz_sum, one_int, u8V_one]) ?_
          refine RunD.step tb_ok (i := 7) rfl (by kernel_rfl) rfl rfl rfl ?_ rfl (fun _ h => h) ⟨rfl, rfl⟩ ?_
          · first | trivial | (simp [AllOb, Ob.P, sum_len, sz_sum, one_int, u8V_one]; done) | exact ⟨⟨rfl, List.all_eq_true.1 (by kernel_rfl)⟩, trivial⟩
          refine RunD.adv tb_ok (by kernel_rfl) [] rfl rfl (by simp [AllOb, Ob.P, sum_len, sz_sum, one_int, u8V_one]) ?_
          refine RunD.step tb_ok (i := 8) rfl (by kernel_rfl) rfl rfl rfl ?_ rfl (fun _ h => h) rfl ?_
          · first | trivial | (simp [AllOb, Ob.P, sum_len, sz_sum, one_int, u8V_one]; done) | exact ⟨⟨rfl, List.all_eq_true.1 (by kernel_rfl)⟩, trivial⟩
          refine RunD.adv tb_ok (by kernel_rfl) [] rfl rfl (by simp [AllOb, Ob.P, sum_len, sz_sum, one_int, u8V_one]) ?_
          refine RunD.step tb_ok (i := 9) rfl (by kernel_rfl) rfl rfl rfl ?_ rfl (fun _ h => h) rfl ?_
          · first | trivial | (simp [AllOb, Ob.P, sum_len, sz_sum, one_int, u8V_one]; done) | exact ⟨⟨rfl, List.all_eq_true.1 (by kernel_rfl)⟩, trivial⟩
          refine RunD.done (.inl rfl) (by kernel_rfl) ?_
          refine RunH.objBoxV (id := 3) [.val (sumV Sum.zero), .val (.slice (some ⟨(m21 + 1), 0, none⟩) 1 1), .val (strV [50])] rfl rfl ⟨⟨rfl, vok_sum _, rfl, ⟨rfl, Tryz.t71, rfl, rfl⟩, rfl, vok_str _, trivial⟩, Tryz.t73, rfl, by simp [flat, AV.v, Value.cells, sumV, Sum.zero]; try rfl⟩ ?_
          refine RunH.objBoxV (id := 5) [.val (sumV Sum.zero), .val (.slice (some ⟨(m21 + 1 + 1 + 1), 0, none⟩) 1 1), .val (strV [51])] rfl rfl ⟨⟨rfl, vok_sum _, rfl, ⟨rfl, Tryz.t71, rfl, rfl⟩, rfl, vok_str _, trivial⟩, Tryz.t73, rfl, by simp [flat, AV.v, Value.cells, sumV, Sum.zero]; try rfl⟩ ?_
          refine RunH.meetS ((m21 + 1), (m21 + 1 + 1 + 1), (m21 + 1 + 1), (m21 + 1 + 1 + 1 + 1)) [(2, 2), (3, 4), (4, 3), (5, 5)] (.head _) ?_ ?_ ?_ ?_
          · rfl
          · rfl
          · rfl
          · exact fun w h => h
        · refine opD_step tb_ok (nx := 4) (i := 7) rfl rfl rfl rfl ?_ rfl (fun _ h => h) ⟨rfl, rfl⟩ ?_
          · first | trivial | (simp [AllOb, Ob.P, sum_len, sz_sum, one_int, u8V_one]; done) | exact ⟨⟨rfl, List.all_eq_true.1 (by kernel_rfl)⟩, trivial⟩
          refine RunD.adv tb_ok (by kernel_rfl) [] rfl rfl (by simp [AllOb, Ob.P, sum_len, sz_sum, one_int, u8V_one]) ?_
          refine RunD.two (i := 4) (j := 8) (by kernel_rfl) ?_ ?_
          · refine opD_step tb_ok (nx := 5) (i := 4) rfl rfl rfl rfl ?_ rfl (fun _ h => h) ⟨rfl, rfl⟩ ?_
            · first | trivial | (simp [AllOb, Ob.P, sum_len, sz_sum, one_int, u8V_one]; done) | exact ⟨⟨rfl, List.all_eq_true.1 (by kernel_rfl)⟩, trivial⟩
            refine RunD.adv tb_ok (by kernel_rfl) [] rfl rfl (by simp [AllOb, Ob.P, sum_len, sz_sum, one_int, u8V_one]) ?_
            refine RunD.step tb_ok (i := 8) rfl (by kernel_rfl) rfl rfl rfl ?_ rfl (fun _ h => h) rfl ?_
            · first | trivial | (simp [AllOb, Ob.P, sum_len, sz_sum, one_int, u8V_one]; done) | exact ⟨⟨rfl, List.all_eq_true.1 (by kernel_rfl)⟩, trivial⟩
            refine RunD.adv tb_ok (by kernel_rfl) [] rfl rfl (by simp [AllOb, Ob.P, sum_len, sz_sum, one_int, u8V_one]) ?_
            refine RunD.step tb_ok (i := 9) rfl (by kernel_rfl) rfl rfl rfl ?_ rfl (fun _ h => h) rfl ?_
            · first | trivial | (simp [AllOb, Ob.P, sum_len, sz_sum, one_int, u8V_one]; done) | exact ⟨⟨rfl, List.all_eq_true.1 (by kernel_rfl)⟩, trivial⟩
            refine RunD.done (.inl rfl) (by kernel_rfl) ?_
            refine RunH.objBoxV (id := 3) [.val (sumV Sum.zero), .val (.slice (some ⟨(m21 + 1), 0, none⟩) 1 1), .val (strV [50])] rfl rfl ⟨⟨rfl, vok_sum _, rfl, ⟨rfl, Tryz.t71, rfl, rfl⟩, rfl, vok_str _, trivial⟩, Tryz.t73, rfl, by simp [flat, AV.v, Value.cells, sumV, Sum.zero]; try rfl⟩ ?_
            refine RunH.objBoxV (id := 4) [.val (sumV Sum.zero), .val (.slice (some ⟨(m21 + 1 + 1 + 1 + 1), 0, none⟩) 1 1), .val (strV [51])] rfl rfl ⟨⟨rfl, vok_sum _, rfl, ⟨rfl, Tryz.t71, rfl, rfl⟩, rfl, vok_str _, trivial⟩, Tryz.t73, rfl, by simp [flat, AV.v, Value.cells, sumV, Sum.zero]; try rfl⟩ ?_
            refine RunH.meetS ((m21 + 1), (m21 + 1 + 1 + 1 + 1), (m21 + 1 + 1), (m21 + 1 + 1 + 1)) [(2, 2), (3, 5), (4, 3), (5, 4)] (.head _) ?_ ?_ ?_ ?_
            · rfl
            · rfl
            · rfl
            · exact fun w h => h
          · refine opD_step tb_ok (nx := 5) (i := 8) rfl rfl rfl rfl ?_ rfl (fun _ h => h) rfl ?_
            · first | trivial | (simp [AllOb, Ob.P, sum_len, sz_sum, one_int, u8V_one]; done) | exact ⟨⟨rfl, List.all_eq_true.1 (by kernel_rfl)⟩, trivial⟩
            refine RunD.adv tb_ok (by kernel_rfl) [] rfl rfl (by simp [AllOb, Ob.P, sum_len, sz_sum, one_int, u8V_one]) ?_
            refine RunD.step tb_ok (i := 4) rfl (by kernel_rfl) rfl rfl rfl ?_ rfl (fun _ h => h) ⟨rfl, rfl⟩ ?_
            · first | trivial | (simp [AllOb, Ob.P, sum_len, sz_sum, one_int, u8V_one]; done) | exact ⟨⟨rfl, List.all_eq_true.1 (by kernel_rfl)⟩, trivial⟩
            refine RunD.adv tb_ok (by kernel_rfl) [] rfl rfl (by simp [AllOb, Ob.P, sum_len, sz_sum, one_int, u8V_one]) ?_
            refine RunD.step tb_ok (i := 9) rfl (by kernel_rfl) rfl rfl rfl ?_ rfl (fun _ h => h) rfl ?_
            · first | trivial | (simp [AllOb, Ob.P, sum_len, sz_sum, one_int, u8V_one]; done) | exact ⟨⟨rfl, List.all_eq_true.1 (by kernel_rfl)⟩, trivial⟩
            refine RunD.done (.inl rfl) (by kernel_rfl) ?_
            refine RunH.objBoxV (id := 3) [.val (sumV Sum.zero), .val (.slice (some ⟨(m21 + 1), 0, none⟩) 1 1), .val (strV [50])] rfl rfl ⟨⟨rfl, vok_sum _, rfl, ⟨rfl, Tryz.t71, rfl, rfl⟩, rfl, vok_str _, trivial⟩, Tryz.t73, rfl, by simp [flat, AV.v, Value.cells, sumV, Sum.zero]; try rfl⟩ ?_
            refine RunH.objBoxV (id := 4) [.val (sumV Sum.zero), .val (.slice (some ⟨(m21 + 1 + 1 + 1 + 1), 0, none⟩) 1 1), .val (strV [51])] rfl rfl ⟨⟨rfl, vok_sum _, rfl, ⟨rfl, Tryz.t71, rfl, rfl⟩, rfl, vok_str _, trivial⟩, Tryz.t73, rfl, by simp [flat, AV.v, Value.cells, sumV, Sum.zero]; try rfl⟩ ?_
            refine RunH.meetS ((m21 + 1), (m21 + 1 + 1 + 1 + 1), (m21 + 1 + 1), (m21 + 1 + 1 + 1)) [(2, 2), (3, 5), (4, 3), (5, 4)] (.head _) ?_ ?_ ?_ ?_
            · rfl
            · rfl
            · rfl
            · exact fun w h => h
      · refine opD_step tb_ok (nx := 3) (i := 7) rfl rfl rfl rfl ?_ rfl (fun _ h => h) ⟨rfl, rfl⟩ ?_
        · first | trivial | (simp [AllOb, Ob.P, sum_len, sz_sum, one_int, u8V_one]; done) | exact ⟨⟨rfl, List.all_eq_true.1 (by kernel_rfl)⟩, trivial⟩
        refine RunD.adv tb_ok (by kernel_rfl) [] rfl rfl (by simp [AllOb, Ob.P, sum_len, sz_sum, one_int, u8V_one]) ?_
        refine RunD.two (i := 4) (j := 6) (by kernel_rfl) ?_ ?_
        · refine opD_step tb_ok (nx := 4) (i := 4) rfl rfl rfl rfl ?_ rfl (fun _ h => h) ⟨rfl, rfl⟩ ?_
          · first | trivial | (simp [AllOb, Ob.P, sum_len, sz_sum, one_int, u8V_one]; done) | exact ⟨⟨rfl, List.all_eq_true.1 (by kernel_rfl)⟩, trivial⟩
          refine RunD.adv tb_ok (by kernel_rfl) [] rfl rfl (by simp [AllOb, Ob.P, sum_len, sz_sum, one_int, u8V_one]) ?_
          refine RunD.step tb_ok (i := 6) rfl (by kernel_rfl) rfl rfl rfl ?_ rfl (fun _ h => h) ⟨rfl, rfl⟩ ?_
          · first | trivial | (simp [AllOb, Ob.P, sum_len, sz_sum, one_int, u8V_one]; done) | exact ⟨⟨rfl, List.all_eq_true.1 (by kernel_rfl)⟩, trivial⟩
          refine RunD.adv tb_ok (by kernel_rfl) [] rfl rfl (by simp [AllOb, Ob.P, sum_len, sz_sum, one_int, u8V_one]) ?_
          refine RunD.step tb_ok (i := 8) rfl (by kernel_rfl) rfl rfl rfl ?_ rfl (fun _ h => h) rfl ?_
          · first | trivial | (simp [AllOb, Ob.P, sum_len, sz_sum, one_int, u8V_one]; done) | exact ⟨⟨rfl, List.all_eq_true.1 (by kernel_rfl)⟩, trivial⟩
          refine RunD.adv tb_ok (by kernel_rfl) [] rfl rfl (by simp [AllOb, Ob.P, sum_len, sz_sum, one_int, u8V_one]) ?_
          refine RunD.step tb_ok (i := 9) rfl (by kernel_rfl) rfl rfl rfl ?_ rfl (fun _ h => h) rfl ?_
          · first | trivial | (simp [AllOb, Ob.P, sum_len, sz_sum, one_int, u8V_one]; done) | exact ⟨⟨rfl, List.all_eq_true.1 (by kernel_rfl)⟩, trivial⟩
          refine RunD.done (.inl rfl) (by kernel_rfl) ?_
          refine RunH.objBoxV (id := 5) [.val (sumV Sum.zero), .val (.slice (some ⟨(m21 + 1), 0, none⟩) 1 1), .val (strV [50])] rfl rfl ⟨⟨rfl, vok_sum _, rfl, ⟨rfl, Tryz.t71, rfl, rfl⟩, rfl, vok_str _, trivial⟩, Tryz.t73, rfl, by simp [flat, AV.v, Value.cells, sumV, Sum.zero]; try rfl⟩ ?_
          refine RunH.objBoxV (id := 3) [.val (sumV Sum.zero), .val (.slice (some ⟨(m21 + 1 + 1 + 1), 0, none⟩) 1 1), .val (strV [51])] rfl rfl ⟨⟨rfl, vok_sum _, rfl, ⟨rfl, Tryz.t71, rfl, rfl⟩, rfl, vok_str _, trivial⟩, Tryz.t73, rfl, by simp [flat, AV.v, Value.cells, sumV, Sum.zero]; try rfl⟩ ?_
          refine RunH.meetS ((m21 + 1), (m21 + 1 + 1 + 1), (m21 + 1 + 1 + 1 + 1), (m21 + 1 + 1)) [(2, 2), (3, 4), (4, 5), (5, 3)] (.head _) ?_ ?_ ?_ ?_
          · rfl
          · rfl
          · rfl
          · exact fun w h => h
        · refine opD_step tb_ok (nx := 4) (i := 6) rfl rfl rfl rfl ?_ rfl (fun _ h => h) ⟨rfl, rfl⟩ ?_
          · first | trivial | (simp [AllOb, Ob.P, sum_len, sz_sum, one_int, u8V_one]; done) | exact ⟨⟨rfl, List.all_eq_true.1 (by kernel_rfl)⟩, trivial⟩
          refine RunD.adv tb_ok (by kernel_rfl) [] rfl rfl (by simp [AllOb, Ob.P, sum_len, sz_sum, one_int, u8V_one]) ?_
          refine RunD.two (i := 4) (j := 8) (by kernel_rfl) ?_ ?_
          · refine opD_step tb_ok (nx := 5) (i := 4) rfl rfl rfl rfl ?_ rfl (fun _ h => h) ⟨rfl, rfl⟩ ?_
            · first | trivial | (simp [AllOb, Ob.P, sum_len, sz_sum, one_int, u8V_one]; done) | exact ⟨⟨rfl, List.all_eq_true.1 (by kernel_rfl)⟩, trivial⟩
            refine RunD.adv tb_ok (by kernel_rfl) [] rfl rfl (by simp [AllOb, Ob.P, sum_len, sz_sum, one_int, u8V_one]) ?_
            refine RunD.step tb_ok (i := 8) rfl (by kernel_rfl) rfl rfl rfl ?_ rfl (fun _ h => h) rfl ?_
            · first | trivial | (simp [AllOb, Ob.P, sum_len, sz_sum, one_int, u8V_one]; done) | exact ⟨⟨rfl, List.all_eq_true.1 (by kernel_rfl)⟩, trivial⟩
            refine RunD.adv tb_ok (by kernel_rfl) [] rfl rfl (by simp [AllOb, Ob.P, sum_len, sz_sum, one_int, u8V_one]) ?_
            refine RunD.step tb_ok (i := 9) rfl (by kernel_rfl) rfl rfl rfl ?_ rfl (fun _ h => h) rfl ?_
            · first | trivial | (simp [AllOb, Ob.P, sum_len, sz_sum, one_int, u8V_one]; done) | exact ⟨⟨rfl, List.all_eq_true.1 (by kernel_rfl)⟩, trivial⟩
            refine RunD.done (.inl rfl) (by kernel_rfl) ?_
            refine RunH.objBoxV (id := 4) [.val (sumV Sum.zero), .val (.slice (some ⟨(m21 + 1), 0, none⟩) 1 1), .val (strV [50])] rfl rfl ⟨⟨rfl, vok_sum _, rfl, ⟨rfl, Tryz.t71, rfl, rfl⟩, rfl, vok_str _, trivial⟩, Tryz.t73, rfl, by simp [flat, AV.v, Value.cells, sumV, Sum.zero]; try rfl⟩ ?_
            refine RunH.objBoxV (id := 3) [.val (sumV Sum.zero), .val (.slice (some ⟨(m21 + 1 + 1 + 1 + 1), 0, none⟩) 1 1), .val (strV [51])] rfl rfl ⟨⟨rfl, vok_sum _, rfl, ⟨rfl, Tryz.t71, rfl, rfl⟩, rfl, vok_str _, trivial⟩, Tryz.t73, rfl, by simp [flat, AV.v, Value.cells, sumV, Sum.zero]; try rfl⟩ ?_
            refine RunH.meetS ((m21 + 1), (m21 + 1 + 1 + 1 + 1), (m21 + 1 + 1 + 1), (m21 + 1 + 1)) [(2, 2), (3, 5), (4, 4), (5, 3)] (.head _) ?_ ?_ ?_ ?_
            · rfl
            · rfl
            · rfl
            · exact fun w h => h
          · refine opD_step tb_ok (nx := 5) (i := 8) rfl rfl rfl rfl ?_ rfl (fun _ h => h) rfl ?_
            · first | trivial | (simp [AllOb, Ob.P, sum_len, sz_sum, one_int, u8V_one]; done) | exact ⟨⟨rfl, List.all_eq_true.1 (by kernel_rfl)⟩, trivial⟩
            refine RunD.adv tb_ok (by kernel_rfl) [] rfl rfl (by simp [AllOb, Ob.P, sum_len, sz_sum, one_int, u8V_one]) ?_
            refine RunD.step tb_ok (i := 4) rfl (by kernel_rfl) rfl rfl rfl ?_ rfl (fun _ h => h) ⟨rfl, rfl⟩ ?_
            · first | trivial | (simp [AllOb, Ob.P, sum_len, sz_sum, one_int, u8V_one]; done) | exact ⟨⟨rfl, List.all_eq_true.1 (by kernel_rfl)⟩, trivial⟩
            refine RunD.adv tb_ok (by kernel_rfl) [] rfl rfl (by simp [AllOb, Ob.P, sum_len, sz_sum, one_int, u8V_one]) ?_
            refine RunD.step tb_ok (i := 9) rfl (by kernel_rfl) rfl rfl rfl ?_ rfl (fun _ h => h) rfl ?_
            · first | trivial | (simp [AllOb, Ob.P, sum_len, sz_sum, one_int, u8V_one]; done) | exact ⟨⟨rfl, List.all_eq_true.1 (by kernel_rfl)⟩, trivial⟩
            refine RunD.done (.inl rfl) (by kernel_rfl) ?_
            refine RunH.objBoxV (id := 4) [.val (sumV Sum.zero), .val (.slice (some ⟨(m21 + 1), 0, none⟩) 1 1), .val (strV [50])] rfl rfl ⟨⟨rfl, vok_sum _, rfl, ⟨rfl, Tryz.t71, rfl, rfl⟩, rfl, vok_str _, trivial⟩, Tryz.t73, rfl, by simp [flat, AV.v, Value.cells, sumV, Sum.zero]; try rfl⟩ ?_
            refine RunH.objBoxV (id := 3) [.val (sumV Sum.zero), .val (.slice (some ⟨(m21 + 1 + 1 + 1 + 1), 0, none⟩) 1 1), .val (strV [51])] rfl rfl ⟨⟨rfl, vok_sum _, rfl, ⟨rfl, Tryz.t71, rfl, rfl⟩, rfl, vok_str _, trivial⟩, Tryz.t73, rfl, by simp [flat, AV.v, Value.cells, sumV, Sum.zero]; try rfl⟩ ?_
            refine RunH.meetS ((m21 + 1), (m21 + 1 + 1 + 1 + 1), (m21 + 1 + 1 + 1), (m21 + 1 + 1)) [(2, 2), (3, 5), (4, 4), (5, 3)] (.head _) ?_ ?_ ?_ ?_
            · rfl
            · rfl
            · rfl
            · exact fun w h => h
    · refine opD_step tb_ok (nx := 2) (i := 4) rfl rfl rfl rfl ?_ rfl (fun _ h => h) ⟨rfl, rfl⟩ ?_
      · first | trivial | (simp [AllOb, Ob.P, sum_len, sz_sum, one_int, u8V_one]; done) | exact ⟨⟨rfl, List.all_eq_true.1 (by kernel_rfl)⟩, trivial⟩
      refine RunD.adv tb_ok (by kernel_rfl) [] rfl rfl (by simp [AllOb, Ob.P, sum_len, sz_sum, one_int, u8V_one]) ?_
      refine RunD.three (i := 1) (j := 6) (q := 7) (by kernel_rfl) ?_ ?_ ?_
      · refine opD_step tb_ok (nx := 3) (i := 1) rfl rfl rfl rfl ?_ rfl (fun _ h => h) ⟨rfl, rfl⟩ ?_
        · first | trivial | (simp [AllOb, Ob.P, sum_len, sz_sum, one_int, u8V_one]; done) | exact ⟨⟨rfl, List.all_eq_true.1 (by kernel_rfl)⟩, trivial⟩
        refine RunD.adv tb_ok (by kernel_rfl) [] rfl rfl (by simp [AllOb, Ob.P, sum_len, sz_sum, one_int, u8V_one]) ?_
        refine RunD.two (i := 6) (j := 7) (by kernel_rfl) ?_ ?_
        · refine opD_step tb_ok (nx := 4) (i := 6) rfl rfl rfl rfl ?_ rfl (fun _ h => h) ⟨rfl, rfl⟩ ?_
          · first | trivial | (simp [AllOb, Ob.P, sum_len, sz_sum, one_int, u8V_one]; done) | exact ⟨⟨rfl, List.all_eq_true.1 (by kernel_rfl)⟩, trivial⟩
          refine RunD.adv tb_ok (by kernel_rfl) [] rfl rfl (by simp [AllOb, Ob.P, sum_len, sz_sum, one_int, u8V_one]) ?_
          refine RunD.step tb_ok (i := 7) rfl (by kernel_rfl) rfl rfl rfl ?_ rfl (fun _ h => h) ⟨rfl, rfl⟩ ?_
          · first | trivial | (simp [AllOb, Ob.P, sum_len, sz_sum, one_int, u8V_one]; done) | exact ⟨⟨rfl, List.all_eq_true.1 (by kernel_rfl)⟩, trivial⟩
          refine RunD.adv tb_ok (by kernel_rfl) [] rfl rfl (by simp [AllOb, Ob.P, sum_len, sz_sum, one_int, u8V_one]) ?_
          refine RunD.step tb_ok (i := 8) rfl (by kernel_rfl) rfl rfl rfl ?_ rfl (fun _ h => h) rfl ?_
          · first | trivial | (simp [AllOb, Ob.P, sum_len, sz_sum, one_int, u8V_one]; done) | exact ⟨⟨rfl, List.all_eq_true.1 (by kernel_rfl)⟩, trivial⟩
          refine RunD.adv tb_ok (by kernel_rfl) [] rfl rfl (by simp [AllOb, Ob.P, sum_len, sz_sum, one_int, u8V_one]) ?_
          refine RunD.step tb_ok (i := 9) rfl (by kernel_rfl) rfl rfl rfl ?_ rfl (fun _ h => h) rfl ?_
          · first | trivial | (simp [AllOb, Ob.P, sum_len, sz_sum, one_int, u8V_one]; done) | exact ⟨⟨rfl, List.all_eq_true.1 (by kernel_rfl)⟩, trivial⟩
          refine RunD.done (.inl rfl) (by kernel_rfl) ?_
          refine RunH.objBoxV (id := 4) [.val (sumV Sum.zero), .val (.slice (some ⟨(m21 + 1 + 1), 0, none⟩) 1 1), .val (strV [50])] rfl rfl ⟨⟨rfl, vok_sum _, rfl, ⟨rfl, Tryz.t71, rfl, rfl⟩, rfl, vok_str _, trivial⟩, Tryz.t73, rfl, by simp [flat, AV.v, Value.cells, sumV, Sum.zero]; try rfl⟩ ?_
          refine RunH.objBoxV (id := 5) [.val (sumV Sum.zero), .val (.slice (some ⟨(m21 + 1), 0, none⟩) 1 1), .val (strV [51])] rfl rfl ⟨⟨rfl, vok_sum _, rfl, ⟨rfl, Tryz.t71, rfl, rfl⟩, rfl, vok_str _, trivial⟩, Tryz.t73, rfl, by simp [flat, AV.v, Value.cells, sumV, Sum.zero]; try rfl⟩ ?_
          refine RunH.meetS ((m21 + 1 + 1), (m21 + 1), (m21 + 1 + 1 + 1), (m21 + 1 + 1 + 1 + 1)) [(2, 3), (3, 2), (4, 4), (5, 5)] (.head _) ?_ ?_ ?_ ?_
          · rfl
          · rfl
          · rfl
          · exact fun w h => h
        · refine opD_step tb_ok (nx := 4) (i := 7) rfl rfl rfl rfl ?_ rfl (fun _ h => h) ⟨rfl, rfl⟩ ?_
          · first | trivial | (simp [AllOb, Ob.P, sum_len, sz_sum, one_int, u8V_one]; done) | exact ⟨⟨rfl, List.all_eq_true.1 (by kernel_rfl)⟩, trivial⟩
          refine RunD.adv tb_ok (by kernel_rfl) [] rfl rfl (by simp [AllOb, Ob.P, sum_len, sz_sum, one_int, u8V_one]) ?_
          refine RunD.step tb_ok (i := 6) rfl (by kernel_rfl) rfl rfl rfl ?_ rfl (fun _ h => h) ⟨rfl, rfl⟩ ?_
          · first | trivial | (simp [AllOb, Ob.P, sum_len, sz_sum, one_int, u8V_one]; done) | exact ⟨⟨rfl, List.all_eq_true.1 (by kernel_rfl)⟩, trivial⟩
          refine RunD.adv tb_ok (by kernel_rfl) [] rfl rfl (by simp [AllOb, Ob.P, sum_len, sz_sum, one_int, u8V_one]) ?_
          refine RunD.step tb_ok (i := 8) rfl (by kernel_rfl) rfl rfl rfl ?_ rfl (fun _ h => h) rfl ?_
          · first | trivial | (simp [AllOb, Ob.P, sum_len, sz_sum, one_int, u8V_one]; done) | exact ⟨⟨rfl, List.all_eq_true.1 (by kernel_rfl)⟩, trivial⟩
          refine RunD.adv tb_ok (by kernel_rfl) [] rfl rfl (by simp [AllOb, Ob.P, sum_len, sz_sum, one_int, u8V_one]) ?_
          refine RunD.step tb_ok (i := 9) rfl (by kernel_rfl) rfl rfl rfl ?_ rfl (fun _ h => h) rfl ?_
          · first | trivial | (simp [AllOb, Ob.P, sum_len, sz_sum, one_int, u8V_one]; done) | exact ⟨⟨rfl, List.all_eq_true.1 (by kernel_rfl)⟩, trivial⟩
          refine RunD.done (.inl rfl) (by kernel_rfl) ?_
          refine RunH.objBoxV (id := 5) [.val (sumV Sum.zero), .val (.slice (some ⟨(m21 + 1 + 1), 0, none⟩) 1 1), .val (strV [50])] rfl rfl ⟨⟨rfl, vok_sum _, rfl, ⟨rfl, Tryz.t71, rfl, rfl⟩, rfl, vok_str _, trivial⟩, Tryz.t73, rfl, by simp [flat, AV.v, Value.cells, sumV, Sum.zero]; try rfl⟩ ?_
          refine RunH.objBoxV (id := 4) [.val (sumV Sum.zero), .val (.slice (some ⟨(m21 + 1), 0, none⟩) 1 1), .val (strV [51])] rfl rfl ⟨⟨rfl, vok_sum _, rfl, ⟨rfl, Tryz.t71, rfl, rfl⟩, rfl, vok_str _, trivial⟩, Tryz.t73, rfl, by simp [flat, AV.v, Value.cells, sumV, Sum.zero]; try rfl⟩ ?_
          refine RunH.meetS ((m21 + 1 + 1), (m21 + 1), (m21 + 1 + 1 + 1 + 1), (m21 + 1 + 1 + 1)) [(2, 3), (3, 2), (4, 5), (5, 4)] (.head _) ?_ ?_ ?_ ?_
          · rfl
          · rfl
          · rfl
          · exact fun w h => h
      · refine opD_step tb_ok (nx := 3) (i := 6) rfl rfl rfl rfl ?_ rfl (fun _ h => h) ⟨rfl, rfl⟩ ?_
        · first | trivial | (simp [AllOb, Ob.P, sum_len, sz_sum, one_int, u8V_one]; done) | exact ⟨⟨rfl, List.all_eq_true.1 (by kernel_rfl)⟩, trivial⟩
        refine RunD.adv tb_ok (by kernel_rfl) [] rfl rfl (by simp [AllOb, Ob.P, sum_len, sz_sum, one_int, u8V_one]) ?_
        refine RunD.two (i := 1) (j := 7) (by kernel_rfl) ?_ ?_
        · refine opD_step tb_ok (nx := 4) (i := 1) rfl rfl rfl rfl ?_ rfl (fun _ h => h) ⟨rfl, rfl⟩ ?_
          · first | trivial | (simp [AllOb, Ob.P, sum_len, sz_sum, one_int, u8V_one]; done) | exact ⟨⟨rfl, List.all_eq_true.1 (by kernel_rfl)⟩, trivial⟩
          refine RunD.adv tb_ok (by kernel_rfl) [] rfl rfl (by simp [AllOb, Ob.P, sum_len, sz_sum, one_int, u8V_one]) ?_
          refine RunD.step tb_ok (i := 7) rfl (by kernel_rfl) rfl rfl rfl ?_ rfl (fun _ h => h) ⟨rfl, rfl⟩ ?_
          · first | trivial | (simp [AllOb, Ob.P, sum_len, sz_sum, one_int, u8V_one]; done) | exact ⟨⟨rfl, List.all_eq_true.1 (by kernel_rfl)⟩, trivial⟩
          refine RunD.adv tb_ok (by kernel_rfl) [] rfl rfl (by simp [AllOb, Ob.P, sum_len, sz_sum, one_int, u8V_one]) ?_
          refine RunD.step tb_ok (i := 8) rfl (by kernel_rfl) rfl rfl rfl ?_ rfl (fun _ h => h) rfl ?_
          · first | trivial | (simp [AllOb, Ob.P, sum_len, sz_sum, one_int, u8V_one]; done) | exact ⟨⟨rfl, List.all_eq_true.1 (by kernel_rfl)⟩, trivial⟩
          refine RunD.adv tb_ok (by kernel_rfl) [] rfl rfl (by simp [AllOb, Ob.P, sum_len, sz_sum, one_int, u8V_one]) ?_
          refine RunD.step tb_ok (i := 9) rfl (by kernel_rfl) rfl rfl rfl ?_ rfl (fun _ h => h) rfl ?_
          · first | trivial | (simp [AllOb, Ob.P, sum_len, sz_sum, one_int, u8V_one]; done) | exact ⟨⟨rfl, List.all_eq_true.1 (by kernel_rfl)⟩, trivial⟩
          refine RunD.done (.inl rfl) (by kernel_rfl) ?_
          refine RunH.objBoxV (id := 3) [.val (sumV Sum.zero), .val (.slice (some ⟨(m21 + 1 + 1 + 1), 0, none⟩) 1 1), .val (strV [50])] rfl rfl ⟨⟨rfl, vok_sum _, rfl, ⟨rfl, Tryz.t71, rfl, rfl⟩, rfl, vok_str _, trivial⟩, Tryz.t73, rfl, by simp [flat, AV.v, Value.cells, sumV, Sum.zero]; try rfl⟩ ?_
          refine RunH.objBoxV (id := 5) [.val (sumV Sum.zero), .val (.slice (some ⟨(m21 + 1), 0, none⟩) 1 1), .val (strV [51])] rfl rfl ⟨⟨rfl, vok_sum _, rfl, ⟨rfl, Tryz.t71, rfl, rfl⟩, rfl, vok_str _, trivial⟩, Tryz.t73, rfl, by simp [flat, AV.v, Value.cells, sumV, Sum.zero]; try rfl⟩ ?_
          refine RunH.meetS ((m21 + 1 + 1 + 1), (m21 + 1), (m21 + 1 + 1), (m21 + 1 + 1 + 1 + 1)) [(2, 4), (3, 2), (4, 3), (5, 5)] (.head _) ?_ ?_ ?_ ?_
          · rfl
          · rfl
          · rfl
          · exact fun w h => h
        · refine opD_step tb_ok (nx := 4) (i := 7) rfl rfl rfl rfl ?_ rfl (fun _ h => h) ⟨rfl, rfl⟩ ?_
          · first | trivial | (simp [AllOb, Ob.P, sum_len, sz_sum, one_int, u8V_one]; done) | exact ⟨⟨rfl, List.all_eq_true.1 (by kernel_rfl)⟩, trivial⟩
          refine RunD.adv tb_ok (by kernel_rfl) [] rfl rfl (by simp [AllOb, Ob.P, sum_len, sz_sum, one_int, u8V_one]) ?_
          refine RunD.step tb_ok (i := 1) rfl (by kernel_rfl) rfl rfl rfl ?_ rfl (fun _ h => h) ⟨rfl, rfl⟩ ?_
          · first | trivial | (simp [AllOb, Ob.P, sum_len, sz_sum, one_int, u8V_one]; done) | exact ⟨⟨rfl, List.all_eq_true.1 (by kernel_rfl)⟩, trivial⟩
          refine RunD.adv tb_ok (by kernel_rfl) [] rfl rfl (by simp [AllOb, Ob.P, sum_len, sz_sum, one_int, u8V_one]) ?_
          refine RunD.step tb_ok (i := 8) rfl (by kernel_rfl) rfl rfl rfl ?_ rfl (fun _ h => h) rfl ?_
          · first | trivial | (simp [AllOb, Ob.P, sum_len, sz_sum, one_int, u8V_one]; done) | exact ⟨⟨rfl, List.all_eq_true.1 (by kernel_rfl)⟩, trivial⟩
          refine RunD.adv tb_ok (by kernel_rfl) [] rfl rfl (by simp [AllOb, Ob.P, sum_len, sz_sum, one_int, u8V_one]) ?_
          refine RunD.step tb_ok (i := 9) rfl (by kernel_rfl) rfl rfl rfl ?_ rfl (fun _ h => h) rfl ?_
          · first | trivial | (simp [AllOb, Ob.P, sum_len, sz_sum, one_int, u8V_one]; done) | exact ⟨⟨rfl, List.all_eq_true.1 (by kernel_rfl)⟩, trivial⟩
          refine RunD.done (.inl rfl) (by kernel_rfl) ?_
          refine RunH.objBoxV (id := 3) [.val (sumV Sum.zero), .val (.slice (some ⟨(m21 + 1 + 1 + 1 + 1), 0, none⟩) 1 1), .val (strV [50])] rfl rfl ⟨⟨rfl, vok_sum _, rfl, ⟨rfl, Tryz.t71, rfl, rfl⟩, rfl, vok_str _, trivial⟩, Tryz.t73, rfl, by simp [flat, AV.v, Value.cells, sumV, Sum.zero]; try rfl⟩ ?_
          refine RunH.objBoxV (id := 4) [.val (sumV Sum.zero), .val (.slice (some ⟨(m21 + 1), 0, none⟩) 1 1), .val (strV [51])] rfl rfl ⟨⟨rfl, vok_sum _, rfl, ⟨rfl, Tryz.t71, rfl, rfl⟩, rfl, vok_str _, trivial⟩, Tryz.t73, rfl, by simp [flat, AV.v, Value.cells, sumV, Sum.zero]; try rfl⟩ ?_
          refine RunH.meetS ((m21 + 1 + 1 + 1 + 1), (m21 + 1), (m21 + 1 + 1), (m21 + 1 + 1 + 1)) [(2, 5), (3, 2), (4, 3), (5, 4)] (.head _) ?_ ?_ ?_ ?_
          · rfl
          · rfl
          · rfl
          · exact fun w h => h
      · refine opD_step tb_ok (nx := 3) (i := 7) rfl rfl rfl rfl ?_ rfl (fun _ h => h) ⟨rfl, rfl⟩ ?_
        · first | trivial | (simp [AllOb, Ob.P, sum_len, sz_sum, one_int, u8V_one]; done) | exact ⟨⟨rfl, List.all_eq_true.1 (by kernel_rfl)⟩, trivial⟩
        refine RunD.adv tb_ok (by kernel_rfl) [] rfl rfl (by simp [AllOb, Ob.P, sum_len, sz_sum, one_int, u8V_one]) ?_
        refine RunD.two (i := 1) (j := 6) (by kernel_rfl) ?_ ?_
        · refine opD_step tb_ok (nx := 4) (i := 1) rfl rfl rfl rfl ?_ rfl (fun _ h => h) ⟨rfl, rfl⟩ ?_
          · first | trivial | (simp [AllOb, Ob.P, sum_len, sz_sum, one_int, u8V_one]; done) | exact ⟨⟨rfl, List.all_eq_true.1 (by kernel_rfl)⟩, trivial⟩
          refine RunD.adv tb_ok (by kernel_rfl) [] rfl rfl (by simp [AllOb, Ob.P, sum_len, sz_sum, one_int, u8V_one]) ?_
          refine RunD.step tb_ok (i := 6) rfl (by kernel_rfl) rfl rfl rfl ?_ rfl (fun _ h => h) ⟨rfl, rfl⟩ ?_
          · first | trivial | (simp [AllOb, Ob.P, sum_len, sz_sum, one_int, u8V_one]; done) | exact ⟨⟨rfl, List.all_eq_true.1 (by kernel_rfl)⟩, trivial⟩
          refine RunD.adv tb_ok (by kernel_rfl) [] rfl rfl (by simp [AllOb, Ob.P, sum_len, sz_sum, one_int, u8V_one]) ?_
          refine RunD.step tb_ok (i := 8) rfl (by kernel_rfl) rfl rfl rfl ?_ rfl (fun _ h => h) rfl ?_
          · first | trivial | (simp [AllOb, Ob.P, sum_len, sz_sum, one_int, u8V_one]; done) | exact ⟨⟨rfl, List.all_eq_true.1 (by kernel_rfl)⟩, trivial⟩
          refine RunD.adv tb_ok (by kernel_rfl) [] rfl rfl (by simp [AllOb, Ob.P, sum_len, sz_sum, one_int, u8V_one]) ?_
          refine RunD.step tb_ok (i := 9) rfl (by kernel_rfl) rfl rfl rfl ?_ rfl (fun _ h => h) rfl ?_
          · first | trivial | (simp [AllOb, Ob.P, sum_len, sz_sum, one_int, u8V_one]; done) | exact ⟨⟨rfl, List.all_eq_true.1 (by kernel_rfl)⟩, trivial⟩
          refine RunD.done (.inl rfl) (by kernel_rfl) ?_
          refine RunH.objBoxV (id := 5) [.val (sumV Sum.zero), .val (.slice (some ⟨(m21 + 1 + 1 + 1), 0, none⟩) 1 1), .val (strV [50])] rfl rfl ⟨⟨rfl, vok_sum _, rfl, ⟨rfl, Tryz.t71, rfl, rfl⟩, rfl, vok_str _, trivial⟩, Tryz.t73, rfl, by simp [flat, AV.v, Value.cells, sumV, Sum.zero]; try rfl⟩ ?_
          refine RunH.objBoxV (id := 3) [.val (sumV Sum.zero), .val (.slice (some ⟨(m21 + 1), 0, none⟩) 1 1), .val (strV [51])] rfl rfl ⟨⟨rfl, vok_sum _, rfl, ⟨rfl, Tryz.t71, rfl, rfl⟩, rfl, vok_str _, trivial⟩, Tryz.t73, rfl, by simp [flat, AV.v, Value.cells, sumV, Sum.zero]; try rfl⟩ ?_
          refine RunH.meetS ((m21 + 1 + 1 + 1), (m21 + 1), (m21 + 1 + 1 + 1 + 1), (m21 + 1 + 1)) [(2, 4), (3, 2), (4, 5), (5, 3)] (.head _) ?_ ?_ ?_ ?_
          · rfl
          · rfl
          · rfl
          · exact fun w h => h
        · refine opD_step tb_ok (nx := 4) (i := 6) rfl rfl rfl rfl ?_ rfl (fun _ h => h) ⟨rfl, rfl⟩ ?_
          · first | trivial | (simp [AllOb, Ob.P, sum_len, sz_sum, one_int, u8V_one]; done) | exact ⟨⟨rfl, List.all_eq_true.1 (by kernel_rfl)⟩, trivial⟩
          refine RunD.adv tb_ok (by kernel_rfl) [] rfl rfl (by simp [AllOb, Ob.P, sum_len, sz_sum, one_int, u8V_one]) ?_
          refine RunD.step tb_ok (i := 1) rfl (by kernel_rfl) rfl rfl rfl ?_ rfl (fun _ h => h) ⟨rfl, rfl⟩ ?_
          · first | trivial | (simp [AllOb, Ob.P, sum_len, sz_sum, one_int, u8V_one]; done) | exact ⟨⟨rfl, List.all_eq_true.1 (by kernel_rfl)⟩, trivial⟩
          refine RunD.adv tb_ok (by kernel_rfl) [] rfl rfl (by simp [AllOb, Ob.P, sum_len, sz_sum, one_int, u8V_one]) ?_
          refine RunD.step tb_ok (i := 8) rfl (by kernel_rfl) rfl rfl rfl ?_ rfl (fun _ h => h) rfl ?_
          · first | trivial | (simp [AllOb, Ob.P, sum_len, sz_sum, one_int, u8V_one]; done) | exact ⟨⟨rfl, List.all_eq_true.1 (by kernel_rfl)⟩, trivial⟩
          refine RunD.adv tb_ok (by kernel_rfl) [] rfl rfl (by simp [AllOb, Ob.P, sum_len, sz_sum, one_int, u8V_one]) ?_
          refine RunD.step tb_ok (i := 9) rfl (by kernel_rfl) rfl rfl rfl ?_ rfl (fun _ h => h) rfl ?_
          · first | trivial | (simp [AllOb, Ob.P, sum_len, sz_sum, one_int, u8V_one]; done) | exact ⟨⟨rfl, List.all_eq_true.1 (by kernel_rfl)⟩, trivial⟩
          refine RunD.done (.inl rfl) (by kernel_rfl) ?_
          refine RunH.objBoxV (id := 4) [.val (sumV Sum.zero), .val (.slice (some ⟨(m21 + 1 + 1 + 1 + 1), 0, none⟩) 1 1), .val (strV [50])] rfl rfl ⟨⟨rfl, vok_sum _, rfl, ⟨rfl, Tryz.t71, rfl, rfl⟩, rfl, vok_str _, trivial⟩, Tryz.t73, rfl, by simp [flat, AV.v, Value.cells, sumV, Sum.zero]; try rfl⟩ ?_
          refine RunH.objBoxV (id := 3) [.val (sumV Sum.zero), .val (.slice (some ⟨(m21 + 1), 0, none⟩) 1 1), .val (strV [51])] rfl rfl ⟨⟨rfl, vok_sum _, rfl, ⟨rfl, Tryz.t71, rfl, rfl⟩, rfl, vok_str _, trivial⟩, Tryz.t73, rfl, by simp [flat, AV.v, Value.cells, sumV, Sum.zero]; try rfl⟩ ?_
          refine RunH.meetS ((m21 + 1 + 1 + 1 + 1), (m21 + 1), (m21 + 1 + 1 + 1), (m21 + 1 + 1)) [(2, 5), (3, 2), (4, 4), (5, 3)] (.head _) ?_ ?_ ?_ ?_
          · rfl
          · rfl
          · rfl
          · exact fun w h => h
    · refine opD_step tb_ok (nx := 2) (i := 6) rfl rfl rfl rfl ?_ rfl (fun _ h => h) ⟨rfl, rfl⟩ ?_
      · first | trivial | (simp [AllOb, Ob.P, sum_len, sz_sum, one_int, u8V_one]; done) | exact ⟨⟨rfl, List.all_eq_true.1 (by kernel_rfl)⟩, trivial⟩
      refine RunD.adv tb_ok (by kernel_rfl) [] rfl rfl (by simp [AllOb, Ob.P, sum_len, sz_sum, one_int, u8V_one]) ?_
      refine RunD.three (i := 1) (j := 4) (q := 7) (by kernel_rfl) ?_ ?_ ?_
      · refine opD_step tb_ok (nx := 3) (i := 1) rfl rfl rfl rfl ?_ rfl (fun _ h => h) ⟨rfl, rfl⟩ ?_
        · first | trivial | (simp [AllOb, Ob.P, sum_len, sz_sum, one_int, u8V_one]; done) | exact ⟨⟨rfl, List.all_eq_true.1 (by kernel_rfl)⟩, trivial⟩
        refine RunD.adv tb_ok (by kernel_rfl) [] rfl rfl (by simp [AllOb, Ob.P, sum_len, sz_sum, one_int, u8V_one]) ?_
        refine RunD.two (i := 4) (j := 7) (by kernel_rfl) ?_ ?_
        · refine opD_step tb_ok (nx := 4) (i := 4) rfl rfl rfl rfl ?_ rfl (fun _ h => h) ⟨rfl, rfl⟩ ?_
          · first | trivial | (simp [AllOb, Ob.P, sum_len, sz_sum, one_int, u8V_one]; done) | exact ⟨⟨rfl, List.all_eq_true.1 (by kernel_rfl)⟩, trivial⟩
          refine RunD.adv tb_ok (by kernel_rfl) [] rfl rfl (by simp [AllOb, Ob.P, sum_len, sz_sum, one_int, u8V_one]) ?_
          refine RunD.step tb_ok (i := 7) rfl (by kernel_rfl) rfl rfl rfl ?_ rfl (fun _ h => h) ⟨rfl, rfl⟩ ?_
          · first | trivial | (simp [AllOb, Ob.P, sum_len, sz_sum, one_int, u8V_one]; done) | exact ⟨⟨rfl, List.all_eq_true.1 (by kernel_rfl)⟩, trivial⟩
          refine RunD.adv tb_ok (by kernel_rfl) [] rfl rfl (by simp [AllOb, Ob.P, sum_len, sz_sum, one_int, u8V_one]) ?_
          refine RunD.step tb_ok (i := 8) rfl (by kernel_rfl) rfl rfl rfl ?_ rfl (fun _ h => h) rfl ?_
          · first | trivial | (simp [AllOb, Ob.P, sum_len, sz_sum, one_int, u8V_one]; done) | exact ⟨⟨rfl, List.all_eq_true.1 (by kernel_rfl)⟩, trivial⟩
          refine RunD.adv tb_ok (by kernel_rfl) [] rfl rfl (by simp [AllOb, Ob.P, sum_len, sz_sum, one_int, u8V_one]) ?_
          refine RunD.step tb_ok (i := 9) rfl (by kernel_rfl) rfl rfl rfl ?_ rfl (fun _ h => h) rfl ?_
          · first | trivial | (simp [AllOb, Ob.P, sum_len, sz_sum, one_int, u8V_one]; done) | exact ⟨⟨rfl, List.all_eq_true.1 (by kernel_rfl)⟩, trivial⟩
          refine RunD.done (.inl rfl) (by kernel_rfl) ?_
          refine RunH.objBoxV (id := 2) [.val (sumV Sum.zero), .val (.slice (some ⟨(m21 + 1 + 1), 0, none⟩) 1 1), .val (strV [50])] rfl rfl ⟨⟨rfl, vok_sum _, rfl, ⟨rfl, Tryz.t71, rfl, rfl⟩, rfl, vok_str _, trivial⟩, Tryz.t73, rfl, by simp [flat, AV.v, Value.cells, sumV, Sum.zero]; try rfl⟩ ?_
          refine RunH.objBoxV (id := 5) [.val (sumV Sum.zero), .val (.slice (some ⟨(m21 + 1 + 1 + 1), 0, none⟩) 1 1), .val (strV [51])] rfl rfl ⟨⟨rfl, vok_sum _, rfl, ⟨rfl, Tryz.t71, rfl, rfl⟩, rfl, vok_str _, trivial⟩, Tryz.t73, rfl, by simp [flat, AV.v, Value.cells, sumV, Sum.zero]; try rfl⟩ ?_
          refine RunH.meetS ((m21 + 1 + 1), (m21 + 1 + 1 + 1), (m21 + 1), (m21 + 1 + 1 + 1 + 1)) [(2, 3), (3, 4), (4, 2), (5, 5)] (.head _) ?_ ?_ ?_ ?_
          · rfl
          · rfl
          · rfl
          · exact fun w h => h
        · refine opD_step tb_ok (nx := 4) (i := 7) rfl rfl rfl rfl ?_ rfl (fun _ h => h) ⟨rfl, rfl⟩ ?_
          · first | trivial | (simp [AllOb, Ob.P, sum_len, sz_sum, one_int, u8V_one]; done) | exact ⟨⟨rfl, List.all_eq_true.1 (by kernel_rfl)⟩, trivial⟩
          refine RunD.adv tb_ok (by kernel_rfl) [] rfl rfl (by simp [AllOb, Ob.P, sum_len, sz_sum, one_int, u8V_one]) ?_
          refine RunD.two (i := 4) (j := 8) (by kernel_rfl) ?_ ?_
          · refine opD_step tb_ok (nx := 5) (i := 4) rfl rfl rfl rfl ?_ rfl (fun _ h => h) ⟨rfl, rfl⟩ ?_
            · first | trivial | (simp [AllOb, Ob.P, sum_len, sz_sum, one_int, u8V_one]; done) | exact ⟨⟨rfl, List.all_eq_true.1 (by kernel_rfl)⟩, trivial⟩
            refine RunD.adv tb_ok (by kernel_rfl) [] rfl rfl (by simp [AllOb, Ob.P, sum_len, sz_sum, one_int, u8V_one]) ?_
            refine RunD.step tb_ok (i := 8) rfl (by kernel_rfl) rfl rfl rfl ?_ rfl (fun _ h => h) rfl ?_
            · first | trivial | (simp [AllOb, Ob.P, sum_len, sz_sum, one_int, u8V_one]; done) | exact ⟨⟨rfl, List.all_eq_true.1 (by kernel_rfl)⟩, trivial⟩
            refine RunD.adv tb_ok (by kernel_rfl) [] rfl rfl (by simp [AllOb, Ob.P, sum_len, sz_sum, one_int, u8V_one]) ?_
            refine RunD.step tb_ok (i := 9) rfl (by kernel_rfl) rfl rfl rfl ?_ rfl (fun _ h => h) rfl ?_
            · first | trivial | (simp [AllOb, Ob.P, sum_len, sz_sum, one_int, u8V_one]; done) | exact ⟨⟨rfl, List.all_eq_true.1 (by kernel_rfl)⟩, trivial⟩
            refine RunD.done (.inl rfl) (by kernel_rfl) ?_
            refine RunH.objBoxV (id := 2) [.val (sumV Sum.zero), .val (.slice (some ⟨(m21 + 1 + 1), 0, none⟩) 1 1), .val (strV [50])] rfl rfl ⟨⟨rfl, vok_sum _, rfl, ⟨rfl, Tryz.t71, rfl, rfl⟩, rfl, vok_str _, trivial⟩, Tryz.t73, rfl, by simp [flat, AV.v, Value.cells, sumV, Sum.zero]; try rfl⟩ ?_
            refine RunH.objBoxV (id := 4) [.val (sumV Sum.zero), .val (.slice (some ⟨(m21 + 1 + 1 + 1 + 1), 0, none⟩) 1 1), .val (strV [51])] rfl rfl ⟨⟨rfl, vok_sum _, rfl, ⟨rfl, Tryz.t71, rfl, rfl⟩, rfl, vok_str _, trivial⟩, Tryz.t73, rfl, by simp [flat, AV.v, Value.cells, sumV, Sum.zero]; try rfl⟩ ?_
            refine RunH.meetS ((m21 + 1 + 1), (m21 + 1 + 1 + 1 + 1), (m21 + 1), (m21 + 1 + 1 + 1)) [(2, 3), (3, 5), (4, 2), (5, 4)] (.head _) ?_ ?_ ?_ ?_
            · rfl
            · rfl
            · rfl
            · exact fun w h => h
          · refine opD_step tb_ok (nx := 5) (i := 8) rfl rfl rfl rfl ?_ rfl (fun _ h => h) rfl ?_
            · first | trivial | (simp [AllOb, Ob.P, sum_len, sz_sum, one_int, u8V_one]; done) | exact ⟨⟨rfl, List.all_eq_true.1 (by kernel_rfl)⟩, trivial⟩
            refine RunD.adv tb_ok (by kernel_rfl) [] rfl rfl (by simp [AllOb, Ob.P, sum_len, sz_sum, one_int, u8V_one]) ?_
            refine RunD.step tb_ok (i := 4) rfl (by kernel_rfl) rfl rfl rfl ?_ rfl (fun _ h => h) ⟨rfl, rfl⟩ ?_
            · first | trivial | (simp [AllOb, Ob.P, sum_len, sz_sum, one_int, u8V_one]; done) | exact ⟨⟨rfl, List.all_eq_true.1 (by kernel_rfl)⟩, trivial⟩
            refine RunD.adv tb_ok (by kernel_rfl) [] rfl rfl (by simp [AllOb, Ob.P, sum_len, sz_sum, one_int, u8V_one]) ?_
            refine RunD.step tb_ok (i := 9) rfl (by kernel_rfl) rfl rfl rfl ?_ rfl (fun _ h => h) rfl ?_
            · first | trivial | (simp [AllOb, Ob.P, sum_len, sz_sum, one_int, u8V_one]; done) | exact ⟨⟨rfl, List.all_eq_true.1 (by kernel_rfl)⟩, trivial⟩
            refine RunD.done (.inl rfl) (by kernel_rfl) ?_
            refine RunH.objBoxV (id := 2) [.val (sumV Sum.zero), .val (.slice (some ⟨(m21 + 1 + 1), 0, none⟩) 1 1), .val (strV [50])] rfl rfl ⟨⟨rfl, vok_sum _, rfl, ⟨rfl, Tryz.t71, rfl, rfl⟩, rfl, vok_str _, trivial⟩, Tryz.t73, rfl, by simp [flat, AV.v, Value.cells, sumV, Sum.zero]; try rfl⟩ ?_
            refine RunH.objBoxV (id := 4) [.val (sumV Sum.zero), .val (.slice (some ⟨(m21 + 1 + 1 + 1 + 1), 0, none⟩) 1 1), .val (strV [51])] rfl rfl ⟨⟨rfl, vok_sum _, rfl, ⟨rfl, Tryz.t71, rfl, rfl⟩, rfl, vok_str _, trivial⟩, Tryz.t73, rfl, by simp [flat, AV.v, Value.cells, sumV, Sum.zero]; try rfl⟩ ?_
            refine RunH.meetS ((m21 + 1 + 1), (m21 + 1 + 1 + 1 + 1), (m21 + 1), (m21 + 1 + 1 + 1)) [(2, 3), (3, 5), (4, 2), (5, 4)] (.head _) ?_ ?_ ?_ ?_
            · rfl
            · rfl
            · rfl
            · exact fun w h => h
      · refine opD_step tb_ok (nx := 3) (i := 4) rfl rfl rfl rfl ?_ rfl (fun _ h => h) ⟨rfl, rfl⟩ ?_
        · first | trivial | (simp [AllOb, Ob.P, sum_len, sz_sum, one_int, u8V_one]; done) | exact ⟨⟨rfl, List.all_eq_true.1 (by kernel_rfl)⟩, trivial⟩
        refine RunD.adv tb_ok (by kernel_rfl) [] rfl rfl (by simp [AllOb, Ob.P, sum_len, sz_sum, one_int, u8V_one]) ?_
        refine RunD.two (i := 1) (j := 7) (by kernel_rfl) ?_ ?_
        · refine opD_step tb_ok (nx := 4) (i := 1) rfl rfl rfl rfl ?_ rfl (fun _ h => h) ⟨rfl, rfl⟩ ?_
          · first | trivial | (simp [AllOb, Ob.P, sum_len, sz_sum, one_int, u8V_one]; done) | exact ⟨⟨rfl, List.all_eq_true.1 (by kernel_rfl)⟩, trivial⟩
          refine RunD.adv tb_ok (by kernel_rfl) [] rfl rfl (by simp [AllOb, Ob.P, sum_len, sz_sum, one_int, u8V_one]) ?_
          refine RunD.step tb_ok (i := 7) rfl (by kernel_rfl) rfl rfl rfl ?_ rfl (fun _ h => h) ⟨rfl, rfl⟩ ?_
          · first | trivial | (simp [AllOb, Ob.P, sum_len, sz_sum, one_int, u8V_one]; done) | exact ⟨⟨rfl, List.all_eq_true.1 (by kernel_rfl)⟩, trivial⟩
          refine RunD.adv tb_ok (by kernel_rfl) [] rfl rfl (by simp [AllOb, Ob.P, sum_len, sz_sum, one_int, u8V_one]) ?_
          refine RunD.step tb_ok (i := 8) rfl (by kernel_rfl) rfl rfl rfl ?_ rfl (fun _ h => h) rfl ?_
          · first | trivial | (simp [AllOb, Ob.P, sum_len, sz_sum, one_int, u8V_one]; done) | exact ⟨⟨rfl, List.all_eq_true.1 (by kernel_rfl)⟩, trivial⟩
          refine RunD.adv tb_ok (by kernel_rfl) [] rfl rfl (by simp [AllOb, Ob.P, sum_len, sz_sum, one_int, u8V_one]) ?_
          refine RunD.step tb_ok (i := 9) rfl (by kernel_rfl) rfl rfl rfl ?_ rfl (fun _ h => h) rfl ?_
          · first | trivial | (simp [AllOb, Ob.P, sum_len, sz_sum, one_int, u8V_one]; done) | exact ⟨⟨rfl, List.all_eq_true.1 (by kernel_rfl)⟩, trivial⟩
          refine RunD.done (.inl rfl) (by kernel_rfl) ?_
          refine RunH.objBoxV (id := 2) [.val (sumV Sum.zero), .val (.slice (some ⟨(m21 + 1 + 1 + 1), 0, none⟩) 1 1), .val (strV [50])] rfl rfl ⟨⟨rfl, vok_sum _, rfl, ⟨rfl, Tryz.t71, rfl, rfl⟩, rfl, vok_str _, trivial⟩, Tryz.t73, rfl, by simp [flat, AV.v, Value.cells, sumV, Sum.zero]; try rfl⟩ ?_
          refine RunH.objBoxV (id := 5) [.val (sumV Sum.zero), .val (.slice (some ⟨(m21 + 1 + 1), 0, none⟩) 1 1), .val (strV [51])] rfl rfl ⟨⟨rfl, vok_sum _, rfl, ⟨rfl, Tryz.t71, rfl, rfl⟩, rfl, vok_str _, trivial⟩, Tryz.t73, rfl, by simp [flat, AV.v, Value.cells, sumV, Sum.zero]; try rfl⟩ ?_
          refine RunH.meetS ((m21 + 1 + 1 + 1), (m21 + 1 + 1), (m21 + 1), (m21 + 1 + 1 + 1 + 1)) [(2, 4), (3, 3), (4, 2), (5, 5)] (.head _) ?_ ?_ ?_ ?_
          · rfl
          · rfl
          · rfl
          · exact fun w h => h
        · refine opD_step tb_ok (nx := 4) (i := 7) rfl rfl rfl rfl ?_ rfl (fun _ h => h) ⟨rfl, rfl⟩ ?_
          · first | trivial | (simp [AllOb, Ob.P, sum_len, sz_sum, one_int, u8V_one]; done) | exact ⟨⟨rfl, List.all_eq_true.1 (by kernel_rfl)⟩, trivial⟩
          refine RunD.adv tb_ok (by kernel_rfl) [] rfl rfl (by simp [AllOb, Ob.P, sum_len, sz_sum, one_int, u8V_one]) ?_
          refine RunD.step tb_ok (i := 1) rfl (by kernel_rfl) rfl rfl rfl ?_ rfl (fun _ h => h) ⟨rfl, rfl⟩ ?_
          · first | trivial | (simp [AllOb, Ob.P, sum_len, sz_sum, one_int, u8V_one]; done) | exact ⟨⟨rfl, List.all_eq_true.1 (by kernel_rfl)⟩, trivial⟩
          refine RunD.adv tb_ok (by kernel_rfl) [] rfl rfl (by simp [AllOb, Ob.P, sum_len, sz_sum, one_int, u8V_one]) ?_
          refine RunD.step tb_ok (i := 8) rfl (by kernel_rfl) rfl rfl rfl ?_ rfl (fun _ h => h) rfl ?_
          · first | trivial | (simp [AllOb, Ob.P, sum_len, sz_sum, one_int, u8V_one]; done) | exact ⟨⟨rfl, List.all_eq_true.1 (by kernel_rfl)⟩, trivial⟩
          refine RunD.adv tb_ok (by kernel_rfl) [] rfl rfl (by simp [AllOb, Ob.P, sum_len, sz_sum, one_int, u8V_one]) ?_
          refine RunD.step tb_ok (i := 9) rfl (by kernel_rfl) rfl rfl rfl ?_ rfl (fun _ h => h) rfl ?_
          · first | trivial | (simp [AllOb, Ob.P, sum_len, sz_sum, one_int, u8V_one]; done) | exact ⟨⟨rfl, List.all_eq_true.1 (by kernel_rfl)⟩, trivial⟩
          refine RunD.done (.inl rfl) (by kernel_rfl) ?_
          refine RunH.objBoxV (id := 2) [.val (sumV Sum.zero), .val (.slice (some ⟨(m21 + 1 + 1 + 1 + 1), 0, none⟩) 1 1), .val (strV [50])] rfl rfl ⟨⟨rfl, vok_sum _, rfl, ⟨rfl, Tryz.t71, rfl, rfl⟩, rfl, vok_str _, trivial⟩, Tryz.t73, rfl, by simp [flat, AV.v, Value.cells, sumV, Sum.zero]; try rfl⟩ ?_
          refine RunH.objBoxV (id := 4) [.val (sumV Sum.zero), .val (.slice (some ⟨(m21 + 1 + 1), 0, none⟩) 1 1), .val (strV [51])] rfl rfl ⟨⟨rfl, vok_sum _, rfl, ⟨rfl, Tryz.t71, rfl, rfl⟩, rfl, vok_str _, trivial⟩, Tryz.t73, rfl, by simp [flat, AV.v, Value.cells, sumV, Sum.zero]; try rfl⟩ ?_
          refine RunH.meetS ((m21 + 1 + 1 + 1 + 1), (m21 + 1 + 1), (m21 + 1), (m21 + 1 + 1 + 1)) [(2, 5), (3, 3), (4, 2), (5, 4)] (.head _) ?_ ?_ ?_ ?_
          · rfl
          · rfl
          · rfl
          · exact fun w h => h
      · refine opD_step tb_ok (nx := 3) (i := 7) rfl rfl rfl rfl ?_ rfl (fun _ h => h) ⟨rfl, rfl⟩ ?_
        · first | trivial | (simp [AllOb, Ob.P, sum_len, sz_sum, one_int, u8V_one]; done) | exact ⟨⟨rfl, List.all_eq_true.1 (by kernel_rfl)⟩, trivial⟩
        refine RunD.adv tb_ok (by kernel_rfl) [] rfl rfl (by simp [AllOb, Ob.P, sum_len, sz_sum, one_int, u8V_one]) ?_
        refine RunD.two (i := 1) (j := 4) (by kernel_rfl) ?_ ?_
        · refine opD_step tb_ok (nx := 4) (i := 1) rfl rfl rfl rfl ?_ rfl (fun _ h => h) ⟨rfl, rfl⟩ ?_
          · first | trivial | (simp [AllOb, Ob.P, sum_len, sz_sum, one_int, u8V_one]; done) | exact ⟨⟨rfl, List.all_eq_true.1 (by kernel_rfl)⟩, trivial⟩
          refine RunD.adv tb_ok (by kernel_rfl) [] rfl rfl (by simp [AllOb, Ob.P, sum_len, sz_sum, one_int, u8V_one]) ?_
          refine RunD.two (i := 4) (j := 8) (by kernel_rfl) ?_ ?_
          · refine opD_step tb_ok (nx := 5) (i := 4) rfl rfl rfl rfl ?_ rfl (fun _ h => h) ⟨rfl, rfl⟩ ?_
            · first | trivial | (simp [AllOb, Ob.P, sum_len, sz_sum, one_int, u8V_one]; done) | exact ⟨⟨rfl, List.all_eq_true.1 (by kernel_rfl)⟩, trivial⟩
            refine RunD.adv tb_ok (by kernel_rfl) [] rfl rfl (by simp [AllOb, Ob.P, sum_len, sz_sum, one_int, u8V_one]) ?_
            refine RunD.step tb_ok (i := 8) rfl (by kernel_rfl) rfl rfl rfl ?_ rfl (fun _ h => h) rfl ?_
            · first | trivial | (simp [AllOb, Ob.P, sum_len, sz_sum, one_int, u8V_one]; done) | exact ⟨⟨rfl, List.all_eq_true.1 (by kernel_rfl)⟩, trivial⟩
            refine RunD.adv tb_ok (by kernel_rfl) [] rfl rfl (by simp [AllOb, Ob.P, sum_len, sz_sum, one_int, u8V_one]) ?_
            refine RunD.step tb_ok (i := 9) rfl (by kernel_rfl) rfl rfl rfl ?_ rfl (fun _ h => h) rfl ?_
            · first | trivial | (simp [AllOb, Ob.P, sum_len, sz_sum, one_int, u8V_one]; done) | exact ⟨⟨rfl, List.all_eq_true.1 (by kernel_rfl)⟩, trivial⟩
            refine RunD.done (.inl rfl) (by kernel_rfl) ?_
            refine RunH.objBoxV (id := 2) [.val (sumV Sum.zero), .val (.slice (some ⟨(m21 + 1 + 1 + 1), 0, none⟩) 1 1), .val (strV [50])] rfl rfl ⟨⟨rfl, vok_sum _, rfl, ⟨rfl, Tryz.t71, rfl, rfl⟩, rfl, vok_str _, trivial⟩, Tryz.t73, rfl, by simp [flat, AV.v, Value.cells, sumV, Sum.zero]; try rfl⟩ ?_
            refine RunH.objBoxV (id := 3) [.val (sumV Sum.zero), .val (.slice (some ⟨(m21 + 1 + 1 + 1 + 1), 0, none⟩) 1 1), .val (strV [51])] rfl rfl ⟨⟨rfl, vok_sum _, rfl, ⟨rfl, Tryz.t71, rfl, rfl⟩, rfl, vok_str _, trivial⟩, Tryz.t73, rfl, by simp [flat, AV.v, Value.cells, sumV, Sum.zero]; try rfl⟩ ?_
            refine RunH.meetS ((m21 + 1 + 1 + 1), (m21 + 1 + 1 + 1 + 1), (m21 + 1), (m21 + 1 + 1)) [(2, 4), (3, 5), (4, 2), (5, 3)] (.head _) ?_ ?_ ?_ ?_
            · rfl
            · rfl
            · rfl
            · exact fun w h => h
          · refine opD_step tb_ok (nx := 5) (i := 8) rfl rfl rfl rfl ?_ rfl (fun _ h => h) rfl ?_
            · first | trivial | (simp [AllOb, Ob.P, sum_len, sz_sum, one_int, u8V_one]; done) | exact ⟨⟨rfl, List.all_eq_true.1 (by kernel_rfl)⟩, trivial⟩
            refine RunD.adv tb_ok (by kernel_rfl) [] rfl rfl (by simp [AllOb, Ob.P, sum_len, sz_sum, one_int, u8V_one]) ?_
            refine RunD.step tb_ok (i := 4) rfl (by kernel_rfl) rfl rfl rfl ?_ rfl (fun _ h => h) ⟨rfl, rfl⟩ ?_
            · first | trivial | (simp [AllOb, Ob.P, sum_len, sz_sum, one_int, u8V_one]; done) | exact ⟨⟨rfl, List.all_eq_true.1 (by kernel_rfl)⟩, trivial⟩
            refine RunD.adv tb_ok (by kernel_rfl) [] rfl rfl (by simp [AllOb, Ob.P, sum_len, sz_sum, one_int, u8V_one]) ?_
            refine RunD.step tb_ok (i := 9) rfl (by kernel_rfl) rfl rfl rfl ?_ rfl (fun _ h => h) rfl ?_
            · first | trivial | (simp [AllOb, Ob.P, sum_len, sz_sum, one_int, u8V_one]; done) | exact ⟨⟨rfl, List.all_eq_true.1 (by kernel_rfl)⟩, trivial⟩
            refine RunD.done (.inl rfl) (by kernel_rfl) ?_
            refine RunH.objBoxV (id := 2) [.val (sumV Sum.zero), .val (.slice (some ⟨(m21 + 1 + 1 + 1), 0, none⟩) 1 1), .val (strV [50])] rfl rfl ⟨⟨rfl, vok_sum _, rfl, ⟨rfl, Tryz.t71, rfl, rfl⟩, rfl, vok_str _, trivial⟩, Tryz.t73, rfl, by simp [flat, AV.v, Value.cells, sumV, Sum.zero]; try rfl⟩ ?_
            refine RunH.objBoxV (id := 3) [.val (sumV Sum.zero), .val (.slice (some ⟨(m21 + 1 + 1 + 1 + 1), 0, none⟩) 1 1), .val (strV [51])] rfl rfl ⟨⟨rfl, vok_sum _, rfl, ⟨rfl, Tryz.t71, rfl, rfl⟩, rfl, vok_str _, trivial⟩, Tryz.t73, rfl, by simp [flat, AV.v, Value.cells, sumV, Sum.zero]; try rfl⟩ ?_
            refine RunH.meetS ((m21 + 1 + 1 + 1), (m21 + 1 + 1 + 1 + 1), (m21 + 1), (m21 + 1 + 1)) [(2, 4), (3, 5), (4, 2), (5, 3)] (.head _) ?_ ?_ ?_ ?_
            · rfl
            · rfl
            · rfl
            · exact fun w h => h
        · refine opD_step tb_ok (nx := 4) (i := 4) rfl rfl rfl rfl ?_ rfl (fun _ h => h) ⟨rfl, rfl⟩ ?_
          · first | trivial | (simp [AllOb, Ob.P, sum_len, sz_sum, one_int, u8V_one]; done) | exact ⟨⟨rfl, List.all_eq_true.1 (by kernel_rfl)⟩, trivial⟩
          refine RunD.adv tb_ok (by kernel_rfl) [] rfl rfl (by simp [AllOb, Ob.P, sum_len, sz_sum, one_int, u8V_one]) ?_
          refine RunD.step tb_ok (i := 1) rfl (by kernel_rfl) rfl rfl rfl ?_ rfl (fun _ h => h) ⟨rfl, rfl⟩ ?_
          · first | trivial | (simp [AllOb, Ob.P, sum_len, sz_sum, one_int, u8V_one]; done) | exact ⟨⟨rfl, List.all_eq_true.1 (by kernel_rfl)⟩, trivial⟩
          refine RunD.adv tb_ok (by kernel_rfl) [] rfl rfl (by simp [AllOb, Ob.P, sum_len, sz_sum, one_int, u8V_one]) ?_
          refine RunD.step tb_ok (i := 8) rfl (by kernel_rfl) rfl rfl rfl ?_ rfl (fun _ h => h) rfl ?_
          · first | trivial | (simp [AllOb, Ob.P, sum_len, sz_sum, one_int, u8V_one]; done) | exact ⟨⟨rfl, List.all_eq_true.1 (by kernel_rfl)⟩, trivial⟩
          refine RunD.adv tb_ok (by kernel_rfl) [] rfl rfl (by simp [AllOb, Ob.P, sum_len, sz_sum, one_int, u8V_one]) ?_
          refine RunD.step tb_ok (i := 9) rfl (by kernel_rfl) rfl rfl rfl ?_ rfl (fun _ h => h) rfl ?_
          · first | trivial | (simp [AllOb, Ob.P, sum_len, sz_sum, one_int, u8V_one]; done) | exact ⟨⟨rfl, List.all_eq_true.1 (by kernel_rfl)⟩, trivial⟩
          refine RunD.done (.inl rfl) (by kernel_rfl) ?_
          refine RunH.objBoxV (id := 2) [.val (sumV Sum.zero), .val (.slice (some ⟨(m21 + 1 + 1 + 1 + 1), 0, none⟩) 1 1), .val (strV [50])] rfl rfl ⟨⟨rfl, vok_sum _, rfl, ⟨rfl, Tryz.t71, rfl, rfl⟩, rfl, vok_str _, trivial⟩, Tryz.t73, rfl, by simp [flat, AV.v, Value.cells, sumV, Sum.zero]; try rfl⟩ ?_
          refine RunH.objBoxV (id := 3) [.val (sumV Sum.zero), .val (.slice (some ⟨(m21 + 1 + 1 + 1), 0, none⟩) 1 1), .val (strV [51])] rfl rfl ⟨⟨rfl, vok_sum _, rfl, ⟨rfl, Tryz.t71, rfl, rfl⟩, rfl, vok_str _, trivial⟩, Tryz.t73, rfl, by simp [flat, AV.v, Value.cells, sumV, Sum.zero]; try rfl⟩ ?_
          refine RunH.meetS ((m21 + 1 + 1 + 1 + 1), (m21 + 1 + 1 + 1), (m21 + 1), (m21 + 1 + 1)) [(2, 5), (3, 4), (4, 2), (5, 3)] (.head _) ?_ ?_ ?_ ?_
          · rfl
          · rfl
          · rfl
          · exact fun w h => h
    · refine opD_step tb_ok (nx := 2) (i := 7) rfl rfl rfl rfl ?_ rfl (fun _ h => h) ⟨rfl, rfl⟩ ?_
      · first | trivial | (simp [AllOb, Ob.P, sum_len, sz_sum, one_int, u8V_one]; done) | exact ⟨⟨rfl, List.all_eq_true.1 (by kernel_rfl)⟩, trivial⟩
      refine RunD.adv tb_ok (by kernel_rfl) [] rfl rfl (by simp [AllOb, Ob.P, sum_len, sz_sum, one_int, u8V_one]) ?_
      refine RunD.three (i := 1) (j := 4) (q := 6) (by kernel_rfl) ?_ ?_ ?_
      · refine opD_step tb_ok (nx := 3) (i := 1) rfl rfl rfl rfl ?_ rfl (fun _ h => h) ⟨rfl, rfl⟩ ?_
        · first | trivial | (simp [AllOb, Ob.P, sum_len, sz_sum, one_int, u8V_one]; done) | exact ⟨⟨rfl, List.all_eq_true.1 (by kernel_rfl)⟩, trivial⟩
        refine RunD.adv tb_ok (by kernel_rfl) [] rfl rfl (by simp [AllOb, Ob.P, sum_len, sz_sum, one_int, u8V_one]) ?_
        refine RunD.two (i := 4) (j := 6) (by kernel_rfl) ?_ ?_
        · refine opD_step tb_ok (nx := 4) (i := 4) rfl rfl rfl rfl ?_ rfl (fun _ h => h) ⟨rfl, rfl⟩ ?_
          · first | trivial | (simp [AllOb, Ob.P, sum_len, sz_sum, one_int, u8V_one]; done) | exact ⟨⟨rfl, List.all_eq_true.1 (by kernel_rfl)⟩, trivial⟩
          refine RunD.adv tb_ok (by kernel_rfl) [] rfl rfl (by simp [AllOb, Ob.P, sum_len, sz_sum, one_int, u8V_one]) ?_
          refine RunD.step tb_ok (i := 6) rfl (by kernel_rfl) rfl rfl rfl ?_ rfl (fun _ h => h) ⟨rfl, rfl⟩ ?_
          · first | trivial | (simp [AllOb, Ob.P, sum_len, sz_sum, one_int, u8V_one]; done) | exact ⟨⟨rfl, List.all_eq_true.1 (by kernel_rfl)⟩, trivial⟩
          refine RunD.adv tb_ok (by kernel_rfl) [] rfl rfl (by simp [AllOb, Ob.P, sum_len, sz_sum, one_int, u8V_one]) ?_
          refine RunD.step tb_ok (i := 8) rfl (by kernel_rfl) rfl rfl rfl ?_ rfl (fun _ h => h) rfl ?_
          · first | trivial | (simp [AllOb, Ob.P, sum_len, sz_sum, one_int, u8V_one]; done) | exact ⟨⟨rfl, List.all_eq_true.1 (by kernel_rfl)⟩, trivial⟩
          refine RunD.adv tb_ok (by kernel_rfl) [] rfl rfl (by simp [AllOb, Ob.P, sum_len, sz_sum, one_int, u8V_one]) ?_
          refine RunD.step tb_ok (i := 9) rfl (by kernel_rfl) rfl rfl rfl ?_ rfl (fun _ h => h) rfl ?_
          · first | trivial | (simp [AllOb, Ob.P, sum_len, sz_sum, one_int, u8V_one]; done) | exact ⟨⟨rfl, List.all_eq_true.1 (by kernel_rfl)⟩, trivial⟩
          refine RunD.done (.inl rfl) (by kernel_rfl) ?_
          refine RunH.objBoxV (id := 5) [.val (sumV Sum.zero), .val (.slice (some ⟨(m21 + 1 + 1), 0, none⟩) 1 1), .val (strV [50])] rfl rfl ⟨⟨rfl, vok_sum _, rfl, ⟨rfl, Tryz.t71, rfl, rfl⟩, rfl, vok_str _, trivial⟩, Tryz.t73, rfl, by simp [flat, AV.v, Value.cells, sumV, Sum.zero]; try rfl⟩ ?_
          refine RunH.objBoxV (id := 2) [.val (sumV Sum.zero), .val (.slice (some ⟨(m21 + 1 + 1 + 1), 0, none⟩) 1 1), .val (strV [51])] rfl rfl ⟨⟨rfl, vok_sum _, rfl, ⟨rfl, Tryz.t71, rfl, rfl⟩, rfl, vok_str _, trivial⟩, Tryz.t73, rfl, by simp [flat, AV.v, Value.cells, sumV, Sum.zero]; try rfl⟩ ?_
          refine RunH.meetS ((m21 + 1 + 1), (m21 + 1 + 1 + 1), (m21 + 1 + 1 + 1 + 1), (m21 + 1)) [(2, 3), (3, 4), (4, 5), (5, 2)] (.head _) ?_ ?_ ?_ ?_
          · rfl
          · rfl
          · rfl
          · exact fun w h => h
        · refine opD_step tb_ok (nx := 4) (i := 6) rfl rfl rfl rfl ?_ rfl (fun _ h => h) ⟨rfl, rfl⟩ ?_
          · first | trivial | (simp [AllOb, Ob.P, sum_len, sz_sum, one_int, u8V_one]; done) | exact ⟨⟨rfl, List.all_eq_true.1 (by kernel_rfl)⟩, trivial⟩
          refine RunD.adv tb_ok (by kernel_rfl) [] rfl rfl (by simp [AllOb, Ob.P, sum_len, sz_sum, one_int, u8V_one]) ?_
          refine RunD.two (i := 4) (j := 8) (by kernel_rfl) ?_ ?_
          · refine opD_step tb_ok (nx := 5) (i := 4) rfl rfl rfl rfl ?_ rfl (fun _ h => h) ⟨rfl, rfl⟩ ?_
            · first | trivial | (simp [AllOb, Ob.P, sum_len, sz_sum, one_int, u8V_one]; done) | exact ⟨⟨rfl, List.all_eq_true.1 (by kernel_rfl)⟩, trivial⟩
            refine RunD.adv tb_ok (by kernel_rfl) [] rfl rfl (by simp [AllOb, Ob.P, sum_len, sz_sum, one_int, u8V_one]) ?_
            refine RunD.step tb_ok (i := 8) rfl (by kernel_rfl) rfl rfl rfl ?_ rfl (fun _ h => h) rfl ?_
            · first | trivial | (simp [AllOb, Ob.P, sum_len, sz_sum, one_int, u8V_one]; done) | exact ⟨⟨rfl, List.all_eq_true.1 (by kernel_rfl)⟩, trivial⟩
            refine RunD.adv tb_ok (by kernel_rfl) [] rfl rfl (by simp [AllOb, Ob.P, sum_len, sz_sum, one_int, u8V_one]) ?_
            refine RunD.step tb_ok (i := 9) rfl (by kernel_rfl) rfl rfl rfl ?_ rfl (fun _ h => h) rfl ?_
            · first | trivial | (simp [AllOb, Ob.P, sum_len, sz_sum, one_int, u8V_one]; done) | exact ⟨⟨rfl, List.all_eq_true.1 (by kernel_rfl)⟩, trivial⟩
            refine RunD.done (.inl rfl) (by kernel_rfl) ?_
            refine RunH.objBoxV (id := 4) [.val (sumV Sum.zero), .val (.slice (some ⟨(m21 + 1 + 1), 0, none⟩) 1 1), .val (strV [50])] rfl rfl ⟨⟨rfl, vok_sum _, rfl, ⟨rfl, Tryz.t71, rfl, rfl⟩, rfl, vok_str _, trivial⟩, Tryz.t73, rfl, by simp [flat, AV.v, Value.cells, sumV, Sum.zero]; try rfl⟩ ?_
            refine RunH.objBoxV (id := 2) [.val (sumV Sum.zero), .val (.slice (some ⟨(m21 + 1 + 1 + 1 + 1), 0, none⟩) 1 1), .val (strV [51])] rfl rfl ⟨⟨rfl, vok_sum _, rfl, ⟨rfl, Tryz.t71, rfl, rfl⟩, rfl, vok_str _, trivial⟩, Tryz.t73, rfl, by simp [flat, AV.v, Value.cells, sumV, Sum.zero]; try rfl⟩ ?_
            refine RunH.meetS ((m21 + 1 + 1), (m21 + 1 + 1 + 1 + 1), (m21 + 1 + 1 + 1), (m21 + 1)) [(2, 3), (3, 5), (4, 4), (5, 2)] (.head _) ?_ ?_ ?_ ?_
            · rfl
            · rfl
            · rfl
            · exact fun w h => h
          · refine opD_step tb_ok (nx := 5) (i := 8) rfl rfl rfl rfl ?_ rfl (fun _ h => h) rfl ?_
            · first | trivial | (simp [AllOb, Ob.P, sum_len, sz_sum, one_int, u8V_one]; done) | exact ⟨⟨rfl, List.all_eq_true.1 (by kernel_rfl)⟩, trivial⟩
            refine RunD.adv tb_ok (by kernel_rfl) [] rfl rfl (by simp [AllOb, Ob.P, sum_len, sz_sum, one_int, u8V_one]) ?_
            refine RunD.step tb_ok (i := 4) rfl (by kernel_rfl) rfl rfl rfl ?_ rfl (fun _ h => h) ⟨rfl, rfl⟩ ?_
            · first | trivial | (simp [AllOb, Ob.P, sum_len, sz_sum, one_int, u8V_one]; done) | exact ⟨⟨rfl, List.all_eq_true.1 (by kernel_rfl)⟩, trivial⟩
            refine RunD.adv tb_ok (by kernel_rfl) [] rfl rfl (by simp [AllOb, Ob.P, sum_len, sz_sum, one_int, u8V_one]) ?_
            refine RunD.step tb_ok (i := 9) rfl (by kernel_rfl) rfl rfl rfl ?_ rfl (fun _ h => h) rfl ?_
            · first | trivial | (simp [AllOb, Ob.P, sum_len, sz_sum, one_int, u8V_one]; done) | exact ⟨⟨rfl, List.all_eq_true.1 (by kernel_rfl)⟩, trivial⟩
            refine RunD.done (.inl rfl) (by kernel_rfl) ?_
            refine RunH.objBoxV (id := 4) [.val (sumV Sum.zero), .val (.slice (some ⟨(m21 + 1 + 1), 0, none⟩) 1 1), .val (strV [50])] rfl rfl ⟨⟨rfl, vok_sum _, rfl, ⟨rfl, Tryz.t71, rfl, rfl⟩, rfl, vok_str _, trivial⟩, Tryz.t73, rfl, by simp [flat, AV.v, Value.cells, sumV, Sum.zero]; try rfl⟩ ?_
            refine RunH.objBoxV (id := 2) [.val (sumV Sum.zero), .val (.slice (some ⟨(m21 + 1 + 1 + 1 + 1), 0, none⟩) 1 1), .val (strV [51])] rfl rfl ⟨⟨rfl, vok_sum _, rfl, ⟨rfl, Tryz.t71, rfl, rfl⟩, rfl, vok_str _, trivial⟩, Tryz.t73, rfl, by simp [flat, AV.v, Value.cells, sumV, Sum.zero]; try rfl⟩ ?_
            refine RunH.meetS ((m21 + 1 + 1), (m21 + 1 + 1 + 1 + 1), (m21 + 1 + 1 + 1), (m21 + 1)) [(2, 3), (3, 5), (4, 4), (5, 2)] (.head _) ?_ ?_ ?_ ?_
            · rfl
            · rfl
            · rfl
            · exact fun w h => h
      · refine opD_step tb_ok (nx := 3) (i := 4) rfl rfl rfl rfl ?_ rfl (fun _ h => h) ⟨rfl, rfl⟩ ?_
        · first | trivial | (simp [AllOb, Ob.P, sum_len, sz_sum, one_int, u8V_one]; done) | exact ⟨⟨rfl, List.all_eq_true.1 (by kernel_rfl)⟩, trivial⟩
        refine RunD.adv tb_ok (by kernel_rfl) [] rfl rfl (by simp [AllOb, Ob.P, sum_len, sz_sum, one_int, u8V_one]) ?_
        refine RunD.two (i := 1) (j := 6) (by kernel_rfl) ?_ ?_
        · refine opD_step tb_ok (nx := 4) (i := 1) rfl rfl rfl rfl ?_ rfl (fun _ h => h) ⟨rfl, rfl⟩ ?_
          · first | trivial | (simp [AllOb, Ob.P, sum_len, sz_sum, one_int, u8V_one]; done) | exact ⟨⟨rfl, List.all_eq_true.1 (by kernel_rfl)⟩, trivial⟩
          refine RunD.adv tb_ok (by kernel_rfl) [] rfl rfl (by simp [AllOb, Ob.P, sum_len, sz_sum, one_int, u8V_one]) ?_
          refine RunD.step tb_ok (i := 6) rfl (by kernel_rfl) rfl rfl rfl ?_ rfl (fun _ h => h) ⟨rfl, rfl⟩ ?_
          · first | trivial | (simp [AllOb, Ob.P, sum_len, sz_sum, one_int, u8V_one]; done) | exact ⟨⟨rfl, List.all_eq_true.1 (by kernel_rfl)⟩, trivial⟩
          refine RunD.adv tb_ok (by kernel_rfl) [] rfl rfl (by simp [AllOb, Ob.P, sum_len, sz_sum, one_int, u8V_one]) ?_
          refine RunD.step tb_ok (i := 8) rfl (by kernel_rfl) rfl rfl rfl ?_ rfl (fun _ h => h) rfl ?_
          · first | trivial | (simp [AllOb, Ob.P, sum_len, sz_sum, one_int, u8V_one]; done) | exact ⟨⟨rfl, List.all_eq_true.1 (by kernel_rfl)⟩, trivial⟩
          refine RunD.adv tb_ok (by kernel_rfl) [] rfl rfl (by simp [AllOb, Ob.P, sum_len, sz_sum, one_int, u8V_one]) ?_
          refine RunD.step tb_ok (i := 9) rfl (by kernel_rfl) rfl rfl rfl ?_ rfl (fun _ h => h) rfl ?_
          · first | trivial | (simp [AllOb, Ob.P, sum_len, sz_sum, one_int, u8V_one]; done) | exact ⟨⟨rfl, List.all_eq_true.1 (by kernel_rfl)⟩, trivial⟩
          refine RunD.done (.inl rfl) (by kernel_rfl) ?_
          refine RunH.objBoxV (id := 5) [.val (sumV Sum.zero), .val (.slice (some ⟨(m21 + 1 + 1 + 1), 0, none⟩) 1 1), .val (strV [50])] rfl rfl ⟨⟨rfl, vok_sum _, rfl, ⟨rfl, Tryz.t71, rfl, rfl⟩, rfl, vok_str _, trivial⟩, Tryz.t73, rfl, by simp [flat, AV.v, Value.cells, sumV, Sum.zero]; try rfl⟩ ?_
          refine RunH.objBoxV (id := 2) [.val (sumV Sum.zero), .val (.slice (some ⟨(m21 + 1 + 1), 0, none⟩) 1 1), .val (strV [51])] rfl rfl ⟨⟨rfl, vok_sum _, rfl, ⟨rfl, Tryz.t71, rfl, rfl⟩, rfl, vok_str _, trivial⟩, Tryz.t73, rfl, by simp [flat, AV.v, Value.cells, sumV, Sum.zero]; try rfl⟩ ?_
          refine RunH.meetS ((m21 + 1 + 1 + 1), (m21 + 1 + 1), (m21 + 1 + 1 + 1 + 1), (m21 + 1)) [(2, 4), (3, 3), (4, 5), (5, 2)] (.head _) ?_ ?_ ?_ ?_
          · rfl
          · rfl
          · rfl
          · exact fun w h => h
        · refine opD_step tb_ok (nx := 4) (i := 6) rfl rfl rfl rfl ?_ rfl (fun _ h => h) ⟨rfl, rfl⟩ ?_
          · first | trivial | (simp [AllOb, Ob.P, sum_len, sz_sum, one_int, u8V_one]; done) | exact ⟨⟨rfl, List.all_eq_true.1 (by kernel_rfl)⟩, trivial⟩
          refine RunD.adv tb_ok (by kernel_rfl) [] rfl rfl (by simp [AllOb, Ob.P, sum_len, sz_sum, one_int, u8V_one]) ?_
          refine RunD.step tb_ok (i := 1) rfl (by kernel_rfl) rfl rfl rfl ?_ rfl (fun _ h => h) ⟨rfl, rfl⟩ ?_
          · first | trivial | (simp [AllOb, Ob.P, sum_len, sz_sum, one_int, u8V_one]; done) | exact ⟨⟨rfl, List.all_eq_true.1 (by kernel_rfl)⟩, trivial⟩
          refine RunD.adv tb_ok (by kernel_rfl) [] rfl rfl (by simp [AllOb, Ob.P, sum_len, sz_sum, one_int, u8V_one]) ?_
          refine RunD.step tb_ok (i := 8) rfl (by kernel_rfl) rfl rfl rfl ?_ rfl (fun _ h => h) rfl ?_
          · first | trivial | (simp [AllOb, Ob.P, sum_len, sz_sum, one_int, u8V_one]; done) | exact ⟨⟨rfl, List.all_eq_true.1 (by kernel_rfl)⟩, trivial⟩
          refine RunD.adv tb_ok (by kernel_rfl) [] rfl rfl (by simp [AllOb, Ob.P, sum_len, sz_sum, one_int, u8V_one]) ?_
          refine RunD.step tb_ok (i := 9) rfl (by kernel_rfl) rfl rfl rfl ?_ rfl (fun _ h => h) rfl ?_
          · first | trivial | (simp [AllOb, Ob.P, sum_len, sz_sum, one_int, u8V_one]; done) | exact ⟨⟨rfl, List.all_eq_true.1 (by kernel_rfl)⟩, trivial⟩
          refine RunD.done (.inl rfl) (by kernel_rfl) ?_
          refine RunH.objBoxV (id := 4) [.val (sumV Sum.zero), .val (.slice (some ⟨(m21 + 1 + 1 + 1 + 1), 0, none⟩) 1 1), .val (strV [50])] rfl rfl ⟨⟨rfl, vok_sum _, rfl, ⟨rfl, Tryz.t71, rfl, rfl⟩, rfl, vok_str _, trivial⟩, Tryz.t73, rfl, by simp [flat, AV.v, Value.cells, sumV, Sum.zero]; try rfl⟩ ?_
          refine RunH.objBoxV (id := 2) [.val (sumV Sum.zero), .val (.slice (some ⟨(m21 + 1 + 1), 0, none⟩) 1 1), .val (strV [51])] rfl rfl ⟨⟨rfl, vok_sum _, rfl, ⟨rfl, Tryz.t71, rfl, rfl⟩, rfl, vok_str _, trivial⟩, Tryz.t73, rfl, by simp [flat, AV.v, Value.cells, sumV, Sum.zero]; try rfl⟩ ?_
          refine RunH.meetS ((m21 + 1 + 1 + 1 + 1), (m21 + 1 + 1), (m21 + 1 + 1 + 1), (m21 + 1)) [(2, 5), (3, 3), (4, 4), (5, 2)] (.head _) ?_ ?_ ?_ ?_
          · rfl
          · rfl
          · rfl
          · exact fun w h => h
      · refine opD_step tb_ok (nx := 3) (i := 6) rfl rfl rfl rfl ?_ rfl (fun _ h => h) ⟨rfl, rfl⟩ ?_
        · first | trivial | (simp [AllOb, Ob.P, sum_len, sz_sum, one_int, u8V_one]; done) | exact ⟨⟨rfl, List.all_eq_true.1 (by kernel_rfl)⟩, trivial⟩
        refine RunD.adv tb_ok (by kernel_rfl) [] rfl rfl (by simp [AllOb, Ob.P, sum_len, sz_sum, one_int, u8V_one]) ?_
        refine RunD.two (i := 1) (j := 4) (by kernel_rfl) ?_ ?_
        · refine opD_step tb_ok (nx := 4) (i := 1) rfl rfl rfl rfl ?_ rfl (fun _ h => h) ⟨rfl, rfl⟩ ?_
          · first | trivial | (simp [AllOb, Ob.P, sum_len, sz_sum, one_int, u8V_one]; done) | exact ⟨⟨rfl, List.all_eq_true.1 (by kernel_rfl)⟩, trivial⟩
          refine RunD.adv tb_ok (by kernel_rfl) [] rfl rfl (by simp [AllOb, Ob.P, sum_len, sz_sum, one_int, u8V_one]) ?_
          refine RunD.two (i := 4) (j := 8) (by kernel_rfl) ?_ ?_
          · refine opD_step tb_ok (nx := 5) (i := 4) rfl rfl rfl rfl ?_ rfl (fun _ h => h) ⟨rfl, rfl⟩ ?_
            · first | trivial | (simp [AllOb, Ob.P, sum_len, sz_sum, one_int, u8V_one]; done) | exact ⟨⟨rfl, List.all_eq_true.1 (by kernel_rfl)⟩, trivial⟩
            refine RunD.adv tb_ok (by kernel_rfl) [] rfl rfl (by simp [AllOb, Ob.P, sum_len, sz_sum, one_int, u8V_one]) ?_
            refine RunD.step tb_ok (i := 8) rfl (by kernel_rfl) rfl rfl rfl ?_ rfl (fun _ h => h) rfl ?_
            · first | trivial | (simp [AllOb, Ob.P, sum_len, sz_sum, one_int, u8V_one]; done) | exact ⟨⟨rfl, List.all_eq_true.1 (by kernel_rfl)⟩, trivial⟩
            refine RunD.adv tb_ok (by kernel_rfl) [] rfl rfl (by simp [AllOb, Ob.P, sum_len, sz_sum, one_int, u8V_one]) ?_
            refine RunD.step tb_ok (i := 9) rfl (by kernel_rfl) rfl rfl rfl ?_ rfl (fun _ h => h) rfl ?_
            · first | trivial | (simp [AllOb, Ob.P, sum_len, sz_sum, one_int, u8V_one]; done) | exact ⟨⟨rfl, List.all_eq_true.1 (by kernel_rfl)⟩, trivial⟩
            refine RunD.done (.inl rfl) (by kernel_rfl) ?_
            refine RunH.objBoxV (id := 3) [.val (sumV Sum.zero), .val (.slice (some ⟨(m21 + 1 + 1 + 1), 0, none⟩) 1 1), .val (strV [50])] rfl rfl ⟨⟨rfl, vok_sum _, rfl, ⟨rfl, Tryz.t71, rfl, rfl⟩, rfl, vok_str _, trivial⟩, Tryz.t73, rfl, by simp [flat, AV.v, Value.cells, sumV, Sum.zero]; try rfl⟩ ?_
            refine RunH.objBoxV (id := 2) [.val (sumV Sum.zero), .val (.slice (some ⟨(m21 + 1 + 1 + 1 + 1), 0, none⟩) 1 1), .val (strV [51])] rfl rfl ⟨⟨rfl, vok_sum _, rfl, ⟨rfl, Tryz.t71, rfl, rfl⟩, rfl, vok_str _, trivial⟩, Tryz.t73, rfl, by simp [flat, AV.v, Value.cells, sumV, Sum.zero]; try rfl⟩ ?_
            refine RunH.meetS ((m21 + 1 + 1 + 1), (m21 + 1 + 1 + 1 + 1), (m21 + 1 + 1), (m21 + 1)) [(2, 4), (3, 5), (4, 3), (5, 2)] (.head _) ?_ ?_ ?_ ?_
            · rfl
            · rfl
            · rfl
            · exact fun w h => h
          · refine opD_step tb_ok (nx := 5) (i := 8) rfl rfl rfl rfl ?_ rfl (fun _ h => h) rfl ?_
            · first | trivial | (simp [AllOb, Ob.P, sum_len, sz_sum, one_int, u8V_one]; done) | exact ⟨⟨rfl, List.all_eq_true.1 (by kernel_rfl)⟩, trivial⟩
            refine RunD.adv tb_ok (by kernel_rfl) [] rfl rfl (by simp [AllOb, Ob.P, sum_len, sz_sum, one_int, u8V_one]) ?_
            refine RunD.step tb_ok (i := 4) rfl (by kernel_rfl) rfl rfl rfl ?_ rfl (fun _ h => h) ⟨rfl, rfl⟩ ?_
            · first | trivial | (simp [AllOb, Ob.P, sum_len, sz_sum, one_int, u8V_one]; done) | exact ⟨⟨rfl, List.all_eq_true.1 (by kernel_rfl)⟩, trivial⟩
            refine RunD.adv tb_ok (by kernel_rfl) [] rfl rfl (by simp [AllOb, Ob.P, sum_len, sz_sum, one_int, u8V_one]) ?_
            refine RunD.step tb_ok (i := 9) rfl (by kernel_rfl) rfl rfl rfl ?_ rfl (fun _ h => h) rfl ?_
            · first | trivial | (simp [AllOb, Ob.P, sum_len, sz_sum, one_int, u8V_one]; done) | exact ⟨⟨rfl, List.all_eq_true.1 (by kernel_rfl)⟩, trivial⟩
            refine RunD.done (.inl rfl) (by kernel_rfl) ?_
            refine RunH.objBoxV (id := 3) [.val (sumV Sum.zero), .val (.slice (some ⟨(m21 + 1 + 1 + 1), 0, none⟩) 1 1), .val (strV [50])] rfl rfl ⟨⟨rfl, vok_sum _, rfl, ⟨rfl, Tryz.t71, rfl, rfl⟩, rfl, vok_str _, trivial⟩, Tryz.t73, rfl, by simp [flat, AV.v, Value.cells, sumV, Sum.zero]; try rfl⟩ ?_
            refine RunH.objBoxV (id := 2) [.val (sumV Sum.zero), .val (.slice (some ⟨(m21 + 1 + 1 + 1 + 1), 0, none⟩) 1 1), .val (strV [51])] rfl rfl ⟨⟨rfl, vok_sum _, rfl, ⟨rfl, Tryz.t71, rfl, rfl⟩, rfl, vok_str _, trivial⟩, Tryz.t73, rfl, by simp [flat, AV.v, Value.cells, sumV, Sum.zero]; try rfl⟩ ?_
            refine RunH.meetS ((m21 + 1 + 1 + 1), (m21 + 1 + 1 + 1 + 1), (m21 + 1 + 1), (m21 + 1)) [(2, 4), (3, 5), (4, 3), (5, 2)] (.head _) ?_ ?_ ?_ ?_
            · rfl
            · rfl
            · rfl
            · exact fun w h => h
        · refine opD_step tb_ok (nx := 4) (i := 4) rfl rfl rfl rfl ?_ rfl (fun _ h => h) ⟨rfl, rfl⟩ ?_
          · first | trivial | (simp [AllOb, Ob.P, sum_len, sz_sum, one_int, u8V_one]; done) | exact ⟨⟨rfl, List.all_eq_true.1 (by kernel_rfl)⟩, trivial⟩
          refine RunD.adv tb_ok (by kernel_rfl) [] rfl rfl (by simp [AllOb, Ob.P, sum_len, sz_sum, one_int, u8V_one]) ?_
          refine RunD.step tb_ok (i := 1) rfl (by kernel_rfl) rfl rfl rfl ?_ rfl (fun _ h => h) ⟨rfl, rfl⟩ ?_
          · first | trivial | (simp [AllOb, Ob.P, sum_len, sz_sum, one_int, u8V_one]; done) | exact ⟨⟨rfl, List.all_eq_true.1 (by kernel_rfl)⟩, trivial⟩
          refine RunD.adv tb_ok (by kernel_rfl) [] rfl rfl (by simp [AllOb, Ob.P, sum_len, sz_sum, one_int, u8V_one]) ?_
          refine RunD.step tb_ok (i := 8) rfl (by kernel_rfl) rfl rfl rfl ?_ rfl (fun _ h => h) rfl ?_
          · first | trivial | (simp [AllOb, Ob.P, sum_len, sz_sum, one_int, u8V_one]; done) | exact ⟨⟨rfl, List.all_eq_true.1 (by kernel_rfl)⟩, trivial⟩
          refine RunD.adv tb_ok (by kernel_rfl) [] rfl rfl (by simp [AllOb, Ob.P, sum_len, sz_sum, one_int, u8V_one]) ?_
          refine RunD.step tb_ok (i := 9) rfl (by kernel_rfl) rfl rfl rfl ?_ rfl (fun _ h => h) rfl ?_
          · first | trivial | (simp [AllOb, Ob.P, sum_len, sz_sum, one_int, u8V_one]; done) | exact ⟨⟨rfl, List.all_eq_true.1 (by kernel_rfl)⟩, trivial⟩
          refine RunD.done (.inl rfl) (by kernel_rfl) ?_
          refine RunH.objBoxV (id := 3) [.val (sumV Sum.zero), .val (.slice (some ⟨(m21 + 1 + 1 + 1 + 1), 0, none⟩) 1 1), .val (strV [50])] rfl rfl ⟨⟨rfl, vok_sum _, rfl, ⟨rfl, Tryz.t71, rfl, rfl⟩, rfl, vok_str _, trivial⟩, Tryz.t73, rfl, by simp [flat, AV.v, Value.cells, sumV, Sum.zero]; try rfl⟩ ?_
          refine RunH.objBoxV (id := 2) [.val (sumV Sum.zero), .val (.slice (some ⟨(m21 + 1 + 1 + 1), 0, none⟩) 1 1), .val (strV [51])] rfl rfl ⟨⟨rfl, vok_sum _, rfl, ⟨rfl, Tryz.t71, rfl, rfl⟩, rfl, vok_str _, trivial⟩, Tryz.t73, rfl, by simp [flat, AV.v, Value.cells, sumV, Sum.zero]; try rfl⟩ ?_
          refine RunH.meetS ((m21 + 1 + 1 + 1 + 1), (m21 + 1 + 1 + 1), (m21 + 1 + 1), (m21 + 1)) [(2, 5), (3, 4), (4, 3), (5, 2)] (.head _) ?_ ?_ ?_ ?_
          · rfl
          · rfl
          · rfl
          · exact fun w h => h
  rintro ⟨r1, r2, b1, b2⟩ m22
  refine RunH.toNx 6 ?_
  refine RunH.adv tb_ok [] rfl rfl (by simp [AllOb, Ob.P, sum_len, sz_sum, one_int, u8V_one]) ?_
  refine RunH.gives (ho := rfl) (hw := rfl) (hd := rfl) (hf := rfl) (hes := rfl) (hc := Tryz.call56) (e := .av (.val (.tuple #[sumV sB, intV 0]))) (hC := fun u hu => by
    have h := Commit_spec u (hG.ext hu.fact) ⟨Sum.zero, ⟨some ⟨r1, 0, none⟩, 1, [sA]⟩, [50]⟩ (Sl.own (B := w.heap.size) (hu.row (κ := kSum) (l := [sA]) (id := 2) rfl) (by show ([sA] : List Sum).length ≤ lim; decide))
    dsimp only at h
    rw [comBe, ceB] at h
    exact h) ?_
  intro m23 hm23
  refine RunH.adv tb_ok [] rfl rfl (by simp [AllOb, Ob.P, sum_len, sz_sum, one_int, u8V_one]) ?_
  refine RunH.gives (ho := rfl) (hw := rfl) (hd := rfl) (hf := rfl) (hes := rfl) (hc := Tryz.call56) (e := .av (.val (.tuple #[sumV sC, intV 0]))) (hC := fun u hu => by
    have h := Commit_spec u (hG.ext hu.fact) ⟨Sum.zero, ⟨some ⟨r2, 0, none⟩, 1, [sA]⟩, [51]⟩ (Sl.own (B := w.heap.size) (hu.row (κ := kSum) (l := [sA]) (id := 3) rfl) (by show ([sA] : List Sum).length ≤ lim; decide))
    dsimp only at h
    rw [comCe, ceC] at h
    exact h) ?_
  intro m24 hm24
  refine RunH.adv tb_ok [] rfl rfl (by simp [AllOb, Ob.P, sum_len, sz_sum, one_int, u8V_one]) ?_
  refine RunH.gives (ho := rfl) (hw := rfl) (hd := rfl) (hf := rfl) (hes := rfl) (hc := Tryz.call56) (e := .av (.val (.tuple #[sumV sD, intV 0]))) (hC := fun u hu => by
    have h := Commit_spec u (hG.ext hu.fact) ⟨Sum.zero, ⟨some ⟨m24 + 1, 0, none⟩, 2, [sB, sC]⟩, [52]⟩ (Sl.own (B := w.heap.size) (hu.row (κ := kSum) (l := [sB, sC]) (id := 8) rfl) (by show ([sB, sC] : List Sum).length ≤ lim; decide))
    dsimp only at h
    rw [comDe, ceD] at h
    exact h) ?_
  intro m25 hm25
  refine RunH.adv tb_ok [] rfl rfl (by simp [AllOb, Ob.P, sum_len, sz_sum, one_int, u8V_one]) ?_
  have hcs : ∀ u (hu : St tb w.heap.size [(11, rowE kCom (some ⟨m25 + 1, 0, none⟩) 4 (cs4 none (some ⟨r1, 0, none⟩) (some ⟨r2, 0, none⟩) (some ⟨m24 + 1, 0, none⟩) 0 1 1 2)), (1, some (.box m21 [.val (sumV sA)] 39)), (6, some (.box m23 [.val (sumV sB)] 39)), (7, some (.box m24 [.val (sumV sC)] 39)), (10, some (.box m25 [.val (sumV sD)] 39)), (2, rowE kSum (some ⟨r1, 0, none⟩) 1 [sA]), (3, rowE kSum (some ⟨r2, 0, none⟩) 1 [sA]), (8, rowE kSum (some ⟨m24 + 1, 0, none⟩) 2 [sB, sC])] (fun u => Ext w u) u), Sl kCom u (some ⟨m25 + 1, 0, none⟩) 4 (cs4 none (some ⟨r1, 0, none⟩) (some ⟨r2, 0, none⟩) (some ⟨m24 + 1, 0, none⟩) 0 1 1 2) ∧ ∀ q ∈ (cs4 none (some ⟨r1, 0, none⟩) (some ⟨r2, 0, none⟩) (some ⟨m24 + 1, 0, none⟩) 0 1 1 2), Sl kSum u q.ps.A q.ps.c q.ps.l := by
    intro u hu
    refine ⟨Sl.own (B := w.heap.size) (hu.row (κ := kCom) (l := (cs4 none (some ⟨r1, 0, none⟩) (some ⟨r2, 0, none⟩) (some ⟨m24 + 1, 0, none⟩) 0 1 1 2)) (id := 11) rfl) (by show 4 ≤ lim; decide), ?_⟩
    intro q hq
    have hq : q = ⟨Sum.zero, ⟨none, 0, []⟩, [49]⟩ ∨ q = ⟨Sum.zero, ⟨some ⟨r1, 0, none⟩, 1, [sA]⟩, [50]⟩ ∨ q = ⟨Sum.zero, ⟨some ⟨r2, 0, none⟩, 1, [sA]⟩, [51]⟩ ∨ q = ⟨Sum.zero, ⟨some ⟨m24 + 1, 0, none⟩, 2, [sB, sC]⟩, [52]⟩ := by
      simpa [cs4] using hq
    rcases hq with rfl | rfl | rfl | rfl
    · exact nilD u
    · exact Sl.own (B := w.heap.size) (hu.row (κ := kSum) (l := [sA]) (id := 2) rfl) (by show ([sA] : List Sum).length ≤ lim; decide)
    · exact Sl.own (B := w.heap.size) (hu.row (κ := kSum) (l := [sA]) (id := 3) rfl) (by show ([sA] : List Sum).length ≤ lim; decide)
    · exact Sl.own (B := w.heap.size) (hu.row (κ := kSum) (l := [sB, sC]) (id := 8) rfl) (by show ([sB, sC] : List Sum).length ≤ lim; decide)
  refine RunH.tell [(28, .av (.row 11 (.slice (some ⟨m25 + 1, 0, none⟩) 4 4))), (241, .av (.row 11 (.slice (some ⟨m25 + 1, 0, none⟩) 4 4))), (242, sumE sB), (243, sumE sC), (17, .av (.box 1 m21 0)), (21, .av (.box 6 m23 0)), (23, .av (.box 7 m24 0)), (26, .av (.box 10 m25 0)), (3, intE 4), (5, intE 4), (7, intE 5), (9, intE 3)] [(11, rowE kCom (some ⟨m25 + 1, 0, none⟩) 4 (cs4 none (some ⟨r1, 0, none⟩) (some ⟨r2, 0, none⟩) (some ⟨m24 + 1, 0, none⟩) 0 1 1 2)), (1, some (.box m21 [.val (sumV sA)] 39)), (6, some (.box m23 [.val (sumV sB)] 39)), (7, some (.box m24 [.val (sumV sC)] 39)), (10, some (.box m25 [.val (sumV sD)] 39)), (2, rowE kSum (some ⟨r1, 0, none⟩) 1 [sA]), (3, rowE kSum (some ⟨r2, 0, none⟩) 1 [sA]), (8, rowE kSum (some ⟨m24 + 1, 0, none⟩) 2 [sB, sC])] [] rfl rfl rfl 12 ?_
  refine RunH.doesB [] 13 (hc := Tryz.call63) (ho := rfl) (hw := rfl) (hd := rfl) (hf := rfl) (hes := rfl) (hσ := rfl) (hn := rfl) (hV := fun _ => rfl) (hG := fun _ => rfl) (e := fun z : Option Addr × Nat => .av (.val (.tuple #[.slice z.1 1 z.2, intV 0]))) (hC := wBases1 0 r1 r2 (m24 + 1) _) (hp := fun u hu => ⟨hG.ext hu.fact, hcs u (hu.out [] rfl rfl fun _ h => h)⟩) ?_
  rintro ⟨A30, c30⟩ m30 hm30
  refine RunH.drop ?_
  refine RunH.adv tb_ok [] rfl rfl (by simp <;> omega) ?_
  refine RunH.doesB [] 14 (hc := Tryz.call63) (ho := rfl) (hw := rfl) (hd := rfl) (hf := rfl) (hes := rfl) (hσ := rfl) (hn := rfl) (hV := fun _ => rfl) (hG := fun _ => rfl) (e := fun z : Option Addr × Nat => .av (.val (.tuple #[.slice z.1 1 z.2, intV 0]))) (hC := wBases2 0 r1 r2 (m24 + 1) _) (hp := fun u hu => ⟨hG.ext hu.fact, hcs u (hu.out [] rfl rfl fun _ h => h)⟩) ?_
  rintro ⟨A31, c31⟩ m31 hm31
  refine RunH.drop ?_
  refine RunH.adv tb_ok [] rfl rfl (by simp [AllOb, Ob.P, sum_len, sz_sum, one_int, u8V_one]) ?_
  refine RunH.gives (ho := rfl) (hw := rfl) (hd := rfl) (hf := rfl) (hes := rfl) (hc := Tryz.call56) (e := .av (.val (.tuple #[sumV (comS Sum.zero [sA, sA] []), intV 5]))) (hC := fun u hu => by
    have h := Commit_spec u (hG.ext hu.fact) ⟨Sum.zero, ⟨some ⟨m31, 0, none⟩, 2, [sA, sA]⟩, []⟩ (Sl.own (B := w.heap.size) (hu.row (κ := kSum) (l := [sA, sA]) (id := 14) rfl) (by show ([sA, sA] : List Sum).length ≤ lim; decide))
    dsimp only at h
    rw [ceT] at h
    exact h) ?_
  intro m32 hm32
  generalize comS Sum.zero [sA, sA] [] = sx2
  refine RunH.tell [(259, .av (.val (.tuple #[sumV sx2, intV 5]))), (29, slE A30 1 c30), (30, slE A31 1 c31), (31, intE 0), (11, intE 0), (17, .av (.box 1 m21 0)), (21, .av (.box 6 m23 0)), (3, intE 4), (5, intE 4), (7, intE 5), (9, intE 3)] [(12, rowE kSum A30 c30 [sA]), (13, rowE kSum A31 c31 [sB]), (1, some (.box m21 [.val (sumV sA)] 39)), (6, some (.box m23 [.val (sumV sB)] 39))] [] rfl rfl rfl 14 ?_
  refine RunH.adv tb_ok [true, true, true, true, true] rfl rfl (by simp [AllOb, Ob.P, sum_len, sz_sum, one_int, u8V_one]) ?_
  refine RunH.gives (ho := rfl) (hw := rfl) (hd := rfl) (hf := rfl) (hes := rfl) (hc := Tryz.call62) (e := boolE (decide ([sA] = [sA]))) (hC := fun u hu => equalD_spec u A30 _ c30 _ [sA] [sA] (Sl.own (B := w.heap.size) (hu.row (κ := kSum) (l := [sA]) (id := 12) rfl) (by show ([sA] : List Sum).length ≤ lim; decide)) (Sl.own (B := w.heap.size) (hu.row (κ := kSum) (l := [sA]) (id := 15) rfl) (by show ([sA] : List Sum).length ≤ lim; decide))) ?_
  intro m33 hm33
  refine RunH.adv tb_ok [true, true] rfl rfl (by simp [AllOb, Ob.P, sum_len, sz_sum, one_int, u8V_one]) ?_
  refine RunH.gives (ho := rfl) (hw := rfl) (hd := rfl) (hf := rfl) (hes := rfl) (hc := Tryz.call62) (e := boolE (decide ([sB] = [sB]))) (hC := fun u hu => equalD_spec u A31 _ c31 _ [sB] [sB] (Sl.own (B := w.heap.size) (hu.row (κ := kSum) (l := [sB]) (id := 13) rfl) (by show ([sB] : List Sum).length ≤ lim; decide)) (Sl.own (B := w.heap.size) (hu.row (κ := kSum) (l := [sB]) (id := 16) rfl) (by show ([sB] : List Sum).length ≤ lim; decide))) ?_
  intro m34 hm34
  refine RunH.adv tb_ok [true] rfl rfl (by simp [AllOb, Ob.P, sum_len, sz_sum, one_int, u8V_one]) ?_
  refine RunH.ret1 Tryz.func15 rfl rfl fun u hu => ⟨by simp [EV.v, AV.v], hu.fact⟩
end Go.Proofs.YtagnkcdhenilbaaGreatDoor
