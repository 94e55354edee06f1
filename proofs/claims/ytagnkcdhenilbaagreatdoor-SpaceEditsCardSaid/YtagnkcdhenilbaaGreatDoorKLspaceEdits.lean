/-
A part of the proof of SpaceEdits: for every input the law returns true, and what was passed in reads as before; the listed package variables hold what the program's text lays. No further condition.
-/
import Derived.Test.YtagnkcdhenilbaaGreatDoorRows
import Derived.Test.YtagnkcdhenilbaaGreatDoorCards
import Derived.KernelRfl
import Derived.Test.YtagnkcdhenilbaaGreatDoorTie
import Derived.SevenTiedAt
import Derived.Test.YtagnkcdhenilbaaGreatDoorKPA2
import Derived.Test.YtagnkcdhenilbaaGreatDoorKP07f
import Derived.Test.YtagnkcdhenilbaaGreatDoorKPC7
import Derived.Test.YtagnkcdhenilbaaGreatDoorKR1
set_option linter.unusedVariables false
set_option linter.unusedSectionVars false
set_option linter.unusedSimpArgs false
namespace Go.Proofs.YtagnkcdhenilbaaGreatDoor
open Go V RowKit
theorem ed_len {e : Int} (k : Int) (l o : List Entry) (h1 : l.length ≤ 1000) (h2 : o.length ≤ 1000) : (edT e k l o).length ≤ 1000 ∧ (edY e k l o).length ≤ 1000 := by
  unfold edT edY kA
  constructor <;> (split <;> (try split) <;> simp_all)
set_option maxRecDepth 10000 in
set_option maxHeartbeats 2000000 in
theorem edits_walk (w : World) (hG : Glob w) (s : Spc) (hs : s.ok w) (k : Int) (p q : Str) (x : Sum) : Gives Tryz.prog 9 [s.ev.v, intV k, strV p, strV q, sumV x] w .tt := by
  have hl : lim = 140737488351232 := rfl
  refine enterH tb_ok [(0, s.ev), (1, intE k), (2, strE p), (3, strE q), (4, sumE x)] Tryz.func9 rfl Tryz.ntmps9 rfl rfl ?_
  refine RunH.adv tb_ok [] rfl rfl (by simp <;> omega) ?_
  refine RunH.gives (ho := rfl) (hw := rfl) (hd := rfl) (hf := rfl) (hes := rfl) (hc := Tryz.call14) (e := boolE (bigL s.t.l || bigL s.y.l)) (hC := fun u hu => r07_Great u s (hs.ext hu.fact)) ?_
  intro m1 hm1
  cases g1 : (bigL s.t.l || bigL s.y.l) with
  | true =>
    refine RunH.adv tb_ok [true, true, true] rfl rfl (by simp [g1] <;> omega) ?_
    refine RunH.gives (ho := rfl) (hw := rfl) (hd := rfl) (hf := rfl) (hes := rfl) (hc := Tryz.call15) (e := .tt) (hC := fun u hu => awake_spec u (hG.ext hu.fact)) ?_
    intro mA hmA
    refine RunH.adv tb_ok [] rfl rfl (by simp <;> omega) ?_
    refine RunH.ret1 Tryz.func9 rfl rfl fun u hu => ⟨rfl, hu.fact⟩
  | false =>
    by_cases g2 : 100 < p.length
    · refine RunH.adv tb_ok [false, true, true] rfl rfl (by simp [g1, g2] <;> omega) ?_
      refine RunH.gives (ho := rfl) (hw := rfl) (hd := rfl) (hf := rfl) (hes := rfl) (hc := Tryz.call15) (e := .tt) (hC := fun u hu => awake_spec u (hG.ext hu.fact)) ?_
      intro mA hmA
      refine RunH.adv tb_ok [] rfl rfl (by simp <;> omega) ?_
      refine RunH.ret1 Tryz.func9 rfl rfl fun u hu => ⟨rfl, hu.fact⟩
    · by_cases g3 : 100 < q.length
      · refine RunH.adv tb_ok [false, false, true] rfl rfl (by simp [g1, g2, g3] <;> omega) ?_
        refine RunH.gives (ho := rfl) (hw := rfl) (hd := rfl) (hf := rfl) (hes := rfl) (hc := Tryz.call15) (e := .tt) (hC := fun u hu => awake_spec u (hG.ext hu.fact)) ?_
        intro mA hmA
        refine RunH.adv tb_ok [] rfl rfl (by simp <;> omega) ?_
        refine RunH.ret1 Tryz.func9 rfl rfl fun u hu => ⟨rfl, hu.fact⟩
      · rw [Bool.or_eq_false_iff] at g1
        have b1 := bigL_small g1.1
        have b2 := bigL_small g1.2
        have hs1 : s.t.l.length ≤ 1000000 := by omega
        have hs2 : s.y.l.length ≤ 1000000 := by omega
        have hs3 : ∀ e ∈ s.t.l, e.path.length ≤ 1000000 := fun x hx => by have := b1.2 x hx; omega
        have hs4 : ∀ e ∈ s.y.l, e.path.length ≤ 1000000 := fun x hx => by have := b2.2 x hx; omega
        have hp1 : p.length ≤ 1000000 := by omega
        have hp2 : q.length ≤ 1000000 := by omega
        have hnO : (kList k s.y.l s.t.l).length ≤ 1000 := by unfold kList; split <;> omega
        have hnL : (kList k s.t.l s.y.l).length ≤ 310 := by unfold kList; split <;> omega
        have hnS : (setL (kList k s.t.l s.y.l) ⟨p, x⟩).length ≤ 1000 := by have := setL_le (kList k s.t.l s.y.l) ⟨p, x⟩; omega
        have hnD : ((kList k s.t.l s.y.l).eraseIdx (posOf (kList k s.t.l s.y.l) p)).length ≤ 1000 := by have := List.length_eraseIdx_le (kList k s.t.l s.y.l) (posOf (kList k s.t.l s.y.l) p); omega
        have hnM : (moveL (kList k s.t.l s.y.l) p q).length ≤ 1000 := by
          have h1 := List.length_eraseIdx_le (kList k s.t.l s.y.l) (posOf (kList k s.t.l s.y.l) p)
          have h2 := setL_le ((kList k s.t.l s.y.l).eraseIdx (posOf (kList k s.t.l s.y.l) p)) ⟨q, ((kList k s.t.l s.y.l).getD (posOf (kList k s.t.l s.y.l) p) zeroE).sum⟩
          unfold moveL; omega
        have hb0 := ed_len (e := addE s.t.l s.y.l k p) k (setL (kList k s.t.l s.y.l) ⟨p, x⟩) (kList k s.y.l s.t.l) (by first | exact hnS | exact hnD | exact hnM) hnO
        have hA0 := fun (A1 : Option Addr) (c1 : Nat) (B1 : Option Addr) (d1 : Nat) => Add_spec ⟨⟨A1, c1, s.t.l⟩, ⟨B1, d1, s.y.l⟩⟩ k p x hs1 hs2
        dsimp only at hA0
        have hB0 := r07_Add s k p x hs1 hs2 hs3 hs4 hp1
        generalize edT (addE s.t.l s.y.l k p) k (setL (kList k s.t.l s.y.l) ⟨p, x⟩) (kList k s.y.l s.t.l) = T0 at *
        generalize edY (addE s.t.l s.y.l k p) k (setL (kList k s.t.l s.y.l) ⟨p, x⟩) (kList k s.y.l s.t.l) = Y0 at *
        generalize addE s.t.l s.y.l k p = e0 at *
        have hb1 := ed_len (e := SetE s.t.l s.y.l k p) k (setL (kList k s.t.l s.y.l) ⟨p, x⟩) (kList k s.y.l s.t.l) (by first | exact hnS | exact hnD | exact hnM) hnO
        have hA1 := fun (A1 : Option Addr) (c1 : Nat) (B1 : Option Addr) (d1 : Nat) => Set_all ⟨⟨A1, c1, s.t.l⟩, ⟨B1, d1, s.y.l⟩⟩ k p x hs1 hs2
        dsimp only at hA1
        have hB1 := r07_Set s k p x hs1 hs2 hs3 hs4 hp1
        generalize edT (SetE s.t.l s.y.l k p) k (setL (kList k s.t.l s.y.l) ⟨p, x⟩) (kList k s.y.l s.t.l) = T1 at *
        generalize edY (SetE s.t.l s.y.l k p) k (setL (kList k s.t.l s.y.l) ⟨p, x⟩) (kList k s.y.l s.t.l) = Y1 at *
        generalize SetE s.t.l s.y.l k p = e1 at *
        have hb2 := ed_len (e := DropE s.t.l s.y.l k p) k ((kList k s.t.l s.y.l).eraseIdx (posOf (kList k s.t.l s.y.l) p)) (kList k s.y.l s.t.l) (by first | exact hnS | exact hnD | exact hnM) hnO
        have hA2 := fun (A1 : Option Addr) (c1 : Nat) (B1 : Option Addr) (d1 : Nat) => Drop_all ⟨⟨A1, c1, s.t.l⟩, ⟨B1, d1, s.y.l⟩⟩ k p hs1 hs2
        dsimp only at hA2
        have hB2 := r07_Drop s k p hs1 hs2 hs3 hs4 hp1
        generalize edT (DropE s.t.l s.y.l k p) k ((kList k s.t.l s.y.l).eraseIdx (posOf (kList k s.t.l s.y.l) p)) (kList k s.y.l s.t.l) = T2 at *
        generalize edY (DropE s.t.l s.y.l k p) k ((kList k s.t.l s.y.l).eraseIdx (posOf (kList k s.t.l s.y.l) p)) (kList k s.y.l s.t.l) = Y2 at *
        generalize DropE s.t.l s.y.l k p = e2 at *
        have hb3 := ed_len (e := MoveE s.t.l s.y.l k p q) k (moveL (kList k s.t.l s.y.l) p q) (kList k s.y.l s.t.l) (by first | exact hnS | exact hnD | exact hnM) hnO
        have hA3 := fun (A1 : Option Addr) (c1 : Nat) (B1 : Option Addr) (d1 : Nat) => Move_all ⟨⟨A1, c1, s.t.l⟩, ⟨B1, d1, s.y.l⟩⟩ k p q hs1 hs2
        dsimp only at hA3
        have hB3 := r07_Move s k p q hs1 hs2 hs3 hs4 hp1 hp2
        generalize edT (MoveE s.t.l s.y.l k p q) k (moveL (kList k s.t.l s.y.l) p q) (kList k s.y.l s.t.l) = T3 at *
        generalize edY (MoveE s.t.l s.y.l k p q) k (moveL (kList k s.t.l s.y.l) p q) (kList k s.y.l s.t.l) = Y3 at *
        generalize MoveE s.t.l s.y.l k p q = e3 at *
        refine RunH.adv tb_ok [false, false, false] rfl rfl (by simp [g2, g3] <;> omega) ?_
        refine RunH.doesB [] 4 (hc := Tryz.call16) (ho := rfl) (hw := rfl) (hd := rfl) (hf := rfl) (hes := rfl) (hσ := rfl) (hn := rfl) (hV := fun _ => rfl) (hG := fun _ => rfl) (e := fun y => spV s y) (hC := r07_Own s hs1 hs2) (hp := fun u hu => hs.ext hu.fact) ?_
        rintro ⟨⟨A1, c1⟩, ⟨B1, d1⟩⟩ m2 hm2
        refine RunH.drop ?_
        refine RunH.adv tb_ok [] rfl rfl (by simp <;> omega) ?_
        refine RunH.doesB [] 7 (hc := Tryz.call46) (ho := rfl) (hw := rfl) (hd := rfl) (hf := rfl) (hes := rfl) (hσ := rfl) (hn := rfl) (hV := fun _ => rfl) (hG := fun _ => rfl) (e := fun z : (Option Addr × Nat) × (Option Addr × Nat) => .av (.val (.tuple #[.agg #[.slice z.1.1 T0.length z.1.2, .slice z.2.1 Y0.length z.2.2], intV e0]))) (hC := hA0 A1 c1 B1 d1) (hp := fun u hu => ⟨(hG.ext hu.fact).max, ⟨Sl.own (B := w.heap.size) (hu.row (κ := kEntry) (l := s.t.l) (id := 2) rfl) (by show (s.t.l : List Entry).length ≤ lim; omega), Sl.own (B := w.heap.size) (hu.row (κ := kEntry) (l := s.y.l) (id := 3) rfl) (by show (s.y.l : List Entry).length ≤ lim; omega)⟩⟩) ?_
        rintro ⟨⟨A0a, c0a⟩, ⟨B0a, d0a⟩⟩ ma0 hma0
        refine RunH.drop ?_
        refine RunH.adv tb_ok [] rfl rfl (by simp <;> omega) ?_
        refine RunH.tell [(38, .st [.val (.slice A0a T0.length c0a), .val (.slice B0a Y0.length d0a)]), (39, intE e0), (12, .av (.box 7 ma0 0)), (1, intE k), (2, strE p), (3, strE q), (5, .av (.box 0 w.heap.size 0)), (9, .av (.box 1 (w.heap.size + 1) 0)), (11, .av (.box 4 m2 0))] [(5, rowE kEntry A0a c0a T0), (6, rowE kEntry B0a d0a Y0), (7, some (.box ma0 [.val (.slice none 0 0), .val (.slice none 0 0)] 24)), (0, some (.box w.heap.size [s.t.av, s.y.av] 24)), (1, some (.box (w.heap.size + 1) [.val (sumV x)] 39)), (2, rowE kEntry A1 c1 s.t.l), (3, rowE kEntry B1 d1 s.y.l), (4, some (.box m2 [.val (.slice A1 s.t.l.length c1), .val (.slice B1 s.y.l.length d1)] 24))] [] rfl rfl rfl 8 ?_
        refine RunH.adv tb_ok [] rfl rfl (by simp <;> omega) ?_
        refine RunH.doesB [] 10 (hc := Tryz.call47) (ho := rfl) (hw := rfl) (hd := rfl) (hf := rfl) (hes := rfl) (hσ := rfl) (hn := rfl) (hV := fun _ => rfl) (hG := fun _ => rfl) (e := fun z : (Option Addr × Nat) × (Option Addr × Nat) => .av (.val (.tuple #[.agg #[.slice z.1.1 T0.length z.1.2, .slice z.2.1 Y0.length z.2.2], intV e0]))) (hC := hB0) (hp := fun u hu => hs.ext hu.fact) ?_
        rintro ⟨⟨A0b, c0b⟩, ⟨B0b, d0b⟩⟩ mb0 hmb0
        refine RunH.drop ?_
        refine RunH.adv tb_ok [] rfl rfl (by simp <;> omega) ?_
        refine RunH.tell [(46, .st [.val (.slice A0b T0.length c0b), .val (.slice B0b Y0.length d0b)]), (47, intE e0), (13, intE e0), (14, .av (.box 10 mb0 0)), (12, .av (.box 7 ma0 0)), (1, intE k), (2, strE p), (3, strE q), (5, .av (.box 0 w.heap.size 0)), (9, .av (.box 1 (w.heap.size + 1) 0)), (11, .av (.box 4 m2 0))] [(5, rowE kEntry A0a c0a T0), (6, rowE kEntry B0a d0a Y0), (8, rowE kEntry A0b c0b T0), (9, rowE kEntry B0b d0b Y0), (7, some (.box ma0 [.val (.slice A0a T0.length c0a), .val (.slice B0a Y0.length d0a)] 24)), (10, some (.box mb0 [.val (.slice none 0 0), .val (.slice none 0 0)] 24)), (0, some (.box w.heap.size [s.t.av, s.y.av] 24)), (1, some (.box (w.heap.size + 1) [.val (sumV x)] 39)), (2, rowE kEntry A1 c1 s.t.l), (3, rowE kEntry B1 d1 s.y.l), (4, some (.box m2 [.val (.slice A1 s.t.l.length c1), .val (.slice B1 s.y.l.length d1)] 24))] [] rfl rfl rfl 11 ?_
        refine RunH.adv tb_ok [] rfl rfl (by simp <;> omega) ?_
        refine RunH.gives (ho := rfl) (hw := rfl) (hd := rfl) (hf := rfl) (hes := rfl) (hc := Tryz.call22) (e := boolE (decide (T0 = T0) && decide (Y0 = Y0))) (hC := fun u hu => r07_Same u ⟨⟨A0a, c0a, T0⟩, ⟨B0a, d0a, Y0⟩⟩ ⟨⟨A0b, c0b, T0⟩, ⟨B0b, d0b, Y0⟩⟩ ⟨Sl.own (B := w.heap.size) (hu.row (κ := kEntry) (l := T0) (id := 5) rfl) (by show (T0 : List Entry).length ≤ lim; omega), Sl.own (B := w.heap.size) (hu.row (κ := kEntry) (l := Y0) (id := 6) rfl) (by show (Y0 : List Entry).length ≤ lim; omega)⟩ ⟨Sl.own (B := w.heap.size) (hu.row (κ := kEntry) (l := T0) (id := 8) rfl) (by show (T0 : List Entry).length ≤ lim; omega), Sl.own (B := w.heap.size) (hu.row (κ := kEntry) (l := Y0) (id := 9) rfl) (by show (Y0 : List Entry).length ≤ lim; omega)⟩) ?_
        intro mc0 hmc0
        refine RunH.adv tb_ok [true] rfl rfl (by simp <;> omega) ?_
        refine RunH.doesB [(0, 5), (1, 6)] 20 (hc := Tryz.call37) (ho := rfl) (hw := rfl) (hd := rfl) (hf := rfl) (hes := rfl) (hσ := rfl) (hn := rfl) (hV := fun _ => rfl) (hG := fun _ => rfl) (e := fun _ : Unit => .av (.val (.tuple #[]))) (hC := spoil_spec A0a B0a c0a d0a T0 Y0) (hp := fun _ _ => trivial) ?_
        rintro ⟨⟩ md0 hmd0
        refine RunH.drop ?_
        refine RunH.tell [(12, .av (.box 7 ma0 0)), (14, .av (.box 10 mb0 0)), (16, boolE (decide (e0 = e0))), (1, intE k), (2, strE p), (3, strE q), (5, .av (.box 0 w.heap.size 0)), (9, .av (.box 1 (w.heap.size + 1) 0)), (11, .av (.box 4 m2 0))] [(7, some (.box ma0 [.val (.slice A0a T0.length c0a), .val (.slice B0a Y0.length d0a)] 24)), (10, some (.box mb0 [.val (.slice A0b T0.length c0b), .val (.slice B0b Y0.length d0b)] 24)), (0, some (.box w.heap.size [s.t.av, s.y.av] 24)), (1, some (.box (w.heap.size + 1) [.val (sumV x)] 39)), (2, rowE kEntry A1 c1 s.t.l), (3, rowE kEntry B1 d1 s.y.l), (4, some (.box m2 [.val (.slice A1 s.t.l.length c1), .val (.slice B1 s.y.l.length d1)] 24))] [] rfl rfl rfl 11 ?_
        refine RunH.adv tb_ok [] rfl rfl (by simp <;> omega) ?_
        refine RunH.doesB [] 13 (hc := Tryz.call48) (ho := rfl) (hw := rfl) (hd := rfl) (hf := rfl) (hes := rfl) (hσ := rfl) (hn := rfl) (hV := fun _ => rfl) (hG := fun _ => rfl) (e := fun z : (Option Addr × Nat) × (Option Addr × Nat) => .av (.val (.tuple #[.agg #[.slice z.1.1 T1.length z.1.2, .slice z.2.1 Y1.length z.2.2], intV e1]))) (hC := hA1 A1 c1 B1 d1) (hp := fun u hu => ⟨(hG.ext hu.fact).max, ⟨Sl.own (B := w.heap.size) (hu.row (κ := kEntry) (l := s.t.l) (id := 2) rfl) (by show (s.t.l : List Entry).length ≤ lim; omega), Sl.own (B := w.heap.size) (hu.row (κ := kEntry) (l := s.y.l) (id := 3) rfl) (by show (s.y.l : List Entry).length ≤ lim; omega)⟩⟩) ?_
        rintro ⟨⟨A1a, c1a⟩, ⟨B1a, d1a⟩⟩ ma1 hma1
        refine RunH.drop ?_
        refine RunH.adv tb_ok [] rfl rfl (by simp <;> omega) ?_
        refine RunH.tell [(64, .st [.val (.slice A1a T1.length c1a), .val (.slice B1a Y1.length d1a)]), (65, intE e1), (12, .av (.box 7 ma0 0)), (14, .av (.box 10 mb0 0)), (16, boolE (decide (e0 = e0))), (1, intE k), (2, strE p), (3, strE q), (5, .av (.box 0 w.heap.size 0)), (9, .av (.box 1 (w.heap.size + 1) 0)), (11, .av (.box 4 m2 0))] [(11, rowE kEntry A1a c1a T1), (12, rowE kEntry B1a d1a Y1), (7, some (.box ma0 [.val (.slice A0a T0.length c0a), .val (.slice B0a Y0.length d0a)] 24)), (10, some (.box mb0 [.val (.slice A0b T0.length c0b), .val (.slice B0b Y0.length d0b)] 24)), (0, some (.box w.heap.size [s.t.av, s.y.av] 24)), (1, some (.box (w.heap.size + 1) [.val (sumV x)] 39)), (2, rowE kEntry A1 c1 s.t.l), (3, rowE kEntry B1 d1 s.y.l), (4, some (.box m2 [.val (.slice A1 s.t.l.length c1), .val (.slice B1 s.y.l.length d1)] 24))] [] rfl rfl rfl 13 ?_
        refine RunH.adv tb_ok [] rfl rfl (by simp <;> omega) ?_
        refine RunH.doesB [] 15 (hc := Tryz.call49) (ho := rfl) (hw := rfl) (hd := rfl) (hf := rfl) (hes := rfl) (hσ := rfl) (hn := rfl) (hV := fun _ => rfl) (hG := fun _ => rfl) (e := fun z : (Option Addr × Nat) × (Option Addr × Nat) => .av (.val (.tuple #[.agg #[.slice z.1.1 T1.length z.1.2, .slice z.2.1 Y1.length z.2.2], intV e1]))) (hC := hB1) (hp := fun u hu => hs.ext hu.fact) ?_
        rintro ⟨⟨A1b, c1b⟩, ⟨B1b, d1b⟩⟩ mb1 hmb1
        refine RunH.drop ?_
        refine RunH.adv tb_ok [] rfl rfl (by simp <;> omega) ?_
        refine RunH.tell [(72, .st [.val (.slice A1b T1.length c1b), .val (.slice B1b Y1.length d1b)]), (73, intE e1), (13, intE e1), (14, .av (.box 10 mb0 0)), (12, .av (.box 7 ma0 0)), (14, .av (.box 10 mb0 0)), (16, boolE (decide (e0 = e0))), (1, intE k), (2, strE p), (3, strE q), (5, .av (.box 0 w.heap.size 0)), (9, .av (.box 1 (w.heap.size + 1) 0)), (11, .av (.box 4 m2 0))] [(11, rowE kEntry A1a c1a T1), (12, rowE kEntry B1a d1a Y1), (13, rowE kEntry A1b c1b T1), (14, rowE kEntry B1b d1b Y1), (7, some (.box ma0 [.val (.slice A1a T1.length c1a), .val (.slice B1a Y1.length d1a)] 24)), (10, some (.box mb0 [.val (.slice A0b T0.length c0b), .val (.slice B0b Y0.length d0b)] 24)), (0, some (.box w.heap.size [s.t.av, s.y.av] 24)), (1, some (.box (w.heap.size + 1) [.val (sumV x)] 39)), (2, rowE kEntry A1 c1 s.t.l), (3, rowE kEntry B1 d1 s.y.l), (4, some (.box m2 [.val (.slice A1 s.t.l.length c1), .val (.slice B1 s.y.l.length d1)] 24))] [] rfl rfl rfl 15 ?_
        refine RunH.adv tb_ok [true] rfl rfl (by simp <;> omega) ?_
        refine RunH.gives (ho := rfl) (hw := rfl) (hd := rfl) (hf := rfl) (hes := rfl) (hc := Tryz.call22) (e := boolE (decide (T1 = T1) && decide (Y1 = Y1))) (hC := fun u hu => r07_Same u ⟨⟨A1a, c1a, T1⟩, ⟨B1a, d1a, Y1⟩⟩ ⟨⟨A1b, c1b, T1⟩, ⟨B1b, d1b, Y1⟩⟩ ⟨Sl.own (B := w.heap.size) (hu.row (κ := kEntry) (l := T1) (id := 11) rfl) (by show (T1 : List Entry).length ≤ lim; omega), Sl.own (B := w.heap.size) (hu.row (κ := kEntry) (l := Y1) (id := 12) rfl) (by show (Y1 : List Entry).length ≤ lim; omega)⟩ ⟨Sl.own (B := w.heap.size) (hu.row (κ := kEntry) (l := T1) (id := 13) rfl) (by show (T1 : List Entry).length ≤ lim; omega), Sl.own (B := w.heap.size) (hu.row (κ := kEntry) (l := Y1) (id := 14) rfl) (by show (Y1 : List Entry).length ≤ lim; omega)⟩) ?_
        intro mc1 hmc1
        refine RunH.adv tb_ok [true] rfl rfl (by simp <;> omega) ?_
        refine RunH.doesB [(0, 11), (1, 12)] 20 (hc := Tryz.call37) (ho := rfl) (hw := rfl) (hd := rfl) (hf := rfl) (hes := rfl) (hσ := rfl) (hn := rfl) (hV := fun _ => rfl) (hG := fun _ => rfl) (e := fun _ : Unit => .av (.val (.tuple #[]))) (hC := spoil_spec A1a B1a c1a d1a T1 Y1) (hp := fun _ _ => trivial) ?_
        rintro ⟨⟩ md1 hmd1
        refine RunH.drop ?_
        refine RunH.tell [(12, .av (.box 7 ma0 0)), (14, .av (.box 10 mb0 0)), (16, boolE (decide (e1 = e1))), (1, intE k), (2, strE p), (3, strE q), (5, .av (.box 0 w.heap.size 0)), (9, .av (.box 1 (w.heap.size + 1) 0)), (11, .av (.box 4 m2 0))] [(7, some (.box ma0 [.val (.slice A1a T1.length c1a), .val (.slice B1a Y1.length d1a)] 24)), (10, some (.box mb0 [.val (.slice A1b T1.length c1b), .val (.slice B1b Y1.length d1b)] 24)), (0, some (.box w.heap.size [s.t.av, s.y.av] 24)), (1, some (.box (w.heap.size + 1) [.val (sumV x)] 39)), (2, rowE kEntry A1 c1 s.t.l), (3, rowE kEntry B1 d1 s.y.l), (4, some (.box m2 [.val (.slice A1 s.t.l.length c1), .val (.slice B1 s.y.l.length d1)] 24))] [] rfl rfl rfl 11 ?_
        refine RunH.adv tb_ok [] rfl rfl (by simp <;> omega) ?_
        refine RunH.doesB [] 13 (hc := Tryz.call45) (ho := rfl) (hw := rfl) (hd := rfl) (hf := rfl) (hes := rfl) (hσ := rfl) (hn := rfl) (hV := fun _ => rfl) (hG := fun _ => rfl) (e := fun z : (Option Addr × Nat) × (Option Addr × Nat) => .av (.val (.tuple #[.agg #[.slice z.1.1 T2.length z.1.2, .slice z.2.1 Y2.length z.2.2], intV e2]))) (hC := hA2 A1 c1 B1 d1) (hp := fun u hu => ⟨(hG.ext hu.fact).max, ⟨Sl.own (B := w.heap.size) (hu.row (κ := kEntry) (l := s.t.l) (id := 2) rfl) (by show (s.t.l : List Entry).length ≤ lim; omega), Sl.own (B := w.heap.size) (hu.row (κ := kEntry) (l := s.y.l) (id := 3) rfl) (by show (s.y.l : List Entry).length ≤ lim; omega)⟩⟩) ?_
        rintro ⟨⟨A2a, c2a⟩, ⟨B2a, d2a⟩⟩ ma2 hma2
        refine RunH.drop ?_
        refine RunH.adv tb_ok [] rfl rfl (by simp <;> omega) ?_
        refine RunH.tell [(92, .st [.val (.slice A2a T2.length c2a), .val (.slice B2a Y2.length d2a)]), (93, intE e2), (12, .av (.box 7 ma0 0)), (14, .av (.box 10 mb0 0)), (16, boolE (decide (e1 = e1))), (1, intE k), (2, strE p), (3, strE q), (5, .av (.box 0 w.heap.size 0)), (9, .av (.box 1 (w.heap.size + 1) 0)), (11, .av (.box 4 m2 0))] [(11, rowE kEntry A2a c2a T2), (12, rowE kEntry B2a d2a Y2), (7, some (.box ma0 [.val (.slice A1a T1.length c1a), .val (.slice B1a Y1.length d1a)] 24)), (10, some (.box mb0 [.val (.slice A1b T1.length c1b), .val (.slice B1b Y1.length d1b)] 24)), (0, some (.box w.heap.size [s.t.av, s.y.av] 24)), (1, some (.box (w.heap.size + 1) [.val (sumV x)] 39)), (2, rowE kEntry A1 c1 s.t.l), (3, rowE kEntry B1 d1 s.y.l), (4, some (.box m2 [.val (.slice A1 s.t.l.length c1), .val (.slice B1 s.y.l.length d1)] 24))] [] rfl rfl rfl 13 ?_
        refine RunH.adv tb_ok [] rfl rfl (by simp <;> omega) ?_
        refine RunH.doesB [] 15 (hc := Tryz.call50) (ho := rfl) (hw := rfl) (hd := rfl) (hf := rfl) (hes := rfl) (hσ := rfl) (hn := rfl) (hV := fun _ => rfl) (hG := fun _ => rfl) (e := fun z : (Option Addr × Nat) × (Option Addr × Nat) => .av (.val (.tuple #[.agg #[.slice z.1.1 T2.length z.1.2, .slice z.2.1 Y2.length z.2.2], intV e2]))) (hC := hB2) (hp := fun u hu => hs.ext hu.fact) ?_
        rintro ⟨⟨A2b, c2b⟩, ⟨B2b, d2b⟩⟩ mb2 hmb2
        refine RunH.drop ?_
        refine RunH.adv tb_ok [] rfl rfl (by simp <;> omega) ?_
        refine RunH.tell [(99, .st [.val (.slice A2b T2.length c2b), .val (.slice B2b Y2.length d2b)]), (100, intE e2), (13, intE e2), (14, .av (.box 10 mb0 0)), (12, .av (.box 7 ma0 0)), (14, .av (.box 10 mb0 0)), (16, boolE (decide (e1 = e1))), (1, intE k), (2, strE p), (3, strE q), (5, .av (.box 0 w.heap.size 0)), (9, .av (.box 1 (w.heap.size + 1) 0)), (11, .av (.box 4 m2 0))] [(11, rowE kEntry A2a c2a T2), (12, rowE kEntry B2a d2a Y2), (13, rowE kEntry A2b c2b T2), (14, rowE kEntry B2b d2b Y2), (7, some (.box ma0 [.val (.slice A2a T2.length c2a), .val (.slice B2a Y2.length d2a)] 24)), (10, some (.box mb0 [.val (.slice A1b T1.length c1b), .val (.slice B1b Y1.length d1b)] 24)), (0, some (.box w.heap.size [s.t.av, s.y.av] 24)), (1, some (.box (w.heap.size + 1) [.val (sumV x)] 39)), (2, rowE kEntry A1 c1 s.t.l), (3, rowE kEntry B1 d1 s.y.l), (4, some (.box m2 [.val (.slice A1 s.t.l.length c1), .val (.slice B1 s.y.l.length d1)] 24))] [] rfl rfl rfl 15 ?_
        refine RunH.adv tb_ok [true] rfl rfl (by simp <;> omega) ?_
        refine RunH.gives (ho := rfl) (hw := rfl) (hd := rfl) (hf := rfl) (hes := rfl) (hc := Tryz.call22) (e := boolE (decide (T2 = T2) && decide (Y2 = Y2))) (hC := fun u hu => r07_Same u ⟨⟨A2a, c2a, T2⟩, ⟨B2a, d2a, Y2⟩⟩ ⟨⟨A2b, c2b, T2⟩, ⟨B2b, d2b, Y2⟩⟩ ⟨Sl.own (B := w.heap.size) (hu.row (κ := kEntry) (l := T2) (id := 11) rfl) (by show (T2 : List Entry).length ≤ lim; omega), Sl.own (B := w.heap.size) (hu.row (κ := kEntry) (l := Y2) (id := 12) rfl) (by show (Y2 : List Entry).length ≤ lim; omega)⟩ ⟨Sl.own (B := w.heap.size) (hu.row (κ := kEntry) (l := T2) (id := 13) rfl) (by show (T2 : List Entry).length ≤ lim; omega), Sl.own (B := w.heap.size) (hu.row (κ := kEntry) (l := Y2) (id := 14) rfl) (by show (Y2 : List Entry).length ≤ lim; omega)⟩) ?_
        intro mc2 hmc2
        refine RunH.adv tb_ok [true] rfl rfl (by simp <;> omega) ?_
        refine RunH.doesB [(0, 11), (1, 12)] 20 (hc := Tryz.call37) (ho := rfl) (hw := rfl) (hd := rfl) (hf := rfl) (hes := rfl) (hσ := rfl) (hn := rfl) (hV := fun _ => rfl) (hG := fun _ => rfl) (e := fun _ : Unit => .av (.val (.tuple #[]))) (hC := spoil_spec A2a B2a c2a d2a T2 Y2) (hp := fun _ _ => trivial) ?_
        rintro ⟨⟩ md2 hmd2
        refine RunH.drop ?_
        refine RunH.tell [(12, .av (.box 7 ma0 0)), (14, .av (.box 10 mb0 0)), (16, boolE (decide (e2 = e2))), (1, intE k), (2, strE p), (3, strE q), (5, .av (.box 0 w.heap.size 0)), (9, .av (.box 1 (w.heap.size + 1) 0)), (11, .av (.box 4 m2 0))] [(7, some (.box ma0 [.val (.slice A2a T2.length c2a), .val (.slice B2a Y2.length d2a)] 24)), (10, some (.box mb0 [.val (.slice A2b T2.length c2b), .val (.slice B2b Y2.length d2b)] 24)), (0, some (.box w.heap.size [s.t.av, s.y.av] 24)), (1, some (.box (w.heap.size + 1) [.val (sumV x)] 39)), (2, rowE kEntry A1 c1 s.t.l), (3, rowE kEntry B1 d1 s.y.l), (4, some (.box m2 [.val (.slice A1 s.t.l.length c1), .val (.slice B1 s.y.l.length d1)] 24))] [] rfl rfl rfl 11 ?_
        refine RunH.adv tb_ok [] rfl rfl (by simp <;> omega) ?_
        refine RunH.doesB [] 13 (hc := Tryz.call51) (ho := rfl) (hw := rfl) (hd := rfl) (hf := rfl) (hes := rfl) (hσ := rfl) (hn := rfl) (hV := fun _ => rfl) (hG := fun _ => rfl) (e := fun z : (Option Addr × Nat) × (Option Addr × Nat) => .av (.val (.tuple #[.agg #[.slice z.1.1 T3.length z.1.2, .slice z.2.1 Y3.length z.2.2], intV e3]))) (hC := hA3 A1 c1 B1 d1) (hp := fun u hu => ⟨(hG.ext hu.fact).max, ⟨Sl.own (B := w.heap.size) (hu.row (κ := kEntry) (l := s.t.l) (id := 2) rfl) (by show (s.t.l : List Entry).length ≤ lim; omega), Sl.own (B := w.heap.size) (hu.row (κ := kEntry) (l := s.y.l) (id := 3) rfl) (by show (s.y.l : List Entry).length ≤ lim; omega)⟩⟩) ?_
        rintro ⟨⟨A3a, c3a⟩, ⟨B3a, d3a⟩⟩ ma3 hma3
        refine RunH.drop ?_
        refine RunH.adv tb_ok [] rfl rfl (by simp <;> omega) ?_
        refine RunH.tell [(120, .st [.val (.slice A3a T3.length c3a), .val (.slice B3a Y3.length d3a)]), (121, intE e3), (12, .av (.box 7 ma0 0)), (14, .av (.box 10 mb0 0)), (16, boolE (decide (e2 = e2))), (1, intE k), (2, strE p), (3, strE q), (5, .av (.box 0 w.heap.size 0)), (9, .av (.box 1 (w.heap.size + 1) 0)), (11, .av (.box 4 m2 0))] [(11, rowE kEntry A3a c3a T3), (12, rowE kEntry B3a d3a Y3), (7, some (.box ma0 [.val (.slice A2a T2.length c2a), .val (.slice B2a Y2.length d2a)] 24)), (10, some (.box mb0 [.val (.slice A2b T2.length c2b), .val (.slice B2b Y2.length d2b)] 24)), (0, some (.box w.heap.size [s.t.av, s.y.av] 24)), (1, some (.box (w.heap.size + 1) [.val (sumV x)] 39)), (2, rowE kEntry A1 c1 s.t.l), (3, rowE kEntry B1 d1 s.y.l), (4, some (.box m2 [.val (.slice A1 s.t.l.length c1), .val (.slice B1 s.y.l.length d1)] 24))] [] rfl rfl rfl 13 ?_
        refine RunH.adv tb_ok [] rfl rfl (by simp <;> omega) ?_
        refine RunH.doesB [] 15 (hc := Tryz.call52) (ho := rfl) (hw := rfl) (hd := rfl) (hf := rfl) (hes := rfl) (hσ := rfl) (hn := rfl) (hV := fun _ => rfl) (hG := fun _ => rfl) (e := fun z : (Option Addr × Nat) × (Option Addr × Nat) => .av (.val (.tuple #[.agg #[.slice z.1.1 T3.length z.1.2, .slice z.2.1 Y3.length z.2.2], intV e3]))) (hC := hB3) (hp := fun u hu => hs.ext hu.fact) ?_
        rintro ⟨⟨A3b, c3b⟩, ⟨B3b, d3b⟩⟩ mb3 hmb3
        refine RunH.drop ?_
        refine RunH.adv tb_ok [] rfl rfl (by simp <;> omega) ?_
        refine RunH.tell [(128, .st [.val (.slice A3b T3.length c3b), .val (.slice B3b Y3.length d3b)]), (129, intE e3), (13, intE e3), (14, .av (.box 10 mb0 0)), (12, .av (.box 7 ma0 0)), (14, .av (.box 10 mb0 0)), (16, boolE (decide (e2 = e2))), (1, intE k), (2, strE p), (3, strE q), (5, .av (.box 0 w.heap.size 0)), (9, .av (.box 1 (w.heap.size + 1) 0)), (11, .av (.box 4 m2 0))] [(11, rowE kEntry A3a c3a T3), (12, rowE kEntry B3a d3a Y3), (13, rowE kEntry A3b c3b T3), (14, rowE kEntry B3b d3b Y3), (7, some (.box ma0 [.val (.slice A3a T3.length c3a), .val (.slice B3a Y3.length d3a)] 24)), (10, some (.box mb0 [.val (.slice A2b T2.length c2b), .val (.slice B2b Y2.length d2b)] 24)), (0, some (.box w.heap.size [s.t.av, s.y.av] 24)), (1, some (.box (w.heap.size + 1) [.val (sumV x)] 39)), (2, rowE kEntry A1 c1 s.t.l), (3, rowE kEntry B1 d1 s.y.l), (4, some (.box m2 [.val (.slice A1 s.t.l.length c1), .val (.slice B1 s.y.l.length d1)] 24))] [] rfl rfl rfl 15 ?_
        refine RunH.adv tb_ok [true] rfl rfl (by simp <;> omega) ?_
        refine RunH.gives (ho := rfl) (hw := rfl) (hd := rfl) (hf := rfl) (hes := rfl) (hc := Tryz.call22) (e := boolE (decide (T3 = T3) && decide (Y3 = Y3))) (hC := fun u hu => r07_Same u ⟨⟨A3a, c3a, T3⟩, ⟨B3a, d3a, Y3⟩⟩ ⟨⟨A3b, c3b, T3⟩, ⟨B3b, d3b, Y3⟩⟩ ⟨Sl.own (B := w.heap.size) (hu.row (κ := kEntry) (l := T3) (id := 11) rfl) (by show (T3 : List Entry).length ≤ lim; omega), Sl.own (B := w.heap.size) (hu.row (κ := kEntry) (l := Y3) (id := 12) rfl) (by show (Y3 : List Entry).length ≤ lim; omega)⟩ ⟨Sl.own (B := w.heap.size) (hu.row (κ := kEntry) (l := T3) (id := 13) rfl) (by show (T3 : List Entry).length ≤ lim; omega), Sl.own (B := w.heap.size) (hu.row (κ := kEntry) (l := Y3) (id := 14) rfl) (by show (Y3 : List Entry).length ≤ lim; omega)⟩) ?_
        intro mc3 hmc3
        refine RunH.adv tb_ok [true] rfl rfl (by simp <;> omega) ?_
        refine RunH.doesB [(0, 11), (1, 12)] 20 (hc := Tryz.call37) (ho := rfl) (hw := rfl) (hd := rfl) (hf := rfl) (hes := rfl) (hσ := rfl) (hn := rfl) (hV := fun _ => rfl) (hG := fun _ => rfl) (e := fun _ : Unit => .av (.val (.tuple #[]))) (hC := spoil_spec A3a B3a c3a d3a T3 Y3) (hp := fun _ _ => trivial) ?_
        rintro ⟨⟩ md3 hmd3
        refine RunH.drop ?_
        refine RunH.tell [(12, .av (.box 7 ma0 0)), (14, .av (.box 10 mb0 0)), (16, boolE (decide (e3 = e3))), (1, intE k), (2, strE p), (3, strE q), (5, .av (.box 0 w.heap.size 0)), (9, .av (.box 1 (w.heap.size + 1) 0)), (11, .av (.box 4 m2 0))] [(7, some (.box ma0 [.val (.slice A3a T3.length c3a), .val (.slice B3a Y3.length d3a)] 24)), (10, some (.box mb0 [.val (.slice A3b T3.length c3b), .val (.slice B3b Y3.length d3b)] 24)), (0, some (.box w.heap.size [s.t.av, s.y.av] 24)), (1, some (.box (w.heap.size + 1) [.val (sumV x)] 39)), (2, rowE kEntry A1 c1 s.t.l), (3, rowE kEntry B1 d1 s.y.l), (4, some (.box m2 [.val (.slice A1 s.t.l.length c1), .val (.slice B1 s.y.l.length d1)] 24))] [] rfl rfl rfl 11 ?_
        refine RunH.adv tb_ok [true] rfl rfl (by simp <;> omega) ?_
        refine RunH.gives (ho := rfl) (hw := rfl) (hd := rfl) (hf := rfl) (hes := rfl) (hc := Tryz.call22) (e := boolE (decide (s.t.l = s.t.l) && decide (s.y.l = s.y.l))) (hC := fun u hu => r07_Same u ⟨⟨A1, c1, s.t.l⟩, ⟨B1, d1, s.y.l⟩⟩ s ⟨Sl.own (B := w.heap.size) (hu.row (κ := kEntry) (l := s.t.l) (id := 2) rfl) (by show (s.t.l : List Entry).length ≤ lim; omega), Sl.own (B := w.heap.size) (hu.row (κ := kEntry) (l := s.y.l) (id := 3) rfl) (by show (s.y.l : List Entry).length ≤ lim; omega)⟩ (hs.ext hu.fact)) ?_
        intro m9 hm9
        refine RunH.adv tb_ok [true] rfl rfl (by simp <;> omega) ?_
        refine RunH.gives (ho := rfl) (hw := rfl) (hd := rfl) (hf := rfl) (hes := rfl) (hc := Tryz.call15) (e := .tt) (hC := fun u hu => awake_spec u (hG.ext hu.fact)) ?_
        intro mA hmA
        refine RunH.adv tb_ok [] rfl rfl (by simp <;> omega) ?_
        refine RunH.ret1 Tryz.func9 rfl rfl fun u hu => ⟨rfl, hu.fact⟩
end Go.Proofs.YtagnkcdhenilbaaGreatDoor

/-
SpaceEdits: the law is true for every input; the listed variables hold what the program's text lays.
-/
namespace Go.Proofs.YtagnkcdhenilbaaGreatDoor
open Go V RowKit Go.ChangeShapes Go.WideShapes Go.ChangeAt

set_option maxRecDepth 100000 in
theorem spaceEdits_lifted (os : Os) (started : os.Started) (H : Type) (enc : TypeId × Value → H) :
    ReturnsInHanded {} Tryz.checked os 9 .any (fun w args => (Rows.spaceEditsSpec.pre enc Tryz.prog Tryz.f9 [] false w args ∧ laidMetH Tryz.prog Rows.spaceEditsRow.laid w) ∧ sizedMet enc Tryz.prog Tryz.f9 (OpenSpec.ofChange Rows.spaceEditsSpec) false w args)
      (Rows.spaceEditsSpec.post enc Tryz.prog Tryz.f9 false true false false) := by
  refine wrap (C := Tryz.checked) (X := fun w _ => laidMetH Tryz.prog Rows.spaceEditsRow.laid w) (fun _ _ _ hh h => h.of_heap hh) ownKnobs started (by kernel_rfl) Tryz.func9
    (ChangeSpec.witness_shaped (enc := enc) (C := Tryz.checked) (os := os) (X := fun w _ => laidMetH Tryz.prog Rows.spaceEditsRow.laid w) false (World.laidAll Tryz.prog os Rows.spaceEditsRow.laid)
      #[.agg #[.slice none 0 0, .slice none 0 0], .int .i64 0, .string ⟨#[]⟩, .string ⟨#[]⟩, sumV Sum.zero] 8 (World.laidAll_os _ _ _)
      (World.shaped_of_ZipB (by kernel_rfl) (by kernel_rfl)) (by kernel_rfl) (by kernel_rfl) (by kernel_rfl)
      (by rw [MakeChecks.laidMetH_plain _ _ _ (by kernel_rfl)]; exact laidMet_laidAll _ (by kernel_rfl) (by kernel_rfl))) ?_
  intro W base args ds gs before hval0 hW hsz0 hL hS
  have hval : ∀ (j : Nat) t v, Tryz.f9.params[j]? = some t → args[j]? = some v → Value.okWide Tryz.prog W .any base t v := hval0
  have hsz : (DataW.weightsEach Tryz.prog (Tryz.f9.params.toList ++ Rows.spaceEditsSpec.plain.varTypes Tryz.prog) (ds ++ gs)).all (· ≤ reachBytes) = true := hsz0
  have hW' := hW
  obtain ⟨p, q, hA0, hV, rfl, _, _⟩ := hW
  have hA : DataW.TrodAll enc Tryz.prog W 0 (fun _ => true) true Tryz.f9.params.toList args.toList ds p := hA0
  rw [Tryz.params9] at hA hval hsz
  obtain ⟨v0, v1, v2, v3, v4, d0, d1, d2, d3, d4, p0, p1, p2, p3, p4, rfl, rfl, rfl, h0, h1, h2, h3, h4⟩ := trodAll_five hA
  obtain ⟨rfl, rfl⟩ := trodVars_none hV
  have wt : ∀ {j : Nat} {t : TypeId} {d : DataW H}, [24, 3, 9, 9, 39][j]? = some t → [d0, d1, d2, d3, d4][j]? = some d → ∀ n ∈ d.weights Tryz.prog t, n ≤ reachBytes := by
    intro j t d ht hd n hn
    exact of_decide_eq_true (List.all_eq_true.1 hsz _ (DataW.weights_mem_each ht hd n hn))
  obtain ⟨x0, rfl, hx0⟩ := open_space h0 (wt (j := 0) rfl rfl) ((okWide_struct Tryz.underlying24 (hval 0 _ v0 rfl rfl)).imp fun _ h => h.1)
  obtain ⟨x1, rfl, _, _, _⟩ := ChangeShapes.open_int Tryz.underlying3 (hval 1 _ v1 rfl rfl) h1
  obtain ⟨x2, rfl, _, _, _⟩ := ChangeMaps.open_string Tryz.underlying9 (hval 2 _ v2 rfl rfl) h2
  obtain ⟨x3, rfl, _, _, _⟩ := ChangeMaps.open_string Tryz.underlying9 (hval 3 _ v3 rfl rfl) h3
  obtain ⟨x4, rfl⟩ := open_sumA h4 (hval 4 _ v4 rfl rfl)
  refine (edits_walk W (glob_of hS (show laidMetH Tryz.prog Rows.spaceChecksRow.laid W from hL)) x0 hx0 x1 x2.data.toList x3.data.toList x4).mono fun e W' ⟨he, hb⟩ => ?_
  subst he
  exact ⟨_, rfl, _, _, _, [], _, [], hW', trodAll_mk1 (shut_bool Tryz.underlying4 _),
    trodAll_mk5 (Below.trod laidOuts (by kernel_rfl) (of_decide_eq_true (by kernel_rfl)) h0 hb (fun y hy => hW'.lt y (by simp [hy]))) (Below.trod laidOuts (by kernel_rfl) (of_decide_eq_true (by kernel_rfl)) h1 hb (fun y hy => hW'.lt y (by simp [hy]))) (Below.trod laidOuts (by kernel_rfl) (of_decide_eq_true (by kernel_rfl)) h2 hb (fun y hy => hW'.lt y (by simp [hy]))) (Below.trod laidOuts (by kernel_rfl) (of_decide_eq_true (by kernel_rfl)) h3 hb (fun y hy => hW'.lt y (by simp [hy]))) (Below.trod laidOuts (by kernel_rfl) (of_decide_eq_true (by kernel_rfl)) h4 hb (fun y hy => hW'.lt y (by simp [hy]))), rfl, hb.frame _, fun h => by cases h⟩

end Go.Proofs.YtagnkcdhenilbaaGreatDoor

/-
The closed facts of spaceEdits's row and card, one by one; no condition.
-/
namespace Go.Proofs.YtagnkcdhenilbaaGreatDoor
open Go
theorem spaceEdits_c0 : (Rows.spaceEditsRow.wf (OpenSpec.ofChange Rows.spaceEditsSpec) : Bool) = true := by kernel_rfl
theorem spaceEdits_c1 : (laidOutB Tryz.prog : Bool) = true := by kernel_rfl
theorem spaceEdits_c2 : (mapsRowed Tryz.prog : Bool) = true := by kernel_rfl
theorem spaceEdits_c3 : (Tryz.f9.params.all (Tryz.prog.readableRec ·) : Bool) = true := by kernel_rfl
theorem spaceEdits_c4 : (namedTie Tryz.prog Rows.spaceEditsRow.named Rows.spaceEditsSpec.vars : Bool) = true := by kernel_rfl
theorem spaceEdits_c5 : (Rows.spaceEditsRow.stops == [] : Bool) = true := by kernel_rfl
theorem spaceEdits_c6 : (Tryz.prog.stops == [] : Bool) = true := by kernel_rfl
theorem spaceEdits_c7 : (Rows.spaceEditsRow.knobs == [] : Bool) = true := by kernel_rfl
theorem spaceEdits_c8 : (Tryz.prog.stopKnobs == [] : Bool) = true := by kernel_rfl
theorem spaceEdits_c9 : (Rows.spaceEditsRow.inPlace == Tryz.prog.inPlace 9 : Bool) = true := by kernel_rfl
theorem spaceEdits_c10 : (Rows.spaceEditsRow.unfollowed == Tryz.prog.unfollowed 9 : Bool) = true := by kernel_rfl
theorem spaceEdits_c11 : (Rows.spaceEditsRow.recurses == Tryz.prog.recurses 9 : Bool) = true := by kernel_rfl
theorem spaceEdits_c12 : (Rows.spaceEditsRow.named == Tryz.prog.varsNamed 9 : Bool) = true := by kernel_rfl
theorem spaceEdits_c13 : (Rows.spaceEditsRow.maps == (Tryz.f9.params.toList ++ Rows.spaceEditsSpec.plain.varTypes Tryz.prog).any (Tryz.prog.mapsRec ·) : Bool) = true := by kernel_rfl
theorem spaceEdits_c14 : (Rows.spaceEditsRow.ifaces == (Tryz.f9.params.toList ++ Rows.spaceEditsSpec.plain.varTypes Tryz.prog).any (Tryz.prog.ifacesRec ·) : Bool) = true := by kernel_rfl
theorem spaceEdits_c15 : (Rows.spaceEditsRow.mapsOut == Tryz.prog.mapsAmong Tryz.f9.resultTypes.toList : Bool) = true := by kernel_rfl
theorem spaceEdits_c16 : (Rows.spaceEditsRow.loops == (Tryz.f9.params.toList ++ Rows.spaceEditsSpec.plain.varTypes Tryz.prog).any (Tryz.prog.loopsFrom ·) : Bool) = true := by kernel_rfl
theorem spaceEdits_c17 : (Rows.spaceEditsRow.wideKeys == (Tryz.f9.params.toList ++ Rows.spaceEditsSpec.plain.varTypes Tryz.prog ++ Tryz.f9.resultTypes.toList).any (Tryz.prog.wideKeysFrom ·) : Bool) = true := by kernel_rfl
theorem spaceEdits_c18 : (Rows.spaceEditsSpec.vars.all (Tryz.prog.varReadable ·) : Bool) = true := by kernel_rfl
theorem spaceEdits_c19 : (Tryz.f9.resultTypes.all (fun t => Tryz.prog.readableRec t && decide (t < Tryz.prog.types.size)) : Bool) = true := by kernel_rfl
theorem spaceEdits_c20 : (Rows.spaceEditsRow.ifacesOut == Tryz.f9.resultTypes.toList.any (Tryz.prog.ifacesRec ·) : Bool) = true := by kernel_rfl
theorem spaceEdits_c21 : (Rows.spaceEditsRow.loopsOut == Tryz.f9.resultTypes.toList.any (Tryz.prog.loopsFrom ·) : Bool) = true := by kernel_rfl
theorem spaceEdits_c22 : (Rows.spaceEditsRow.plainKeys == Tryz.prog.plainKeys : Bool) = true := by kernel_rfl
theorem spaceEdits_c23 : (Rows.spaceEditsRow.shortTexts.isNone : Bool) = true := by kernel_rfl
theorem spaceEdits_c24 : (Tryz.prog.stopsHeard : Bool) = true := by kernel_rfl
theorem spaceEdits_c25 : (Tryz.prog.mayEnter : Bool) = true := by kernel_rfl
theorem spaceEdits_c26 : (Rows.spaceEditsRow.lifted == Tryz.prog.liftsFinal : Bool) = true := by kernel_rfl
theorem spaceEdits_c27 : (Tryz.prog.make == some Rows.spaceEditsRow.make : Bool) = true := by kernel_rfl
theorem spaceEdits_c28 : (Rows.spaceEditsRow.kinds == (if Rows.spaceEditsRow.domain.isEmpty then [] else Tryz.f9.params.toList.map fun t => match Tryz.prog.underlying t with | some (.int k) => some k | _ => none) : Bool) = true := by kernel_rfl
theorem spaceEdits_c29 : (Rows.spaceEditsRow.pinned == Rows.spaceEditsRow.pinnedBy : Bool) = true := by kernel_rfl
theorem spaceEdits_c30 : (Rows.spaceEditsRow.veiled == (Tryz.f9.params.toList ++ Rows.spaceEditsSpec.plain.varTypes Tryz.prog ++ Tryz.f9.resultTypes.toList).any (Tryz.prog.veiledRec ·) : Bool) = true := by kernel_rfl
theorem spaceEdits_c31 : (Rows.spaceEditsRow.veiledFits Tryz.prog Tryz.f9.params.toList (Tryz.f9.params.toList ++ Rows.spaceEditsSpec.plain.varTypes Tryz.prog ++ Tryz.f9.resultTypes.toList) : Bool) = true := by kernel_rfl
set_option maxRecDepth 100000 in
theorem spaceEdits_joined : joinedFacts Tryz.prog 9 Tryz.f9 Rows.spaceEditsSpec Rows.spaceEditsRow = true :=
  joined_of spaceEdits_c0 spaceEdits_c1 spaceEdits_c2 spaceEdits_c3 spaceEdits_c4 spaceEdits_c5 spaceEdits_c6 spaceEdits_c7 spaceEdits_c8 spaceEdits_c9 spaceEdits_c10 spaceEdits_c11 spaceEdits_c12 spaceEdits_c13 spaceEdits_c14 spaceEdits_c15 spaceEdits_c16 spaceEdits_c17 spaceEdits_c18 spaceEdits_c19 spaceEdits_c20 spaceEdits_c21 spaceEdits_c22 spaceEdits_c23 spaceEdits_c24 spaceEdits_c25 spaceEdits_c26 spaceEdits_c27 spaceEdits_c28 spaceEdits_c29 spaceEdits_c30 spaceEdits_c31
theorem spaceEdits_named : Tryz.prog.funcNamed "hoarstone/hoarstonelaw07.SpaceEdits" = some 9 := by kernel_rfl
theorem spaceEdits_inst : decide (Tryz.f9.isInstance Tryz.prog Rows.spaceEditsRow.origin Rows.spaceEditsRow.targs) = true := by kernel_rfl
theorem spaceEdits_wfText : Rows.spaceEditsRow.wfByText (OpenSpec.ofChange Rows.spaceEditsSpec) = true := by kernel_rfl
theorem spaceEdits_goes : (false = Rows.spaceEditsRow.goesBy Tryz.prog) := by kernel_rfl
end Go.Proofs.YtagnkcdhenilbaaGreatDoor

/-
SpaceEdits: the law is true for every input; its listed package variables hold what the program's text lays (the card ties them). No condition.
-/
namespace Go.Proofs.YtagnkcdhenilbaaGreatDoor
open Go
theorem spaceEdits_wrapped : Tryz.f9.isWrapper Tryz.prog Rows.spaceEditsRow.wrapper Rows.spaceEditsRow.mainSum := by
  unfold Func.isWrapper; first | (rw [if_pos (by decide +kernel)]; kernel_rfl) | (rw [if_neg (by decide +kernel)]; exact ⟨rfl, rfl⟩)
theorem spaceEdits_prog : Rows.spaceEditsRow.program = Tryz.pinned.name := by kernel_rfl
theorem spaceEdits_sum : Rows.spaceEditsRow.sum = Tryz.pinned.sum := by kernel_rfl
theorem spaceEdits_spec : Rows.spaceEditsRow.spec = Rows.spaceEditsSpec.name := by kernel_rfl
theorem spaceEdits_holds : Rows.SpaceEditsSaid :=
  OpenClaim.holds_of_wide 9 Tryz.f9 spaceEdits_prog spaceEdits_sum spaceEdits_spec rfl rfl rfl rfl ⟨rfl, rfl, rfl, rfl, rfl⟩ rfl rfl rfl rfl rfl spaceEdits_named Tryz.func9 spaceEdits_joined
    (of_decide_eq_true spaceEdits_inst) spaceEdits_wrapped (fun os started H enc _ => spaceEdits_lifted os started H enc)
theorem spaceEdits_main : Tryz.prog.mainIs = some (Rows.spaceEditsCard.stood.harness.1, Rows.spaceEditsCard.stood.harness.2.toList) := by kernel_rfl
theorem spaceEdits_har : (!Rows.spaceEditsCard.stood.harness.1 && Rows.spaceEditsCard.stood.harness.2.isEmpty && !false) = false := by kernel_rfl
theorem spaceEdits_looks : false = Tryz.prog.looks [] := by kernel_rfl
theorem spaceEdits_plain : ([24, 3, 9, 9, 39].all fun u => !Tryz.prog.wantsStandIn u) = true := by kernel_rfl
theorem spaceEdits_card_holds : Rows.SpaceEditsCardSaid :=
  Claim7.holds_tied_plain_at .later [] [.data, .data, .data, .pinned] true Rows.spaceEditsCard.stood.harness false
    spaceEdits_holds (fun _ h => by cases h) spaceEdits_wfText (fun _ h => by cases h) spaceEdits_row_tie rfl ⟨rfl, rfl⟩ spaceEdits_main spaceEdits_har
    (fun f fn hf hfn => by
      obtain rfl : f = 9 := (Option.some.inj (spaceEdits_named.symm.trans hf)).symm
      obtain rfl : fn = Tryz.f9 := (Option.some.inj (Tryz.func9.symm.trans hfn)).symm
      exact ⟨spaceEdits_looks, fun j t ht => by
        rw [Tryz.params9] at ht
        have hm : t ∈ [24, 3, 9, 9, 39] := by simpa using Array.mem_of_getElem? ht
        exact (show Tryz.prog.wantsStandIn t = false by simpa using List.all_eq_true.1 spaceEdits_plain t hm)⟩)
    spaceEdits_goes
#print axioms spaceEdits_card_holds
end Go.Proofs.YtagnkcdhenilbaaGreatDoor
