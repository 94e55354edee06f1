/-
A part of the proof of SpaceChecks: for every input the law returns true, and what was passed in reads as before; the listed package variables hold what the program's text lays. No further condition.
-/
import Derived.Test.YtagnkcdhenilbaaGreatDoorTie
import Derived.Test.YtagnkcdhenilbaaGreatDoorCards
import Derived.LaidMore
import Derived.SevenTiedAt
import Derived.Stop.Joined
import Derived.Test.YtagnkcdhenilbaaGreatDoorRows
import Derived.KernelRfl
import Derived.Test.YtagnkcdhenilbaaGreatDoorKPA2
import Derived.Test.YtagnkcdhenilbaaGreatDoorKSPath
import Derived.Test.YtagnkcdhenilbaaGreatDoorKR1
set_option linter.unusedVariables false
set_option linter.unusedSectionVars false
set_option linter.unusedSimpArgs false
namespace Go.Proofs.YtagnkcdhenilbaaGreatDoor
open Go V RowKit

theorem pathL_len (t : Str) : (pathL t).length ≤ t.length + 1 := by
  unfold pathL
  split
  · exact words_len t
  · simp

theorem bigL_ok {l : List Entry} (h : bigL l = false) : l.length ≤ 310 ∧ ∀ x ∈ l, x.path.length ≤ 80 := by
  unfold bigL at h
  rw [Bool.or_eq_false_iff] at h
  refine ⟨by simpa using h.1, fun x hx => ?_⟩
  have h2 := h.2
  rw [List.any_eq_false] at h2
  have := h2 x hx
  unfold bigE at this
  simpa using this

set_option maxRecDepth 10000 in
set_option maxHeartbeats 1000000 in
theorem checks_walk (w : World) (hG : Glob w) (s t : Spc) (hs : s.ok w) (ht : t.ok w) (text : Str) : Gives Tryz.prog 3 [s.ev.v, t.ev.v, strV text] w .tt := by
  have hl : lim = 140737488351232 := rfl
  refine enterH tb_ok [(0, s.ev), (1, t.ev), (2, strE text)] Tryz.func3 rfl Tryz.ntmps3 rfl rfl ?_
  refine RunH.adv tb_ok [] rfl rfl (by simp [AllOb, Ob.P, sum_len, sz_sum, one_int, u8V_one] <;> omega) ?_
  refine RunH.gives (ho := rfl) (hw := rfl) (hd := rfl) (hf := rfl) (hes := rfl) (hc := Tryz.call14) (e := boolE (bigL s.t.l || bigL s.y.l)) (hC := fun u hu => r07_Great u s (hs.ext hu.fact)) ?_
  intro m1 hm1
  cases g1 : (bigL s.t.l || bigL s.y.l) with
  | true =>
    refine RunH.adv tb_ok [true] rfl rfl (by simp [AllOb, Ob.P, sum_len, sz_sum, one_int, u8V_one, g1] <;> omega) ?_
    refine RunH.gives (ho := rfl) (hw := rfl) (hd := rfl) (hf := rfl) (hes := rfl) (hc := Tryz.call15) (e := .tt) (hC := fun u hu => awake_spec u (hG.ext hu.fact)) ?_
    intro mA hmA
    refine RunH.adv tb_ok [] rfl rfl (by simp [AllOb, Ob.P, sum_len, sz_sum, one_int, u8V_one] <;> omega) ?_
    refine RunH.ret1 Tryz.func3 rfl rfl fun u hu => ⟨rfl, hu.fact⟩
  | false =>
    refine RunH.adv tb_ok [false] rfl rfl (by simp [AllOb, Ob.P, sum_len, sz_sum, one_int, u8V_one, g1] <;> omega) ?_
    refine RunH.gives (ho := rfl) (hw := rfl) (hd := rfl) (hf := rfl) (hes := rfl) (hc := Tryz.call14) (e := boolE (bigL t.t.l || bigL t.y.l)) (hC := fun u hu => r07_Great u t (ht.ext hu.fact)) ?_
    intro m2 hm2
    cases g2 : (bigL t.t.l || bigL t.y.l) with
    | true =>
      refine RunH.adv tb_ok [true] rfl rfl (by simp [AllOb, Ob.P, sum_len, sz_sum, one_int, u8V_one, g2] <;> omega) ?_
      refine RunH.gives (ho := rfl) (hw := rfl) (hd := rfl) (hf := rfl) (hes := rfl) (hc := Tryz.call15) (e := .tt) (hC := fun u hu => awake_spec u (hG.ext hu.fact)) ?_
      intro mA hmA
      refine RunH.adv tb_ok [] rfl rfl (by simp [AllOb, Ob.P, sum_len, sz_sum, one_int, u8V_one] <;> omega) ?_
      refine RunH.ret1 Tryz.func3 rfl rfl fun u hu => ⟨rfl, hu.fact⟩
    | false =>
      by_cases g3 : 100 < text.length
      · refine RunH.adv tb_ok [false, true] rfl rfl (by simp [AllOb, Ob.P, sum_len, sz_sum, one_int, u8V_one, g2, g3] <;> omega) ?_
        refine RunH.gives (ho := rfl) (hw := rfl) (hd := rfl) (hf := rfl) (hes := rfl) (hc := Tryz.call15) (e := .tt) (hC := fun u hu => awake_spec u (hG.ext hu.fact)) ?_
        intro mA hmA
        refine RunH.adv tb_ok [] rfl rfl (by simp [AllOb, Ob.P, sum_len, sz_sum, one_int, u8V_one] <;> omega) ?_
        refine RunH.ret1 Tryz.func3 rfl rfl fun u hu => ⟨rfl, hu.fact⟩
      · rw [Bool.or_eq_false_iff] at g1 g2
        have b1 := bigL_ok g1.1
        have b2 := bigL_ok g1.2
        have b3 := bigL_ok g2.1
        have b4 := bigL_ok g2.2
        have hs1 : s.t.l.length ≤ 1000000 := by omega
        have hs2 : s.y.l.length ≤ 1000000 := by omega
        have ht1 : t.t.l.length ≤ 1000000 := by omega
        have ht2 : t.y.l.length ≤ 1000000 := by omega
        generalize hM0 : m2 = M0
        refine RunH.adv tb_ok [false, false] rfl rfl (by simp [AllOb, Ob.P, sum_len, sz_sum, one_int, u8V_one, g2, g3] <;> omega) ?_
        apply RunH.joinK (α := ((Option Addr × Nat) × (Option Addr × Nat)) × ((Option Addr × Nat) × (Option Addr × Nat)) × Nat × Nat) (fun z => [(2, strE text), (3, .av (.box 0 w.heap.size 0)), (4, .av (.box 1 (w.heap.size + 1) 0)), (7, .av (.box 6 z.2.2.1 0)), (8, .av (.box 7 z.2.2.2 0))])
          (fun z => [(0, some (.box w.heap.size [s.t.av, s.y.av] 24)), (1, some (.box (w.heap.size + 1) [t.t.av, t.y.av] 24)), (2, rowE kEntry z.1.1.1 z.1.1.2 s.t.l), (3, rowE kEntry z.1.2.1 z.1.2.2 s.y.l), (4, rowE kEntry z.2.1.1.1 z.2.1.1.2 t.t.l), (5, rowE kEntry z.2.1.2.1 z.2.1.2.2 t.y.l), (6, some (.box z.2.2.1 [.val (.slice z.1.1.1 s.t.l.length z.1.1.2), .val (.slice z.1.2.1 s.y.l.length z.1.2.2)] 24)), (7, some (.box z.2.2.2 [.val (.slice z.2.1.1.1 t.t.l.length z.2.1.1.2), .val (.slice z.2.1.2.1 t.y.l.length z.2.1.2.2)] 24))])
          (fun _ u => Ext w u)
        · refine RunH.draw rfl [(0, some (.box w.heap.size [s.t.av, s.y.av] 24)), (1, some (.box (w.heap.size + 1) [t.t.av, t.y.av] 24))] rfl 8 rfl rfl ?_
          refine RunD.adv tb_ok (by kernel_rfl) [] rfl rfl (by simp [AllOb, Ob.P, sum_len, sz_sum, one_int, u8V_one] <;> omega) ?_
          refine RunD.three (i := 1) (j := 4) (q := 5) (by kernel_rfl) ?_ ?_ ?_
          · refine opD_go (i := 1) rfl rfl (OpGo.doesB (fo := .func 16) [] 2 (fun y => spV s y) rfl rfl rfl rfl Tryz.call16 (r07_Own s hs1 hs2) rfl rfl (fun u hu => hs.ext hu.fact) (fun _ => rfl) (fun _ => rfl)) 4 (fun _ => rfl) (fun _ _ h => h.1) ?_
            rintro ⟨⟨A1, c1⟩, ⟨B1, d1⟩⟩ n1 hn1
            refine RunD.adv tb_ok (by kernel_rfl) [] rfl rfl (by simp [AllOb, Ob.P, sum_len, sz_sum, one_int, u8V_one] <;> omega) ?_
            refine RunD.three (i := 3) (j := 4) (q := 5) (by kernel_rfl) ?_ ?_ ?_
            · refine opD_go (i := 3) rfl rfl (OpGo.doesB (fo := .func 16) [] 4 (fun y => spV t y) rfl rfl rfl rfl Tryz.call16 (r07_Own t ht1 ht2) rfl rfl (fun u hu => ht.ext hu.fact.1) (fun _ => rfl) (fun _ => rfl)) 6 (fun _ => rfl) (fun _ _ h => h.1.1) ?_
              rintro ⟨⟨A3, c3⟩, ⟨B3, d3⟩⟩ n3 hn3
              refine RunD.adv tb_ok (by kernel_rfl) [] rfl rfl (by simp [AllOb, Ob.P, sum_len, sz_sum, one_int, u8V_one] <;> omega) ?_
              refine RunD.two (i := 4) (j := 5) (by kernel_rfl) ?_ ?_
              · refine opD_step tb_ok (nx := 6) (i := 4) rfl rfl rfl rfl ?_ rfl (fun _ h => h.1.1) ⟨rfl, rfl⟩ ?_
                · first | trivial | (simp [AllOb, Ob.P]; done) | (simp [AllOb, Ob.P] <;> rfl)
                refine RunD.adv tb_ok (by kernel_rfl) [] rfl rfl (by simp [AllOb, Ob.P, sum_len, sz_sum, one_int, u8V_one] <;> omega) ?_
                refine RunD.step tb_ok (i := 5) rfl (by kernel_rfl) rfl rfl rfl ?_ rfl (fun _ h => h.1.1) ⟨rfl, rfl⟩ ?_
                · first | trivial | (simp [AllOb, Ob.P]; done) | (simp [AllOb, Ob.P] <;> rfl)
                refine RunD.adv tb_ok (by kernel_rfl) [] rfl rfl (by simp [AllOb, Ob.P, sum_len, sz_sum, one_int, u8V_one] <;> omega) ?_
                refine RunD.step tb_ok (i := 6) rfl (by kernel_rfl) rfl rfl rfl ?_ rfl (fun _ h => h.1.1) rfl ?_
                · first | trivial | (simp [AllOb, Ob.P]; done) | (simp [AllOb, Ob.P] <;> rfl)
                refine RunD.adv tb_ok (by kernel_rfl) [] rfl rfl (by simp [AllOb, Ob.P, sum_len, sz_sum, one_int, u8V_one] <;> omega) ?_
                refine RunD.step tb_ok (i := 7) rfl (by kernel_rfl) rfl rfl rfl ?_ rfl (fun _ h => h.1.1) rfl ?_
                · first | trivial | (simp [AllOb, Ob.P]; done) | (simp [AllOb, Ob.P] <;> rfl)
                refine RunD.done (.inl rfl) (by kernel_rfl) ?_
                refine RunH.meetS (((A1, c1), (B1, d1)), ((A3, c3), (B3, d3)), n3, (n3 + 1)) [(2, 2), (3, 3), (4, 4), (5, 5), (6, 6), (7, 7)] (.head _) ?_ ?_ ?_ ?_
                · rfl
                · rfl
                · rfl
                · exact fun w h => h.1.1
              · refine opD_step tb_ok (nx := 6) (i := 5) rfl rfl rfl rfl ?_ rfl (fun _ h => h.1.1) ⟨rfl, rfl⟩ ?_
                · first | trivial | (simp [AllOb, Ob.P]; done) | (simp [AllOb, Ob.P] <;> rfl)
                refine RunD.adv tb_ok (by kernel_rfl) [] rfl rfl (by simp [AllOb, Ob.P, sum_len, sz_sum, one_int, u8V_one] <;> omega) ?_
                refine RunD.step tb_ok (i := 4) rfl (by kernel_rfl) rfl rfl rfl ?_ rfl (fun _ h => h.1.1) ⟨rfl, rfl⟩ ?_
                · first | trivial | (simp [AllOb, Ob.P]; done) | (simp [AllOb, Ob.P] <;> rfl)
                refine RunD.adv tb_ok (by kernel_rfl) [] rfl rfl (by simp [AllOb, Ob.P, sum_len, sz_sum, one_int, u8V_one] <;> omega) ?_
                refine RunD.step tb_ok (i := 6) rfl (by kernel_rfl) rfl rfl rfl ?_ rfl (fun _ h => h.1.1) rfl ?_
                · first | trivial | (simp [AllOb, Ob.P]; done) | (simp [AllOb, Ob.P] <;> rfl)
                refine RunD.adv tb_ok (by kernel_rfl) [] rfl rfl (by simp [AllOb, Ob.P, sum_len, sz_sum, one_int, u8V_one] <;> omega) ?_
                refine RunD.step tb_ok (i := 7) rfl (by kernel_rfl) rfl rfl rfl ?_ rfl (fun _ h => h.1.1) rfl ?_
                · first | trivial | (simp [AllOb, Ob.P]; done) | (simp [AllOb, Ob.P] <;> rfl)
                refine RunD.done (.inl rfl) (by kernel_rfl) ?_
                refine RunH.meetS (((A1, c1), (B1, d1)), ((A3, c3), (B3, d3)), (n3 + 1), n3) [(2, 2), (3, 3), (4, 4), (5, 5), (6, 7), (7, 6)] (.head _) ?_ ?_ ?_ ?_
                · rfl
                · rfl
                · rfl
                · exact fun w h => h.1.1
            · refine opD_step tb_ok (nx := 4) (i := 4) rfl rfl rfl rfl ?_ rfl (fun _ h => h.1) ⟨rfl, rfl⟩ ?_
              · first | trivial | (simp [AllOb, Ob.P]; done) | (simp [AllOb, Ob.P] <;> rfl)
              refine RunD.adv tb_ok (by kernel_rfl) [] rfl rfl (by simp [AllOb, Ob.P, sum_len, sz_sum, one_int, u8V_one] <;> omega) ?_
              refine RunD.two (i := 3) (j := 5) (by kernel_rfl) ?_ ?_
              · refine opD_go (i := 3) rfl rfl (OpGo.doesB (fo := .func 16) [] 5 (fun y => spV t y) rfl rfl rfl rfl Tryz.call16 (r07_Own t ht1 ht2) rfl rfl (fun u hu => ht.ext hu.fact.1) (fun _ => rfl) (fun _ => rfl)) 7 (fun _ => rfl) (fun _ _ h => h.1.1) ?_
                rintro ⟨⟨A3, c3⟩, ⟨B3, d3⟩⟩ n3 hn3
                refine RunD.adv tb_ok (by kernel_rfl) [] rfl rfl (by simp [AllOb, Ob.P, sum_len, sz_sum, one_int, u8V_one] <;> omega) ?_
                refine RunD.step tb_ok (i := 5) rfl (by kernel_rfl) rfl rfl rfl ?_ rfl (fun _ h => h.1.1) ⟨rfl, rfl⟩ ?_
                · first | trivial | (simp [AllOb, Ob.P]; done) | (simp [AllOb, Ob.P] <;> rfl)
                refine RunD.adv tb_ok (by kernel_rfl) [] rfl rfl (by simp [AllOb, Ob.P, sum_len, sz_sum, one_int, u8V_one] <;> omega) ?_
                refine RunD.step tb_ok (i := 6) rfl (by kernel_rfl) rfl rfl rfl ?_ rfl (fun _ h => h.1.1) rfl ?_
                · first | trivial | (simp [AllOb, Ob.P]; done) | (simp [AllOb, Ob.P] <;> rfl)
                refine RunD.adv tb_ok (by kernel_rfl) [] rfl rfl (by simp [AllOb, Ob.P, sum_len, sz_sum, one_int, u8V_one] <;> omega) ?_
                refine RunD.step tb_ok (i := 7) rfl (by kernel_rfl) rfl rfl rfl ?_ rfl (fun _ h => h.1.1) rfl ?_
                · first | trivial | (simp [AllOb, Ob.P]; done) | (simp [AllOb, Ob.P] <;> rfl)
                refine RunD.done (.inl rfl) (by kernel_rfl) ?_
                refine RunH.meetS (((A1, c1), (B1, d1)), ((A3, c3), (B3, d3)), n1, n3) [(2, 2), (3, 3), (4, 5), (5, 6), (6, 4), (7, 7)] (.head _) ?_ ?_ ?_ ?_
                · rfl
                · rfl
                · rfl
                · exact fun w h => h.1.1
              · refine opD_step tb_ok (nx := 5) (i := 5) rfl rfl rfl rfl ?_ rfl (fun _ h => h.1) ⟨rfl, rfl⟩ ?_
                · first | trivial | (simp [AllOb, Ob.P]; done) | (simp [AllOb, Ob.P] <;> rfl)
                refine RunD.adv tb_ok (by kernel_rfl) [] rfl rfl (by simp [AllOb, Ob.P, sum_len, sz_sum, one_int, u8V_one] <;> omega) ?_
                refine RunD.doesB (i := 3) [] 8 (fun y => spV t y) rfl (by kernel_rfl) rfl rfl rfl rfl Tryz.call16 (r07_Own t ht1 ht2) rfl rfl (fun _ => rfl) (fun _ => rfl) (fun u hu => ht.ext hu.fact.1) (fun _ => rfl) (fun _ h => h.1) ?_
                rintro ⟨⟨A3, c3⟩, ⟨B3, d3⟩⟩ n3 hn3
                refine RunD.adv tb_ok (by kernel_rfl) [] rfl rfl (by simp [AllOb, Ob.P, sum_len, sz_sum, one_int, u8V_one] <;> omega) ?_
                refine RunD.step tb_ok (i := 6) rfl (by kernel_rfl) rfl rfl rfl ?_ rfl (fun _ h => h.1.1) rfl ?_
                · first | trivial | (simp [AllOb, Ob.P]; done) | (simp [AllOb, Ob.P] <;> rfl)
                refine RunD.adv tb_ok (by kernel_rfl) [] rfl rfl (by simp [AllOb, Ob.P, sum_len, sz_sum, one_int, u8V_one] <;> omega) ?_
                refine RunD.step tb_ok (i := 7) rfl (by kernel_rfl) rfl rfl rfl ?_ rfl (fun _ h => h.1.1) rfl ?_
                · first | trivial | (simp [AllOb, Ob.P]; done) | (simp [AllOb, Ob.P] <;> rfl)
                refine RunD.done (.inl rfl) (by kernel_rfl) ?_
                refine RunH.meetS (((A1, c1), (B1, d1)), ((A3, c3), (B3, d3)), n1, (n1 + 1)) [(2, 2), (3, 3), (4, 6), (5, 7), (6, 4), (7, 5)] (.head _) ?_ ?_ ?_ ?_
                · rfl
                · rfl
                · rfl
                · exact fun w h => h.1.1
            · refine opD_step tb_ok (nx := 4) (i := 5) rfl rfl rfl rfl ?_ rfl (fun _ h => h.1) ⟨rfl, rfl⟩ ?_
              · first | trivial | (simp [AllOb, Ob.P]; done) | (simp [AllOb, Ob.P] <;> rfl)
              refine RunD.adv tb_ok (by kernel_rfl) [] rfl rfl (by simp [AllOb, Ob.P, sum_len, sz_sum, one_int, u8V_one] <;> omega) ?_
              refine RunD.two (i := 3) (j := 4) (by kernel_rfl) ?_ ?_
              · refine opD_go (i := 3) rfl rfl (OpGo.doesB (fo := .func 16) [] 5 (fun y => spV t y) rfl rfl rfl rfl Tryz.call16 (r07_Own t ht1 ht2) rfl rfl (fun u hu => ht.ext hu.fact.1) (fun _ => rfl) (fun _ => rfl)) 7 (fun _ => rfl) (fun _ _ h => h.1.1) ?_
                rintro ⟨⟨A3, c3⟩, ⟨B3, d3⟩⟩ n3 hn3
                refine RunD.adv tb_ok (by kernel_rfl) [] rfl rfl (by simp [AllOb, Ob.P, sum_len, sz_sum, one_int, u8V_one] <;> omega) ?_
                refine RunD.step tb_ok (i := 4) rfl (by kernel_rfl) rfl rfl rfl ?_ rfl (fun _ h => h.1.1) ⟨rfl, rfl⟩ ?_
                · first | trivial | (simp [AllOb, Ob.P]; done) | (simp [AllOb, Ob.P] <;> rfl)
                refine RunD.adv tb_ok (by kernel_rfl) [] rfl rfl (by simp [AllOb, Ob.P, sum_len, sz_sum, one_int, u8V_one] <;> omega) ?_
                refine RunD.step tb_ok (i := 6) rfl (by kernel_rfl) rfl rfl rfl ?_ rfl (fun _ h => h.1.1) rfl ?_
                · first | trivial | (simp [AllOb, Ob.P]; done) | (simp [AllOb, Ob.P] <;> rfl)
                refine RunD.adv tb_ok (by kernel_rfl) [] rfl rfl (by simp [AllOb, Ob.P, sum_len, sz_sum, one_int, u8V_one] <;> omega) ?_
                refine RunD.step tb_ok (i := 7) rfl (by kernel_rfl) rfl rfl rfl ?_ rfl (fun _ h => h.1.1) rfl ?_
                · first | trivial | (simp [AllOb, Ob.P]; done) | (simp [AllOb, Ob.P] <;> rfl)
                refine RunD.done (.inl rfl) (by kernel_rfl) ?_
                refine RunH.meetS (((A1, c1), (B1, d1)), ((A3, c3), (B3, d3)), n3, n1) [(2, 2), (3, 3), (4, 5), (5, 6), (6, 7), (7, 4)] (.head _) ?_ ?_ ?_ ?_
                · rfl
                · rfl
                · rfl
                · exact fun w h => h.1.1
              · refine opD_step tb_ok (nx := 5) (i := 4) rfl rfl rfl rfl ?_ rfl (fun _ h => h.1) ⟨rfl, rfl⟩ ?_
                · first | trivial | (simp [AllOb, Ob.P]; done) | (simp [AllOb, Ob.P] <;> rfl)
                refine RunD.adv tb_ok (by kernel_rfl) [] rfl rfl (by simp [AllOb, Ob.P, sum_len, sz_sum, one_int, u8V_one] <;> omega) ?_
                refine RunD.doesB (i := 3) [] 8 (fun y => spV t y) rfl (by kernel_rfl) rfl rfl rfl rfl Tryz.call16 (r07_Own t ht1 ht2) rfl rfl (fun _ => rfl) (fun _ => rfl) (fun u hu => ht.ext hu.fact.1) (fun _ => rfl) (fun _ h => h.1) ?_
                rintro ⟨⟨A3, c3⟩, ⟨B3, d3⟩⟩ n3 hn3
                refine RunD.adv tb_ok (by kernel_rfl) [] rfl rfl (by simp [AllOb, Ob.P, sum_len, sz_sum, one_int, u8V_one] <;> omega) ?_
                refine RunD.step tb_ok (i := 6) rfl (by kernel_rfl) rfl rfl rfl ?_ rfl (fun _ h => h.1.1) rfl ?_
                · first | trivial | (simp [AllOb, Ob.P]; done) | (simp [AllOb, Ob.P] <;> rfl)
                refine RunD.adv tb_ok (by kernel_rfl) [] rfl rfl (by simp [AllOb, Ob.P, sum_len, sz_sum, one_int, u8V_one] <;> omega) ?_
                refine RunD.step tb_ok (i := 7) rfl (by kernel_rfl) rfl rfl rfl ?_ rfl (fun _ h => h.1.1) rfl ?_
                · first | trivial | (simp [AllOb, Ob.P]; done) | (simp [AllOb, Ob.P] <;> rfl)
                refine RunD.done (.inl rfl) (by kernel_rfl) ?_
                refine RunH.meetS (((A1, c1), (B1, d1)), ((A3, c3), (B3, d3)), (n1 + 1), n1) [(2, 2), (3, 3), (4, 6), (5, 7), (6, 5), (7, 4)] (.head _) ?_ ?_ ?_ ?_
                · rfl
                · rfl
                · rfl
                · exact fun w h => h.1.1
          · refine opD_step tb_ok (nx := 2) (i := 4) rfl rfl rfl rfl ?_ rfl (fun _ h => h) ⟨rfl, rfl⟩ ?_
            · first | trivial | (simp [AllOb, Ob.P]; done) | (simp [AllOb, Ob.P] <;> rfl)
            refine RunD.adv tb_ok (by kernel_rfl) [] rfl rfl (by simp [AllOb, Ob.P, sum_len, sz_sum, one_int, u8V_one] <;> omega) ?_
            refine RunD.two (i := 1) (j := 5) (by kernel_rfl) ?_ ?_
            · refine opD_go (i := 1) rfl rfl (OpGo.doesB (fo := .func 16) [] 3 (fun y => spV s y) rfl rfl rfl rfl Tryz.call16 (r07_Own s hs1 hs2) rfl rfl (fun u hu => hs.ext hu.fact) (fun _ => rfl) (fun _ => rfl)) 5 (fun _ => rfl) (fun _ _ h => h.1) ?_
              rintro ⟨⟨A1, c1⟩, ⟨B1, d1⟩⟩ n1 hn1
              refine RunD.adv tb_ok (by kernel_rfl) [] rfl rfl (by simp [AllOb, Ob.P, sum_len, sz_sum, one_int, u8V_one] <;> omega) ?_
              refine RunD.two (i := 3) (j := 5) (by kernel_rfl) ?_ ?_
              · refine opD_go (i := 3) rfl rfl (OpGo.doesB (fo := .func 16) [] 5 (fun y => spV t y) rfl rfl rfl rfl Tryz.call16 (r07_Own t ht1 ht2) rfl rfl (fun u hu => ht.ext hu.fact.1) (fun _ => rfl) (fun _ => rfl)) 7 (fun _ => rfl) (fun _ _ h => h.1.1) ?_
                rintro ⟨⟨A3, c3⟩, ⟨B3, d3⟩⟩ n3 hn3
                refine RunD.adv tb_ok (by kernel_rfl) [] rfl rfl (by simp [AllOb, Ob.P, sum_len, sz_sum, one_int, u8V_one] <;> omega) ?_
                refine RunD.step tb_ok (i := 5) rfl (by kernel_rfl) rfl rfl rfl ?_ rfl (fun _ h => h.1.1) ⟨rfl, rfl⟩ ?_
                · first | trivial | (simp [AllOb, Ob.P]; done) | (simp [AllOb, Ob.P] <;> rfl)
                refine RunD.adv tb_ok (by kernel_rfl) [] rfl rfl (by simp [AllOb, Ob.P, sum_len, sz_sum, one_int, u8V_one] <;> omega) ?_
                refine RunD.step tb_ok (i := 6) rfl (by kernel_rfl) rfl rfl rfl ?_ rfl (fun _ h => h.1.1) rfl ?_
                · first | trivial | (simp [AllOb, Ob.P]; done) | (simp [AllOb, Ob.P] <;> rfl)
                refine RunD.adv tb_ok (by kernel_rfl) [] rfl rfl (by simp [AllOb, Ob.P, sum_len, sz_sum, one_int, u8V_one] <;> omega) ?_
                refine RunD.step tb_ok (i := 7) rfl (by kernel_rfl) rfl rfl rfl ?_ rfl (fun _ h => h.1.1) rfl ?_
                · first | trivial | (simp [AllOb, Ob.P]; done) | (simp [AllOb, Ob.P] <;> rfl)
                refine RunD.done (.inl rfl) (by kernel_rfl) ?_
                refine RunH.meetS (((A1, c1), (B1, d1)), ((A3, c3), (B3, d3)), M0, n3) [(2, 3), (3, 4), (4, 5), (5, 6), (6, 2), (7, 7)] (.head _) ?_ ?_ ?_ ?_
                · rfl
                · rfl
                · rfl
                · exact fun w h => h.1.1
              · refine opD_step tb_ok (nx := 5) (i := 5) rfl rfl rfl rfl ?_ rfl (fun _ h => h.1) ⟨rfl, rfl⟩ ?_
                · first | trivial | (simp [AllOb, Ob.P]; done) | (simp [AllOb, Ob.P] <;> rfl)
                refine RunD.adv tb_ok (by kernel_rfl) [] rfl rfl (by simp [AllOb, Ob.P, sum_len, sz_sum, one_int, u8V_one] <;> omega) ?_
                refine RunD.doesB (i := 3) [] 8 (fun y => spV t y) rfl (by kernel_rfl) rfl rfl rfl rfl Tryz.call16 (r07_Own t ht1 ht2) rfl rfl (fun _ => rfl) (fun _ => rfl) (fun u hu => ht.ext hu.fact.1) (fun _ => rfl) (fun _ h => h.1) ?_
                rintro ⟨⟨A3, c3⟩, ⟨B3, d3⟩⟩ n3 hn3
                refine RunD.adv tb_ok (by kernel_rfl) [] rfl rfl (by simp [AllOb, Ob.P, sum_len, sz_sum, one_int, u8V_one] <;> omega) ?_
                refine RunD.step tb_ok (i := 6) rfl (by kernel_rfl) rfl rfl rfl ?_ rfl (fun _ h => h.1.1) rfl ?_
                · first | trivial | (simp [AllOb, Ob.P]; done) | (simp [AllOb, Ob.P] <;> rfl)
                refine RunD.adv tb_ok (by kernel_rfl) [] rfl rfl (by simp [AllOb, Ob.P, sum_len, sz_sum, one_int, u8V_one] <;> omega) ?_
                refine RunD.step tb_ok (i := 7) rfl (by kernel_rfl) rfl rfl rfl ?_ rfl (fun _ h => h.1.1) rfl ?_
                · first | trivial | (simp [AllOb, Ob.P]; done) | (simp [AllOb, Ob.P] <;> rfl)
                refine RunD.done (.inl rfl) (by kernel_rfl) ?_
                refine RunH.meetS (((A1, c1), (B1, d1)), ((A3, c3), (B3, d3)), M0, n1) [(2, 3), (3, 4), (4, 6), (5, 7), (6, 2), (7, 5)] (.head _) ?_ ?_ ?_ ?_
                · rfl
                · rfl
                · rfl
                · exact fun w h => h.1.1
            · refine opD_step tb_ok (nx := 3) (i := 5) rfl rfl rfl rfl ?_ rfl (fun _ h => h) ⟨rfl, rfl⟩ ?_
              · first | trivial | (simp [AllOb, Ob.P]; done) | (simp [AllOb, Ob.P] <;> rfl)
              refine RunD.adv tb_ok (by kernel_rfl) [] rfl rfl (by simp [AllOb, Ob.P, sum_len, sz_sum, one_int, u8V_one] <;> omega) ?_
              refine RunD.doesB (i := 1) [] 6 (fun y => spV s y) rfl (by kernel_rfl) rfl rfl rfl rfl Tryz.call16 (r07_Own s hs1 hs2) rfl rfl (fun _ => rfl) (fun _ => rfl) (fun u hu => hs.ext hu.fact) (fun _ => rfl) (fun _ h => h) ?_
              rintro ⟨⟨A1, c1⟩, ⟨B1, d1⟩⟩ n1 hn1
              refine RunD.adv tb_ok (by kernel_rfl) [] rfl rfl (by simp [AllOb, Ob.P, sum_len, sz_sum, one_int, u8V_one] <;> omega) ?_
              refine RunD.doesB (i := 3) [] 8 (fun y => spV t y) rfl (by kernel_rfl) rfl rfl rfl rfl Tryz.call16 (r07_Own t ht1 ht2) rfl rfl (fun _ => rfl) (fun _ => rfl) (fun u hu => ht.ext hu.fact.1) (fun _ => rfl) (fun _ h => h.1) ?_
              rintro ⟨⟨A3, c3⟩, ⟨B3, d3⟩⟩ n3 hn3
              refine RunD.adv tb_ok (by kernel_rfl) [] rfl rfl (by simp [AllOb, Ob.P, sum_len, sz_sum, one_int, u8V_one] <;> omega) ?_
              refine RunD.step tb_ok (i := 6) rfl (by kernel_rfl) rfl rfl rfl ?_ rfl (fun _ h => h.1.1) rfl ?_
              · first | trivial | (simp [AllOb, Ob.P]; done) | (simp [AllOb, Ob.P] <;> rfl)
              refine RunD.adv tb_ok (by kernel_rfl) [] rfl rfl (by simp [AllOb, Ob.P, sum_len, sz_sum, one_int, u8V_one] <;> omega) ?_
              refine RunD.step tb_ok (i := 7) rfl (by kernel_rfl) rfl rfl rfl ?_ rfl (fun _ h => h.1.1) rfl ?_
              · first | trivial | (simp [AllOb, Ob.P]; done) | (simp [AllOb, Ob.P] <;> rfl)
              refine RunD.done (.inl rfl) (by kernel_rfl) ?_
              refine RunH.meetS (((A1, c1), (B1, d1)), ((A3, c3), (B3, d3)), M0, (M0 + 1)) [(2, 4), (3, 5), (4, 6), (5, 7), (6, 2), (7, 3)] (.head _) ?_ ?_ ?_ ?_
              · rfl
              · rfl
              · rfl
              · exact fun w h => h.1.1
          · refine opD_step tb_ok (nx := 2) (i := 5) rfl rfl rfl rfl ?_ rfl (fun _ h => h) ⟨rfl, rfl⟩ ?_
            · first | trivial | (simp [AllOb, Ob.P]; done) | (simp [AllOb, Ob.P] <;> rfl)
            refine RunD.adv tb_ok (by kernel_rfl) [] rfl rfl (by simp [AllOb, Ob.P, sum_len, sz_sum, one_int, u8V_one] <;> omega) ?_
            refine RunD.two (i := 1) (j := 4) (by kernel_rfl) ?_ ?_
            · refine opD_go (i := 1) rfl rfl (OpGo.doesB (fo := .func 16) [] 3 (fun y => spV s y) rfl rfl rfl rfl Tryz.call16 (r07_Own s hs1 hs2) rfl rfl (fun u hu => hs.ext hu.fact) (fun _ => rfl) (fun _ => rfl)) 5 (fun _ => rfl) (fun _ _ h => h.1) ?_
              rintro ⟨⟨A1, c1⟩, ⟨B1, d1⟩⟩ n1 hn1
              refine RunD.adv tb_ok (by kernel_rfl) [] rfl rfl (by simp [AllOb, Ob.P, sum_len, sz_sum, one_int, u8V_one] <;> omega) ?_
              refine RunD.two (i := 3) (j := 4) (by kernel_rfl) ?_ ?_
              · refine opD_go (i := 3) rfl rfl (OpGo.doesB (fo := .func 16) [] 5 (fun y => spV t y) rfl rfl rfl rfl Tryz.call16 (r07_Own t ht1 ht2) rfl rfl (fun u hu => ht.ext hu.fact.1) (fun _ => rfl) (fun _ => rfl)) 7 (fun _ => rfl) (fun _ _ h => h.1.1) ?_
                rintro ⟨⟨A3, c3⟩, ⟨B3, d3⟩⟩ n3 hn3
                refine RunD.adv tb_ok (by kernel_rfl) [] rfl rfl (by simp [AllOb, Ob.P, sum_len, sz_sum, one_int, u8V_one] <;> omega) ?_
                refine RunD.step tb_ok (i := 4) rfl (by kernel_rfl) rfl rfl rfl ?_ rfl (fun _ h => h.1.1) ⟨rfl, rfl⟩ ?_
                · first | trivial | (simp [AllOb, Ob.P]; done) | (simp [AllOb, Ob.P] <;> rfl)
                refine RunD.adv tb_ok (by kernel_rfl) [] rfl rfl (by simp [AllOb, Ob.P, sum_len, sz_sum, one_int, u8V_one] <;> omega) ?_
                refine RunD.step tb_ok (i := 6) rfl (by kernel_rfl) rfl rfl rfl ?_ rfl (fun _ h => h.1.1) rfl ?_
                · first | trivial | (simp [AllOb, Ob.P]; done) | (simp [AllOb, Ob.P] <;> rfl)
                refine RunD.adv tb_ok (by kernel_rfl) [] rfl rfl (by simp [AllOb, Ob.P, sum_len, sz_sum, one_int, u8V_one] <;> omega) ?_
                refine RunD.step tb_ok (i := 7) rfl (by kernel_rfl) rfl rfl rfl ?_ rfl (fun _ h => h.1.1) rfl ?_
                · first | trivial | (simp [AllOb, Ob.P]; done) | (simp [AllOb, Ob.P] <;> rfl)
                refine RunD.done (.inl rfl) (by kernel_rfl) ?_
                refine RunH.meetS (((A1, c1), (B1, d1)), ((A3, c3), (B3, d3)), n3, M0) [(2, 3), (3, 4), (4, 5), (5, 6), (6, 7), (7, 2)] (.head _) ?_ ?_ ?_ ?_
                · rfl
                · rfl
                · rfl
                · exact fun w h => h.1.1
              · refine opD_step tb_ok (nx := 5) (i := 4) rfl rfl rfl rfl ?_ rfl (fun _ h => h.1) ⟨rfl, rfl⟩ ?_
                · first | trivial | (simp [AllOb, Ob.P]; done) | (simp [AllOb, Ob.P] <;> rfl)
                refine RunD.adv tb_ok (by kernel_rfl) [] rfl rfl (by simp [AllOb, Ob.P, sum_len, sz_sum, one_int, u8V_one] <;> omega) ?_
                refine RunD.doesB (i := 3) [] 8 (fun y => spV t y) rfl (by kernel_rfl) rfl rfl rfl rfl Tryz.call16 (r07_Own t ht1 ht2) rfl rfl (fun _ => rfl) (fun _ => rfl) (fun u hu => ht.ext hu.fact.1) (fun _ => rfl) (fun _ h => h.1) ?_
                rintro ⟨⟨A3, c3⟩, ⟨B3, d3⟩⟩ n3 hn3
                refine RunD.adv tb_ok (by kernel_rfl) [] rfl rfl (by simp [AllOb, Ob.P, sum_len, sz_sum, one_int, u8V_one] <;> omega) ?_
                refine RunD.step tb_ok (i := 6) rfl (by kernel_rfl) rfl rfl rfl ?_ rfl (fun _ h => h.1.1) rfl ?_
                · first | trivial | (simp [AllOb, Ob.P]; done) | (simp [AllOb, Ob.P] <;> rfl)
                refine RunD.adv tb_ok (by kernel_rfl) [] rfl rfl (by simp [AllOb, Ob.P, sum_len, sz_sum, one_int, u8V_one] <;> omega) ?_
                refine RunD.step tb_ok (i := 7) rfl (by kernel_rfl) rfl rfl rfl ?_ rfl (fun _ h => h.1.1) rfl ?_
                · first | trivial | (simp [AllOb, Ob.P]; done) | (simp [AllOb, Ob.P] <;> rfl)
                refine RunD.done (.inl rfl) (by kernel_rfl) ?_
                refine RunH.meetS (((A1, c1), (B1, d1)), ((A3, c3), (B3, d3)), n1, M0) [(2, 3), (3, 4), (4, 6), (5, 7), (6, 5), (7, 2)] (.head _) ?_ ?_ ?_ ?_
                · rfl
                · rfl
                · rfl
                · exact fun w h => h.1.1
            · refine opD_step tb_ok (nx := 3) (i := 4) rfl rfl rfl rfl ?_ rfl (fun _ h => h) ⟨rfl, rfl⟩ ?_
              · first | trivial | (simp [AllOb, Ob.P]; done) | (simp [AllOb, Ob.P] <;> rfl)
              refine RunD.adv tb_ok (by kernel_rfl) [] rfl rfl (by simp [AllOb, Ob.P, sum_len, sz_sum, one_int, u8V_one] <;> omega) ?_
              refine RunD.doesB (i := 1) [] 6 (fun y => spV s y) rfl (by kernel_rfl) rfl rfl rfl rfl Tryz.call16 (r07_Own s hs1 hs2) rfl rfl (fun _ => rfl) (fun _ => rfl) (fun u hu => hs.ext hu.fact) (fun _ => rfl) (fun _ h => h) ?_
              rintro ⟨⟨A1, c1⟩, ⟨B1, d1⟩⟩ n1 hn1
              refine RunD.adv tb_ok (by kernel_rfl) [] rfl rfl (by simp [AllOb, Ob.P, sum_len, sz_sum, one_int, u8V_one] <;> omega) ?_
              refine RunD.doesB (i := 3) [] 8 (fun y => spV t y) rfl (by kernel_rfl) rfl rfl rfl rfl Tryz.call16 (r07_Own t ht1 ht2) rfl rfl (fun _ => rfl) (fun _ => rfl) (fun u hu => ht.ext hu.fact.1) (fun _ => rfl) (fun _ h => h.1) ?_
              rintro ⟨⟨A3, c3⟩, ⟨B3, d3⟩⟩ n3 hn3
              refine RunD.adv tb_ok (by kernel_rfl) [] rfl rfl (by simp [AllOb, Ob.P, sum_len, sz_sum, one_int, u8V_one] <;> omega) ?_
              refine RunD.step tb_ok (i := 6) rfl (by kernel_rfl) rfl rfl rfl ?_ rfl (fun _ h => h.1.1) rfl ?_
              · first | trivial | (simp [AllOb, Ob.P]; done) | (simp [AllOb, Ob.P] <;> rfl)
              refine RunD.adv tb_ok (by kernel_rfl) [] rfl rfl (by simp [AllOb, Ob.P, sum_len, sz_sum, one_int, u8V_one] <;> omega) ?_
              refine RunD.step tb_ok (i := 7) rfl (by kernel_rfl) rfl rfl rfl ?_ rfl (fun _ h => h.1.1) rfl ?_
              · first | trivial | (simp [AllOb, Ob.P]; done) | (simp [AllOb, Ob.P] <;> rfl)
              refine RunD.done (.inl rfl) (by kernel_rfl) ?_
              refine RunH.meetS (((A1, c1), (B1, d1)), ((A3, c3), (B3, d3)), (M0 + 1), M0) [(2, 4), (3, 5), (4, 6), (5, 7), (6, 3), (7, 2)] (.head _) ?_ ?_ ?_ ?_
              · rfl
              · rfl
              · rfl
              · exact fun w h => h.1.1
        rintro ⟨⟨⟨A1, c1⟩, ⟨B1, d1⟩⟩, ⟨⟨A3, c3⟩, ⟨B3, d3⟩⟩, b7, b8⟩ m3
        refine RunH.toNx 8 ?_
        refine RunH.adv tb_ok [] rfl rfl (by simp [AllOb, Ob.P, sum_len, sz_sum, one_int, u8V_one] <;> omega) ?_
        refine RunH.doesB [] 9 (hc := Tryz.call17) (ho := rfl) (hw := rfl) (hd := rfl) (hf := rfl) (hes := rfl) (hσ := rfl) (hn := rfl) (hV := fun _ => rfl) (hG := fun _ => rfl) (e := fun z : Option Addr × Nat => .av (.val (.tuple #[.slice z.1 (pathL text).length z.2, intV (pathE text)]))) (hC := space_Path text) (hp := fun u hu => (hG.ext hu.fact).max) ?_
        rintro ⟨A8, c8⟩ m4 hm4
        refine RunH.drop ?_
        refine RunH.adv tb_ok [] rfl rfl (by simp [AllOb, Ob.P, sum_len, sz_sum, one_int, u8V_one] <;> omega) ?_
        refine RunH.doesB [] 10 (hc := Tryz.call18) (ho := rfl) (hw := rfl) (hd := rfl) (hf := rfl) (hes := rfl) (hσ := rfl) (hn := rfl) (hV := fun _ => rfl) (hG := fun _ => rfl) (e := fun z : Option Addr × Nat => .av (.val (.tuple #[.slice z.1 (pathL text).length z.2, intV (pathE text)]))) (hC := r07_Path text (by omega)) (hp := fun _ _ => trivial) ?_
        rintro ⟨A9, c9⟩ m5 hm5
        refine RunH.drop ?_
        refine RunH.adv tb_ok [] rfl rfl (by simp [AllOb, Ob.P, sum_len, sz_sum, one_int, u8V_one] <;> omega) ?_
        have hpl : (pathL text).length ≤ lim := by
          have := pathL_len text
          omega
        generalize pathL text = pl at *
        generalize pathE text = pe at *
        refine RunH.tell [(3, .av (.box 0 w.heap.size 0)), (4, .av (.box 1 (w.heap.size + 1) 0)), (7, .av (.box 6 b7 0)), (8, .av (.box 7 b8 0)), (9, slE A8 pl.length c8), (10, intE pe), (11, slE A9 pl.length c9), (12, intE pe)] [(0, some (.box w.heap.size [s.t.av, s.y.av] 24)), (1, some (.box (w.heap.size + 1) [t.t.av, t.y.av] 24)), (2, rowE kEntry A1 c1 s.t.l), (3, rowE kEntry B1 d1 s.y.l), (4, rowE kEntry A3 c3 t.t.l), (5, rowE kEntry B3 d3 t.y.l), (6, some (.box b7 [.val (.slice A1 s.t.l.length c1), .val (.slice B1 s.y.l.length d1)] 24)), (7, some (.box b8 [.val (.slice A3 t.t.l.length c3), .val (.slice B3 t.y.l.length d3)] 24)), (8, rowE kStr A8 c8 pl), (9, rowE kStr A9 c9 pl)] [] rfl rfl rfl 10 ?_
        refine RunH.draw rfl [(0, some (.box w.heap.size [s.t.av, s.y.av] 24)), (1, some (.box (w.heap.size + 1) [t.t.av, t.y.av] 24)), (6, some (.box b7 [.val (.slice A1 s.t.l.length c1), .val (.slice B1 s.y.l.length d1)] 24)), (7, some (.box b8 [.val (.slice A3 t.t.l.length c3), .val (.slice B3 t.y.l.length d3)] 24))] rfl 44 rfl rfl ?_
        refine RunD.adv tb_ok (by kernel_rfl) [] rfl rfl (by simp [AllOb, Ob.P]) ?_
        refine RunD.gives (i := 1) (intE (checkE s.t.l s.y.l)) rfl (by kernel_rfl) rfl rfl rfl rfl Tryz.call19 (fun u hu => space_Check u (hG.ext hu.fact).max ⟨⟨A1, c1, s.t.l⟩, ⟨B1, d1, s.y.l⟩⟩ ⟨Sl.own (B := w.heap.size) (hu.row (κ := kEntry) (l := s.t.l) (id := 2) rfl) (by show (s.t.l : List Entry).length ≤ lim; omega), Sl.own (B := w.heap.size) (hu.row (κ := kEntry) (l := s.y.l) (id := 3) rfl) (by show (s.y.l : List Entry).length ≤ lim; omega)⟩) rfl (fun _ h => h) ?_
        intro n1 hn1
        refine RunD.adv tb_ok (by kernel_rfl) [] rfl rfl (by simp [AllOb, Ob.P]) ?_
        refine RunD.gives (i := 3) (intE (checkE s.t.l s.y.l)) rfl (by kernel_rfl) rfl rfl rfl rfl Tryz.call20 (fun u hu => r07_Check u s (hs.ext hu.fact) (fun x hx => by have := b1.2 x hx; omega) (fun x hx => by have := b2.2 x hx; omega)) rfl (fun _ h => h) ?_
        intro n2 hn2
        refine RunD.adv tb_ok (by kernel_rfl) [true] rfl rfl (by simp [AllOb, Ob.P]) ?_
        refine RunD.gives (i := 8) (boolE (decide (s.t.l = t.t.l) && decide (s.y.l = t.y.l))) rfl (by kernel_rfl) rfl rfl rfl rfl Tryz.call21 (fun u hu => space_Same u ⟨⟨A1, c1, s.t.l⟩, ⟨B1, d1, s.y.l⟩⟩ ⟨⟨A3, c3, t.t.l⟩, ⟨B3, d3, t.y.l⟩⟩ ⟨Sl.own (B := w.heap.size) (hu.row (κ := kEntry) (l := s.t.l) (id := 2) rfl) (by show (s.t.l : List Entry).length ≤ lim; omega), Sl.own (B := w.heap.size) (hu.row (κ := kEntry) (l := s.y.l) (id := 3) rfl) (by show (s.y.l : List Entry).length ≤ lim; omega)⟩ ⟨Sl.own (B := w.heap.size) (hu.row (κ := kEntry) (l := t.t.l) (id := 4) rfl) (by show (t.t.l : List Entry).length ≤ lim; omega), Sl.own (B := w.heap.size) (hu.row (κ := kEntry) (l := t.y.l) (id := 5) rfl) (by show (t.y.l : List Entry).length ≤ lim; omega)⟩) rfl (fun _ h => h) ?_
        intro n3 hn3
        refine RunD.adv tb_ok (by kernel_rfl) [] rfl rfl (by simp [AllOb, Ob.P]) ?_
        refine RunD.gives (i := 11) (boolE (decide (s.t.l = t.t.l) && decide (s.y.l = t.y.l))) rfl (by kernel_rfl) rfl rfl rfl rfl Tryz.call22 (fun u hu => r07_Same u s t (hs.ext hu.fact) (ht.ext hu.fact)) rfl (fun _ h => h) ?_
        intro n4 hn4
        refine RunD.adv tb_ok (by kernel_rfl) [true] rfl rfl (by simp [AllOb, Ob.P]) ?_
        refine RunD.doesB (i := 17) [] 12 (fun y => spV s y) rfl (by kernel_rfl) rfl rfl rfl rfl Tryz.call16 (r07_Own s hs1 hs2) rfl rfl (fun _ => rfl) (fun _ => rfl) (fun u hu => hs.ext hu.fact) (fun _ => rfl) (fun _ h => h) ?_
        rintro ⟨⟨A10, c10⟩, ⟨B10, d10⟩⟩ n5 hn5
        refine RunD.adv tb_ok (by kernel_rfl) [] rfl rfl (by simp [AllOb, Ob.P]) ?_
        refine RunD.gives (i := 18) (boolE (decide (s.t.l = s.t.l) && decide (s.y.l = s.y.l))) rfl (by kernel_rfl) rfl rfl rfl rfl Tryz.call21 (fun u hu => space_Same u ⟨⟨A1, c1, s.t.l⟩, ⟨B1, d1, s.y.l⟩⟩ ⟨⟨A10, c10, s.t.l⟩, ⟨B10, d10, s.y.l⟩⟩ ⟨Sl.own (B := w.heap.size) (hu.row (κ := kEntry) (l := s.t.l) (id := 2) rfl) (by show (s.t.l : List Entry).length ≤ lim; omega), Sl.own (B := w.heap.size) (hu.row (κ := kEntry) (l := s.y.l) (id := 3) rfl) (by show (s.y.l : List Entry).length ≤ lim; omega)⟩ ⟨Sl.own (B := w.heap.size) (hu.row (κ := kEntry) (l := s.t.l) (id := 10) rfl) (by show (s.t.l : List Entry).length ≤ lim; omega), Sl.own (B := w.heap.size) (hu.row (κ := kEntry) (l := s.y.l) (id := 11) rfl) (by show (s.y.l : List Entry).length ≤ lim; omega)⟩) rfl (fun _ h => h.1) ?_
        intro n6 hn6
        refine RunD.adv tb_ok (by kernel_rfl) [true] rfl rfl (by simp [AllOb, Ob.P]) ?_
        refine RunD.gives (i := 23) (boolE (decide (pl = pl))) rfl (by kernel_rfl) rfl rfl rfl rfl Tryz.call23 (fun u hu => equalS_spec u A8 A9 c8 c9 pl pl (Sl.own (B := w.heap.size) (hu.row (κ := kStr) (l := pl) (id := 8) rfl) hpl) (Sl.own (B := w.heap.size) (hu.row (κ := kStr) (l := pl) (id := 9) rfl) hpl)) rfl (fun _ h => h.1) ?_
        intro n7 hn7
        refine RunD.adv tb_ok (by kernel_rfl) [true, true] rfl rfl (by simp [AllOb, Ob.P]) ?_
        refine RunD.gives (i := 33) (boolE (decide (s.t.l = s.t.l) && decide (s.y.l = s.y.l))) rfl (by kernel_rfl) rfl rfl rfl rfl Tryz.call22 (fun u hu => r07_Same u ⟨⟨A1, c1, s.t.l⟩, ⟨B1, d1, s.y.l⟩⟩ s ⟨Sl.own (B := w.heap.size) (hu.row (κ := kEntry) (l := s.t.l) (id := 2) rfl) (by show (s.t.l : List Entry).length ≤ lim; omega), Sl.own (B := w.heap.size) (hu.row (κ := kEntry) (l := s.y.l) (id := 3) rfl) (by show (s.y.l : List Entry).length ≤ lim; omega)⟩ (hs.ext hu.fact.1)) rfl (fun _ h => h.1) ?_
        intro n8 hn8
        refine RunD.adv tb_ok (by kernel_rfl) [true] rfl rfl (by simp [AllOb, Ob.P]) ?_
        refine RunD.gives (i := 38) (boolE (decide (t.t.l = t.t.l) && decide (t.y.l = t.y.l))) rfl (by kernel_rfl) rfl rfl rfl rfl Tryz.call22 (fun u hu => r07_Same u ⟨⟨A3, c3, t.t.l⟩, ⟨B3, d3, t.y.l⟩⟩ t ⟨Sl.own (B := w.heap.size) (hu.row (κ := kEntry) (l := t.t.l) (id := 4) rfl) (by show (t.t.l : List Entry).length ≤ lim; omega), Sl.own (B := w.heap.size) (hu.row (κ := kEntry) (l := t.y.l) (id := 5) rfl) (by show (t.y.l : List Entry).length ≤ lim; omega)⟩ (ht.ext hu.fact.1)) rfl (fun _ h => h.1) ?_
        intro n9 hn9
        refine RunD.adv tb_ok (by kernel_rfl) [true] rfl rfl (by simp [AllOb, Ob.P]) ?_
        refine RunD.gives (i := 41) .tt rfl (by kernel_rfl) rfl rfl rfl rfl Tryz.call15 (fun u hu => awake_spec u (hG.ext hu.fact.1)) rfl (fun _ h => h.1) ?_
        intro n10 hn10
        refine RunD.adv tb_ok (by kernel_rfl) [] rfl rfl (by simp [AllOb, Ob.P]) ?_
        refine RunD.done (.inl rfl) (by kernel_rfl) ?_
        refine RunH.adv tb_ok [] rfl rfl (by simp [AllOb, Ob.P, sum_len, sz_sum, one_int, u8V_one] <;> omega) ?_
        refine RunH.ret1 Tryz.func3 rfl rfl fun u hu => ⟨rfl, hu.fact.1⟩
end Go.Proofs.YtagnkcdhenilbaaGreatDoor

/-
SpaceChecks: the law is true for every pair of namespaces and every text, whatever they hold; the listed variables hold what the program's text lays.
-/
namespace Go.Proofs.YtagnkcdhenilbaaGreatDoor
open Go V RowKit Go.ChangeShapes Go.WideShapes Go.ChangeAt

theorem ownKnobs : ownKnob Tryz.prog.godebug = none := by kernel_rfl
theorem laidOuts : laidOutB Tryz.prog = true := by kernel_rfl

set_option maxRecDepth 100000 in
theorem spaceChecks_lifted (os : Os) (started : os.Started) (H : Type) (enc : TypeId × Value → H) :
    ReturnsInHanded {} Tryz.checked os 3 .any (fun w args => (Rows.spaceChecksSpec.pre enc Tryz.prog Tryz.f3 [] false w args ∧ laidMetH Tryz.prog Rows.spaceChecksRow.laid w) ∧ sizedMet enc Tryz.prog Tryz.f3 (OpenSpec.ofChange Rows.spaceChecksSpec) false w args)
      (Rows.spaceChecksSpec.post enc Tryz.prog Tryz.f3 false true false false) := by
  refine wrap (C := Tryz.checked) (X := fun w _ => laidMetH Tryz.prog Rows.spaceChecksRow.laid w) (fun _ _ _ hh h => h.of_heap hh) ownKnobs started (by kernel_rfl) Tryz.func3
    (ChangeSpec.witness_shaped (enc := enc) (C := Tryz.checked) (os := os) (X := fun w _ => laidMetH Tryz.prog Rows.spaceChecksRow.laid w) false (World.laidAll Tryz.prog os Rows.spaceChecksRow.laid)
      #[.agg #[.slice none 0 0, .slice none 0 0], .agg #[.slice none 0 0, .slice none 0 0], .string ⟨#[]⟩] 8 (World.laidAll_os _ _ _)
      (World.shaped_of_ZipB (by kernel_rfl) (by kernel_rfl)) (by kernel_rfl) (by kernel_rfl) (by kernel_rfl)
      (by rw [MakeChecks.laidMetH_plain _ _ _ (by kernel_rfl)]; exact laidMet_laidAll _ (by kernel_rfl) (by kernel_rfl))) ?_
  intro W base args ds gs before hval0 hW hsz0 hL hS
  have hval : ∀ (j : Nat) t v, Tryz.f3.params[j]? = some t → args[j]? = some v → Value.okWide Tryz.prog W .any base t v := hval0
  have hsz : (DataW.weightsEach Tryz.prog (Tryz.f3.params.toList ++ Rows.spaceChecksSpec.plain.varTypes Tryz.prog) (ds ++ gs)).all (· ≤ reachBytes) = true := hsz0
  have hW' := hW
  obtain ⟨p, q, hA0, hV, rfl, _, _⟩ := hW
  have hA : DataW.TrodAll enc Tryz.prog W 0 (fun _ => true) true Tryz.f3.params.toList args.toList ds p := hA0
  rw [Tryz.params3] at hA hval hsz
  obtain ⟨v0, v1, v2, d0, d1, d2, p0, p1, p2, rfl, rfl, rfl, h0, h1, h2⟩ := trodAll_three hA
  obtain ⟨rfl, rfl⟩ := trodVars_none hV
  have wt : ∀ {j : Nat} {t : TypeId} {d : DataW H}, [24, 24, 9][j]? = some t → [d0, d1, d2][j]? = some d → ∀ n ∈ d.weights Tryz.prog t, n ≤ reachBytes := by
    intro j t d ht hd n hn
    exact of_decide_eq_true (List.all_eq_true.1 hsz _ (DataW.weights_mem_each ht hd n hn))
  obtain ⟨s, rfl, hs⟩ := open_space h0 (wt (j := 0) rfl rfl) ((okWide_struct Tryz.underlying24 (hval 0 _ v0 rfl rfl)).imp fun _ h => h.1)
  obtain ⟨t, rfl, ht⟩ := open_space h1 (wt (j := 1) rfl rfl) ((okWide_struct Tryz.underlying24 (hval 1 _ v1 rfl rfl)).imp fun _ h => h.1)
  have h2k := h2
  obtain ⟨x, rfl, rfl, rfl, _⟩ := ChangeMaps.open_string Tryz.underlying9 (hval 2 _ v2 rfl rfl) h2
  simp only [List.append_nil] at hW'
  have hlt : ∀ y ∈ p0 ++ p1, y.block < W.heap.size := fun y hy => by simpa using hW'.lt y (by simpa using hy)
  refine (checks_walk W (glob_of hS hL) s t hs ht x.data.toList).mono fun e W' ⟨he, hb⟩ => ?_
  subst he
  exact ⟨_, rfl, _, _, _, [], _, [], hW', trodAll_mk1 (shut_bool Tryz.underlying4 _),
    trodAll_mk3 (Below.trod laidOuts (by kernel_rfl) (of_decide_eq_true (by kernel_rfl)) h0 hb (fun y hy => hlt y (List.mem_append.2 (.inl hy))))
      (Below.trod laidOuts (by kernel_rfl) (of_decide_eq_true (by kernel_rfl)) h1 hb (fun y hy => hlt y (List.mem_append.2 (.inr hy))))
      (Below.trod laidOuts (by kernel_rfl) (of_decide_eq_true (by kernel_rfl)) h2k hb (fun y hy => by cases hy)), rfl, hb.frame _, fun h => by cases h⟩

end Go.Proofs.YtagnkcdhenilbaaGreatDoor

/-
The closed facts of spaceChecks's row and card, one by one; no condition.
-/
namespace Go.Proofs.YtagnkcdhenilbaaGreatDoor
open Go
theorem spaceChecks_c0 : (Rows.spaceChecksRow.wf (OpenSpec.ofChange Rows.spaceChecksSpec) : Bool) = true := by kernel_rfl
theorem spaceChecks_c1 : (laidOutB Tryz.prog : Bool) = true := by kernel_rfl
theorem spaceChecks_c2 : (mapsRowed Tryz.prog : Bool) = true := by kernel_rfl
theorem spaceChecks_c3 : (Tryz.f3.params.all (Tryz.prog.readableRec ·) : Bool) = true := by kernel_rfl
theorem spaceChecks_c4 : (namedTie Tryz.prog Rows.spaceChecksRow.named Rows.spaceChecksSpec.vars : Bool) = true := by kernel_rfl
theorem spaceChecks_c5 : (Rows.spaceChecksRow.stops == [] : Bool) = true := by kernel_rfl
theorem spaceChecks_c6 : (Tryz.prog.stops == [] : Bool) = true := by kernel_rfl
theorem spaceChecks_c7 : (Rows.spaceChecksRow.knobs == [] : Bool) = true := by kernel_rfl
theorem spaceChecks_c8 : (Tryz.prog.stopKnobs == [] : Bool) = true := by kernel_rfl
theorem spaceChecks_c9 : (Rows.spaceChecksRow.inPlace == Tryz.prog.inPlace 3 : Bool) = true := by kernel_rfl
theorem spaceChecks_c10 : (Rows.spaceChecksRow.unfollowed == Tryz.prog.unfollowed 3 : Bool) = true := by kernel_rfl
theorem spaceChecks_c11 : (Rows.spaceChecksRow.recurses == Tryz.prog.recurses 3 : Bool) = true := by kernel_rfl
theorem spaceChecks_c12 : (Rows.spaceChecksRow.named == Tryz.prog.varsNamed 3 : Bool) = true := by kernel_rfl
theorem spaceChecks_c13 : (Rows.spaceChecksRow.maps == (Tryz.f3.params.toList ++ Rows.spaceChecksSpec.plain.varTypes Tryz.prog).any (Tryz.prog.mapsRec ·) : Bool) = true := by kernel_rfl
theorem spaceChecks_c14 : (Rows.spaceChecksRow.ifaces == (Tryz.f3.params.toList ++ Rows.spaceChecksSpec.plain.varTypes Tryz.prog).any (Tryz.prog.ifacesRec ·) : Bool) = true := by kernel_rfl
theorem spaceChecks_c15 : (Rows.spaceChecksRow.mapsOut == Tryz.prog.mapsAmong Tryz.f3.resultTypes.toList : Bool) = true := by kernel_rfl
theorem spaceChecks_c16 : (Rows.spaceChecksRow.loops == (Tryz.f3.params.toList ++ Rows.spaceChecksSpec.plain.varTypes Tryz.prog).any (Tryz.prog.loopsFrom ·) : Bool) = true := by kernel_rfl
theorem spaceChecks_c17 : (Rows.spaceChecksRow.wideKeys == (Tryz.f3.params.toList ++ Rows.spaceChecksSpec.plain.varTypes Tryz.prog ++ Tryz.f3.resultTypes.toList).any (Tryz.prog.wideKeysFrom ·) : Bool) = true := by kernel_rfl
theorem spaceChecks_c18 : (Rows.spaceChecksSpec.vars.all (Tryz.prog.varReadable ·) : Bool) = true := by kernel_rfl
theorem spaceChecks_c19 : (Tryz.f3.resultTypes.all (fun t => Tryz.prog.readableRec t && decide (t < Tryz.prog.types.size)) : Bool) = true := by kernel_rfl
theorem spaceChecks_c20 : (Rows.spaceChecksRow.ifacesOut == Tryz.f3.resultTypes.toList.any (Tryz.prog.ifacesRec ·) : Bool) = true := by kernel_rfl
theorem spaceChecks_c21 : (Rows.spaceChecksRow.loopsOut == Tryz.f3.resultTypes.toList.any (Tryz.prog.loopsFrom ·) : Bool) = true := by kernel_rfl
theorem spaceChecks_c22 : (Rows.spaceChecksRow.plainKeys == Tryz.prog.plainKeys : Bool) = true := by kernel_rfl
theorem spaceChecks_c23 : (Rows.spaceChecksRow.shortTexts.isNone : Bool) = true := by kernel_rfl
theorem spaceChecks_c24 : (Tryz.prog.stopsHeard : Bool) = true := by kernel_rfl
theorem spaceChecks_c25 : (Tryz.prog.mayEnter : Bool) = true := by kernel_rfl
theorem spaceChecks_c26 : (Rows.spaceChecksRow.lifted == Tryz.prog.liftsFinal : Bool) = true := by kernel_rfl
theorem spaceChecks_c27 : (Tryz.prog.make == some Rows.spaceChecksRow.make : Bool) = true := by kernel_rfl
theorem spaceChecks_c28 : (Rows.spaceChecksRow.kinds == (if Rows.spaceChecksRow.domain.isEmpty then [] else Tryz.f3.params.toList.map fun t => match Tryz.prog.underlying t with | some (.int k) => some k | _ => none) : Bool) = true := by kernel_rfl
theorem spaceChecks_c29 : (Rows.spaceChecksRow.pinned == Rows.spaceChecksRow.pinnedBy : Bool) = true := by kernel_rfl
theorem spaceChecks_c30 : (Rows.spaceChecksRow.veiled == (Tryz.f3.params.toList ++ Rows.spaceChecksSpec.plain.varTypes Tryz.prog ++ Tryz.f3.resultTypes.toList).any (Tryz.prog.veiledRec ·) : Bool) = true := by kernel_rfl
theorem spaceChecks_c31 : (Rows.spaceChecksRow.veiledFits Tryz.prog Tryz.f3.params.toList (Tryz.f3.params.toList ++ Rows.spaceChecksSpec.plain.varTypes Tryz.prog ++ Tryz.f3.resultTypes.toList) : Bool) = true := by kernel_rfl
set_option maxRecDepth 100000 in
theorem spaceChecks_joined : joinedFacts Tryz.prog 3 Tryz.f3 Rows.spaceChecksSpec Rows.spaceChecksRow = true :=
  joined_of spaceChecks_c0 spaceChecks_c1 spaceChecks_c2 spaceChecks_c3 spaceChecks_c4 spaceChecks_c5 spaceChecks_c6 spaceChecks_c7 spaceChecks_c8 spaceChecks_c9 spaceChecks_c10 spaceChecks_c11 spaceChecks_c12 spaceChecks_c13 spaceChecks_c14 spaceChecks_c15 spaceChecks_c16 spaceChecks_c17 spaceChecks_c18 spaceChecks_c19 spaceChecks_c20 spaceChecks_c21 spaceChecks_c22 spaceChecks_c23 spaceChecks_c24 spaceChecks_c25 spaceChecks_c26 spaceChecks_c27 spaceChecks_c28 spaceChecks_c29 spaceChecks_c30 spaceChecks_c31
theorem spaceChecks_named : Tryz.prog.funcNamed "hoarstone/hoarstonelaw07.SpaceChecks" = some 3 := by kernel_rfl
theorem spaceChecks_inst : decide (Tryz.f3.isInstance Tryz.prog Rows.spaceChecksRow.origin Rows.spaceChecksRow.targs) = true := by kernel_rfl
theorem spaceChecks_wfText : Rows.spaceChecksRow.wfByText (OpenSpec.ofChange Rows.spaceChecksSpec) = true := by kernel_rfl
theorem spaceChecks_goes : (false = Rows.spaceChecksRow.goesBy Tryz.prog) := by kernel_rfl
end Go.Proofs.YtagnkcdhenilbaaGreatDoor

/-
SpaceChecks: the law is true for every input; its listed package variables hold what the program's text lays (the card ties them). No condition.
-/
namespace Go.Proofs.YtagnkcdhenilbaaGreatDoor
open Go
theorem spaceChecks_wrapped : Tryz.f3.isWrapper Tryz.prog Rows.spaceChecksRow.wrapper Rows.spaceChecksRow.mainSum := by
  unfold Func.isWrapper; first | (rw [if_pos (by decide +kernel)]; kernel_rfl) | (rw [if_neg (by decide +kernel)]; exact ⟨rfl, rfl⟩)
theorem spaceChecks_prog : Rows.spaceChecksRow.program = Tryz.pinned.name := by kernel_rfl
theorem spaceChecks_sum : Rows.spaceChecksRow.sum = Tryz.pinned.sum := by kernel_rfl
theorem spaceChecks_spec : Rows.spaceChecksRow.spec = Rows.spaceChecksSpec.name := by kernel_rfl
theorem spaceChecks_holds : Rows.SpaceChecksSaid :=
  OpenClaim.holds_of_wide 3 Tryz.f3 spaceChecks_prog spaceChecks_sum spaceChecks_spec rfl rfl rfl rfl ⟨rfl, rfl, rfl, rfl, rfl⟩ rfl rfl rfl rfl rfl spaceChecks_named Tryz.func3 spaceChecks_joined
    (of_decide_eq_true spaceChecks_inst) spaceChecks_wrapped (fun os started H enc _ => spaceChecks_lifted os started H enc)
theorem spaceChecks_main : Tryz.prog.mainIs = some (Rows.spaceChecksCard.stood.harness.1, Rows.spaceChecksCard.stood.harness.2.toList) := by kernel_rfl
theorem spaceChecks_har : (!Rows.spaceChecksCard.stood.harness.1 && Rows.spaceChecksCard.stood.harness.2.isEmpty && !false) = false := by kernel_rfl
theorem spaceChecks_looks : false = Tryz.prog.looks [] := by kernel_rfl
theorem spaceChecks_plain : ([24, 24, 9].all fun u => !Tryz.prog.wantsStandIn u) = true := by kernel_rfl
theorem spaceChecks_card_holds : Rows.SpaceChecksCardSaid :=
  Claim7.holds_tied_plain_at .later [] [.data, .data, .data, .pinned] true Rows.spaceChecksCard.stood.harness false
    spaceChecks_holds (fun _ h => by cases h) spaceChecks_wfText (fun _ h => by cases h) spaceChecks_row_tie rfl ⟨rfl, rfl⟩ spaceChecks_main spaceChecks_har
    (fun f fn hf hfn => by
      obtain rfl : f = 3 := (Option.some.inj (spaceChecks_named.symm.trans hf)).symm
      obtain rfl : fn = Tryz.f3 := (Option.some.inj (Tryz.func3.symm.trans hfn)).symm
      exact ⟨spaceChecks_looks, fun j t ht => by
        rw [Tryz.params3] at ht
        have hm : t ∈ [24, 24, 9] := by simpa using Array.mem_of_getElem? ht
        exact (show Tryz.prog.wantsStandIn t = false by simpa using List.all_eq_true.1 spaceChecks_plain t hm)⟩)
    spaceChecks_goes
#print axioms spaceChecks_card_holds
end Go.Proofs.YtagnkcdhenilbaaGreatDoor
