/-
A part of the proof of SpaceParts: for every input the law returns true, and what was passed in reads as before; the listed package variables hold what the program's text lays. No further condition.
-/
import Derived.Test.YtagnkcdhenilbaaGreatDoorRows
import Derived.Test.YtagnkcdhenilbaaGreatDoorCards
import Derived.KernelRfl
import Derived.Test.YtagnkcdhenilbaaGreatDoorTie
import Derived.SevenTiedAt
import Derived.Test.YtagnkcdhenilbaaGreatDoorKPA2
import Derived.Test.YtagnkcdhenilbaaGreatDoorKP07i
import Derived.Test.YtagnkcdhenilbaaGreatDoorKPC7
import Derived.Test.YtagnkcdhenilbaaGreatDoorKR1
set_option linter.unusedVariables false
set_option linter.unusedSectionVars false
set_option linter.unusedSimpArgs false
namespace Go.Proofs.YtagnkcdhenilbaaGreatDoor
open Go V RowKit
set_option maxRecDepth 10000 in
set_option maxHeartbeats 2000000 in
theorem parts_walk (w : World) (hG : Glob w) (s t : Spc) (hs : s.ok w) (ht : t.ok w) (p : Str) : Gives Tryz.prog 6 [s.ev.v, t.ev.v, strV p] w .tt := by
  have hl : lim = 140737488351232 := rfl
  refine enterH tb_ok [(0, s.ev), (1, t.ev), (2, strE p)] Tryz.func6 rfl Tryz.ntmps6 rfl rfl ?_
  refine RunH.adv tb_ok [] rfl rfl (by simp <;> omega) ?_
  refine RunH.gives (ho := rfl) (hw := rfl) (hd := rfl) (hf := rfl) (hes := rfl) (hc := Tryz.call14) (e := boolE (bigL s.t.l || bigL s.y.l)) (hC := fun u hu => r07_Great u s (hs.ext hu.fact)) ?_
  intro m1 hm1
  cases g1 : (bigL s.t.l || bigL s.y.l) with
  | true =>
    refine RunH.adv tb_ok [true] rfl rfl (by simp [g1] <;> omega) ?_
    refine RunH.gives (ho := rfl) (hw := rfl) (hd := rfl) (hf := rfl) (hes := rfl) (hc := Tryz.call15) (e := .tt) (hC := fun u hu => awake_spec u (hG.ext hu.fact)) ?_
    intro mA hmA
    refine RunH.adv tb_ok [] rfl rfl (by simp <;> omega) ?_
    refine RunH.ret1 Tryz.func6 rfl rfl fun u hu => ⟨rfl, hu.fact⟩
  | false =>
    refine RunH.adv tb_ok [false] rfl rfl (by simp [g1] <;> omega) ?_
    refine RunH.gives (ho := rfl) (hw := rfl) (hd := rfl) (hf := rfl) (hes := rfl) (hc := Tryz.call14) (e := boolE (bigL t.t.l || bigL t.y.l)) (hC := fun u hu => r07_Great u t (ht.ext hu.fact)) ?_
    intro m2 hm2
    cases g2 : (bigL t.t.l || bigL t.y.l) with
    | true =>
      refine RunH.adv tb_ok [true] rfl rfl (by simp [g2] <;> omega) ?_
      refine RunH.gives (ho := rfl) (hw := rfl) (hd := rfl) (hf := rfl) (hes := rfl) (hc := Tryz.call15) (e := .tt) (hC := fun u hu => awake_spec u (hG.ext hu.fact)) ?_
      intro mA hmA
      refine RunH.adv tb_ok [] rfl rfl (by simp <;> omega) ?_
      refine RunH.ret1 Tryz.func6 rfl rfl fun u hu => ⟨rfl, hu.fact⟩
    | false =>
      by_cases g3 : 100 < p.length
      · refine RunH.adv tb_ok [false, true] rfl rfl (by simp [g2, g3] <;> omega) ?_
        refine RunH.gives (ho := rfl) (hw := rfl) (hd := rfl) (hf := rfl) (hes := rfl) (hc := Tryz.call15) (e := .tt) (hC := fun u hu => awake_spec u (hG.ext hu.fact)) ?_
        intro mA hmA
        refine RunH.adv tb_ok [] rfl rfl (by simp <;> omega) ?_
        refine RunH.ret1 Tryz.func6 rfl rfl fun u hu => ⟨rfl, hu.fact⟩
      · rw [Bool.or_eq_false_iff] at g1 g2
        have b1 := bigL_small g1.1
        have b2 := bigL_small g1.2
        have b3 := bigL_small g2.1
        have b4 := bigL_small g2.2
        have hs1 : s.t.l.length ≤ 1000000 := by omega
        have hs2 : s.y.l.length ≤ 1000000 := by omega
        have ht1 : t.t.l.length ≤ 1000000 := by omega
        have ht2 : t.y.l.length ≤ 1000000 := by omega
        have hs3 : ∀ e ∈ s.t.l, e.path.length ≤ 1000000 := fun x hx => by have := b1.2 x hx; omega
        have hs4 : ∀ e ∈ s.y.l, e.path.length ≤ 1000000 := fun x hx => by have := b2.2 x hx; omega
        have ht3 : ∀ e ∈ t.t.l, e.path.length ≤ 1000000 := fun x hx => by have := b3.2 x hx; omega
        have ht4 : ∀ e ∈ t.y.l, e.path.length ≤ 1000000 := fun x hx => by have := b4.2 x hx; omega
        have hud : ∀ (e : Int) (l : List Entry), l.length ≤ 310 → (undL e (underL p l)).length ≤ 1000 := fun e l h => by
          unfold undL; split
          · have := under_len p l; omega
          · simp
        have hin : ∀ (e : Int) (l m : List Entry), l.length ≤ 310 → m.length ≤ 310 → (inT e (putL p l m)).length ≤ 1000 := fun e l m h h' => by
          unfold inT; split
          · have := putL_le p l m; omega
          · simp
        have hn0 := hud (undE s.t.l s.y.l p) s.t.l b1.1
        have hn1 := hud (undE s.t.l s.y.l p) s.y.l b2.1
        have hn2 := hin (intoE s.t.l s.y.l t.t.l t.y.l p) s.t.l t.t.l b1.1 b3.1
        have hn3 := hin (intoE s.t.l s.y.l t.t.l t.y.l p) s.y.l t.y.l b2.1 b4.1
        have hA0 := fun (A1 : Option Addr) (c1 : Nat) (B1 : Option Addr) (d1 : Nat) => Under_all ⟨⟨A1, c1, s.t.l⟩, ⟨B1, d1, s.y.l⟩⟩ p hs1 hs2 (by omega)
        have hA1 := fun (A1 : Option Addr) (c1 : Nat) (B1 : Option Addr) (d1 : Nat) (A3 : Option Addr) (c3 : Nat) (B3 : Option Addr) (d3 : Nat) => Into_spec ⟨⟨A1, c1, s.t.l⟩, ⟨B1, d1, s.y.l⟩⟩ ⟨⟨A3, c3, t.t.l⟩, ⟨B3, d3, t.y.l⟩⟩ p hs1 hs2 ht1 ht2
        have hB0 := r07_Under s p hs1 hs2 hs3 hs4 (by omega)
        have hB1 := r07_Into s t p hs1 hs2 ht1 ht2 hs3 hs4 ht3 ht4 (by omega)
        dsimp only at hA0 hA1
        generalize undL (undE s.t.l s.y.l p) (underL p s.t.l) = T0 at *
        generalize undL (undE s.t.l s.y.l p) (underL p s.y.l) = Y0 at *
        generalize undE s.t.l s.y.l p = e0 at *
        generalize inT (intoE s.t.l s.y.l t.t.l t.y.l p) (putL p s.t.l t.t.l) = T1 at *
        generalize inT (intoE s.t.l s.y.l t.t.l t.y.l p) (putL p s.y.l t.y.l) = Y1 at *
        generalize intoE s.t.l s.y.l t.t.l t.y.l p = e1 at *
        clear hud hin
        generalize hM0 : m2 = M0
        refine RunH.adv tb_ok [false, false] rfl rfl (by simp [g2, g3] <;> omega) ?_
        apply RunH.joinK (α := ((Option Addr × Nat) × (Option Addr × Nat)) × ((Option Addr × Nat) × (Option Addr × Nat)) × Nat × Nat) (fun z => [(2, strE p), (3, .av (.box 0 w.heap.size 0)), (4, .av (.box 1 (w.heap.size + 1) 0)), (7, .av (.box 6 z.2.2.1 0)), (8, .av (.box 7 z.2.2.2 0))])
          (fun z => [(0, some (.box w.heap.size [s.t.av, s.y.av] 24)), (1, some (.box (w.heap.size + 1) [t.t.av, t.y.av] 24)), (2, rowE kEntry z.1.1.1 z.1.1.2 s.t.l), (3, rowE kEntry z.1.2.1 z.1.2.2 s.y.l), (4, rowE kEntry z.2.1.1.1 z.2.1.1.2 t.t.l), (5, rowE kEntry z.2.1.2.1 z.2.1.2.2 t.y.l), (6, some (.box z.2.2.1 [.val (.slice z.1.1.1 s.t.l.length z.1.1.2), .val (.slice z.1.2.1 s.y.l.length z.1.2.2)] 24)), (7, some (.box z.2.2.2 [.val (.slice z.2.1.1.1 t.t.l.length z.2.1.1.2), .val (.slice z.2.1.2.1 t.y.l.length z.2.1.2.2)] 24))])
          (fun _ u => Ext w u)
        · refine RunH.draw rfl [(0, some (.box w.heap.size [s.t.av, s.y.av] 24)), (1, some (.box (w.heap.size + 1) [t.t.av, t.y.av] 24))] rfl 8 rfl rfl ?_
          refine RunD.adv tb_ok (by kernel_rfl) [] rfl rfl (by simp <;> omega) ?_
          refine RunD.three (i := 1) (j := 4) (q := 5) (by kernel_rfl) ?_ ?_ ?_
          · refine opD_go (i := 1) rfl rfl (OpGo.doesB (fo := .func 16) [] 2 (fun y => spV s y) rfl rfl rfl rfl Tryz.call16 (r07_Own s hs1 hs2) rfl rfl (fun u hu => hs.ext hu.fact) (fun _ => rfl) (fun _ => rfl)) 4 (fun _ => rfl) (fun _ _ h => h.1) ?_
            rintro ⟨⟨A1, c1⟩, ⟨B1, d1⟩⟩ n1 hn1
            refine RunD.adv tb_ok (by kernel_rfl) [] rfl rfl (by simp <;> omega) ?_
            refine RunD.three (i := 3) (j := 4) (q := 5) (by kernel_rfl) ?_ ?_ ?_
            · refine opD_go (i := 3) rfl rfl (OpGo.doesB (fo := .func 16) [] 4 (fun y => spV t y) rfl rfl rfl rfl Tryz.call16 (r07_Own t ht1 ht2) rfl rfl (fun u hu => ht.ext hu.fact.1) (fun _ => rfl) (fun _ => rfl)) 6 (fun _ => rfl) (fun _ _ h => h.1.1) ?_
              rintro ⟨⟨A3, c3⟩, ⟨B3, d3⟩⟩ n3 hn3
              refine RunD.adv tb_ok (by kernel_rfl) [] rfl rfl (by simp <;> omega) ?_
              refine RunD.two (i := 4) (j := 5) (by kernel_rfl) ?_ ?_
              · refine opD_step tb_ok (nx := 6) (i := 4) rfl rfl rfl rfl ?_ rfl (fun _ h => h.1.1) ⟨rfl, rfl⟩ ?_
                · first | trivial | (simp [AllOb, Ob.P]; done) | (simp [AllOb, Ob.P] <;> rfl)
                refine RunD.adv tb_ok (by kernel_rfl) [] rfl rfl (by simp <;> omega) ?_
                refine RunD.step tb_ok (i := 5) rfl (by kernel_rfl) rfl rfl rfl ?_ rfl (fun _ h => h.1.1) ⟨rfl, rfl⟩ ?_
                · first | trivial | (simp [AllOb, Ob.P]; done) | (simp [AllOb, Ob.P] <;> rfl)
                refine RunD.adv tb_ok (by kernel_rfl) [] rfl rfl (by simp <;> omega) ?_
                refine RunD.step tb_ok (i := 6) rfl (by kernel_rfl) rfl rfl rfl ?_ rfl (fun _ h => h.1.1) rfl ?_
                · first | trivial | (simp [AllOb, Ob.P]; done) | (simp [AllOb, Ob.P] <;> rfl)
                refine RunD.adv tb_ok (by kernel_rfl) [] rfl rfl (by simp <;> omega) ?_
                refine RunD.step tb_ok (i := 7) rfl (by kernel_rfl) rfl rfl rfl ?_ rfl (fun _ h => h.1.1) rfl ?_
                · first | trivial | (simp [AllOb, Ob.P]; done) | (simp [AllOb, Ob.P] <;> rfl)
                refine RunD.done (.inl rfl) (by kernel_rfl) ?_
                refine RunH.meetS (((A1, c1), (B1, d1)), ((A3, c3), (B3, d3)), n3, (n3 + 1)) [(2, 2), (3, 3), (4, 4), (5, 5), (6, 6), (7, 7)] (.head _) ?_ ?_ ?_ ?_
                · rfl
                · rfl
                · rfl
                · exact fun w h => h.1.1
              · refine opD_step tb_ok (nx := 6) (i := 5) rfl rfl rfl rfl ?_ rfl (fun _ h => h.1.1) ⟨rfl, rfl⟩ ?_
                · first | trivial | (simp [AllOb, Ob.P]; done) | (simp [AllOb, Ob.P] <;> rfl)
                refine RunD.adv tb_ok (by kernel_rfl) [] rfl rfl (by simp <;> omega) ?_
                refine RunD.step tb_ok (i := 4) rfl (by kernel_rfl) rfl rfl rfl ?_ rfl (fun _ h => h.1.1) ⟨rfl, rfl⟩ ?_
                · first | trivial | (simp [AllOb, Ob.P]; done) | (simp [AllOb, Ob.P] <;> rfl)
                refine RunD.adv tb_ok (by kernel_rfl) [] rfl rfl (by simp <;> omega) ?_
                refine RunD.step tb_ok (i := 6) rfl (by kernel_rfl) rfl rfl rfl ?_ rfl (fun _ h => h.1.1) rfl ?_
                · first | trivial | (simp [AllOb, Ob.P]; done) | (simp [AllOb, Ob.P] <;> rfl)
                refine RunD.adv tb_ok (by kernel_rfl) [] rfl rfl (by simp <;> omega) ?_
                refine RunD.step tb_ok (i := 7) rfl (by kernel_rfl) rfl rfl rfl ?_ rfl (fun _ h => h.1.1) rfl ?_
                · first | trivial | (simp [AllOb, Ob.P]; done) | (simp [AllOb, Ob.P] <;> rfl)
                refine RunD.done (.inl rfl) (by kernel_rfl) ?_
                refine RunH.meetS (((A1, c1), (B1, d1)), ((A3, c3), (B3, d3)), (n3 + 1), n3) [(2, 2), (3, 3), (4, 4), (5, 5), (6, 7), (7, 6)] (.head _) ?_ ?_ ?_ ?_
                · rfl
                · rfl
                · rfl
                · exact fun w h => h.1.1
            · refine opD_step tb_ok (nx := 4) (i := 4) rfl rfl rfl rfl ?_ rfl (fun _ h => h.1) ⟨rfl, rfl⟩ ?_
              · first | trivial | (simp [AllOb, Ob.P]; done) | (simp [AllOb, Ob.P] <;> rfl)
              refine RunD.adv tb_ok (by kernel_rfl) [] rfl rfl (by simp <;> omega) ?_
              refine RunD.two (i := 3) (j := 5) (by kernel_rfl) ?_ ?_
              · refine opD_go (i := 3) rfl rfl (OpGo.doesB (fo := .func 16) [] 5 (fun y => spV t y) rfl rfl rfl rfl Tryz.call16 (r07_Own t ht1 ht2) rfl rfl (fun u hu => ht.ext hu.fact.1) (fun _ => rfl) (fun _ => rfl)) 7 (fun _ => rfl) (fun _ _ h => h.1.1) ?_
                rintro ⟨⟨A3, c3⟩, ⟨B3, d3⟩⟩ n3 hn3
                refine RunD.adv tb_ok (by kernel_rfl) [] rfl rfl (by simp <;> omega) ?_
                refine RunD.step tb_ok (i := 5) rfl (by kernel_rfl) rfl rfl rfl ?_ rfl (fun _ h => h.1.1) ⟨rfl, rfl⟩ ?_
                · first | trivial | (simp [AllOb, Ob.P]; done) | (simp [AllOb, Ob.P] <;> rfl)
                refine RunD.adv tb_ok (by kernel_rfl) [] rfl rfl (by simp <;> omega) ?_
                refine RunD.step tb_ok (i := 6) rfl (by kernel_rfl) rfl rfl rfl ?_ rfl (fun _ h => h.1.1) rfl ?_
                · first | trivial | (simp [AllOb, Ob.P]; done) | (simp [AllOb, Ob.P] <;> rfl)
                refine RunD.adv tb_ok (by kernel_rfl) [] rfl rfl (by simp <;> omega) ?_
                refine RunD.step tb_ok (i := 7) rfl (by kernel_rfl) rfl rfl rfl ?_ rfl (fun _ h => h.1.1) rfl ?_
                · first | trivial | (simp [AllOb, Ob.P]; done) | (simp [AllOb, Ob.P] <;> rfl)
                refine RunD.done (.inl rfl) (by kernel_rfl) ?_
                refine RunH.meetS (((A1, c1), (B1, d1)), ((A3, c3), (B3, d3)), n1, n3) [(2, 2), (3, 3), (4, 5), (5, 6), (6, 4), (7, 7)] (.head _) ?_ ?_ ?_ ?_
                · rfl
                · rfl
                · rfl
                · exact fun w h => h.1.1
              · refine opD_step tb_ok (nx := 5) (i := 5) rfl rfl rfl rfl ?_ rfl (fun _ h => h.1) ⟨rfl, rfl⟩ ?_
                · first | trivial | (simp [AllOb, Ob.P]; done) | (simp [AllOb, Ob.P] <;> rfl)
                refine RunD.adv tb_ok (by kernel_rfl) [] rfl rfl (by simp <;> omega) ?_
                refine RunD.doesB (i := 3) [] 8 (fun y => spV t y) rfl (by kernel_rfl) rfl rfl rfl rfl Tryz.call16 (r07_Own t ht1 ht2) rfl rfl (fun _ => rfl) (fun _ => rfl) (fun u hu => ht.ext hu.fact.1) (fun _ => rfl) (fun _ h => h.1) ?_
                rintro ⟨⟨A3, c3⟩, ⟨B3, d3⟩⟩ n3 hn3
                refine RunD.adv tb_ok (by kernel_rfl) [] rfl rfl (by simp <;> omega) ?_
                refine RunD.step tb_ok (i := 6) rfl (by kernel_rfl) rfl rfl rfl ?_ rfl (fun _ h => h.1.1) rfl ?_
                · first | trivial | (simp [AllOb, Ob.P]; done) | (simp [AllOb, Ob.P] <;> rfl)
                refine RunD.adv tb_ok (by kernel_rfl) [] rfl rfl (by simp <;> omega) ?_
                refine RunD.step tb_ok (i := 7) rfl (by kernel_rfl) rfl rfl rfl ?_ rfl (fun _ h => h.1.1) rfl ?_
                · first | trivial | (simp [AllOb, Ob.P]; done) | (simp [AllOb, Ob.P] <;> rfl)
                refine RunD.done (.inl rfl) (by kernel_rfl) ?_
                refine RunH.meetS (((A1, c1), (B1, d1)), ((A3, c3), (B3, d3)), n1, (n1 + 1)) [(2, 2), (3, 3), (4, 6), (5, 7), (6, 4), (7, 5)] (.head _) ?_ ?_ ?_ ?_
                · rfl
                · rfl
                · rfl
                · exact fun w h => h.1.1
            · refine opD_step tb_ok (nx := 4) (i := 5) rfl rfl rfl rfl ?_ rfl (fun _ h => h.1) ⟨rfl, rfl⟩ ?_
              · first | trivial | (simp [AllOb, Ob.P]; done) | (simp [AllOb, Ob.P] <;> rfl)
              refine RunD.adv tb_ok (by kernel_rfl) [] rfl rfl (by simp <;> omega) ?_
              refine RunD.two (i := 3) (j := 4) (by kernel_rfl) ?_ ?_
              · refine opD_go (i := 3) rfl rfl (OpGo.doesB (fo := .func 16) [] 5 (fun y => spV t y) rfl rfl rfl rfl Tryz.call16 (r07_Own t ht1 ht2) rfl rfl (fun u hu => ht.ext hu.fact.1) (fun _ => rfl) (fun _ => rfl)) 7 (fun _ => rfl) (fun _ _ h => h.1.1) ?_
                rintro ⟨⟨A3, c3⟩, ⟨B3, d3⟩⟩ n3 hn3
                refine RunD.adv tb_ok (by kernel_rfl) [] rfl rfl (by simp <;> omega) ?_
                refine RunD.step tb_ok (i := 4) rfl (by kernel_rfl) rfl rfl rfl ?_ rfl (fun _ h => h.1.1) ⟨rfl, rfl⟩ ?_
                · first | trivial | (simp [AllOb, Ob.P]; done) | (simp [AllOb, Ob.P] <;> rfl)
                refine RunD.adv tb_ok (by kernel_rfl) [] rfl rfl (by simp <;> omega) ?_
                refine RunD.step tb_ok (i := 6) rfl (by kernel_rfl) rfl rfl rfl ?_ rfl (fun _ h => h.1.1) rfl ?_
                · first | trivial | (simp [AllOb, Ob.P]; done) | (simp [AllOb, Ob.P] <;> rfl)
                refine RunD.adv tb_ok (by kernel_rfl) [] rfl rfl (by simp <;> omega) ?_
                refine RunD.step tb_ok (i := 7) rfl (by kernel_rfl) rfl rfl rfl ?_ rfl (fun _ h => h.1.1) rfl ?_
                · first | trivial | (simp [AllOb, Ob.P]; done) | (simp [AllOb, Ob.P] <;> rfl)
                refine RunD.done (.inl rfl) (by kernel_rfl) ?_
                refine RunH.meetS (((A1, c1), (B1, d1)), ((A3, c3), (B3, d3)), n3, n1) [(2, 2), (3, 3), (4, 5), (5, 6), (6, 7), (7, 4)] (.head _) ?_ ?_ ?_ ?_
                · rfl
                · rfl
                · rfl
                · exact fun w h => h.1.1
              · refine opD_step tb_ok (nx := 5) (i := 4) rfl rfl rfl rfl ?_ rfl (fun _ h => h.1) ⟨rfl, rfl⟩ ?_
                · first | trivial | (simp [AllOb, Ob.P]; done) | (simp [AllOb, Ob.P] <;> rfl)
                refine RunD.adv tb_ok (by kernel_rfl) [] rfl rfl (by simp <;> omega) ?_
                refine RunD.doesB (i := 3) [] 8 (fun y => spV t y) rfl (by kernel_rfl) rfl rfl rfl rfl Tryz.call16 (r07_Own t ht1 ht2) rfl rfl (fun _ => rfl) (fun _ => rfl) (fun u hu => ht.ext hu.fact.1) (fun _ => rfl) (fun _ h => h.1) ?_
                rintro ⟨⟨A3, c3⟩, ⟨B3, d3⟩⟩ n3 hn3
                refine RunD.adv tb_ok (by kernel_rfl) [] rfl rfl (by simp <;> omega) ?_
                refine RunD.step tb_ok (i := 6) rfl (by kernel_rfl) rfl rfl rfl ?_ rfl (fun _ h => h.1.1) rfl ?_
                · first | trivial | (simp [AllOb, Ob.P]; done) | (simp [AllOb, Ob.P] <;> rfl)
                refine RunD.adv tb_ok (by kernel_rfl) [] rfl rfl (by simp <;> omega) ?_
                refine RunD.step tb_ok (i := 7) rfl (by kernel_rfl) rfl rfl rfl ?_ rfl (fun _ h => h.1.1) rfl ?_
                · first | trivial | (simp [AllOb, Ob.P]; done) | (simp [AllOb, Ob.P] <;> rfl)
                refine RunD.done (.inl rfl) (by kernel_rfl) ?_
                refine RunH.meetS (((A1, c1), (B1, d1)), ((A3, c3), (B3, d3)), (n1 + 1), n1) [(2, 2), (3, 3), (4, 6), (5, 7), (6, 5), (7, 4)] (.head _) ?_ ?_ ?_ ?_
                · rfl
                · rfl
                · rfl
                · exact fun w h => h.1.1
          · refine opD_step tb_ok (nx := 2) (i := 4) rfl rfl rfl rfl ?_ rfl (fun _ h => h) ⟨rfl, rfl⟩ ?_
            · first | trivial | (simp [AllOb, Ob.P]; done) | (simp [AllOb, Ob.P] <;> rfl)
            refine RunD.adv tb_ok (by kernel_rfl) [] rfl rfl (by simp <;> omega) ?_
            refine RunD.two (i := 1) (j := 5) (by kernel_rfl) ?_ ?_
            · refine opD_go (i := 1) rfl rfl (OpGo.doesB (fo := .func 16) [] 3 (fun y => spV s y) rfl rfl rfl rfl Tryz.call16 (r07_Own s hs1 hs2) rfl rfl (fun u hu => hs.ext hu.fact) (fun _ => rfl) (fun _ => rfl)) 5 (fun _ => rfl) (fun _ _ h => h.1) ?_
              rintro ⟨⟨A1, c1⟩, ⟨B1, d1⟩⟩ n1 hn1
              refine RunD.adv tb_ok (by kernel_rfl) [] rfl rfl (by simp <;> omega) ?_
              refine RunD.two (i := 3) (j := 5) (by kernel_rfl) ?_ ?_
              · refine opD_go (i := 3) rfl rfl (OpGo.doesB (fo := .func 16) [] 5 (fun y => spV t y) rfl rfl rfl rfl Tryz.call16 (r07_Own t ht1 ht2) rfl rfl (fun u hu => ht.ext hu.fact.1) (fun _ => rfl) (fun _ => rfl)) 7 (fun _ => rfl) (fun _ _ h => h.1.1) ?_
                rintro ⟨⟨A3, c3⟩, ⟨B3, d3⟩⟩ n3 hn3
                refine RunD.adv tb_ok (by kernel_rfl) [] rfl rfl (by simp <;> omega) ?_
                refine RunD.step tb_ok (i := 5) rfl (by kernel_rfl) rfl rfl rfl ?_ rfl (fun _ h => h.1.1) ⟨rfl, rfl⟩ ?_
                · first | trivial | (simp [AllOb, Ob.P]; done) | (simp [AllOb, Ob.P] <;> rfl)
                refine RunD.adv tb_ok (by kernel_rfl) [] rfl rfl (by simp <;> omega) ?_
                refine RunD.step tb_ok (i := 6) rfl (by kernel_rfl) rfl rfl rfl ?_ rfl (fun _ h => h.1.1) rfl ?_
                · first | trivial | (simp [AllOb, Ob.P]; done) | (simp [AllOb, Ob.P] <;> rfl)
                refine RunD.adv tb_ok (by kernel_rfl) [] rfl rfl (by simp <;> omega) ?_
                refine RunD.step tb_ok (i := 7) rfl (by kernel_rfl) rfl rfl rfl ?_ rfl (fun _ h => h.1.1) rfl ?_
                · first | trivial | (simp [AllOb, Ob.P]; done) | (simp [AllOb, Ob.P] <;> rfl)
                refine RunD.done (.inl rfl) (by kernel_rfl) ?_
                refine RunH.meetS (((A1, c1), (B1, d1)), ((A3, c3), (B3, d3)), M0, n3) [(2, 3), (3, 4), (4, 5), (5, 6), (6, 2), (7, 7)] (.head _) ?_ ?_ ?_ ?_
                · rfl
                · rfl
                · rfl
                · exact fun w h => h.1.1
              · refine opD_step tb_ok (nx := 5) (i := 5) rfl rfl rfl rfl ?_ rfl (fun _ h => h.1) ⟨rfl, rfl⟩ ?_
                · first | trivial | (simp [AllOb, Ob.P]; done) | (simp [AllOb, Ob.P] <;> rfl)
                refine RunD.adv tb_ok (by kernel_rfl) [] rfl rfl (by simp <;> omega) ?_
                refine RunD.doesB (i := 3) [] 8 (fun y => spV t y) rfl (by kernel_rfl) rfl rfl rfl rfl Tryz.call16 (r07_Own t ht1 ht2) rfl rfl (fun _ => rfl) (fun _ => rfl) (fun u hu => ht.ext hu.fact.1) (fun _ => rfl) (fun _ h => h.1) ?_
                rintro ⟨⟨A3, c3⟩, ⟨B3, d3⟩⟩ n3 hn3
                refine RunD.adv tb_ok (by kernel_rfl) [] rfl rfl (by simp <;> omega) ?_
                refine RunD.step tb_ok (i := 6) rfl (by kernel_rfl) rfl rfl rfl ?_ rfl (fun _ h => h.1.1) rfl ?_
                · first | trivial | (simp [AllOb, Ob.P]; done) | (simp [AllOb, Ob.P] <;> rfl)
                refine RunD.adv tb_ok (by kernel_rfl) [] rfl rfl (by simp <;> omega) ?_
                refine RunD.step tb_ok (i := 7) rfl (by kernel_rfl) rfl rfl rfl ?_ rfl (fun _ h => h.1.1) rfl ?_
                · first | trivial | (simp [AllOb, Ob.P]; done) | (simp [AllOb, Ob.P] <;> rfl)
                refine RunD.done (.inl rfl) (by kernel_rfl) ?_
                refine RunH.meetS (((A1, c1), (B1, d1)), ((A3, c3), (B3, d3)), M0, n1) [(2, 3), (3, 4), (4, 6), (5, 7), (6, 2), (7, 5)] (.head _) ?_ ?_ ?_ ?_
                · rfl
                · rfl
                · rfl
                · exact fun w h => h.1.1
            · refine opD_step tb_ok (nx := 3) (i := 5) rfl rfl rfl rfl ?_ rfl (fun _ h => h) ⟨rfl, rfl⟩ ?_
              · first | trivial | (simp [AllOb, Ob.P]; done) | (simp [AllOb, Ob.P] <;> rfl)
              refine RunD.adv tb_ok (by kernel_rfl) [] rfl rfl (by simp <;> omega) ?_
              refine RunD.doesB (i := 1) [] 6 (fun y => spV s y) rfl (by kernel_rfl) rfl rfl rfl rfl Tryz.call16 (r07_Own s hs1 hs2) rfl rfl (fun _ => rfl) (fun _ => rfl) (fun u hu => hs.ext hu.fact) (fun _ => rfl) (fun _ h => h) ?_
              rintro ⟨⟨A1, c1⟩, ⟨B1, d1⟩⟩ n1 hn1
              refine RunD.adv tb_ok (by kernel_rfl) [] rfl rfl (by simp <;> omega) ?_
              refine RunD.doesB (i := 3) [] 8 (fun y => spV t y) rfl (by kernel_rfl) rfl rfl rfl rfl Tryz.call16 (r07_Own t ht1 ht2) rfl rfl (fun _ => rfl) (fun _ => rfl) (fun u hu => ht.ext hu.fact.1) (fun _ => rfl) (fun _ h => h.1) ?_
              rintro ⟨⟨A3, c3⟩, ⟨B3, d3⟩⟩ n3 hn3
              refine RunD.adv tb_ok (by kernel_rfl) [] rfl rfl (by simp <;> omega) ?_
              refine RunD.step tb_ok (i := 6) rfl (by kernel_rfl) rfl rfl rfl ?_ rfl (fun _ h => h.1.1) rfl ?_
              · first | trivial | (simp [AllOb, Ob.P]; done) | (simp [AllOb, Ob.P] <;> rfl)
              refine RunD.adv tb_ok (by kernel_rfl) [] rfl rfl (by simp <;> omega) ?_
              refine RunD.step tb_ok (i := 7) rfl (by kernel_rfl) rfl rfl rfl ?_ rfl (fun _ h => h.1.1) rfl ?_
              · first | trivial | (simp [AllOb, Ob.P]; done) | (simp [AllOb, Ob.P] <;> rfl)
              refine RunD.done (.inl rfl) (by kernel_rfl) ?_
              refine RunH.meetS (((A1, c1), (B1, d1)), ((A3, c3), (B3, d3)), M0, (M0 + 1)) [(2, 4), (3, 5), (4, 6), (5, 7), (6, 2), (7, 3)] (.head _) ?_ ?_ ?_ ?_
              · rfl
              · rfl
              · rfl
              · exact fun w h => h.1.1
          · refine opD_step tb_ok (nx := 2) (i := 5) rfl rfl rfl rfl ?_ rfl (fun _ h => h) ⟨rfl, rfl⟩ ?_
            · first | trivial | (simp [AllOb, Ob.P]; done) | (simp [AllOb, Ob.P] <;> rfl)
            refine RunD.adv tb_ok (by kernel_rfl) [] rfl rfl (by simp <;> omega) ?_
            refine RunD.two (i := 1) (j := 4) (by kernel_rfl) ?_ ?_
            · refine opD_go (i := 1) rfl rfl (OpGo.doesB (fo := .func 16) [] 3 (fun y => spV s y) rfl rfl rfl rfl Tryz.call16 (r07_Own s hs1 hs2) rfl rfl (fun u hu => hs.ext hu.fact) (fun _ => rfl) (fun _ => rfl)) 5 (fun _ => rfl) (fun _ _ h => h.1) ?_
              rintro ⟨⟨A1, c1⟩, ⟨B1, d1⟩⟩ n1 hn1
              refine RunD.adv tb_ok (by kernel_rfl) [] rfl rfl (by simp <;> omega) ?_
              refine RunD.two (i := 3) (j := 4) (by kernel_rfl) ?_ ?_
              · refine opD_go (i := 3) rfl rfl (OpGo.doesB (fo := .func 16) [] 5 (fun y => spV t y) rfl rfl rfl rfl Tryz.call16 (r07_Own t ht1 ht2) rfl rfl (fun u hu => ht.ext hu.fact.1) (fun _ => rfl) (fun _ => rfl)) 7 (fun _ => rfl) (fun _ _ h => h.1.1) ?_
                rintro ⟨⟨A3, c3⟩, ⟨B3, d3⟩⟩ n3 hn3
                refine RunD.adv tb_ok (by kernel_rfl) [] rfl rfl (by simp <;> omega) ?_
                refine RunD.step tb_ok (i := 4) rfl (by kernel_rfl) rfl rfl rfl ?_ rfl (fun _ h => h.1.1) ⟨rfl, rfl⟩ ?_
                · first | trivial | (simp [AllOb, Ob.P]; done) | (simp [AllOb, Ob.P] <;> rfl)
                refine RunD.adv tb_ok (by kernel_rfl) [] rfl rfl (by simp <;> omega) ?_
                refine RunD.step tb_ok (i := 6) rfl (by kernel_rfl) rfl rfl rfl ?_ rfl (fun _ h => h.1.1) rfl ?_
                · first | trivial | (simp [AllOb, Ob.P]; done) | (simp [AllOb, Ob.P] <;> rfl)
                refine RunD.adv tb_ok (by kernel_rfl) [] rfl rfl (by simp <;> omega) ?_
                refine RunD.step tb_ok (i := 7) rfl (by kernel_rfl) rfl rfl rfl ?_ rfl (fun _ h => h.1.1) rfl ?_
                · first | trivial | (simp [AllOb, Ob.P]; done) | (simp [AllOb, Ob.P] <;> rfl)
                refine RunD.done (.inl rfl) (by kernel_rfl) ?_
                refine RunH.meetS (((A1, c1), (B1, d1)), ((A3, c3), (B3, d3)), n3, M0) [(2, 3), (3, 4), (4, 5), (5, 6), (6, 7), (7, 2)] (.head _) ?_ ?_ ?_ ?_
                · rfl
                · rfl
                · rfl
                · exact fun w h => h.1.1
              · refine opD_step tb_ok (nx := 5) (i := 4) rfl rfl rfl rfl ?_ rfl (fun _ h => h.1) ⟨rfl, rfl⟩ ?_
                · first | trivial | (simp [AllOb, Ob.P]; done) | (simp [AllOb, Ob.P] <;> rfl)
                refine RunD.adv tb_ok (by kernel_rfl) [] rfl rfl (by simp <;> omega) ?_
                refine RunD.doesB (i := 3) [] 8 (fun y => spV t y) rfl (by kernel_rfl) rfl rfl rfl rfl Tryz.call16 (r07_Own t ht1 ht2) rfl rfl (fun _ => rfl) (fun _ => rfl) (fun u hu => ht.ext hu.fact.1) (fun _ => rfl) (fun _ h => h.1) ?_
                rintro ⟨⟨A3, c3⟩, ⟨B3, d3⟩⟩ n3 hn3
                refine RunD.adv tb_ok (by kernel_rfl) [] rfl rfl (by simp <;> omega) ?_
                refine RunD.step tb_ok (i := 6) rfl (by kernel_rfl) rfl rfl rfl ?_ rfl (fun _ h => h.1.1) rfl ?_
                · first | trivial | (simp [AllOb, Ob.P]; done) | (simp [AllOb, Ob.P] <;> rfl)
                refine RunD.adv tb_ok (by kernel_rfl) [] rfl rfl (by simp <;> omega) ?_
                refine RunD.step tb_ok (i := 7) rfl (by kernel_rfl) rfl rfl rfl ?_ rfl (fun _ h => h.1.1) rfl ?_
                · first | trivial | (simp [AllOb, Ob.P]; done) | (simp [AllOb, Ob.P] <;> rfl)
                refine RunD.done (.inl rfl) (by kernel_rfl) ?_
                refine RunH.meetS (((A1, c1), (B1, d1)), ((A3, c3), (B3, d3)), n1, M0) [(2, 3), (3, 4), (4, 6), (5, 7), (6, 5), (7, 2)] (.head _) ?_ ?_ ?_ ?_
                · rfl
                · rfl
                · rfl
                · exact fun w h => h.1.1
            · refine opD_step tb_ok (nx := 3) (i := 4) rfl rfl rfl rfl ?_ rfl (fun _ h => h) ⟨rfl, rfl⟩ ?_
              · first | trivial | (simp [AllOb, Ob.P]; done) | (simp [AllOb, Ob.P] <;> rfl)
              refine RunD.adv tb_ok (by kernel_rfl) [] rfl rfl (by simp <;> omega) ?_
              refine RunD.doesB (i := 1) [] 6 (fun y => spV s y) rfl (by kernel_rfl) rfl rfl rfl rfl Tryz.call16 (r07_Own s hs1 hs2) rfl rfl (fun _ => rfl) (fun _ => rfl) (fun u hu => hs.ext hu.fact) (fun _ => rfl) (fun _ h => h) ?_
              rintro ⟨⟨A1, c1⟩, ⟨B1, d1⟩⟩ n1 hn1
              refine RunD.adv tb_ok (by kernel_rfl) [] rfl rfl (by simp <;> omega) ?_
              refine RunD.doesB (i := 3) [] 8 (fun y => spV t y) rfl (by kernel_rfl) rfl rfl rfl rfl Tryz.call16 (r07_Own t ht1 ht2) rfl rfl (fun _ => rfl) (fun _ => rfl) (fun u hu => ht.ext hu.fact.1) (fun _ => rfl) (fun _ h => h.1) ?_
              rintro ⟨⟨A3, c3⟩, ⟨B3, d3⟩⟩ n3 hn3
              refine RunD.adv tb_ok (by kernel_rfl) [] rfl rfl (by simp <;> omega) ?_
              refine RunD.step tb_ok (i := 6) rfl (by kernel_rfl) rfl rfl rfl ?_ rfl (fun _ h => h.1.1) rfl ?_
              · first | trivial | (simp [AllOb, Ob.P]; done) | (simp [AllOb, Ob.P] <;> rfl)
              refine RunD.adv tb_ok (by kernel_rfl) [] rfl rfl (by simp <;> omega) ?_
              refine RunD.step tb_ok (i := 7) rfl (by kernel_rfl) rfl rfl rfl ?_ rfl (fun _ h => h.1.1) rfl ?_
              · first | trivial | (simp [AllOb, Ob.P]; done) | (simp [AllOb, Ob.P] <;> rfl)
              refine RunD.done (.inl rfl) (by kernel_rfl) ?_
              refine RunH.meetS (((A1, c1), (B1, d1)), ((A3, c3), (B3, d3)), (M0 + 1), M0) [(2, 4), (3, 5), (4, 6), (5, 7), (6, 3), (7, 2)] (.head _) ?_ ?_ ?_ ?_
              · rfl
              · rfl
              · rfl
              · exact fun w h => h.1.1
        rintro ⟨⟨⟨A1, c1⟩, ⟨B1, d1⟩⟩, ⟨⟨A3, c3⟩, ⟨B3, d3⟩⟩, b7, b8⟩ m3
        refine RunH.toNx 8 ?_
        refine RunH.adv tb_ok [] rfl rfl (by simp <;> omega) ?_
        refine RunH.doesB [] 10 (hc := Tryz.call33) (ho := rfl) (hw := rfl) (hd := rfl) (hf := rfl) (hes := rfl) (hσ := rfl) (hn := rfl) (hV := fun _ => rfl) (hG := fun _ => rfl) (e := fun z : (Option Addr × Nat) × (Option Addr × Nat) => .av (.val (.tuple #[.agg #[.slice z.1.1 T0.length z.1.2, .slice z.2.1 Y0.length z.2.2], intV e0]))) (hC := hA0 A1 c1 B1 d1) (hp := fun u hu => ⟨(hG.ext hu.fact).max, ⟨Sl.own (B := w.heap.size) (hu.row (κ := kEntry) (l := s.t.l) (id := 2) rfl) (by show (s.t.l : List Entry).length ≤ lim; omega), Sl.own (B := w.heap.size) (hu.row (κ := kEntry) (l := s.y.l) (id := 3) rfl) (by show (s.y.l : List Entry).length ≤ lim; omega)⟩⟩) ?_
        rintro ⟨⟨A0a, c0a⟩, ⟨B0a, d0a⟩⟩ ma0 hma0
        refine RunH.drop ?_
        refine RunH.adv tb_ok [] rfl rfl (by simp <;> omega) ?_
        refine RunH.tell [(38, .st [.val (.slice A0a T0.length c0a), .val (.slice B0a Y0.length d0a)]), (39, intE e0), (9, .av (.box 10 ma0 0)), (2, strE p), (3, .av (.box 0 w.heap.size 0)), (4, .av (.box 1 (w.heap.size + 1) 0)), (7, .av (.box 6 b7 0)), (8, .av (.box 7 b8 0))] [(8, rowE kEntry A0a c0a T0), (9, rowE kEntry B0a d0a Y0), (10, some (.box ma0 [.val (.slice none 0 0), .val (.slice none 0 0)] 24)), (0, some (.box w.heap.size [s.t.av, s.y.av] 24)), (1, some (.box (w.heap.size + 1) [t.t.av, t.y.av] 24)), (2, rowE kEntry A1 c1 s.t.l), (3, rowE kEntry B1 d1 s.y.l), (4, rowE kEntry A3 c3 t.t.l), (5, rowE kEntry B3 d3 t.y.l), (6, some (.box b7 [.val (.slice A1 s.t.l.length c1), .val (.slice B1 s.y.l.length d1)] 24)), (7, some (.box b8 [.val (.slice A3 t.t.l.length c3), .val (.slice B3 t.y.l.length d3)] 24))] [] rfl rfl rfl 11 ?_
        refine RunH.adv tb_ok [] rfl rfl (by simp <;> omega) ?_
        refine RunH.doesB [] 13 (hc := Tryz.call34) (ho := rfl) (hw := rfl) (hd := rfl) (hf := rfl) (hes := rfl) (hσ := rfl) (hn := rfl) (hV := fun _ => rfl) (hG := fun _ => rfl) (e := fun z : (Option Addr × Nat) × (Option Addr × Nat) => .av (.val (.tuple #[.agg #[.slice z.1.1 T0.length z.1.2, .slice z.2.1 Y0.length z.2.2], intV e0]))) (hC := hB0) (hp := fun u hu => hs.ext hu.fact) ?_
        rintro ⟨⟨A0b, c0b⟩, ⟨B0b, d0b⟩⟩ mb0 hmb0
        refine RunH.drop ?_
        refine RunH.adv tb_ok [] rfl rfl (by simp <;> omega) ?_
        refine RunH.tell [(44, .st [.val (.slice A0b T0.length c0b), .val (.slice B0b Y0.length d0b)]), (45, intE e0), (11, .av (.box 13 mb0 0)), (9, .av (.box 10 ma0 0)), (10, intE e0), (2, strE p), (3, .av (.box 0 w.heap.size 0)), (4, .av (.box 1 (w.heap.size + 1) 0)), (7, .av (.box 6 b7 0)), (8, .av (.box 7 b8 0))] [(11, rowE kEntry A0b c0b T0), (12, rowE kEntry B0b d0b Y0), (13, some (.box mb0 [.val (.slice none 0 0), .val (.slice none 0 0)] 24)), (10, some (.box ma0 [.val (.slice A0a T0.length c0a), .val (.slice B0a Y0.length d0a)] 24)), (8, rowE kEntry A0a c0a T0), (9, rowE kEntry B0a d0a Y0), (0, some (.box w.heap.size [s.t.av, s.y.av] 24)), (1, some (.box (w.heap.size + 1) [t.t.av, t.y.av] 24)), (2, rowE kEntry A1 c1 s.t.l), (3, rowE kEntry B1 d1 s.y.l), (4, rowE kEntry A3 c3 t.t.l), (5, rowE kEntry B3 d3 t.y.l), (6, some (.box b7 [.val (.slice A1 s.t.l.length c1), .val (.slice B1 s.y.l.length d1)] 24)), (7, some (.box b8 [.val (.slice A3 t.t.l.length c3), .val (.slice B3 t.y.l.length d3)] 24))] [] rfl rfl rfl 14 ?_
        refine RunH.adv tb_ok [] rfl rfl (by simp <;> omega) ?_
        refine RunH.doesB [] 16 (hc := Tryz.call35) (ho := rfl) (hw := rfl) (hd := rfl) (hf := rfl) (hes := rfl) (hσ := rfl) (hn := rfl) (hV := fun _ => rfl) (hG := fun _ => rfl) (e := fun z : (Option Addr × Nat) × (Option Addr × Nat) => .av (.val (.tuple #[.agg #[.slice z.1.1 T1.length z.1.2, .slice z.2.1 Y1.length z.2.2], intV e1]))) (hC := hA1 A1 c1 B1 d1 A3 c3 B3 d3) (hp := fun u hu => ⟨(hG.ext hu.fact).max, ⟨Sl.own (B := w.heap.size) (hu.row (κ := kEntry) (l := s.t.l) (id := 2) rfl) (by show (s.t.l : List Entry).length ≤ lim; omega), Sl.own (B := w.heap.size) (hu.row (κ := kEntry) (l := s.y.l) (id := 3) rfl) (by show (s.y.l : List Entry).length ≤ lim; omega)⟩, ⟨Sl.own (B := w.heap.size) (hu.row (κ := kEntry) (l := t.t.l) (id := 4) rfl) (by show (t.t.l : List Entry).length ≤ lim; omega), Sl.own (B := w.heap.size) (hu.row (κ := kEntry) (l := t.y.l) (id := 5) rfl) (by show (t.y.l : List Entry).length ≤ lim; omega)⟩⟩) ?_
        rintro ⟨⟨A1a, c1a⟩, ⟨B1a, d1a⟩⟩ ma1 hma1
        refine RunH.drop ?_
        refine RunH.adv tb_ok [] rfl rfl (by simp <;> omega) ?_
        refine RunH.tell [(51, .st [.val (.slice A1a T1.length c1a), .val (.slice B1a Y1.length d1a)]), (52, intE e1), (13, .av (.box 16 ma1 0)), (9, .av (.box 10 ma0 0)), (10, intE e0), (11, .av (.box 13 mb0 0)), (12, intE e0), (2, strE p), (3, .av (.box 0 w.heap.size 0)), (4, .av (.box 1 (w.heap.size + 1) 0)), (7, .av (.box 6 b7 0)), (8, .av (.box 7 b8 0))] [(14, rowE kEntry A1a c1a T1), (15, rowE kEntry B1a d1a Y1), (16, some (.box ma1 [.val (.slice none 0 0), .val (.slice none 0 0)] 24)), (10, some (.box ma0 [.val (.slice A0a T0.length c0a), .val (.slice B0a Y0.length d0a)] 24)), (8, rowE kEntry A0a c0a T0), (9, rowE kEntry B0a d0a Y0), (13, some (.box mb0 [.val (.slice A0b T0.length c0b), .val (.slice B0b Y0.length d0b)] 24)), (11, rowE kEntry A0b c0b T0), (12, rowE kEntry B0b d0b Y0), (0, some (.box w.heap.size [s.t.av, s.y.av] 24)), (1, some (.box (w.heap.size + 1) [t.t.av, t.y.av] 24)), (2, rowE kEntry A1 c1 s.t.l), (3, rowE kEntry B1 d1 s.y.l), (4, rowE kEntry A3 c3 t.t.l), (5, rowE kEntry B3 d3 t.y.l), (6, some (.box b7 [.val (.slice A1 s.t.l.length c1), .val (.slice B1 s.y.l.length d1)] 24)), (7, some (.box b8 [.val (.slice A3 t.t.l.length c3), .val (.slice B3 t.y.l.length d3)] 24))] [] rfl rfl rfl 17 ?_
        refine RunH.adv tb_ok [] rfl rfl (by simp <;> omega) ?_
        refine RunH.doesB [] 19 (hc := Tryz.call36) (ho := rfl) (hw := rfl) (hd := rfl) (hf := rfl) (hes := rfl) (hσ := rfl) (hn := rfl) (hV := fun _ => rfl) (hG := fun _ => rfl) (e := fun z : (Option Addr × Nat) × (Option Addr × Nat) => .av (.val (.tuple #[.agg #[.slice z.1.1 T1.length z.1.2, .slice z.2.1 Y1.length z.2.2], intV e1]))) (hC := hB1) (hp := fun u hu => ⟨hs.ext hu.fact, ht.ext hu.fact⟩) ?_
        rintro ⟨⟨A1b, c1b⟩, ⟨B1b, d1b⟩⟩ mb1 hmb1
        refine RunH.drop ?_
        refine RunH.adv tb_ok [] rfl rfl (by simp <;> omega) ?_
        refine RunH.tell [(58, .st [.val (.slice A1b T1.length c1b), .val (.slice B1b Y1.length d1b)]), (59, intE e1), (15, .av (.box 19 mb1 0)), (9, .av (.box 10 ma0 0)), (10, intE e0), (11, .av (.box 13 mb0 0)), (12, intE e0), (13, .av (.box 16 ma1 0)), (14, intE e1), (2, strE p), (3, .av (.box 0 w.heap.size 0)), (4, .av (.box 1 (w.heap.size + 1) 0)), (7, .av (.box 6 b7 0)), (8, .av (.box 7 b8 0))] [(17, rowE kEntry A1b c1b T1), (18, rowE kEntry B1b d1b Y1), (19, some (.box mb1 [.val (.slice none 0 0), .val (.slice none 0 0)] 24)), (10, some (.box ma0 [.val (.slice A0a T0.length c0a), .val (.slice B0a Y0.length d0a)] 24)), (8, rowE kEntry A0a c0a T0), (9, rowE kEntry B0a d0a Y0), (13, some (.box mb0 [.val (.slice A0b T0.length c0b), .val (.slice B0b Y0.length d0b)] 24)), (11, rowE kEntry A0b c0b T0), (12, rowE kEntry B0b d0b Y0), (16, some (.box ma1 [.val (.slice A1a T1.length c1a), .val (.slice B1a Y1.length d1a)] 24)), (14, rowE kEntry A1a c1a T1), (15, rowE kEntry B1a d1a Y1), (0, some (.box w.heap.size [s.t.av, s.y.av] 24)), (1, some (.box (w.heap.size + 1) [t.t.av, t.y.av] 24)), (2, rowE kEntry A1 c1 s.t.l), (3, rowE kEntry B1 d1 s.y.l), (4, rowE kEntry A3 c3 t.t.l), (5, rowE kEntry B3 d3 t.y.l), (6, some (.box b7 [.val (.slice A1 s.t.l.length c1), .val (.slice B1 s.y.l.length d1)] 24)), (7, some (.box b8 [.val (.slice A3 t.t.l.length c3), .val (.slice B3 t.y.l.length d3)] 24))] [] rfl rfl rfl 20 ?_
        refine RunH.adv tb_ok [] rfl rfl (by simp <;> omega) ?_
        refine RunH.gives (ho := rfl) (hw := rfl) (hd := rfl) (hf := rfl) (hes := rfl) (hc := Tryz.call22) (e := boolE (decide (T0 = T0) && decide (Y0 = Y0))) (hC := fun u hu => r07_Same u ⟨⟨A0a, c0a, T0⟩, ⟨B0a, d0a, Y0⟩⟩ ⟨⟨A0b, c0b, T0⟩, ⟨B0b, d0b, Y0⟩⟩ ⟨Sl.own (B := w.heap.size) (hu.row (κ := kEntry) (l := T0) (id := 8) rfl) (by show (T0 : List Entry).length ≤ lim; omega), Sl.own (B := w.heap.size) (hu.row (κ := kEntry) (l := Y0) (id := 9) rfl) (by show (Y0 : List Entry).length ≤ lim; omega)⟩ ⟨Sl.own (B := w.heap.size) (hu.row (κ := kEntry) (l := T0) (id := 11) rfl) (by show (T0 : List Entry).length ≤ lim; omega), Sl.own (B := w.heap.size) (hu.row (κ := kEntry) (l := Y0) (id := 12) rfl) (by show (Y0 : List Entry).length ≤ lim; omega)⟩) ?_
        intro mc0 hmc0
        refine RunH.adv tb_ok [true, true] rfl rfl (by simp <;> omega) ?_
        refine RunH.gives (ho := rfl) (hw := rfl) (hd := rfl) (hf := rfl) (hes := rfl) (hc := Tryz.call22) (e := boolE (decide (T1 = T1) && decide (Y1 = Y1))) (hC := fun u hu => r07_Same u ⟨⟨A1a, c1a, T1⟩, ⟨B1a, d1a, Y1⟩⟩ ⟨⟨A1b, c1b, T1⟩, ⟨B1b, d1b, Y1⟩⟩ ⟨Sl.own (B := w.heap.size) (hu.row (κ := kEntry) (l := T1) (id := 14) rfl) (by show (T1 : List Entry).length ≤ lim; omega), Sl.own (B := w.heap.size) (hu.row (κ := kEntry) (l := Y1) (id := 15) rfl) (by show (Y1 : List Entry).length ≤ lim; omega)⟩ ⟨Sl.own (B := w.heap.size) (hu.row (κ := kEntry) (l := T1) (id := 17) rfl) (by show (T1 : List Entry).length ≤ lim; omega), Sl.own (B := w.heap.size) (hu.row (κ := kEntry) (l := Y1) (id := 18) rfl) (by show (Y1 : List Entry).length ≤ lim; omega)⟩) ?_
        intro mc1 hmc1
        refine RunH.adv tb_ok [true] rfl rfl (by simp <;> omega) ?_
        refine RunH.doesB [(0, 8), (1, 9)] 30 (hc := Tryz.call37) (ho := rfl) (hw := rfl) (hd := rfl) (hf := rfl) (hes := rfl) (hσ := rfl) (hn := rfl) (hV := fun _ => rfl) (hG := fun _ => rfl) (e := fun _ : Unit => .av (.val (.tuple #[]))) (hC := spoil_spec A0a B0a c0a d0a T0 Y0) (hp := fun _ _ => trivial) ?_
        rintro ⟨⟩ md0 hmd0
        refine RunH.drop ?_
        refine RunH.adv tb_ok [] rfl rfl (by simp <;> omega) ?_
        refine RunH.doesB [(0, 14), (1, 15)] 31 (hc := Tryz.call37) (ho := rfl) (hw := rfl) (hd := rfl) (hf := rfl) (hes := rfl) (hσ := rfl) (hn := rfl) (hV := fun _ => rfl) (hG := fun _ => rfl) (e := fun _ : Unit => .av (.val (.tuple #[]))) (hC := spoil_spec A1a B1a c1a d1a T1 Y1) (hp := fun _ _ => trivial) ?_
        rintro ⟨⟩ md1 hmd1
        refine RunH.drop ?_
        refine RunH.adv tb_ok [true] rfl rfl (by simp <;> omega) ?_
        refine RunH.gives (ho := rfl) (hw := rfl) (hd := rfl) (hf := rfl) (hes := rfl) (hc := Tryz.call22) (e := boolE (decide (s.t.l = s.t.l) && decide (s.y.l = s.y.l))) (hC := fun u hu => r07_Same u ⟨⟨A1, c1, s.t.l⟩, ⟨B1, d1, s.y.l⟩⟩ s ⟨Sl.own (B := w.heap.size) (hu.row (κ := kEntry) (l := s.t.l) (id := 2) rfl) (by show (s.t.l : List Entry).length ≤ lim; omega), Sl.own (B := w.heap.size) (hu.row (κ := kEntry) (l := s.y.l) (id := 3) rfl) (by show (s.y.l : List Entry).length ≤ lim; omega)⟩ (hs.ext hu.fact)) ?_
        intro m9 hm9
        refine RunH.adv tb_ok [true] rfl rfl (by simp <;> omega) ?_
        refine RunH.gives (ho := rfl) (hw := rfl) (hd := rfl) (hf := rfl) (hes := rfl) (hc := Tryz.call22) (e := boolE (decide (t.t.l = t.t.l) && decide (t.y.l = t.y.l))) (hC := fun u hu => r07_Same u ⟨⟨A3, c3, t.t.l⟩, ⟨B3, d3, t.y.l⟩⟩ t ⟨Sl.own (B := w.heap.size) (hu.row (κ := kEntry) (l := t.t.l) (id := 4) rfl) (by show (t.t.l : List Entry).length ≤ lim; omega), Sl.own (B := w.heap.size) (hu.row (κ := kEntry) (l := t.y.l) (id := 5) rfl) (by show (t.y.l : List Entry).length ≤ lim; omega)⟩ (ht.ext hu.fact)) ?_
        intro m10 hm10
        refine RunH.adv tb_ok [true] rfl rfl (by simp <;> omega) ?_
        refine RunH.gives (ho := rfl) (hw := rfl) (hd := rfl) (hf := rfl) (hes := rfl) (hc := Tryz.call15) (e := .tt) (hC := fun u hu => awake_spec u (hG.ext hu.fact)) ?_
        intro mA hmA
        refine RunH.adv tb_ok [] rfl rfl (by simp <;> omega) ?_
        refine RunH.ret1 Tryz.func6 rfl rfl fun u hu => ⟨rfl, hu.fact⟩
end Go.Proofs.YtagnkcdhenilbaaGreatDoor

/-
SpaceParts: the law is true for every input; the listed variables hold what the program's text lays.
-/
namespace Go.Proofs.YtagnkcdhenilbaaGreatDoor
open Go V RowKit Go.ChangeShapes Go.WideShapes Go.ChangeAt

set_option maxRecDepth 100000 in
theorem spaceParts_lifted (os : Os) (started : os.Started) (H : Type) (enc : TypeId × Value → H) :
    ReturnsInHanded {} Tryz.checked os 6 .any (fun w args => (Rows.spacePartsSpec.pre enc Tryz.prog Tryz.f6 [] false w args ∧ laidMetH Tryz.prog Rows.spacePartsRow.laid w) ∧ sizedMet enc Tryz.prog Tryz.f6 (OpenSpec.ofChange Rows.spacePartsSpec) false w args)
      (Rows.spacePartsSpec.post enc Tryz.prog Tryz.f6 false true false false) := by
  refine wrap (C := Tryz.checked) (X := fun w _ => laidMetH Tryz.prog Rows.spacePartsRow.laid w) (fun _ _ _ hh h => h.of_heap hh) ownKnobs started (by kernel_rfl) Tryz.func6
    (ChangeSpec.witness_shaped (enc := enc) (C := Tryz.checked) (os := os) (X := fun w _ => laidMetH Tryz.prog Rows.spacePartsRow.laid w) false (World.laidAll Tryz.prog os Rows.spacePartsRow.laid)
      #[.agg #[.slice none 0 0, .slice none 0 0], .agg #[.slice none 0 0, .slice none 0 0], .string ⟨#[]⟩] 8 (World.laidAll_os _ _ _)
      (World.shaped_of_ZipB (by kernel_rfl) (by kernel_rfl)) (by kernel_rfl) (by kernel_rfl) (by kernel_rfl)
      (by rw [MakeChecks.laidMetH_plain _ _ _ (by kernel_rfl)]; exact laidMet_laidAll _ (by kernel_rfl) (by kernel_rfl))) ?_
  intro W base args ds gs before hval0 hW hsz0 hL hS
  have hval : ∀ (j : Nat) t v, Tryz.f6.params[j]? = some t → args[j]? = some v → Value.okWide Tryz.prog W .any base t v := hval0
  have hsz : (DataW.weightsEach Tryz.prog (Tryz.f6.params.toList ++ Rows.spacePartsSpec.plain.varTypes Tryz.prog) (ds ++ gs)).all (· ≤ reachBytes) = true := hsz0
  have hW' := hW
  obtain ⟨p, q, hA0, hV, rfl, _, _⟩ := hW
  have hA : DataW.TrodAll enc Tryz.prog W 0 (fun _ => true) true Tryz.f6.params.toList args.toList ds p := hA0
  rw [Tryz.params6] at hA hval hsz
  obtain ⟨v0, v1, v2, d0, d1, d2, p0, p1, p2, rfl, rfl, rfl, h0, h1, h2⟩ := trodAll_three hA
  obtain ⟨rfl, rfl⟩ := trodVars_none hV
  have wt : ∀ {j : Nat} {t : TypeId} {d : DataW H}, [24, 24, 9][j]? = some t → [d0, d1, d2][j]? = some d → ∀ n ∈ d.weights Tryz.prog t, n ≤ reachBytes := by
    intro j t d ht hd n hn
    exact of_decide_eq_true (List.all_eq_true.1 hsz _ (DataW.weights_mem_each ht hd n hn))
  obtain ⟨x0, rfl, hx0⟩ := open_space h0 (wt (j := 0) rfl rfl) ((okWide_struct Tryz.underlying24 (hval 0 _ v0 rfl rfl)).imp fun _ h => h.1)
  obtain ⟨x1, rfl, hx1⟩ := open_space h1 (wt (j := 1) rfl rfl) ((okWide_struct Tryz.underlying24 (hval 1 _ v1 rfl rfl)).imp fun _ h => h.1)
  obtain ⟨x2, rfl, _, _, _⟩ := ChangeMaps.open_string Tryz.underlying9 (hval 2 _ v2 rfl rfl) h2
  refine (parts_walk W (glob_of hS (show laidMetH Tryz.prog Rows.spaceChecksRow.laid W from hL)) x0 x1 hx0 hx1 x2.data.toList).mono fun e W' ⟨he, hb⟩ => ?_
  subst he
  exact ⟨_, rfl, _, _, _, [], _, [], hW', trodAll_mk1 (shut_bool Tryz.underlying4 _),
    trodAll_mk3 (Below.trod laidOuts (by kernel_rfl) (of_decide_eq_true (by kernel_rfl)) h0 hb (fun y hy => hW'.lt y (by simp [hy]))) (Below.trod laidOuts (by kernel_rfl) (of_decide_eq_true (by kernel_rfl)) h1 hb (fun y hy => hW'.lt y (by simp [hy]))) (Below.trod laidOuts (by kernel_rfl) (of_decide_eq_true (by kernel_rfl)) h2 hb (fun y hy => hW'.lt y (by simp [hy]))), rfl, hb.frame _, fun h => by cases h⟩

end Go.Proofs.YtagnkcdhenilbaaGreatDoor

/-
The closed facts of spaceParts's row and card, one by one; no condition.
-/
namespace Go.Proofs.YtagnkcdhenilbaaGreatDoor
open Go
theorem spaceParts_c0 : (Rows.spacePartsRow.wf (OpenSpec.ofChange Rows.spacePartsSpec) : Bool) = true := by kernel_rfl
theorem spaceParts_c1 : (laidOutB Tryz.prog : Bool) = true := by kernel_rfl
theorem spaceParts_c2 : (mapsRowed Tryz.prog : Bool) = true := by kernel_rfl
theorem spaceParts_c3 : (Tryz.f6.params.all (Tryz.prog.readableRec ·) : Bool) = true := by kernel_rfl
theorem spaceParts_c4 : (namedTie Tryz.prog Rows.spacePartsRow.named Rows.spacePartsSpec.vars : Bool) = true := by kernel_rfl
theorem spaceParts_c5 : (Rows.spacePartsRow.stops == [] : Bool) = true := by kernel_rfl
theorem spaceParts_c6 : (Tryz.prog.stops == [] : Bool) = true := by kernel_rfl
theorem spaceParts_c7 : (Rows.spacePartsRow.knobs == [] : Bool) = true := by kernel_rfl
theorem spaceParts_c8 : (Tryz.prog.stopKnobs == [] : Bool) = true := by kernel_rfl
theorem spaceParts_c9 : (Rows.spacePartsRow.inPlace == Tryz.prog.inPlace 6 : Bool) = true := by kernel_rfl
theorem spaceParts_c10 : (Rows.spacePartsRow.unfollowed == Tryz.prog.unfollowed 6 : Bool) = true := by kernel_rfl
theorem spaceParts_c11 : (Rows.spacePartsRow.recurses == Tryz.prog.recurses 6 : Bool) = true := by kernel_rfl
theorem spaceParts_c12 : (Rows.spacePartsRow.named == Tryz.prog.varsNamed 6 : Bool) = true := by kernel_rfl
theorem spaceParts_c13 : (Rows.spacePartsRow.maps == (Tryz.f6.params.toList ++ Rows.spacePartsSpec.plain.varTypes Tryz.prog).any (Tryz.prog.mapsRec ·) : Bool) = true := by kernel_rfl
theorem spaceParts_c14 : (Rows.spacePartsRow.ifaces == (Tryz.f6.params.toList ++ Rows.spacePartsSpec.plain.varTypes Tryz.prog).any (Tryz.prog.ifacesRec ·) : Bool) = true := by kernel_rfl
theorem spaceParts_c15 : (Rows.spacePartsRow.mapsOut == Tryz.prog.mapsAmong Tryz.f6.resultTypes.toList : Bool) = true := by kernel_rfl
theorem spaceParts_c16 : (Rows.spacePartsRow.loops == (Tryz.f6.params.toList ++ Rows.spacePartsSpec.plain.varTypes Tryz.prog).any (Tryz.prog.loopsFrom ·) : Bool) = true := by kernel_rfl
theorem spaceParts_c17 : (Rows.spacePartsRow.wideKeys == (Tryz.f6.params.toList ++ Rows.spacePartsSpec.plain.varTypes Tryz.prog ++ Tryz.f6.resultTypes.toList).any (Tryz.prog.wideKeysFrom ·) : Bool) = true := by kernel_rfl
theorem spaceParts_c18 : (Rows.spacePartsSpec.vars.all (Tryz.prog.varReadable ·) : Bool) = true := by kernel_rfl
theorem spaceParts_c19 : (Tryz.f6.resultTypes.all (fun t => Tryz.prog.readableRec t && decide (t < Tryz.prog.types.size)) : Bool) = true := by kernel_rfl
theorem spaceParts_c20 : (Rows.spacePartsRow.ifacesOut == Tryz.f6.resultTypes.toList.any (Tryz.prog.ifacesRec ·) : Bool) = true := by kernel_rfl
theorem spaceParts_c21 : (Rows.spacePartsRow.loopsOut == Tryz.f6.resultTypes.toList.any (Tryz.prog.loopsFrom ·) : Bool) = true := by kernel_rfl
theorem spaceParts_c22 : (Rows.spacePartsRow.plainKeys == Tryz.prog.plainKeys : Bool) = true := by kernel_rfl
theorem spaceParts_c23 : (Rows.spacePartsRow.shortTexts.isNone : Bool) = true := by kernel_rfl
theorem spaceParts_c24 : (Tryz.prog.stopsHeard : Bool) = true := by kernel_rfl
theorem spaceParts_c25 : (Tryz.prog.mayEnter : Bool) = true := by kernel_rfl
theorem spaceParts_c26 : (Rows.spacePartsRow.lifted == Tryz.prog.liftsFinal : Bool) = true := by kernel_rfl
theorem spaceParts_c27 : (Tryz.prog.make == some Rows.spacePartsRow.make : Bool) = true := by kernel_rfl
theorem spaceParts_c28 : (Rows.spacePartsRow.kinds == (if Rows.spacePartsRow.domain.isEmpty then [] else Tryz.f6.params.toList.map fun t => match Tryz.prog.underlying t with | some (.int k) => some k | _ => none) : Bool) = true := by kernel_rfl
theorem spaceParts_c29 : (Rows.spacePartsRow.pinned == Rows.spacePartsRow.pinnedBy : Bool) = true := by kernel_rfl
theorem spaceParts_c30 : (Rows.spacePartsRow.veiled == (Tryz.f6.params.toList ++ Rows.spacePartsSpec.plain.varTypes Tryz.prog ++ Tryz.f6.resultTypes.toList).any (Tryz.prog.veiledRec ·) : Bool) = true := by kernel_rfl
theorem spaceParts_c31 : (Rows.spacePartsRow.veiledFits Tryz.prog Tryz.f6.params.toList (Tryz.f6.params.toList ++ Rows.spacePartsSpec.plain.varTypes Tryz.prog ++ Tryz.f6.resultTypes.toList) : Bool) = true := by kernel_rfl
set_option maxRecDepth 100000 in
theorem spaceParts_joined : joinedFacts Tryz.prog 6 Tryz.f6 Rows.spacePartsSpec Rows.spacePartsRow = true :=
  joined_of spaceParts_c0 spaceParts_c1 spaceParts_c2 spaceParts_c3 spaceParts_c4 spaceParts_c5 spaceParts_c6 spaceParts_c7 spaceParts_c8 spaceParts_c9 spaceParts_c10 spaceParts_c11 spaceParts_c12 spaceParts_c13 spaceParts_c14 spaceParts_c15 spaceParts_c16 spaceParts_c17 spaceParts_c18 spaceParts_c19 spaceParts_c20 spaceParts_c21 spaceParts_c22 spaceParts_c23 spaceParts_c24 spaceParts_c25 spaceParts_c26 spaceParts_c27 spaceParts_c28 spaceParts_c29 spaceParts_c30 spaceParts_c31
theorem spaceParts_named : Tryz.prog.funcNamed "hoarstone/hoarstonelaw07.SpaceParts" = some 6 := by kernel_rfl
theorem spaceParts_inst : decide (Tryz.f6.isInstance Tryz.prog Rows.spacePartsRow.origin Rows.spacePartsRow.targs) = true := by kernel_rfl
theorem spaceParts_wfText : Rows.spacePartsRow.wfByText (OpenSpec.ofChange Rows.spacePartsSpec) = true := by kernel_rfl
theorem spaceParts_goes : (false = Rows.spacePartsRow.goesBy Tryz.prog) := by kernel_rfl
end Go.Proofs.YtagnkcdhenilbaaGreatDoor

/-
SpaceParts: the law is true for every input; its listed package variables hold what the program's text lays (the card ties them). No condition.
-/
namespace Go.Proofs.YtagnkcdhenilbaaGreatDoor
open Go
theorem spaceParts_wrapped : Tryz.f6.isWrapper Tryz.prog Rows.spacePartsRow.wrapper Rows.spacePartsRow.mainSum := by
  unfold Func.isWrapper; first | (rw [if_pos (by decide +kernel)]; kernel_rfl) | (rw [if_neg (by decide +kernel)]; exact ⟨rfl, rfl⟩)
theorem spaceParts_prog : Rows.spacePartsRow.program = Tryz.pinned.name := by kernel_rfl
theorem spaceParts_sum : Rows.spacePartsRow.sum = Tryz.pinned.sum := by kernel_rfl
theorem spaceParts_spec : Rows.spacePartsRow.spec = Rows.spacePartsSpec.name := by kernel_rfl
theorem spaceParts_holds : Rows.SpacePartsSaid :=
  OpenClaim.holds_of_wide 6 Tryz.f6 spaceParts_prog spaceParts_sum spaceParts_spec rfl rfl rfl rfl ⟨rfl, rfl, rfl, rfl, rfl⟩ rfl rfl rfl rfl rfl spaceParts_named Tryz.func6 spaceParts_joined
    (of_decide_eq_true spaceParts_inst) spaceParts_wrapped (fun os started H enc _ => spaceParts_lifted os started H enc)
theorem spaceParts_main : Tryz.prog.mainIs = some (Rows.spacePartsCard.stood.harness.1, Rows.spacePartsCard.stood.harness.2.toList) := by kernel_rfl
theorem spaceParts_har : (!Rows.spacePartsCard.stood.harness.1 && Rows.spacePartsCard.stood.harness.2.isEmpty && !false) = false := by kernel_rfl
theorem spaceParts_looks : false = Tryz.prog.looks [] := by kernel_rfl
theorem spaceParts_plain : ([24, 24, 9].all fun u => !Tryz.prog.wantsStandIn u) = true := by kernel_rfl
theorem spaceParts_card_holds : Rows.SpacePartsCardSaid :=
  Claim7.holds_tied_plain_at .later [] [.data, .data, .data, .pinned] true Rows.spacePartsCard.stood.harness false
    spaceParts_holds (fun _ h => by cases h) spaceParts_wfText (fun _ h => by cases h) spaceParts_row_tie rfl ⟨rfl, rfl⟩ spaceParts_main spaceParts_har
    (fun f fn hf hfn => by
      obtain rfl : f = 6 := (Option.some.inj (spaceParts_named.symm.trans hf)).symm
      obtain rfl : fn = Tryz.f6 := (Option.some.inj (Tryz.func6.symm.trans hfn)).symm
      exact ⟨spaceParts_looks, fun j t ht => by
        rw [Tryz.params6] at ht
        have hm : t ∈ [24, 24, 9] := by simpa using Array.mem_of_getElem? ht
        exact (show Tryz.prog.wantsStandIn t = false by simpa using List.all_eq_true.1 spaceParts_plain t hm)⟩)
    spaceParts_goes
#print axioms spaceParts_card_holds
end Go.Proofs.YtagnkcdhenilbaaGreatDoor
