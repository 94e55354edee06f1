/-
A part of the proof of SpacePlaces: for every input the law returns true, and what was passed in reads as before; the listed package variables hold what the program's text lays. No further condition.
-/
import Derived.Test.YtagnkcdhenilbaaGreatDoorRows
import Derived.Test.YtagnkcdhenilbaaGreatDoorCards
import Derived.KernelRfl
import Derived.Test.YtagnkcdhenilbaaGreatDoorTie
import Derived.SevenTiedAt
import Derived.Test.YtagnkcdhenilbaaGreatDoorKPA2
import Derived.Test.YtagnkcdhenilbaaGreatDoorKPK1
import Derived.Test.YtagnkcdhenilbaaGreatDoorKSMoves
import Derived.Test.YtagnkcdhenilbaaGreatDoorKP07i
import Derived.Test.YtagnkcdhenilbaaGreatDoorKR1
set_option linter.unusedVariables false
set_option linter.unusedSectionVars false
set_option linter.unusedSimpArgs false
namespace Go.Proofs.YtagnkcdhenilbaaGreatDoor
open Go V RowKit
set_option maxRecDepth 10000 in
set_option maxHeartbeats 2000000 in
theorem places_walk (w : World) (hG : Glob w) (NA : Option Addr) (nc : Nat) (nl : List UInt8) (hnl : Sl kByte w NA nc nl) (MA : Option Addr) (mc : Nat) (ml : List UInt8) (hml : Sl kByte w MA mc ml) :
    Gives Tryz.prog 8 [.slice NA nl.length nc, .slice MA ml.length mc] w .tt := by
  have hl : lim = 140737488351232 := rfl
  refine enterH tb_ok [(0, slE NA nl.length nc), (1, slE MA ml.length mc)] Tryz.func8 rfl Tryz.ntmps8 rfl rfl ?_
  refine RunH.adv tb_ok [] rfl rfl (by simp <;> omega) ?_
  refine RunH.doesB [] 2 (hc := Tryz.call39) (ho := rfl) (hw := rfl) (hd := rfl) (hf := rfl) (hes := rfl) (hσ := rfl) (hn := rfl) (hV := fun _ => rfl) (hG := fun _ => rfl) (e := fun y : Nat × Option Addr × Nat => .av (.box 0 y.1 0)) (hC := OfK_spec NA nc nl) (hp := fun u hu => hnl.ext hu.fact) ?_
  rintro ⟨b, SA, sc⟩ m1 hm1
  refine RunH.drop ?_
  refine RunH.adv tb_ok [] rfl rfl (by simp <;> omega) ?_
  refine RunH.doesB [(0, 0)] 5 (hc := Tryz.call38) (ho := rfl) (hw := rfl) (hd := rfl) (hf := rfl) (hes := rfl) (hσ := rfl) (hn := rfl) (hV := fun _ => rfl) (hG := fun _ => rfl) (e := fun y : (Nat × Int) × (Option Addr × Nat) × (Option Addr × Nat) × List Entry × List Entry => .st [.val (.slice y.2.1.1 y.2.2.2.1.length y.2.1.2), .val (.slice y.2.2.1.1 y.2.2.2.2.length y.2.2.1.2)]) (hC := Named_spec b ⟨SA, sc, nl.take 300, 0, 88172645463325252⟩ (by rw [List.length_take]; omega) (Nat.zero_le _) 8 (by decide)) (hp := fun u hu => Sl.own (B := w.heap.size) (hu.row (κ := kByte) (l := nl.take 300) (id := 1) rfl) (by rw [List.length_take]; omega)) ?_
  rintro ⟨z1, ⟨A1, c1⟩, ⟨B1, d1⟩, T, Y⟩ m2 hm2
  refine RunH.pure (fun u h => h.2) fun ⟨⟨hT, nT⟩, ⟨hY, nY⟩, _⟩ => ?_
  dsimp only at hT hY nT nY
  refine RunH.drop ?_
  refine RunH.adv tb_ok [] rfl rfl (by simp <;> omega) ?_
  refine RunH.doesB [] 7 (hc := Tryz.call39) (ho := rfl) (hw := rfl) (hd := rfl) (hf := rfl) (hes := rfl) (hσ := rfl) (hn := rfl) (hV := fun _ => rfl) (hG := fun _ => rfl) (e := fun y : Nat × Option Addr × Nat => .av (.box 5 y.1 0)) (hC := OfK_spec MA mc ml) (hp := fun u hu => hml.ext hu.fact) ?_
  rintro ⟨b2, SB, sd⟩ m3 hm3
  refine RunH.drop ?_
  refine RunH.adv tb_ok [] rfl rfl (by simp <;> omega) ?_
  refine RunH.doesB [(0, 5)] 10 (hc := Tryz.call38) (ho := rfl) (hw := rfl) (hd := rfl) (hf := rfl) (hes := rfl) (hσ := rfl) (hn := rfl) (hV := fun _ => rfl) (hG := fun _ => rfl) (e := fun y : (Nat × Int) × (Option Addr × Nat) × (Option Addr × Nat) × List Entry × List Entry => .st [.val (.slice y.2.1.1 y.2.2.2.1.length y.2.1.2), .val (.slice y.2.2.1.1 y.2.2.2.2.length y.2.2.1.2)]) (hC := Named_spec b2 ⟨SB, sd, ml.take 300, 0, 88172645463325252⟩ (by rw [List.length_take]; omega) (Nat.zero_le _) 8 (by decide)) (hp := fun u hu => Sl.own (B := w.heap.size) (hu.row (κ := kByte) (l := ml.take 300) (id := 6) rfl) (by rw [List.length_take]; omega)) ?_
  rintro ⟨z2, ⟨A2, c2⟩, ⟨B2, d2⟩, T2, Y2⟩ m4 hm4
  refine RunH.pure (fun u h => h.2) fun ⟨⟨hT2, nT2⟩, ⟨hY2, nY2⟩, _⟩ => ?_
  dsimp only at hT2 hY2 nT2 nY2
  refine RunH.drop ?_
  refine RunH.adv tb_ok [] rfl rfl (by simp <;> omega) ?_
  refine RunH.tell [(25, .st [.val (.slice A1 T.length c1), .val (.slice B1 Y.length d1)]), (26, .st [.val (.slice A2 T2.length c2), .val (.slice B2 Y2.length d2)]), (5, .av (.box 10 m4 0)), (6, .av (.box 11 (m4 + 1) 0))] [(3, rowE kEntry A1 c1 T), (4, rowE kEntry B1 d1 Y), (8, rowE kEntry A2 c2 T2), (9, rowE kEntry B2 d2 Y2), (10, some (.box m4 [.val (.slice A1 T.length c1), .val (.slice B1 Y.length d1)] 24)), (11, some (.box (m4 + 1) [.val (.slice A2 T2.length c2), .val (.slice B2 Y2.length d2)] 24))] [] rfl rfl rfl 12 ?_
  have hz1 := zz_okL hT hT2 (by omega) (by omega)
  have hz2 := zz_okL hY hY2 (by omega) (by omega)
  have lz1 := hz1.len
  have lz2 := hz2.len
  obtain ⟨i1, i2, i3⟩ := places_into hT hY hT2 hY2 (by omega) (by omega) (by omega) (by omega)
  obtain ⟨u1, u2, u3⟩ := places_under hT hY hT2 hY2 (by omega) (by omega) (by omega) (by omega)
  have tw := places_twice hT hY hT2 hY2 (by omega) (by omega) (by omega) (by omega)
  have in0 : ∀ l, inT 0 l = l := fun l => if_pos rfl
  have un0 : ∀ l, undL 0 l = l := fun l => if_pos rfl
  have hI := Into_spec ⟨⟨A1, c1, T⟩, ⟨B1, d1, Y⟩⟩ ⟨⟨A2, c2, T2⟩, ⟨B2, d2, Y2⟩⟩ ZZ (by show T.length ≤ _; omega) (by show Y.length ≤ _; omega) (by show T2.length ≤ _; omega) (by show Y2.length ≤ _; omega)
  dsimp only at hI
  rw [i1, i2, i3, in0, in0] at hI
  generalize hTa : zzL T T2 = Ta at *
  generalize hYa : zzL Y Y2 = Ya at *
  have hU := fun (Aa : Option Addr) (ca : Nat) (Ba : Option Addr) (da : Nat) => Under_all ⟨⟨Aa, ca, Ta⟩, ⟨Ba, da, Ya⟩⟩ ZZ (by show Ta.length ≤ _; omega) (by show Ya.length ≤ _; omega) (by decide)
  have hI2 := fun (Aa : Option Addr) (ca : Nat) (Ba : Option Addr) (da : Nat) => Into_spec ⟨⟨Aa, ca, Ta⟩, ⟨Ba, da, Ya⟩⟩ ⟨⟨A2, c2, T2⟩, ⟨B2, d2, Y2⟩⟩ ZZ (by show Ta.length ≤ _; omega) (by show Ya.length ≤ _; omega) (by show T2.length ≤ _; omega) (by show Y2.length ≤ _; omega)
  dsimp only at hU hI2
  rw [u1, u2, u3, un0, un0] at hU
  generalize inT (intoE Ta Ya T2 Y2 ZZ) (putL ZZ Ta T2) = Tq at *
  generalize inT (intoE Ta Ya T2 Y2 ZZ) (putL ZZ Ya Y2) = Yq at *
  generalize intoE Ta Ya T2 Y2 ZZ = eq at *
  refine RunH.doesB [] 14 (hc := Tryz.call35) (ho := rfl) (hw := rfl) (hd := rfl) (hf := rfl) (hes := rfl) (hσ := rfl) (hn := rfl) (hV := fun _ => rfl) (hG := fun _ => rfl) (e := fun z : (Option Addr × Nat) × (Option Addr × Nat) => .av (.val (.tuple #[.agg #[.slice z.1.1 Ta.length z.1.2, .slice z.2.1 Ya.length z.2.2], intV 0]))) (hC := hI) (hp := fun u hu => ⟨(hG.ext hu.fact).max, ⟨Sl.own (B := w.heap.size) (hu.row (κ := kEntry) (l := T) (id := 3) rfl) (by show (T : List Entry).length ≤ lim; omega), Sl.own (B := w.heap.size) (hu.row (κ := kEntry) (l := Y) (id := 4) rfl) (by show (Y : List Entry).length ≤ lim; omega)⟩, ⟨Sl.own (B := w.heap.size) (hu.row (κ := kEntry) (l := T2) (id := 8) rfl) (by show (T2 : List Entry).length ≤ lim; omega), Sl.own (B := w.heap.size) (hu.row (κ := kEntry) (l := Y2) (id := 9) rfl) (by show (Y2 : List Entry).length ≤ lim; omega)⟩⟩) ?_
  rintro ⟨⟨Aa, ca⟩, ⟨Ba, da⟩⟩ ma hma
  refine RunH.drop ?_
  refine RunH.adv tb_ok [] rfl rfl (by simp <;> omega) ?_
  refine RunH.tell [(28, .st [.val (.slice Aa Ta.length ca), .val (.slice Ba Ya.length da)]), (29, intE 0), (7, .av (.box 14 ma 0)), (5, .av (.box 10 m4 0)), (6, .av (.box 11 (m4 + 1) 0))] [(12, rowE kEntry Aa ca Ta), (13, rowE kEntry Ba da Ya), (14, some (.box ma [.val (.slice none 0 0), .val (.slice none 0 0)] 24)), (3, rowE kEntry A1 c1 T), (4, rowE kEntry B1 d1 Y), (8, rowE kEntry A2 c2 T2), (9, rowE kEntry B2 d2 Y2), (10, some (.box m4 [.val (.slice A1 T.length c1), .val (.slice B1 Y.length d1)] 24)), (11, some (.box (m4 + 1) [.val (.slice A2 T2.length c2), .val (.slice B2 Y2.length d2)] 24))] [] rfl rfl rfl 15 ?_
  refine RunH.adv tb_ok [] rfl rfl (by simp <;> omega) ?_
  refine RunH.doesB [] 17 (hc := Tryz.call33) (ho := rfl) (hw := rfl) (hd := rfl) (hf := rfl) (hes := rfl) (hσ := rfl) (hn := rfl) (hV := fun _ => rfl) (hG := fun _ => rfl) (e := fun z : (Option Addr × Nat) × (Option Addr × Nat) => .av (.val (.tuple #[.agg #[.slice z.1.1 T2.length z.1.2, .slice z.2.1 Y2.length z.2.2], intV 0]))) (hC := hU Aa ca Ba da) (hp := fun u hu => ⟨(hG.ext hu.fact).max, ⟨Sl.own (B := w.heap.size) (hu.row (κ := kEntry) (l := Ta) (id := 12) rfl) (by show (Ta : List Entry).length ≤ lim; omega), Sl.own (B := w.heap.size) (hu.row (κ := kEntry) (l := Ya) (id := 13) rfl) (by show (Ya : List Entry).length ≤ lim; omega)⟩⟩) ?_
  rintro ⟨⟨Av, cv⟩, ⟨Bv, dv⟩⟩ mv hmv
  refine RunH.drop ?_
  refine RunH.adv tb_ok [] rfl rfl (by simp <;> omega) ?_
  refine RunH.tell [(33, .st [.val (.slice Av T2.length cv), .val (.slice Bv Y2.length dv)]), (34, intE 0), (9, .av (.box 17 mv 0)), (7, .av (.box 14 ma 0)), (8, intE 0), (5, .av (.box 10 m4 0)), (6, .av (.box 11 (m4 + 1) 0))] [(15, rowE kEntry Av cv T2), (16, rowE kEntry Bv dv Y2), (17, some (.box mv [.val (.slice none 0 0), .val (.slice none 0 0)] 24)), (14, some (.box ma [.val (.slice Aa Ta.length ca), .val (.slice Ba Ya.length da)] 24)), (12, rowE kEntry Aa ca Ta), (13, rowE kEntry Ba da Ya), (3, rowE kEntry A1 c1 T), (4, rowE kEntry B1 d1 Y), (8, rowE kEntry A2 c2 T2), (9, rowE kEntry B2 d2 Y2), (10, some (.box m4 [.val (.slice A1 T.length c1), .val (.slice B1 Y.length d1)] 24)), (11, some (.box (m4 + 1) [.val (.slice A2 T2.length c2), .val (.slice B2 Y2.length d2)] 24))] [] rfl rfl rfl 18 ?_
  refine RunH.adv tb_ok [] rfl rfl (by simp <;> omega) ?_
  refine RunH.doesB [] 20 (hc := Tryz.call35) (ho := rfl) (hw := rfl) (hd := rfl) (hf := rfl) (hes := rfl) (hσ := rfl) (hn := rfl) (hV := fun _ => rfl) (hG := fun _ => rfl) (e := fun z : (Option Addr × Nat) × (Option Addr × Nat) => .av (.val (.tuple #[.agg #[.slice z.1.1 Tq.length z.1.2, .slice z.2.1 Yq.length z.2.2], intV eq]))) (hC := hI2 Aa ca Ba da) (hp := fun u hu => ⟨(hG.ext hu.fact).max, ⟨Sl.own (B := w.heap.size) (hu.row (κ := kEntry) (l := Ta) (id := 12) rfl) (by show (Ta : List Entry).length ≤ lim; omega), Sl.own (B := w.heap.size) (hu.row (κ := kEntry) (l := Ya) (id := 13) rfl) (by show (Ya : List Entry).length ≤ lim; omega)⟩, ⟨Sl.own (B := w.heap.size) (hu.row (κ := kEntry) (l := T2) (id := 8) rfl) (by show (T2 : List Entry).length ≤ lim; omega), Sl.own (B := w.heap.size) (hu.row (κ := kEntry) (l := Y2) (id := 9) rfl) (by show (Y2 : List Entry).length ≤ lim; omega)⟩⟩) ?_
  rintro ⟨⟨Aq, cq⟩, ⟨Bq, dq⟩⟩ mq hmq
  refine RunH.drop ?_
  refine RunH.adv tb_ok [] rfl rfl (by simp <;> omega) ?_
  refine RunH.tell [(39, .st [.val (.slice Aq Tq.length cq), .val (.slice Bq Yq.length dq)]), (40, intE eq), (11, .av (.box 20 mq 0)), (7, .av (.box 14 ma 0)), (8, intE 0), (9, .av (.box 17 mv 0)), (10, intE 0), (5, .av (.box 10 m4 0)), (6, .av (.box 11 (m4 + 1) 0))] [(18, rowE kEntry Aq cq Tq), (19, rowE kEntry Bq dq Yq), (20, some (.box mq [.val (.slice none 0 0), .val (.slice none 0 0)] 24)), (14, some (.box ma [.val (.slice Aa Ta.length ca), .val (.slice Ba Ya.length da)] 24)), (12, rowE kEntry Aa ca Ta), (13, rowE kEntry Ba da Ya), (17, some (.box mv [.val (.slice Av T2.length cv), .val (.slice Bv Y2.length dv)] 24)), (15, rowE kEntry Av cv T2), (16, rowE kEntry Bv dv Y2), (3, rowE kEntry A1 c1 T), (4, rowE kEntry B1 d1 Y), (8, rowE kEntry A2 c2 T2), (9, rowE kEntry B2 d2 Y2), (10, some (.box m4 [.val (.slice A1 T.length c1), .val (.slice B1 Y.length d1)] 24)), (11, some (.box (m4 + 1) [.val (.slice A2 T2.length c2), .val (.slice B2 Y2.length d2)] 24))] [] rfl rfl rfl 21 ?_
  apply RunH.joinK (α := Nat) (fun z => [(13, .av (.box 21 z 0)), (14, intE ((1 : Nat) : Int)), (5, .av (.box 10 m4 0)), (6, .av (.box 11 (m4 + 1) 0))]) (fun z => [(21, some (.box z [.val (.slice Aa Ta.length ca), .val (.slice Ba Ya.length da)] 24)), (12, rowE kEntry Aa ca Ta), (13, rowE kEntry Ba da Ya), (3, rowE kEntry A1 c1 T), (4, rowE kEntry B1 d1 Y), (8, rowE kEntry A2 c2 T2), (9, rowE kEntry B2 d2 Y2), (10, some (.box m4 [.val (.slice A1 T.length c1), .val (.slice B1 Y.length d1)] 24)), (11, some (.box (m4 + 1) [.val (.slice A2 T2.length c2), .val (.slice B2 Y2.length d2)] 24))]) (fun _ u => Ext w u)
  · refine RunH.adv tb_ok [false, false] rfl rfl (by simp <;> omega) ?_
    refine RunH.gives (ho := rfl) (hw := rfl) (hd := rfl) (hf := rfl) (hes := rfl) (hc := Tryz.call21) (e := boolE (decide (T2 = T2) && decide (Y2 = Y2))) (hC := fun u hu => space_Same u ⟨⟨Av, cv, T2⟩, ⟨Bv, dv, Y2⟩⟩ ⟨⟨A2, c2, T2⟩, ⟨B2, d2, Y2⟩⟩ ⟨Sl.own (B := w.heap.size) (hu.row (κ := kEntry) (l := T2) (id := 15) rfl) (by show (T2 : List Entry).length ≤ lim; omega), Sl.own (B := w.heap.size) (hu.row (κ := kEntry) (l := Y2) (id := 16) rfl) (by show (Y2 : List Entry).length ≤ lim; omega)⟩ ⟨Sl.own (B := w.heap.size) (hu.row (κ := kEntry) (l := T2) (id := 8) rfl) (by show (T2 : List Entry).length ≤ lim; omega), Sl.own (B := w.heap.size) (hu.row (κ := kEntry) (l := Y2) (id := 9) rfl) (by show (Y2 : List Entry).length ≤ lim; omega)⟩) ?_
    intro m6 hm6
    by_cases h5 : eq = 5
    · refine RunH.adv tb_ok [false, false] rfl rfl (by simp [h5] <;> omega) ?_
      exact RunH.meetS _ [] (.head _) rfl rfl rfl fun u h => h
    · have hz0 : T2.length = 0 := by
        rcases Nat.eq_zero_or_pos T2.length with h | h
        · exact h
        · exact absurd (tw (by omega)) h5
      have hz1 : Y2.length = 0 := by
        rcases Nat.eq_zero_or_pos Y2.length with h | h
        · exact h
        · exact absurd (tw (by omega)) h5
      refine RunH.adv tb_ok [false, true, false] rfl rfl (by simp [h5, hz0, hz1] <;> omega) ?_
      exact RunH.meetS _ [] (.head _) rfl rfl rfl fun u h => h
  · intro bw m7
    refine RunH.toNx 22 ?_
    subst hTa
    subst hYa
    refine RunH.loop (α := Nat × (Option Addr × Nat) × (Option Addr × Nat) × List Entry × List Entry) (fun z => [(13, .av (.box 21 bw 0)), (14, intE z.1), (5, .av (.box 10 m4 0)), (6, .av (.box 11 (m4 + 1) 0))]) (fun z => [(21, some (.box bw [.val (.slice z.2.1.1 (zzL T z.2.2.2.1).length z.2.1.2), .val (.slice z.2.2.1.1 (zzL Y z.2.2.2.2).length z.2.2.1.2)] 24)), (12, rowE kEntry z.2.1.1 z.2.1.2 (zzL T z.2.2.2.1)), (13, rowE kEntry z.2.2.1.1 z.2.2.1.2 (zzL Y z.2.2.2.2)), (3, rowE kEntry A1 c1 T), (4, rowE kEntry B1 d1 Y), (8, rowE kEntry A2 c2 T2), (9, rowE kEntry B2 d2 Y2), (10, some (.box m4 [.val (.slice A1 T.length c1), .val (.slice B1 Y.length d1)] 24)), (11, some (.box (m4 + 1) [.val (.slice A2 T2.length c2), .val (.slice B2 Y2.length d2)] 24))])
      (fun z u => Ext w u ∧ (1 ≤ z.1 ∧ z.1 ≤ 3) ∧ (z.1 = 1 → z.2.2.2.1 = T2 ∧ z.2.2.2.2 = Y2) ∧ (z.1 = 2 → z.2.2.2.1 = [] ∧ z.2.2.2.2 = Y2) ∧ (z.1 = 3 → z.2.2.2.1 = [] ∧ z.2.2.2.2 = [])) (fun z => 3 - z.1) (1, (Aa, ca), (Ba, da), T2, Y2) rfl rfl
      (fun u h => ⟨h, ⟨Nat.le_refl _, by show 1 ≤ 3; decide⟩, fun _ => ⟨rfl, rfl⟩, fun h => absurd (show 1 = 2 from h) (by decide), fun h => absurd (show 1 = 3 from h) (by decide)⟩) ?_
    rintro ⟨k, ⟨A, c⟩, ⟨B, d⟩, P0, Q0⟩ m8
    refine RunH.pure (fun u h => h.2) fun ⟨⟨hk1', hk3'⟩, h1, h2, h3⟩ => ?_
    dsimp only at hk1' hk3' h1 h2 h3 ⊢
    by_cases hk1 : k = 1
    · subst hk1
      obtain ⟨e1, e2⟩ := h1 rfl
      subst P0 Q0
      refine RunH.adv tb_ok [true] rfl rfl (by simp <;> omega) ?_
      refine RunH.gives (ho := rfl) (hw := rfl) (hd := rfl) (hf := rfl) (hes := rfl) (hc := Tryz.call41) (e := .av (.val (.slice A2 T2.length c2))) (hC := fun u _ => listK_spec u ⟨⟨A2, c2, T2⟩, ⟨B2, d2, Y2⟩⟩ 1) ?_
      intro m9 hm9
      refine RunH.adv tb_ok [] rfl rfl (by simp <;> omega) ?_
      refine RunH.tell [(13, .av (.box 21 bw 0)), (14, intE ((1 : Nat) : Int)), (74, .av (.val (.slice A2 T2.length c2))), (75, intE T2.length), (76, intE ((0 : Nat) : Int)), (5, .av (.box 10 m4 0)), (6, .av (.box 11 (m4 + 1) 0))] [(21, some (.box bw [.val (.slice A (zzL T T2).length c), .val (.slice B (zzL Y Y2).length d)] 24)), (12, rowE kEntry A c (zzL T T2)), (13, rowE kEntry B d (zzL Y Y2)), (3, rowE kEntry A1 c1 T), (4, rowE kEntry B1 d1 Y), (8, rowE kEntry A2 c2 T2), (9, rowE kEntry B2 d2 Y2), (10, some (.box m4 [.val (.slice A1 T.length c1), .val (.slice B1 Y.length d1)] 24)), (11, some (.box (m4 + 1) [.val (.slice A2 T2.length c2), .val (.slice B2 Y2.length d2)] 24))] [] rfl rfl rfl 22 ?_
      refine RunH.loop (α := Nat × (Option Addr × Nat) × (Option Addr × Nat) × List Entry) (fun z => [(13, .av (.box 21 bw 0)), (14, intE ((1 : Nat) : Int)), (74, .av (.val (.slice A2 T2.length c2))), (75, intE T2.length), (76, intE z.1), (5, .av (.box 10 m4 0)), (6, .av (.box 11 (m4 + 1) 0))]) (fun z => [(21, some (.box bw [.val (.slice z.2.1.1 (zzL T z.2.2.2).length z.2.1.2), .val (.slice z.2.2.1.1 (zzL Y Y2).length z.2.2.1.2)] 24)), (12, rowE kEntry z.2.1.1 z.2.1.2 (zzL T z.2.2.2)), (13, rowE kEntry z.2.2.1.1 z.2.2.1.2 (zzL Y Y2)), (3, rowE kEntry A1 c1 T), (4, rowE kEntry B1 d1 Y), (8, rowE kEntry A2 c2 T2), (9, rowE kEntry B2 d2 Y2), (10, some (.box m4 [.val (.slice A1 T.length c1), .val (.slice B1 Y.length d1)] 24)), (11, some (.box (m4 + 1) [.val (.slice A2 T2.length c2), .val (.slice B2 Y2.length d2)] 24))])
        (fun z u => Ext w u ∧ z.1 ≤ T2.length ∧ z.2.2.2 = T2.drop z.1) (fun z => T2.length - z.1) (0, (A, c), (B, d), T2) rfl rfl (fun u h => ⟨h.1, Nat.zero_le _, rfl⟩) ?_
      rintro ⟨j, ⟨A, c⟩, ⟨B, d⟩, P⟩ m10
      refine RunH.pure (fun u h => h.2) fun ⟨hj, hP⟩ => ?_
      dsimp only at hj hP ⊢
      by_cases hlt : j < T2.length
      · have hdr : T2.drop j = T2[j] :: T2.drop (j + 1) := List.drop_eq_getElem_cons hlt
        refine RunH.pureS (fun u hu => (Sl.own (B := w.heap.size) (hu.row (κ := kEntry) (l := T2) (id := 8) rfl) (by show T2.length ≤ lim; omega)).ptr hlt) fun hptr => ?_
        have hxp := pathOk_len (gooE_ok (hT2.2 _ (List.getElem_mem hlt)))
        have hlen : (T2[j] :: T2.drop (j + 1)).length ≤ 50 := by rw [← hdr, List.length_drop]; omega
        have hgd : gooL (T2[j] :: T2.drop (j + 1)) := by rw [← hdr]; exact gooL_drop hT2 j
        obtain ⟨x, hx⟩ : ∃ x, x = T2[j] := ⟨_, rfl⟩
        rw [← hx] at hdr hxp hlen hgd
        obtain ⟨q1, q2⟩ := places_drop (l := T) (m := T2.drop (j + 1)) (x := x) (k := 1) (t := (zzL T P)) (y := (zzL Y Y2)) (.inl rfl) hT hgd (by show okL 100 (zzL Y Y2); exact zz_okL hY hY2 (by omega) (by omega)) (by omega) (by have := hlen; omega) (by show zzL T P = _; rw [hP, hdr]) rfl
        have hPl : (zzL T P).length ≤ 100 := by unfold zzL; rw [List.length_append, List.length_map, hP, List.length_drop]; omega
        have hOl : (zzL Y Y2).length ≤ 100 := by unfold zzL; rw [List.length_append, List.length_map]; omega
        have hD := Drop_all ⟨⟨A, c, (zzL T P)⟩, ⟨B, d, (zzL Y Y2)⟩⟩ 1 (pj ZZ x).path (by show (zzL T P).length ≤ _; omega) (by show (zzL Y Y2).length ≤ _; omega)
        dsimp only at hD
        rw [q1, q2] at hD
        refine RunH.adv tb_ok [true] rfl rfl (by simp [hptr] <;> omega) ?_
        refine RunH.loadS (.st (entryF x)) rfl rfl rfl rfl (fun u hu => by rw [hx]; exact hu.loadRow (κ := kEntry) (l := T2) (id := 8) rfl (by show T2.length ≤ lim; omega) hlt) ?_
        refine RunH.adv tb_ok [] rfl rfl (by simp <;> omega) ?_
        refine RunH.doesB [] 25 (hc := Tryz.call45) (ho := rfl) (hw := rfl) (hd := rfl) (hf := rfl) (hes := rfl) (hσ := rfl) (hn := rfl) (hV := fun _ => rfl) (hG := fun _ => rfl) (e := fun z : (Option Addr × Nat) × (Option Addr × Nat) => .av (.val (.tuple #[.agg #[.slice z.1.1 (zzL T (T2.drop (j + 1))).length z.1.2, .slice z.2.1 (zzL Y Y2).length z.2.2], intV 0]))) (hC := hD) (hp := fun u hu => ⟨(hG.ext hu.fact.1).max, ⟨Sl.own (B := w.heap.size) (hu.row (κ := kEntry) (l := (zzL T P)) (id := 12) rfl) (by show ((zzL T P) : List Entry).length ≤ lim; omega), Sl.own (B := w.heap.size) (hu.row (κ := kEntry) (l := (zzL Y Y2)) (id := 13) rfl) (by show ((zzL Y Y2) : List Entry).length ≤ lim; omega)⟩⟩) ?_
        rintro ⟨⟨Ad, cd⟩, ⟨Bd, dd⟩⟩ m11 hm11
        refine RunH.drop ?_
        refine RunH.adv tb_ok [] rfl rfl (by simp <;> omega) ?_
        refine RunH.tell [(87, .st [.val (.slice Ad (zzL T (T2.drop (j + 1))).length cd), .val (.slice Bd (zzL Y Y2).length dd)]), (88, intE 0), (13, .av (.box 21 bw 0)), (14, intE ((1 : Nat) : Int)), (74, .av (.val (.slice A2 T2.length c2))), (75, intE T2.length), (76, intE j), (5, .av (.box 10 m4 0)), (6, .av (.box 11 (m4 + 1) 0))] [(23, rowE kEntry Ad cd (zzL T (T2.drop (j + 1)))), (24, rowE kEntry Bd dd (zzL Y Y2)), (21, some (.box bw [.val (.slice A (zzL T P).length c), .val (.slice B (zzL Y Y2).length d)] 24)), (3, rowE kEntry A1 c1 T), (4, rowE kEntry B1 d1 Y), (8, rowE kEntry A2 c2 T2), (9, rowE kEntry B2 d2 Y2), (10, some (.box m4 [.val (.slice A1 T.length c1), .val (.slice B1 Y.length d1)] 24)), (11, some (.box (m4 + 1) [.val (.slice A2 T2.length c2), .val (.slice B2 Y2.length d2)] 24))] [] rfl rfl rfl 25 ?_
        refine RunH.adv tb_ok [false] rfl rfl (by simp <;> omega) ?_
        refine RunH.tell [(13, .av (.box 21 bw 0)), (14, intE ((1 : Nat) : Int)), (74, .av (.val (.slice A2 T2.length c2))), (75, intE T2.length), (76, intE ((j + 1 : Nat) : Int)), (5, .av (.box 10 m4 0)), (6, .av (.box 11 (m4 + 1) 0))] [(21, some (.box bw [.val (.slice Ad (zzL T (T2.drop (j + 1))).length cd), .val (.slice Bd (zzL Y Y2).length dd)] 24)), (12, rowE kEntry Ad cd (zzL T (T2.drop (j + 1)))), (13, rowE kEntry Bd dd (zzL Y Y2)), (3, rowE kEntry A1 c1 T), (4, rowE kEntry B1 d1 Y), (8, rowE kEntry A2 c2 T2), (9, rowE kEntry B2 d2 Y2), (10, some (.box m4 [.val (.slice A1 T.length c1), .val (.slice B1 Y.length d1)] 24)), (11, some (.box (m4 + 1) [.val (.slice A2 T2.length c2), .val (.slice B2 Y2.length d2)] 24))] [(12, 23), (13, 24)] rfl rfl rfl 22 ?_
        refine RunH.again (j + 1, (Ad, cd), (Bd, dd), T2.drop (j + 1)) (.head _) rfl rfl (by dsimp only; omega) fun u h => ⟨h.1, by dsimp only; omega, rfl⟩
      · have e0 : P = [] := by rw [hP]; exact List.drop_eq_nil_of_le (by omega)
        clear hP
        subst e0
        refine RunH.adv tb_ok [false] rfl rfl (by simp <;> omega) ?_
        refine RunH.again (2, (A, c), (B, d), [], Y2) (.tail _ (.head _)) rfl rfl (by show 3 - 2 < 3 - 1; decide) fun u h => ⟨h.1, ⟨by show 1 ≤ 2; decide, by show 2 ≤ 3; decide⟩, fun h => absurd (show 2 = 1 from h) (by decide), fun _ => ⟨rfl, rfl⟩, fun h => absurd (show 2 = 3 from h) (by decide)⟩
    · by_cases hk2 : k = 2
      · subst hk2
        obtain ⟨e1, e2⟩ := h2 rfl
        subst P0 Q0
        refine RunH.adv tb_ok [true] rfl rfl (by simp <;> omega) ?_
        refine RunH.gives (ho := rfl) (hw := rfl) (hd := rfl) (hf := rfl) (hes := rfl) (hc := Tryz.call41) (e := .av (.val (.slice B2 Y2.length d2))) (hC := fun u _ => listK_spec u ⟨⟨A2, c2, T2⟩, ⟨B2, d2, Y2⟩⟩ 2) ?_
        intro m9 hm9
        refine RunH.adv tb_ok [] rfl rfl (by simp <;> omega) ?_
        refine RunH.tell [(13, .av (.box 21 bw 0)), (14, intE ((2 : Nat) : Int)), (74, .av (.val (.slice B2 Y2.length d2))), (75, intE Y2.length), (76, intE ((0 : Nat) : Int)), (5, .av (.box 10 m4 0)), (6, .av (.box 11 (m4 + 1) 0))] [(21, some (.box bw [.val (.slice A (zzL T []).length c), .val (.slice B (zzL Y Y2).length d)] 24)), (12, rowE kEntry A c (zzL T [])), (13, rowE kEntry B d (zzL Y Y2)), (3, rowE kEntry A1 c1 T), (4, rowE kEntry B1 d1 Y), (8, rowE kEntry A2 c2 T2), (9, rowE kEntry B2 d2 Y2), (10, some (.box m4 [.val (.slice A1 T.length c1), .val (.slice B1 Y.length d1)] 24)), (11, some (.box (m4 + 1) [.val (.slice A2 T2.length c2), .val (.slice B2 Y2.length d2)] 24))] [] rfl rfl rfl 22 ?_
        refine RunH.loop (α := Nat × (Option Addr × Nat) × (Option Addr × Nat) × List Entry) (fun z => [(13, .av (.box 21 bw 0)), (14, intE ((2 : Nat) : Int)), (74, .av (.val (.slice B2 Y2.length d2))), (75, intE Y2.length), (76, intE z.1), (5, .av (.box 10 m4 0)), (6, .av (.box 11 (m4 + 1) 0))]) (fun z => [(21, some (.box bw [.val (.slice z.2.1.1 (zzL T []).length z.2.1.2), .val (.slice z.2.2.1.1 (zzL Y z.2.2.2).length z.2.2.1.2)] 24)), (12, rowE kEntry z.2.1.1 z.2.1.2 (zzL T [])), (13, rowE kEntry z.2.2.1.1 z.2.2.1.2 (zzL Y z.2.2.2)), (3, rowE kEntry A1 c1 T), (4, rowE kEntry B1 d1 Y), (8, rowE kEntry A2 c2 T2), (9, rowE kEntry B2 d2 Y2), (10, some (.box m4 [.val (.slice A1 T.length c1), .val (.slice B1 Y.length d1)] 24)), (11, some (.box (m4 + 1) [.val (.slice A2 T2.length c2), .val (.slice B2 Y2.length d2)] 24))])
          (fun z u => Ext w u ∧ z.1 ≤ Y2.length ∧ z.2.2.2 = Y2.drop z.1) (fun z => Y2.length - z.1) (0, (A, c), (B, d), Y2) rfl rfl (fun u h => ⟨h.1, Nat.zero_le _, rfl⟩) ?_
        rintro ⟨j, ⟨A, c⟩, ⟨B, d⟩, P⟩ m10
        refine RunH.pure (fun u h => h.2) fun ⟨hj, hP⟩ => ?_
        dsimp only at hj hP ⊢
        by_cases hlt : j < Y2.length
        · have hdr : Y2.drop j = Y2[j] :: Y2.drop (j + 1) := List.drop_eq_getElem_cons hlt
          refine RunH.pureS (fun u hu => (Sl.own (B := w.heap.size) (hu.row (κ := kEntry) (l := Y2) (id := 9) rfl) (by show Y2.length ≤ lim; omega)).ptr hlt) fun hptr => ?_
          have hxp := pathOk_len (gooE_ok (hY2.2 _ (List.getElem_mem hlt)))
          have hlen : (Y2[j] :: Y2.drop (j + 1)).length ≤ 50 := by rw [← hdr, List.length_drop]; omega
          have hgd : gooL (Y2[j] :: Y2.drop (j + 1)) := by rw [← hdr]; exact gooL_drop hY2 j
          obtain ⟨x, hx⟩ : ∃ x, x = Y2[j] := ⟨_, rfl⟩
          rw [← hx] at hdr hxp hlen hgd
          obtain ⟨q1, q2⟩ := places_drop (l := Y) (m := Y2.drop (j + 1)) (x := x) (k := 2) (t := (zzL T [])) (y := (zzL Y P)) (.inr rfl) hY hgd (by show okL 100 (zzL T []); exact zz_okL hT gooL_nil (by omega) (by decide)) (by omega) (by have := hlen; omega) (by show zzL Y P = _; rw [hP, hdr]) rfl
          have hPl : (zzL Y P).length ≤ 100 := by unfold zzL; rw [List.length_append, List.length_map, hP, List.length_drop]; omega
          have hOl : (zzL T ([] : List Entry)).length ≤ 100 := by unfold zzL; rw [List.length_append, List.length_map]; simp; omega
          have hD := Drop_all ⟨⟨A, c, (zzL T [])⟩, ⟨B, d, (zzL Y P)⟩⟩ 2 (pj ZZ x).path (by show (zzL T []).length ≤ _; omega) (by show (zzL Y P).length ≤ _; omega)
          dsimp only at hD
          rw [q1, q2] at hD
          refine RunH.adv tb_ok [true] rfl rfl (by simp [hptr] <;> omega) ?_
          refine RunH.loadS (.st (entryF x)) rfl rfl rfl rfl (fun u hu => by rw [hx]; exact hu.loadRow (κ := kEntry) (l := Y2) (id := 9) rfl (by show Y2.length ≤ lim; omega) hlt) ?_
          refine RunH.adv tb_ok [] rfl rfl (by simp <;> omega) ?_
          refine RunH.doesB [] 25 (hc := Tryz.call45) (ho := rfl) (hw := rfl) (hd := rfl) (hf := rfl) (hes := rfl) (hσ := rfl) (hn := rfl) (hV := fun _ => rfl) (hG := fun _ => rfl) (e := fun z : (Option Addr × Nat) × (Option Addr × Nat) => .av (.val (.tuple #[.agg #[.slice z.1.1 (zzL T []).length z.1.2, .slice z.2.1 (zzL Y (Y2.drop (j + 1))).length z.2.2], intV 0]))) (hC := hD) (hp := fun u hu => ⟨(hG.ext hu.fact.1).max, ⟨Sl.own (B := w.heap.size) (hu.row (κ := kEntry) (l := (zzL T [])) (id := 12) rfl) (by show ((zzL T []) : List Entry).length ≤ lim; omega), Sl.own (B := w.heap.size) (hu.row (κ := kEntry) (l := (zzL Y P)) (id := 13) rfl) (by show ((zzL Y P) : List Entry).length ≤ lim; omega)⟩⟩) ?_
          rintro ⟨⟨Ad, cd⟩, ⟨Bd, dd⟩⟩ m11 hm11
          refine RunH.drop ?_
          refine RunH.adv tb_ok [] rfl rfl (by simp <;> omega) ?_
          refine RunH.tell [(87, .st [.val (.slice Ad (zzL T []).length cd), .val (.slice Bd (zzL Y (Y2.drop (j + 1))).length dd)]), (88, intE 0), (13, .av (.box 21 bw 0)), (14, intE ((2 : Nat) : Int)), (74, .av (.val (.slice B2 Y2.length d2))), (75, intE Y2.length), (76, intE j), (5, .av (.box 10 m4 0)), (6, .av (.box 11 (m4 + 1) 0))] [(23, rowE kEntry Ad cd (zzL T [])), (24, rowE kEntry Bd dd (zzL Y (Y2.drop (j + 1)))), (21, some (.box bw [.val (.slice A (zzL T []).length c), .val (.slice B (zzL Y P).length d)] 24)), (3, rowE kEntry A1 c1 T), (4, rowE kEntry B1 d1 Y), (8, rowE kEntry A2 c2 T2), (9, rowE kEntry B2 d2 Y2), (10, some (.box m4 [.val (.slice A1 T.length c1), .val (.slice B1 Y.length d1)] 24)), (11, some (.box (m4 + 1) [.val (.slice A2 T2.length c2), .val (.slice B2 Y2.length d2)] 24))] [] rfl rfl rfl 25 ?_
          refine RunH.adv tb_ok [false] rfl rfl (by simp <;> omega) ?_
          refine RunH.tell [(13, .av (.box 21 bw 0)), (14, intE ((2 : Nat) : Int)), (74, .av (.val (.slice B2 Y2.length d2))), (75, intE Y2.length), (76, intE ((j + 1 : Nat) : Int)), (5, .av (.box 10 m4 0)), (6, .av (.box 11 (m4 + 1) 0))] [(21, some (.box bw [.val (.slice Ad (zzL T []).length cd), .val (.slice Bd (zzL Y (Y2.drop (j + 1))).length dd)] 24)), (12, rowE kEntry Ad cd (zzL T [])), (13, rowE kEntry Bd dd (zzL Y (Y2.drop (j + 1)))), (3, rowE kEntry A1 c1 T), (4, rowE kEntry B1 d1 Y), (8, rowE kEntry A2 c2 T2), (9, rowE kEntry B2 d2 Y2), (10, some (.box m4 [.val (.slice A1 T.length c1), .val (.slice B1 Y.length d1)] 24)), (11, some (.box (m4 + 1) [.val (.slice A2 T2.length c2), .val (.slice B2 Y2.length d2)] 24))] [(12, 23), (13, 24)] rfl rfl rfl 22 ?_
          refine RunH.again (j + 1, (Ad, cd), (Bd, dd), Y2.drop (j + 1)) (.head _) rfl rfl (by dsimp only; omega) fun u h => ⟨h.1, by dsimp only; omega, rfl⟩
        · have e0 : P = [] := by rw [hP]; exact List.drop_eq_nil_of_le (by omega)
          clear hP
          subst e0
          refine RunH.adv tb_ok [false] rfl rfl (by simp <;> omega) ?_
          refine RunH.again (3, (A, c), (B, d), [], []) (.tail _ (.head _)) rfl rfl (by show 3 - 3 < 3 - 2; decide) fun u h => ⟨h.1, ⟨by show 1 ≤ 3; decide, by show 3 ≤ 3; decide⟩, fun h => absurd (show 3 = 1 from h) (by decide), fun h => absurd (show 3 = 2 from h) (by decide), fun _ => ⟨rfl, rfl⟩⟩
      · obtain rfl : k = 3 := by omega
        obtain ⟨e1, e2⟩ := h3 rfl
        subst P0 Q0
        have zzn : ∀ l, zzL l [] = l := fun l => by simp [zzL]
        rw [zzn, zzn]
        refine RunH.adv tb_ok [false] rfl rfl (by simp <;> omega) ?_
        refine RunH.gives (ho := rfl) (hw := rfl) (hd := rfl) (hf := rfl) (hes := rfl) (hc := Tryz.call21) (e := boolE (decide (T = T) && decide (Y = Y))) (hC := fun u hu => space_Same u ⟨⟨A, c, T⟩, ⟨B, d, Y⟩⟩ ⟨⟨A1, c1, T⟩, ⟨B1, d1, Y⟩⟩ ⟨Sl.own (B := w.heap.size) (hu.row (κ := kEntry) (l := T) (id := 12) rfl) (by show (T : List Entry).length ≤ lim; omega), Sl.own (B := w.heap.size) (hu.row (κ := kEntry) (l := Y) (id := 13) rfl) (by show (Y : List Entry).length ≤ lim; omega)⟩ ⟨Sl.own (B := w.heap.size) (hu.row (κ := kEntry) (l := T) (id := 3) rfl) (by show (T : List Entry).length ≤ lim; omega), Sl.own (B := w.heap.size) (hu.row (κ := kEntry) (l := Y) (id := 4) rfl) (by show (Y : List Entry).length ≤ lim; omega)⟩) ?_
        intro m20 hm20
        refine RunH.adv tb_ok [true] rfl rfl (by simp <;> omega) ?_
        refine RunH.gives (ho := rfl) (hw := rfl) (hd := rfl) (hf := rfl) (hes := rfl) (hc := Tryz.call15) (e := .tt) (hC := fun u hu => awake_spec u (hG.ext hu.fact.1)) ?_
        intro mA hmA
        refine RunH.adv tb_ok [] rfl rfl (by simp <;> omega) ?_
        refine RunH.ret1 Tryz.func8 rfl rfl fun u hu => ⟨rfl, hu.fact.1⟩
end Go.Proofs.YtagnkcdhenilbaaGreatDoor

/-
SpacePlaces: the law is true for every input; the listed variables hold what the program's text lays.
-/
namespace Go.Proofs.YtagnkcdhenilbaaGreatDoor
open Go V RowKit Go.ChangeShapes Go.WideShapes Go.ChangeAt

set_option maxRecDepth 100000 in
theorem spacePlaces_lifted (os : Os) (started : os.Started) (H : Type) (enc : TypeId × Value → H) :
    ReturnsInHanded {} Tryz.checked os 8 .any (fun w args => (Rows.spacePlacesSpec.pre enc Tryz.prog Tryz.f8 [] false w args ∧ laidMetH Tryz.prog Rows.spacePlacesRow.laid w) ∧ sizedMet enc Tryz.prog Tryz.f8 (OpenSpec.ofChange Rows.spacePlacesSpec) false w args)
      (Rows.spacePlacesSpec.post enc Tryz.prog Tryz.f8 false true false false) := by
  refine wrap (C := Tryz.checked) (X := fun w _ => laidMetH Tryz.prog Rows.spacePlacesRow.laid w) (fun _ _ _ hh h => h.of_heap hh) ownKnobs started (by kernel_rfl) Tryz.func8
    (ChangeSpec.witness_shaped (enc := enc) (C := Tryz.checked) (os := os) (X := fun w _ => laidMetH Tryz.prog Rows.spacePlacesRow.laid w) false (World.laidAll Tryz.prog os Rows.spacePlacesRow.laid)
      #[.slice none 0 0, .slice none 0 0] 8 (World.laidAll_os _ _ _)
      (World.shaped_of_ZipB (by kernel_rfl) (by kernel_rfl)) (by kernel_rfl) (by kernel_rfl) (by kernel_rfl)
      (by rw [MakeChecks.laidMetH_plain _ _ _ (by kernel_rfl)]; exact laidMet_laidAll _ (by kernel_rfl) (by kernel_rfl))) ?_
  intro W base args ds gs before hval0 hW hsz0 hL hS
  have hval : ∀ (j : Nat) t v, Tryz.f8.params[j]? = some t → args[j]? = some v → Value.okWide Tryz.prog W .any base t v := hval0
  have hsz : (DataW.weightsEach Tryz.prog (Tryz.f8.params.toList ++ Rows.spacePlacesSpec.plain.varTypes Tryz.prog) (ds ++ gs)).all (· ≤ reachBytes) = true := hsz0
  have hW' := hW
  obtain ⟨p, q, hA0, hV, rfl, _, _⟩ := hW
  have hA : DataW.TrodAll enc Tryz.prog W 0 (fun _ => true) true Tryz.f8.params.toList args.toList ds p := hA0
  rw [Tryz.params8] at hA hval hsz
  obtain ⟨v0, v1, d0, d1, p0, p1, rfl, rfl, rfl, h0, h1⟩ := trodAll_two hA
  obtain ⟨rfl, rfl⟩ := trodVars_none hV
  have wt : ∀ {j : Nat} {t : TypeId} {d : DataW H}, [54, 54][j]? = some t → [d0, d1][j]? = some d → ∀ n ∈ d.weights Tryz.prog t, n ≤ reachBytes := by
    intro j t d ht hd n hn
    exact of_decide_eq_true (List.all_eq_true.1 hsz _ (DataW.weights_mem_each ht hd n hn))
  obtain ⟨x0, rfl, hx0⟩ := open_bytes h0 (wt (j := 0) rfl rfl) (hval 0 _ v0 rfl rfl)
  obtain ⟨x1, rfl, hx1⟩ := open_bytes h1 (wt (j := 1) rfl rfl) (hval 1 _ v1 rfl rfl)
  refine (places_walk W (glob_of hS (show laidMetH Tryz.prog Rows.spaceChecksRow.laid W from hL)) x0.A x0.c x0.l hx0 x1.A x1.c x1.l hx1).mono fun e W' ⟨he, hb⟩ => ?_
  subst he
  exact ⟨_, rfl, _, _, _, [], _, [], hW', trodAll_mk1 (shut_bool Tryz.underlying4 _),
    trodAll_mk2 (Below.trod laidOuts (by kernel_rfl) (of_decide_eq_true (by kernel_rfl)) h0 hb (fun y hy => hW'.lt y (by simp [hy]))) (Below.trod laidOuts (by kernel_rfl) (of_decide_eq_true (by kernel_rfl)) h1 hb (fun y hy => hW'.lt y (by simp [hy]))), rfl, hb.frame _, fun h => by cases h⟩

end Go.Proofs.YtagnkcdhenilbaaGreatDoor

/-
The closed facts of spacePlaces's row and card, one by one; no condition.
-/
namespace Go.Proofs.YtagnkcdhenilbaaGreatDoor
open Go
theorem spacePlaces_c0 : (Rows.spacePlacesRow.wf (OpenSpec.ofChange Rows.spacePlacesSpec) : Bool) = true := by kernel_rfl
theorem spacePlaces_c1 : (laidOutB Tryz.prog : Bool) = true := by kernel_rfl
theorem spacePlaces_c2 : (mapsRowed Tryz.prog : Bool) = true := by kernel_rfl
theorem spacePlaces_c3 : (Tryz.f8.params.all (Tryz.prog.readableRec ·) : Bool) = true := by kernel_rfl
theorem spacePlaces_c4 : (namedTie Tryz.prog Rows.spacePlacesRow.named Rows.spacePlacesSpec.vars : Bool) = true := by kernel_rfl
theorem spacePlaces_c5 : (Rows.spacePlacesRow.stops == [] : Bool) = true := by kernel_rfl
theorem spacePlaces_c6 : (Tryz.prog.stops == [] : Bool) = true := by kernel_rfl
theorem spacePlaces_c7 : (Rows.spacePlacesRow.knobs == [] : Bool) = true := by kernel_rfl
theorem spacePlaces_c8 : (Tryz.prog.stopKnobs == [] : Bool) = true := by kernel_rfl
theorem spacePlaces_c9 : (Rows.spacePlacesRow.inPlace == Tryz.prog.inPlace 8 : Bool) = true := by kernel_rfl
theorem spacePlaces_c10 : (Rows.spacePlacesRow.unfollowed == Tryz.prog.unfollowed 8 : Bool) = true := by kernel_rfl
theorem spacePlaces_c11 : (Rows.spacePlacesRow.recurses == Tryz.prog.recurses 8 : Bool) = true := by kernel_rfl
theorem spacePlaces_c12 : (Rows.spacePlacesRow.named == Tryz.prog.varsNamed 8 : Bool) = true := by kernel_rfl
theorem spacePlaces_c13 : (Rows.spacePlacesRow.maps == (Tryz.f8.params.toList ++ Rows.spacePlacesSpec.plain.varTypes Tryz.prog).any (Tryz.prog.mapsRec ·) : Bool) = true := by kernel_rfl
theorem spacePlaces_c14 : (Rows.spacePlacesRow.ifaces == (Tryz.f8.params.toList ++ Rows.spacePlacesSpec.plain.varTypes Tryz.prog).any (Tryz.prog.ifacesRec ·) : Bool) = true := by kernel_rfl
theorem spacePlaces_c15 : (Rows.spacePlacesRow.mapsOut == Tryz.prog.mapsAmong Tryz.f8.resultTypes.toList : Bool) = true := by kernel_rfl
theorem spacePlaces_c16 : (Rows.spacePlacesRow.loops == (Tryz.f8.params.toList ++ Rows.spacePlacesSpec.plain.varTypes Tryz.prog).any (Tryz.prog.loopsFrom ·) : Bool) = true := by kernel_rfl
theorem spacePlaces_c17 : (Rows.spacePlacesRow.wideKeys == (Tryz.f8.params.toList ++ Rows.spacePlacesSpec.plain.varTypes Tryz.prog ++ Tryz.f8.resultTypes.toList).any (Tryz.prog.wideKeysFrom ·) : Bool) = true := by kernel_rfl
theorem spacePlaces_c18 : (Rows.spacePlacesSpec.vars.all (Tryz.prog.varReadable ·) : Bool) = true := by kernel_rfl
theorem spacePlaces_c19 : (Tryz.f8.resultTypes.all (fun t => Tryz.prog.readableRec t && decide (t < Tryz.prog.types.size)) : Bool) = true := by kernel_rfl
theorem spacePlaces_c20 : (Rows.spacePlacesRow.ifacesOut == Tryz.f8.resultTypes.toList.any (Tryz.prog.ifacesRec ·) : Bool) = true := by kernel_rfl
theorem spacePlaces_c21 : (Rows.spacePlacesRow.loopsOut == Tryz.f8.resultTypes.toList.any (Tryz.prog.loopsFrom ·) : Bool) = true := by kernel_rfl
theorem spacePlaces_c22 : (Rows.spacePlacesRow.plainKeys == Tryz.prog.plainKeys : Bool) = true := by kernel_rfl
theorem spacePlaces_c23 : (Rows.spacePlacesRow.shortTexts.isNone : Bool) = true := by kernel_rfl
theorem spacePlaces_c24 : (Tryz.prog.stopsHeard : Bool) = true := by kernel_rfl
theorem spacePlaces_c25 : (Tryz.prog.mayEnter : Bool) = true := by kernel_rfl
theorem spacePlaces_c26 : (Rows.spacePlacesRow.lifted == Tryz.prog.liftsFinal : Bool) = true := by kernel_rfl
theorem spacePlaces_c27 : (Tryz.prog.make == some Rows.spacePlacesRow.make : Bool) = true := by kernel_rfl
theorem spacePlaces_c28 : (Rows.spacePlacesRow.kinds == (if Rows.spacePlacesRow.domain.isEmpty then [] else Tryz.f8.params.toList.map fun t => match Tryz.prog.underlying t with | some (.int k) => some k | _ => none) : Bool) = true := by kernel_rfl
theorem spacePlaces_c29 : (Rows.spacePlacesRow.pinned == Rows.spacePlacesRow.pinnedBy : Bool) = true := by kernel_rfl
theorem spacePlaces_c30 : (Rows.spacePlacesRow.veiled == (Tryz.f8.params.toList ++ Rows.spacePlacesSpec.plain.varTypes Tryz.prog ++ Tryz.f8.resultTypes.toList).any (Tryz.prog.veiledRec ·) : Bool) = true := by kernel_rfl
theorem spacePlaces_c31 : (Rows.spacePlacesRow.veiledFits Tryz.prog Tryz.f8.params.toList (Tryz.f8.params.toList ++ Rows.spacePlacesSpec.plain.varTypes Tryz.prog ++ Tryz.f8.resultTypes.toList) : Bool) = true := by kernel_rfl
set_option maxRecDepth 100000 in
theorem spacePlaces_joined : joinedFacts Tryz.prog 8 Tryz.f8 Rows.spacePlacesSpec Rows.spacePlacesRow = true :=
  joined_of spacePlaces_c0 spacePlaces_c1 spacePlaces_c2 spacePlaces_c3 spacePlaces_c4 spacePlaces_c5 spacePlaces_c6 spacePlaces_c7 spacePlaces_c8 spacePlaces_c9 spacePlaces_c10 spacePlaces_c11 spacePlaces_c12 spacePlaces_c13 spacePlaces_c14 spacePlaces_c15 spacePlaces_c16 spacePlaces_c17 spacePlaces_c18 spacePlaces_c19 spacePlaces_c20 spacePlaces_c21 spacePlaces_c22 spacePlaces_c23 spacePlaces_c24 spacePlaces_c25 spacePlaces_c26 spacePlaces_c27 spacePlaces_c28 spacePlaces_c29 spacePlaces_c30 spacePlaces_c31
theorem spacePlaces_named : Tryz.prog.funcNamed "hoarstone/hoarstonelaw07.SpacePlaces" = some 8 := by kernel_rfl
theorem spacePlaces_inst : decide (Tryz.f8.isInstance Tryz.prog Rows.spacePlacesRow.origin Rows.spacePlacesRow.targs) = true := by kernel_rfl
theorem spacePlaces_wfText : Rows.spacePlacesRow.wfByText (OpenSpec.ofChange Rows.spacePlacesSpec) = true := by kernel_rfl
theorem spacePlaces_goes : (false = Rows.spacePlacesRow.goesBy Tryz.prog) := by kernel_rfl
end Go.Proofs.YtagnkcdhenilbaaGreatDoor

/-
SpacePlaces: the law is true for every input; its listed package variables hold what the program's text lays (the card ties them). No condition.
-/
namespace Go.Proofs.YtagnkcdhenilbaaGreatDoor
open Go
theorem spacePlaces_wrapped : Tryz.f8.isWrapper Tryz.prog Rows.spacePlacesRow.wrapper Rows.spacePlacesRow.mainSum := by
  unfold Func.isWrapper; first | (rw [if_pos (by decide +kernel)]; kernel_rfl) | (rw [if_neg (by decide +kernel)]; exact ⟨rfl, rfl⟩)
theorem spacePlaces_prog : Rows.spacePlacesRow.program = Tryz.pinned.name := by kernel_rfl
theorem spacePlaces_sum : Rows.spacePlacesRow.sum = Tryz.pinned.sum := by kernel_rfl
theorem spacePlaces_spec : Rows.spacePlacesRow.spec = Rows.spacePlacesSpec.name := by kernel_rfl
theorem spacePlaces_holds : Rows.SpacePlacesSaid :=
  OpenClaim.holds_of_wide 8 Tryz.f8 spacePlaces_prog spacePlaces_sum spacePlaces_spec rfl rfl rfl rfl ⟨rfl, rfl, rfl, rfl, rfl⟩ rfl rfl rfl rfl rfl spacePlaces_named Tryz.func8 spacePlaces_joined
    (of_decide_eq_true spacePlaces_inst) spacePlaces_wrapped (fun os started H enc _ => spacePlaces_lifted os started H enc)
theorem spacePlaces_main : Tryz.prog.mainIs = some (Rows.spacePlacesCard.stood.harness.1, Rows.spacePlacesCard.stood.harness.2.toList) := by kernel_rfl
theorem spacePlaces_har : (!Rows.spacePlacesCard.stood.harness.1 && Rows.spacePlacesCard.stood.harness.2.isEmpty && !false) = false := by kernel_rfl
theorem spacePlaces_looks : false = Tryz.prog.looks [] := by kernel_rfl
theorem spacePlaces_plain : ([54, 54].all fun u => !Tryz.prog.wantsStandIn u) = true := by kernel_rfl
theorem spacePlaces_card_holds : Rows.SpacePlacesCardSaid :=
  Claim7.holds_tied_plain_at .later [] [.data, .data, .data, .pinned] true Rows.spacePlacesCard.stood.harness false
    spacePlaces_holds (fun _ h => by cases h) spacePlaces_wfText (fun _ h => by cases h) spacePlaces_row_tie rfl ⟨rfl, rfl⟩ spacePlaces_main spacePlaces_har
    (fun f fn hf hfn => by
      obtain rfl : f = 8 := (Option.some.inj (spacePlaces_named.symm.trans hf)).symm
      obtain rfl : fn = Tryz.f8 := (Option.some.inj (Tryz.func8.symm.trans hfn)).symm
      exact ⟨spacePlaces_looks, fun j t ht => by
        rw [Tryz.params8] at ht
        have hm : t ∈ [54, 54] := by simpa using Array.mem_of_getElem? ht
        exact (show Tryz.prog.wantsStandIn t = false by simpa using List.all_eq_true.1 spacePlaces_plain t hm)⟩)
    spacePlaces_goes
#print axioms spacePlaces_card_holds
end Go.Proofs.YtagnkcdhenilbaaGreatDoor
