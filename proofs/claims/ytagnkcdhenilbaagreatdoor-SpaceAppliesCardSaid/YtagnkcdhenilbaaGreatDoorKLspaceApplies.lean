/-
A part of the proof of SpaceApplies: for every input the law returns true, and what was passed in reads as before; the listed package variables hold what the program's text lays. No further condition.
-/
import Derived.Test.YtagnkcdhenilbaaGreatDoorRows
import Derived.Test.YtagnkcdhenilbaaGreatDoorCards
import Derived.KernelRfl
import Derived.Test.YtagnkcdhenilbaaGreatDoorTie
import Derived.SevenTiedAt
import Derived.Test.YtagnkcdhenilbaaGreatDoorKPA2
import Derived.Test.YtagnkcdhenilbaaGreatDoorKPG4
import Derived.Test.YtagnkcdhenilbaaGreatDoorKPC7
import Derived.Test.YtagnkcdhenilbaaGreatDoorKR1
set_option linter.unusedVariables false
set_option linter.unusedSectionVars false
set_option linter.unusedSimpArgs false
namespace Go.Proofs.YtagnkcdhenilbaaGreatDoor
open Go V RowKit
theorem applies1_spec (w : World) (c : Chg) : Gives Tryz.prog 73 [(EV.st (chgF c)).v] w (boolE (decide (80 < c.path.length))) := by
  refine enterH tb_ok [(0, .st (chgF c))] Tryz.func73 rfl Tryz.ntmps73 rfl rfl ?_
  by_cases h : 80 < c.path.length
  · refine RunH.adv tb_ok [] rfl rfl (by simp [h] <;> omega) ?_
    refine RunH.ret1 Tryz.func73 rfl rfl fun u hu => ⟨by simp [EV.v, AV.v]; omega, hu.fact⟩
  · refine RunH.adv tb_ok [] rfl rfl (by simp [h] <;> omega) ?_
    refine RunH.ret1 Tryz.func73 rfl rfl fun u hu => ⟨by simp [EV.v, AV.v]; omega, hu.fact⟩
theorem appL_len : ∀ (l : List Chg) (t y : List Entry), (appL l t y).2.1.length ≤ t.length + l.length ∧ (appL l t y).2.2.length ≤ y.length + l.length
  | [], t, y => ⟨Nat.le_refl _, Nat.le_refl _⟩
  | c :: r, t, y => by
    rw [appL]
    have a1 := setL_le t ⟨c.path, c.new⟩
    have a2 := setL_le y ⟨c.path, c.new⟩
    have a3 := List.length_eraseIdx_le t (posOf t c.path)
    have a4 := List.length_eraseIdx_le y (posOf y c.path)
    have b1 := appL_len r (setL t ⟨c.path, c.new⟩) y
    have b2 := appL_len r t (setL y ⟨c.path, c.new⟩)
    have b3 := appL_len r (t.eraseIdx (posOf t c.path)) y
    have b4 := appL_len r t (y.eraseIdx (posOf y c.path))
    simp only [List.length_cons]
    repeat' split
    all_goals first | (simp only [List.length_nil]; omega) | omega
theorem appC_len (l : List Chg) (t y : List Entry) : (appC t y l).2.1.length ≤ t.length + l.length ∧ (appC t y l).2.2.length ≤ y.length + l.length := by
  unfold appC; split
  · exact appL_len l t y
  · simp
set_option maxRecDepth 10000 in
set_option maxHeartbeats 2000000 in
theorem applies_walk (w : World) (hG : Glob w) (s : Spc) (hs : s.ok w) (LA : Option Addr) (lc : Nat) (l : List Chg) (hlr : Sl kChg w LA lc l) : Gives Tryz.prog 13 [s.ev.v, .slice LA l.length lc] w .tt := by
  have hl : lim = 140737488351232 := rfl
  refine enterH tb_ok [(0, s.ev), (1, slE LA l.length lc)] Tryz.func13 rfl Tryz.ntmps13 rfl rfl ?_
  refine RunH.adv tb_ok [] rfl rfl (by simp <;> omega) ?_
  refine RunH.gives (ho := rfl) (hw := rfl) (hd := rfl) (hf := rfl) (hes := rfl) (hc := Tryz.call14) (e := boolE (bigL s.t.l || bigL s.y.l)) (hC := fun u hu => r07_Great u s (hs.ext hu.fact)) ?_
  intro m1 hm1
  cases g1 : (bigL s.t.l || bigL s.y.l) with
  | true =>
    refine RunH.adv tb_ok [true, true, true] rfl rfl (by simp [g1] <;> omega) ?_
    refine RunH.gives (ho := rfl) (hw := rfl) (hd := rfl) (hf := rfl) (hes := rfl) (hc := Tryz.call15) (e := .tt) (hC := fun u hu => awake_spec u (hG.ext hu.fact)) ?_
    intro mA hmA
    refine RunH.adv tb_ok [] rfl rfl (by simp <;> omega) ?_
    refine RunH.ret1 Tryz.func13 rfl rfl fun u hu => ⟨rfl, hu.fact⟩
  | false =>
    by_cases g2 : 100 < l.length
    · refine RunH.adv tb_ok [false, true, true] rfl rfl (by simp [g1, g2] <;> omega) ?_
      refine RunH.gives (ho := rfl) (hw := rfl) (hd := rfl) (hf := rfl) (hes := rfl) (hc := Tryz.call15) (e := .tt) (hC := fun u hu => awake_spec u (hG.ext hu.fact)) ?_
      intro mA hmA
      refine RunH.adv tb_ok [] rfl rfl (by simp <;> omega) ?_
      refine RunH.ret1 Tryz.func13 rfl rfl fun u hu => ⟨rfl, hu.fact⟩
    · refine RunH.adv tb_ok [false, false] rfl rfl (by simp [g1, g2] <;> omega) ?_
      refine RunH.gives (ho := rfl) (hw := rfl) (hd := rfl) (hf := rfl) (hes := rfl) (hc := Tryz.call72) (e := boolE (l.any fun c => decide (80 < c.path.length))) (hC := fun u hu => containsFuncG u LA lc l (hlr.ext hu.fact) 73 [] [] (fun c => decide (80 < c.path.length)) ⟨Tryz.call73, fun x _ u _ => applies1_spec u x⟩) ?_
      intro m2 hm2
      cases g3 : (l.any fun c => decide (80 < c.path.length)) with
      | true =>
        refine RunH.adv tb_ok [true] rfl rfl (by simp [g3] <;> omega) ?_
        refine RunH.gives (ho := rfl) (hw := rfl) (hd := rfl) (hf := rfl) (hes := rfl) (hc := Tryz.call15) (e := .tt) (hC := fun u hu => awake_spec u (hG.ext hu.fact)) ?_
        intro mA hmA
        refine RunH.adv tb_ok [] rfl rfl (by simp <;> omega) ?_
        refine RunH.ret1 Tryz.func13 rfl rfl fun u hu => ⟨rfl, hu.fact⟩
      | false =>
        rw [Bool.or_eq_false_iff] at g1
        have b1 := bigL_small g1.1
        have b2 := bigL_small g1.2
        have hs1 : s.t.l.length ≤ 1000000 := by omega
        have hs2 : s.y.l.length ≤ 1000000 := by omega
        have hs3 : ∀ e ∈ s.t.l, e.path.length ≤ 1000000 := fun x hx => by have := b1.2 x hx; omega
        have hs4 : ∀ e ∈ s.y.l, e.path.length ≤ 1000000 := fun x hx => by have := b2.2 x hx; omega
        have hlp : ∀ g ∈ l, g.path.length ≤ 1000000 := fun x hx => by have := List.any_eq_false.1 g3 x hx; simp at this; omega
        have hn := appC_len l s.t.l s.y.l
        have hA := fun (A1 : Option Addr) (c1 : Nat) (B1 : Option Addr) (d1 : Nat) (A3 : Option Addr) (c3 : Nat) => Apply_spec ⟨⟨A1, c1, s.t.l⟩, ⟨B1, d1, s.y.l⟩⟩ A3 c3 l hs1 hs2 (by omega)
        have hB := fun (A5 : Option Addr) (c5 : Nat) => r07_Apply s A5 c5 l hs1 hs2 hs3 hs4 (by omega) hlp
        dsimp only at hA
        generalize appC s.t.l s.y.l l = a0 at *
        obtain ⟨e0, T0, Y0⟩ := a0
        dsimp only at hA hB hn
        refine RunH.adv tb_ok [false] rfl rfl (by simp [g3] <;> omega) ?_
        refine RunH.doesB [] 3 (hc := Tryz.call16) (ho := rfl) (hw := rfl) (hd := rfl) (hf := rfl) (hes := rfl) (hσ := rfl) (hn := rfl) (hV := fun _ => rfl) (hG := fun _ => rfl) (e := fun y => spV s y) (hC := r07_Own s hs1 hs2) (hp := fun u hu => hs.ext hu.fact) ?_
        rintro ⟨⟨A1, c1⟩, ⟨B1, d1⟩⟩ mo hmo
        refine RunH.drop ?_
        refine RunH.adv tb_ok [] rfl rfl (by simp <;> omega) ?_
        refine RunH.doesB [] 4 (hc := Tryz.call74) (ho := rfl) (hw := rfl) (hd := rfl) (hf := rfl) (hes := rfl) (hσ := rfl) (hn := rfl) (hV := fun _ => rfl) (hG := fun _ => rfl) (e := fun y : Option Addr × Nat => rowS 3 y.1 l.length y.2) (hC := cloneG LA lc l (by omega)) (hp := fun u hu => hlr.ext hu.fact) ?_
        rintro ⟨A3, c3⟩ m3 hm3
        refine RunH.drop ?_
        refine RunH.adv tb_ok [] rfl rfl (by simp <;> omega) ?_
        refine RunH.nilrow 5 kRChg.T kRChg.sz 6 ?_
        refine RunH.loop (α := Nat × Option Addr × Nat) (fun z => [(1, slE LA l.length lc), (2, .av (.box 0 w.heap.size 0)), (5, .av (.box 4 m3 0)), (6, rowS 3 A3 l.length c3), (7, rowS 5 z.2.1 (l.take z.1).length z.2.2), (31, slE LA l.length lc), (32, intE l.length), (33, intE z.1)]) (fun z => [(0, some (.box w.heap.size [s.t.av, s.y.av] 24)), (1, rowE kEntry A1 c1 s.t.l), (2, rowE kEntry B1 d1 s.y.l), (3, rowE kChg A3 c3 l), (4, some (.box m3 [.val (.slice A1 s.t.l.length c1), .val (.slice B1 s.y.l.length d1)] 24)), (5, rowE kRChg z.2.1 z.2.2 (l.take z.1))])
          (fun z u => Ext w u ∧ z.1 ≤ l.length) (fun z => l.length - z.1) (0, none, 0) rfl rfl (fun u h => ⟨h, Nat.zero_le _⟩) ?_
        rintro ⟨i, A5, c5⟩ m4
        refine RunH.pure (fun u h => h.2) fun (hi : i ≤ l.length) => ?_
        dsimp only
        by_cases hlt : i < l.length
        · have hlen : (l.take i).length = i := by rw [List.length_take]; omega
          refine RunH.adv tb_ok [true] rfl rfl (by simp [hlr.ptr hlt] <;> omega) ?_
          refine RunH.loadS (.st (chgF l[i])) rfl rfl rfl rfl (fun u hu => (hlr.ext hu.fact.1).load hlt) ?_
          refine RunH.adv tb_ok [] rfl rfl (by simp <;> omega) ?_
          refine RunH.gives (ho := rfl) (hw := rfl) (hd := rfl) (hf := rfl) (hes := rfl) (hc := Tryz.call75) (e := .st (chgF l[i])) (hC := fun u _ => change_spec u l[i]) ?_
          intro m5 hm5
          refine RunH.adv tb_ok [] rfl rfl (by simp <;> omega) ?_
          refine RunH.appendK (nx := 60) (κ := kRChg) (id := 5) (r := [l[i]]) (l := l.take i) rfl rfl rfl rfl rfl rfl elt_RChg rfl rfl (fun w hst => hst.liesRow (id := 7) (κ := kRChg) (l := [l[i]]) rfl (by simp [hl])) (by simp; omega) (by simp; omega) ?_
          intro A6 c6 m6 hm6
          refine RunH.adv tb_ok [] rfl rfl (by simp <;> omega) ?_
          refine RunH.again (i + 1, A6, c6) (.head _) ?_ ?_ (by dsimp only; omega) fun u h => ⟨h.1, by dsimp only; omega⟩
          · dsimp only; rw [List.take_succ_eq_append_getElem hlt]; rfl
          · dsimp only; rw [List.take_succ_eq_append_getElem hlt]; rfl
        · have htk : l.take i = l := List.take_of_length_le (by omega)
          rw [htk]
          refine RunH.adv tb_ok [false] rfl rfl (by simp <;> omega) ?_
          refine RunH.doesB [] 8 (hc := Tryz.call76) (ho := rfl) (hw := rfl) (hd := rfl) (hf := rfl) (hes := rfl) (hσ := rfl) (hn := rfl) (hV := fun _ => rfl) (hG := fun _ => rfl) (e := fun z : (Option Addr × Nat) × (Option Addr × Nat) => .av (.val (.tuple #[.agg #[.slice z.1.1 T0.length z.1.2, .slice z.2.1 Y0.length z.2.2], intV e0]))) (hC := hA A1 c1 B1 d1 A3 c3) (hp := fun u hu => ⟨(hG.ext hu.fact.1).max, ⟨Sl.own (B := w.heap.size) (hu.row (κ := kEntry) (l := s.t.l) (id := 1) rfl) (by show (s.t.l : List Entry).length ≤ lim; omega), Sl.own (B := w.heap.size) (hu.row (κ := kEntry) (l := s.y.l) (id := 2) rfl) (by show (s.y.l : List Entry).length ≤ lim; omega)⟩, (Sl.own (B := w.heap.size) (hu.row (κ := kChg) (l := l) (id := 3) rfl) (by show l.length ≤ lim; omega))⟩) ?_
          rintro ⟨⟨Aa, ca⟩, ⟨Ba, da⟩⟩ ma hma
          refine RunH.drop ?_
          refine RunH.adv tb_ok [] rfl rfl (by simp <;> omega) ?_
          refine RunH.tell [(47, .st [.val (.slice Aa T0.length ca), .val (.slice Ba Y0.length da)]), (48, intE e0), (10, .av (.box 8 ma 0)), (1, slE LA l.length lc), (2, .av (.box 0 w.heap.size 0)), (5, .av (.box 4 m3 0)), (6, rowS 3 A3 l.length c3), (7, rowS 5 A5 l.length c5)] [(6, rowE kEntry Aa ca T0), (7, rowE kEntry Ba da Y0), (8, some (.box ma [.val (.slice none 0 0), .val (.slice none 0 0)] 24)), (0, some (.box w.heap.size [s.t.av, s.y.av] 24)), (1, rowE kEntry A1 c1 s.t.l), (2, rowE kEntry B1 d1 s.y.l), (3, rowE kChg A3 c3 l), (4, some (.box m3 [.val (.slice A1 s.t.l.length c1), .val (.slice B1 s.y.l.length d1)] 24)), (5, rowE kRChg A5 c5 l)] [] rfl rfl rfl 9 ?_
          refine RunH.adv tb_ok [] rfl rfl (by simp <;> omega) ?_
          refine RunH.doesB [] 11 (hc := Tryz.call77) (ho := rfl) (hw := rfl) (hd := rfl) (hf := rfl) (hes := rfl) (hσ := rfl) (hn := rfl) (hV := fun _ => rfl) (hG := fun _ => rfl) (e := fun z : (Option Addr × Nat) × (Option Addr × Nat) => .av (.val (.tuple #[.agg #[.slice z.1.1 T0.length z.1.2, .slice z.2.1 Y0.length z.2.2], intV e0]))) (hC := hB A5 c5) (hp := fun u hu => ⟨hs.ext hu.fact.1, (Sl.own (B := w.heap.size) (hu.row (κ := kRChg) (l := l) (id := 5) rfl) (by show l.length ≤ lim; omega))⟩) ?_
          rintro ⟨⟨Ab, cb⟩, ⟨Bb, db⟩⟩ mb hmb
          refine RunH.drop ?_
          refine RunH.adv tb_ok [] rfl rfl (by simp <;> omega) ?_
          refine RunH.tell [(53, .st [.val (.slice Ab T0.length cb), .val (.slice Bb Y0.length db)]), (54, intE e0), (12, .av (.box 11 mb 0)), (10, .av (.box 8 ma 0)), (11, intE e0), (1, slE LA l.length lc), (2, .av (.box 0 w.heap.size 0)), (5, .av (.box 4 m3 0)), (6, rowS 3 A3 l.length c3), (7, rowS 5 A5 l.length c5)] [(9, rowE kEntry Ab cb T0), (10, rowE kEntry Bb db Y0), (11, some (.box mb [.val (.slice none 0 0), .val (.slice none 0 0)] 24)), (8, some (.box ma [.val (.slice Aa T0.length ca), .val (.slice Ba Y0.length da)] 24)), (6, rowE kEntry Aa ca T0), (7, rowE kEntry Ba da Y0), (0, some (.box w.heap.size [s.t.av, s.y.av] 24)), (1, rowE kEntry A1 c1 s.t.l), (2, rowE kEntry B1 d1 s.y.l), (3, rowE kChg A3 c3 l), (4, some (.box m3 [.val (.slice A1 s.t.l.length c1), .val (.slice B1 s.y.l.length d1)] 24)), (5, rowE kRChg A5 c5 l)] [] rfl rfl rfl 12 ?_
          refine RunH.adv tb_ok [] rfl rfl (by simp <;> omega) ?_
          refine RunH.gives (ho := rfl) (hw := rfl) (hd := rfl) (hf := rfl) (hes := rfl) (hc := Tryz.call22) (e := boolE (decide (T0 = T0) && decide (Y0 = Y0))) (hC := fun u hu => r07_Same u ⟨⟨Aa, ca, T0⟩, ⟨Ba, da, Y0⟩⟩ ⟨⟨Ab, cb, T0⟩, ⟨Bb, db, Y0⟩⟩ ⟨Sl.own (B := w.heap.size) (hu.row (κ := kEntry) (l := T0) (id := 6) rfl) (by show (T0 : List Entry).length ≤ lim; omega), Sl.own (B := w.heap.size) (hu.row (κ := kEntry) (l := Y0) (id := 7) rfl) (by show (Y0 : List Entry).length ≤ lim; omega)⟩ ⟨Sl.own (B := w.heap.size) (hu.row (κ := kEntry) (l := T0) (id := 9) rfl) (by show (T0 : List Entry).length ≤ lim; omega), Sl.own (B := w.heap.size) (hu.row (κ := kEntry) (l := Y0) (id := 10) rfl) (by show (Y0 : List Entry).length ≤ lim; omega)⟩) ?_
          intro mc hmc
          refine RunH.adv tb_ok [true] rfl rfl (by simp <;> omega) ?_
          refine RunH.doesB [(0, 6), (1, 7)] 20 (hc := Tryz.call37) (ho := rfl) (hw := rfl) (hd := rfl) (hf := rfl) (hes := rfl) (hσ := rfl) (hn := rfl) (hV := fun _ => rfl) (hG := fun _ => rfl) (e := fun _ : Unit => .av (.val (.tuple #[]))) (hC := spoil_spec Aa Ba ca da T0 Y0) (hp := fun _ _ => trivial) ?_
          rintro ⟨⟩ md hmd
          refine RunH.drop ?_
          refine RunH.adv tb_ok [true] rfl rfl (by simp <;> omega) ?_
          refine RunH.gives (ho := rfl) (hw := rfl) (hd := rfl) (hf := rfl) (hes := rfl) (hc := Tryz.call22) (e := boolE (decide (s.t.l = s.t.l) && decide (s.y.l = s.y.l))) (hC := fun u hu => r07_Same u ⟨⟨A1, c1, s.t.l⟩, ⟨B1, d1, s.y.l⟩⟩ s ⟨Sl.own (B := w.heap.size) (hu.row (κ := kEntry) (l := s.t.l) (id := 1) rfl) (by show (s.t.l : List Entry).length ≤ lim; omega), Sl.own (B := w.heap.size) (hu.row (κ := kEntry) (l := s.y.l) (id := 2) rfl) (by show (s.y.l : List Entry).length ≤ lim; omega)⟩ (hs.ext hu.fact.1)) ?_
          intro m9 hm9
          refine RunH.adv tb_ok [true] rfl rfl (by simp <;> omega) ?_
          refine RunH.gives (ho := rfl) (hw := rfl) (hd := rfl) (hf := rfl) (hes := rfl) (hc := Tryz.call78) (e := boolE (decide (l = l))) (hC := fun u hu => equalG_spec u A3 LA c3 lc l l (Sl.own (B := w.heap.size) (hu.row (κ := kChg) (l := l) (id := 3) rfl) (by show l.length ≤ lim; omega)) (hlr.ext hu.fact.1)) ?_
          intro m10 hm10
          refine RunH.adv tb_ok [true] rfl rfl (by simp <;> omega) ?_
          refine RunH.gives (ho := rfl) (hw := rfl) (hd := rfl) (hf := rfl) (hes := rfl) (hc := Tryz.call15) (e := .tt) (hC := fun u hu => awake_spec u (hG.ext hu.fact.1)) ?_
          intro mA hmA
          refine RunH.adv tb_ok [] rfl rfl (by simp <;> omega) ?_
          refine RunH.ret1 Tryz.func13 rfl rfl fun u hu => ⟨rfl, hu.fact.1⟩
end Go.Proofs.YtagnkcdhenilbaaGreatDoor

/-
SpaceApplies: the law is true for every input; the listed variables hold what the program's text lays.
-/
namespace Go.Proofs.YtagnkcdhenilbaaGreatDoor
open Go V RowKit Go.ChangeShapes Go.WideShapes Go.ChangeAt

set_option maxRecDepth 100000 in
theorem spaceApplies_lifted (os : Os) (started : os.Started) (H : Type) (enc : TypeId × Value → H) :
    ReturnsInHanded {} Tryz.checked os 13 .any (fun w args => (Rows.spaceAppliesSpec.pre enc Tryz.prog Tryz.f13 [] false w args ∧ laidMetH Tryz.prog Rows.spaceAppliesRow.laid w) ∧ sizedMet enc Tryz.prog Tryz.f13 (OpenSpec.ofChange Rows.spaceAppliesSpec) false w args)
      (Rows.spaceAppliesSpec.post enc Tryz.prog Tryz.f13 false true false false) := by
  refine wrap (C := Tryz.checked) (X := fun w _ => laidMetH Tryz.prog Rows.spaceAppliesRow.laid w) (fun _ _ _ hh h => h.of_heap hh) ownKnobs started (by kernel_rfl) Tryz.func13
    (ChangeSpec.witness_shaped (enc := enc) (C := Tryz.checked) (os := os) (X := fun w _ => laidMetH Tryz.prog Rows.spaceAppliesRow.laid w) false (World.laidAll Tryz.prog os Rows.spaceAppliesRow.laid)
      #[.agg #[.slice none 0 0, .slice none 0 0], .slice none 0 0] 8 (World.laidAll_os _ _ _)
      (World.shaped_of_ZipB (by kernel_rfl) (by kernel_rfl)) (by kernel_rfl) (by kernel_rfl) (by kernel_rfl)
      (by rw [MakeChecks.laidMetH_plain _ _ _ (by kernel_rfl)]; exact laidMet_laidAll _ (by kernel_rfl) (by kernel_rfl))) ?_
  intro W base args ds gs before hval0 hW hsz0 hL hS
  have hval : ∀ (j : Nat) t v, Tryz.f13.params[j]? = some t → args[j]? = some v → Value.okWide Tryz.prog W .any base t v := hval0
  have hsz : (DataW.weightsEach Tryz.prog (Tryz.f13.params.toList ++ Rows.spaceAppliesSpec.plain.varTypes Tryz.prog) (ds ++ gs)).all (· ≤ reachBytes) = true := hsz0
  have hW' := hW
  obtain ⟨p, q, hA0, hV, rfl, _, _⟩ := hW
  have hA : DataW.TrodAll enc Tryz.prog W 0 (fun _ => true) true Tryz.f13.params.toList args.toList ds p := hA0
  rw [Tryz.params13] at hA hval hsz
  obtain ⟨v0, v1, d0, d1, p0, p1, rfl, rfl, rfl, h0, h1⟩ := trodAll_two hA
  obtain ⟨rfl, rfl⟩ := trodVars_none hV
  have wt : ∀ {j : Nat} {t : TypeId} {d : DataW H}, [24, 94][j]? = some t → [d0, d1][j]? = some d → ∀ n ∈ d.weights Tryz.prog t, n ≤ reachBytes := by
    intro j t d ht hd n hn
    exact of_decide_eq_true (List.all_eq_true.1 hsz _ (DataW.weights_mem_each ht hd n hn))
  obtain ⟨x0, rfl, hx0⟩ := open_space h0 (wt (j := 0) rfl rfl) ((okWide_struct Tryz.underlying24 (hval 0 _ v0 rfl rfl)).imp fun _ h => h.1)
  obtain ⟨x1, rfl, hx1⟩ := open_changes h1 (wt (j := 1) rfl rfl) (hval 1 _ v1 rfl rfl)
  refine (applies_walk W (glob_of hS (show laidMetH Tryz.prog Rows.spaceChecksRow.laid W from hL)) x0 hx0 x1.A x1.c x1.l hx1).mono fun e W' ⟨he, hb⟩ => ?_
  subst he
  exact ⟨_, rfl, _, _, _, [], _, [], hW', trodAll_mk1 (shut_bool Tryz.underlying4 _),
    trodAll_mk2 (Below.trod laidOuts (by kernel_rfl) (of_decide_eq_true (by kernel_rfl)) h0 hb (fun y hy => hW'.lt y (by simp [hy]))) (Below.trod laidOuts (by kernel_rfl) (of_decide_eq_true (by kernel_rfl)) h1 hb (fun y hy => hW'.lt y (by simp [hy]))), rfl, hb.frame _, fun h => by cases h⟩

end Go.Proofs.YtagnkcdhenilbaaGreatDoor

/-
The closed facts of spaceApplies's row and card, one by one; no condition.
-/
namespace Go.Proofs.YtagnkcdhenilbaaGreatDoor
open Go
theorem spaceApplies_c0 : (Rows.spaceAppliesRow.wf (OpenSpec.ofChange Rows.spaceAppliesSpec) : Bool) = true := by kernel_rfl
theorem spaceApplies_c1 : (laidOutB Tryz.prog : Bool) = true := by kernel_rfl
theorem spaceApplies_c2 : (mapsRowed Tryz.prog : Bool) = true := by kernel_rfl
theorem spaceApplies_c3 : (Tryz.f13.params.all (Tryz.prog.readableRec ·) : Bool) = true := by kernel_rfl
theorem spaceApplies_c4 : (namedTie Tryz.prog Rows.spaceAppliesRow.named Rows.spaceAppliesSpec.vars : Bool) = true := by kernel_rfl
theorem spaceApplies_c5 : (Rows.spaceAppliesRow.stops == [] : Bool) = true := by kernel_rfl
theorem spaceApplies_c6 : (Tryz.prog.stops == [] : Bool) = true := by kernel_rfl
theorem spaceApplies_c7 : (Rows.spaceAppliesRow.knobs == [] : Bool) = true := by kernel_rfl
theorem spaceApplies_c8 : (Tryz.prog.stopKnobs == [] : Bool) = true := by kernel_rfl
theorem spaceApplies_c9 : (Rows.spaceAppliesRow.inPlace == Tryz.prog.inPlace 13 : Bool) = true := by kernel_rfl
theorem spaceApplies_c10 : (Rows.spaceAppliesRow.unfollowed == Tryz.prog.unfollowed 13 : Bool) = true := by kernel_rfl
theorem spaceApplies_c11 : (Rows.spaceAppliesRow.recurses == Tryz.prog.recurses 13 : Bool) = true := by kernel_rfl
theorem spaceApplies_c12 : (Rows.spaceAppliesRow.named == Tryz.prog.varsNamed 13 : Bool) = true := by kernel_rfl
theorem spaceApplies_c13 : (Rows.spaceAppliesRow.maps == (Tryz.f13.params.toList ++ Rows.spaceAppliesSpec.plain.varTypes Tryz.prog).any (Tryz.prog.mapsRec ·) : Bool) = true := by kernel_rfl
theorem spaceApplies_c14 : (Rows.spaceAppliesRow.ifaces == (Tryz.f13.params.toList ++ Rows.spaceAppliesSpec.plain.varTypes Tryz.prog).any (Tryz.prog.ifacesRec ·) : Bool) = true := by kernel_rfl
theorem spaceApplies_c15 : (Rows.spaceAppliesRow.mapsOut == Tryz.prog.mapsAmong Tryz.f13.resultTypes.toList : Bool) = true := by kernel_rfl
theorem spaceApplies_c16 : (Rows.spaceAppliesRow.loops == (Tryz.f13.params.toList ++ Rows.spaceAppliesSpec.plain.varTypes Tryz.prog).any (Tryz.prog.loopsFrom ·) : Bool) = true := by kernel_rfl
theorem spaceApplies_c17 : (Rows.spaceAppliesRow.wideKeys == (Tryz.f13.params.toList ++ Rows.spaceAppliesSpec.plain.varTypes Tryz.prog ++ Tryz.f13.resultTypes.toList).any (Tryz.prog.wideKeysFrom ·) : Bool) = true := by kernel_rfl
theorem spaceApplies_c18 : (Rows.spaceAppliesSpec.vars.all (Tryz.prog.varReadable ·) : Bool) = true := by kernel_rfl
theorem spaceApplies_c19 : (Tryz.f13.resultTypes.all (fun t => Tryz.prog.readableRec t && decide (t < Tryz.prog.types.size)) : Bool) = true := by kernel_rfl
theorem spaceApplies_c20 : (Rows.spaceAppliesRow.ifacesOut == Tryz.f13.resultTypes.toList.any (Tryz.prog.ifacesRec ·) : Bool) = true := by kernel_rfl
theorem spaceApplies_c21 : (Rows.spaceAppliesRow.loopsOut == Tryz.f13.resultTypes.toList.any (Tryz.prog.loopsFrom ·) : Bool) = true := by kernel_rfl
theorem spaceApplies_c22 : (Rows.spaceAppliesRow.plainKeys == Tryz.prog.plainKeys : Bool) = true := by kernel_rfl
theorem spaceApplies_c23 : (Rows.spaceAppliesRow.shortTexts.isNone : Bool) = true := by kernel_rfl
theorem spaceApplies_c24 : (Tryz.prog.stopsHeard : Bool) = true := by kernel_rfl
theorem spaceApplies_c25 : (Tryz.prog.mayEnter : Bool) = true := by kernel_rfl
theorem spaceApplies_c26 : (Rows.spaceAppliesRow.lifted == Tryz.prog.liftsFinal : Bool) = true := by kernel_rfl
theorem spaceApplies_c27 : (Tryz.prog.make == some Rows.spaceAppliesRow.make : Bool) = true := by kernel_rfl
theorem spaceApplies_c28 : (Rows.spaceAppliesRow.kinds == (if Rows.spaceAppliesRow.domain.isEmpty then [] else Tryz.f13.params.toList.map fun t => match Tryz.prog.underlying t with | some (.int k) => some k | _ => none) : Bool) = true := by kernel_rfl
theorem spaceApplies_c29 : (Rows.spaceAppliesRow.pinned == Rows.spaceAppliesRow.pinnedBy : Bool) = true := by kernel_rfl
theorem spaceApplies_c30 : (Rows.spaceAppliesRow.veiled == (Tryz.f13.params.toList ++ Rows.spaceAppliesSpec.plain.varTypes Tryz.prog ++ Tryz.f13.resultTypes.toList).any (Tryz.prog.veiledRec ·) : Bool) = true := by kernel_rfl
theorem spaceApplies_c31 : (Rows.spaceAppliesRow.veiledFits Tryz.prog Tryz.f13.params.toList (Tryz.f13.params.toList ++ Rows.spaceAppliesSpec.plain.varTypes Tryz.prog ++ Tryz.f13.resultTypes.toList) : Bool) = true := by kernel_rfl
set_option maxRecDepth 100000 in
theorem spaceApplies_joined : joinedFacts Tryz.prog 13 Tryz.f13 Rows.spaceAppliesSpec Rows.spaceAppliesRow = true :=
  joined_of spaceApplies_c0 spaceApplies_c1 spaceApplies_c2 spaceApplies_c3 spaceApplies_c4 spaceApplies_c5 spaceApplies_c6 spaceApplies_c7 spaceApplies_c8 spaceApplies_c9 spaceApplies_c10 spaceApplies_c11 spaceApplies_c12 spaceApplies_c13 spaceApplies_c14 spaceApplies_c15 spaceApplies_c16 spaceApplies_c17 spaceApplies_c18 spaceApplies_c19 spaceApplies_c20 spaceApplies_c21 spaceApplies_c22 spaceApplies_c23 spaceApplies_c24 spaceApplies_c25 spaceApplies_c26 spaceApplies_c27 spaceApplies_c28 spaceApplies_c29 spaceApplies_c30 spaceApplies_c31
theorem spaceApplies_named : Tryz.prog.funcNamed "hoarstone/hoarstonelaw07.SpaceApplies" = some 13 := by kernel_rfl
theorem spaceApplies_inst : decide (Tryz.f13.isInstance Tryz.prog Rows.spaceAppliesRow.origin Rows.spaceAppliesRow.targs) = true := by kernel_rfl
theorem spaceApplies_wfText : Rows.spaceAppliesRow.wfByText (OpenSpec.ofChange Rows.spaceAppliesSpec) = true := by kernel_rfl
theorem spaceApplies_goes : (false = Rows.spaceAppliesRow.goesBy Tryz.prog) := by kernel_rfl
end Go.Proofs.YtagnkcdhenilbaaGreatDoor

/-
SpaceApplies: the law is true for every input; its listed package variables hold what the program's text lays (the card ties them). No condition.
-/
namespace Go.Proofs.YtagnkcdhenilbaaGreatDoor
open Go
theorem spaceApplies_wrapped : Tryz.f13.isWrapper Tryz.prog Rows.spaceAppliesRow.wrapper Rows.spaceAppliesRow.mainSum := by
  unfold Func.isWrapper; first | (rw [if_pos (by decide +kernel)]; kernel_rfl) | (rw [if_neg (by decide +kernel)]; exact ⟨rfl, rfl⟩)
theorem spaceApplies_prog : Rows.spaceAppliesRow.program = Tryz.pinned.name := by kernel_rfl
theorem spaceApplies_sum : Rows.spaceAppliesRow.sum = Tryz.pinned.sum := by kernel_rfl
theorem spaceApplies_spec : Rows.spaceAppliesRow.spec = Rows.spaceAppliesSpec.name := by kernel_rfl
theorem spaceApplies_holds : Rows.SpaceAppliesSaid :=
  OpenClaim.holds_of_wide 13 Tryz.f13 spaceApplies_prog spaceApplies_sum spaceApplies_spec rfl rfl rfl rfl ⟨rfl, rfl, rfl, rfl, rfl⟩ rfl rfl rfl rfl rfl spaceApplies_named Tryz.func13 spaceApplies_joined
    (of_decide_eq_true spaceApplies_inst) spaceApplies_wrapped (fun os started H enc _ => spaceApplies_lifted os started H enc)
theorem spaceApplies_main : Tryz.prog.mainIs = some (Rows.spaceAppliesCard.stood.harness.1, Rows.spaceAppliesCard.stood.harness.2.toList) := by kernel_rfl
theorem spaceApplies_har : (!Rows.spaceAppliesCard.stood.harness.1 && Rows.spaceAppliesCard.stood.harness.2.isEmpty && !false) = false := by kernel_rfl
theorem spaceApplies_looks : false = Tryz.prog.looks [] := by kernel_rfl
theorem spaceApplies_plain : ([24, 94].all fun u => !Tryz.prog.wantsStandIn u) = true := by kernel_rfl
theorem spaceApplies_card_holds : Rows.SpaceAppliesCardSaid :=
  Claim7.holds_tied_plain_at .later [] [.data, .data, .data, .pinned] true Rows.spaceAppliesCard.stood.harness false
    spaceApplies_holds (fun _ h => by cases h) spaceApplies_wfText (fun _ h => by cases h) spaceApplies_row_tie rfl ⟨rfl, rfl⟩ spaceApplies_main spaceApplies_har
    (fun f fn hf hfn => by
      obtain rfl : f = 13 := (Option.some.inj (spaceApplies_named.symm.trans hf)).symm
      obtain rfl : fn = Tryz.f13 := (Option.some.inj (Tryz.func13.symm.trans hfn)).symm
      exact ⟨spaceApplies_looks, fun j t ht => by
        rw [Tryz.params13] at ht
        have hm : t ∈ [24, 94] := by simpa using Array.mem_of_getElem? ht
        exact (show Tryz.prog.wantsStandIn t = false by simpa using List.all_eq_true.1 spaceApplies_plain t hm)⟩)
    spaceApplies_goes
#print axioms spaceApplies_card_holds
end Go.Proofs.YtagnkcdhenilbaaGreatDoor
