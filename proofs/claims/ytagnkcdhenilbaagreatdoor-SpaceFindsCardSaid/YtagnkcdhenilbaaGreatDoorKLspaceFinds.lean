/-
A part of the proof of SpaceFinds: for every input the law returns true, and what was passed in reads as before; the listed package variables hold what the program's text lays. No further condition.
-/
import Derived.Test.YtagnkcdhenilbaaGreatDoorRows
import Derived.Test.YtagnkcdhenilbaaGreatDoorCards
import Derived.KernelRfl
import Derived.Test.YtagnkcdhenilbaaGreatDoorTie
import Derived.SevenTiedAt
import Derived.Test.YtagnkcdhenilbaaGreatDoorKPA2
import Derived.Test.YtagnkcdhenilbaaGreatDoorKSEnds
import Derived.Test.YtagnkcdhenilbaaGreatDoorKPC6
import Derived.Test.YtagnkcdhenilbaaGreatDoorKR1
set_option linter.unusedVariables false
set_option linter.unusedSectionVars false
set_option linter.unusedSimpArgs false
namespace Go.Proofs.YtagnkcdhenilbaaGreatDoor
open Go V RowKit

set_option maxRecDepth 10000 in
set_option maxHeartbeats 1000000 in
theorem finds_walk (w : World) (hG : Glob w) (s : Spc) (hs : s.ok w) (k : Int) (text : Str) : Gives Tryz.prog 4 [s.ev.v, intV k, strV text] w .tt := by
  have hl : lim = 140737488351232 := rfl
  refine enterH tb_ok [(0, s.ev), (1, intE k), (2, strE text)] Tryz.func4 rfl Tryz.ntmps4 rfl rfl ?_
  refine RunH.adv tb_ok [] rfl rfl (by simp [AllOb, Ob.P, sum_len, sz_sum, one_int, u8V_one] <;> omega) ?_
  refine RunH.gives (ho := rfl) (hw := rfl) (hd := rfl) (hf := rfl) (hes := rfl) (hc := Tryz.call14) (e := boolE (bigL s.t.l || bigL s.y.l)) (hC := fun u hu => r07_Great u s (hs.ext hu.fact)) ?_
  intro m1 hm1
  cases g1 : (bigL s.t.l || bigL s.y.l) with
  | true =>
    refine RunH.adv tb_ok [true] rfl rfl (by simp [AllOb, Ob.P, sum_len, sz_sum, one_int, u8V_one, g1] <;> omega) ?_
    refine RunH.gives (ho := rfl) (hw := rfl) (hd := rfl) (hf := rfl) (hes := rfl) (hc := Tryz.call15) (e := .tt) (hC := fun u hu => awake_spec u (hG.ext hu.fact)) ?_
    intro mA hmA
    refine RunH.adv tb_ok [] rfl rfl (by simp [AllOb, Ob.P, sum_len, sz_sum, one_int, u8V_one] <;> omega) ?_
    refine RunH.ret1 Tryz.func4 rfl rfl fun u hu => ⟨rfl, hu.fact⟩
  | false =>
    by_cases g2 : 100 < text.length
    · refine RunH.adv tb_ok [false, true] rfl rfl (by simp [AllOb, Ob.P, sum_len, sz_sum, one_int, u8V_one, g1, g2] <;> omega) ?_
      refine RunH.gives (ho := rfl) (hw := rfl) (hd := rfl) (hf := rfl) (hes := rfl) (hc := Tryz.call15) (e := .tt) (hC := fun u hu => awake_spec u (hG.ext hu.fact)) ?_
      intro mA hmA
      refine RunH.adv tb_ok [] rfl rfl (by simp [AllOb, Ob.P, sum_len, sz_sum, one_int, u8V_one] <;> omega) ?_
      refine RunH.ret1 Tryz.func4 rfl rfl fun u hu => ⟨rfl, hu.fact⟩
    · rw [Bool.or_eq_false_iff] at g1
      have b1 := bigL_small g1.1
      have b2 := bigL_small g1.2
      have hs1 : s.t.l.length ≤ 1000000 := by omega
      have hs2 : s.y.l.length ≤ 1000000 := by omega
      have hs3 : ∀ e ∈ s.t.l, e.path.length ≤ 1000000 := fun x hx => by have := b1.2 x hx; omega
      have hs4 : ∀ e ∈ s.y.l, e.path.length ≤ 1000000 := fun x hx => by have := b2.2 x hx; omega
      have hx1 : text.length ≤ 1000000 := by omega
      refine RunH.adv tb_ok [false, false] rfl rfl (by simp [AllOb, Ob.P, sum_len, sz_sum, one_int, u8V_one, g2] <;> omega) ?_
      refine RunH.doesB [] 3 (hc := Tryz.call16) (ho := rfl) (hw := rfl) (hd := rfl) (hf := rfl) (hes := rfl) (hσ := rfl) (hn := rfl) (hV := fun _ => rfl) (hG := fun _ => rfl) (e := fun y => spV s y) (hC := r07_Own s hs1 hs2) (hp := fun u hu => hs.ext hu.fact) ?_
      rintro ⟨⟨A1, c1⟩, ⟨B1, d1⟩⟩ m2 hm2
      refine RunH.drop ?_
      refine RunH.adv tb_ok [] rfl rfl (by simp [AllOb, Ob.P, sum_len, sz_sum, one_int, u8V_one] <;> omega) ?_
      refine RunH.doesB [] 5 (hc := Tryz.call24) (ho := rfl) (hw := rfl) (hd := rfl) (hf := rfl) (hes := rfl) (hσ := rfl) (hn := rfl) (hV := fun _ => rfl) (hG := fun _ => rfl) (e := fun z : Option Addr × Nat => .av (.val (.tuple #[.slice z.1 (findL s.t.l s.y.l k text).length z.2, intV (findE s.t.l s.y.l k text)]))) (hC := Find_spec ⟨⟨A1, c1, s.t.l⟩, ⟨B1, d1, s.y.l⟩⟩ k text hs1 hs2)
        (hp := fun u hu => ⟨(hG.ext hu.fact).max, Sl.own (B := w.heap.size) (hu.row (κ := kEntry) (l := s.t.l) (id := 1) rfl) (by show s.t.l.length ≤ lim; omega), Sl.own (B := w.heap.size) (hu.row (κ := kEntry) (l := s.y.l) (id := 2) rfl) (by show s.y.l.length ≤ lim; omega)⟩) ?_
      rintro ⟨A2, c2⟩ m3 hm3
      refine RunH.drop ?_
      refine RunH.adv tb_ok [] rfl rfl (by simp [AllOb, Ob.P, sum_len, sz_sum, one_int, u8V_one] <;> omega) ?_
      refine RunH.doesB [] 6 (hc := Tryz.call25) (ho := rfl) (hw := rfl) (hd := rfl) (hf := rfl) (hes := rfl) (hσ := rfl) (hn := rfl) (hV := fun _ => rfl) (hG := fun _ => rfl) (e := fun z : Option Addr × Nat => .av (.val (.tuple #[.slice z.1 (findL s.t.l s.y.l k text).length z.2, intV (findE s.t.l s.y.l k text)]))) (hC := r07_Find s k text hs1 hs2 hs3 hs4 hx1) (hp := fun u hu => hs.ext hu.fact) ?_
      rintro ⟨A3, c3⟩ m4 hm4
      refine RunH.drop ?_
      refine RunH.adv tb_ok [] rfl rfl (by simp [AllOb, Ob.P, sum_len, sz_sum, one_int, u8V_one] <;> omega) ?_
      refine RunH.gives (ho := rfl) (hw := rfl) (hd := rfl) (hf := rfl) (hes := rfl) (hc := Tryz.call26) (e := .av (.val (.tuple #[sumV (plainS s.t.l s.y.l k text), intV (plainE s.t.l s.y.l k text)]))) (hC := fun u hu => Plain_spec u ⟨⟨A1, c1, s.t.l⟩, ⟨B1, d1, s.y.l⟩⟩ k text (hG.ext hu.fact).max ⟨Sl.own (B := w.heap.size) (hu.row (κ := kEntry) (l := s.t.l) (id := 1) rfl) (by show s.t.l.length ≤ lim; omega), Sl.own (B := w.heap.size) (hu.row (κ := kEntry) (l := s.y.l) (id := 2) rfl) (by show s.y.l.length ≤ lim; omega)⟩ hs1 hs2) ?_
      intro m5 hm5
      refine RunH.adv tb_ok [] rfl rfl (by simp [AllOb, Ob.P, sum_len, sz_sum, one_int, u8V_one] <;> omega) ?_
      refine RunH.gives (ho := rfl) (hw := rfl) (hd := rfl) (hf := rfl) (hes := rfl) (hc := Tryz.call27) (e := .av (.val (.tuple #[sumV (plainS s.t.l s.y.l k text), intV (plainE s.t.l s.y.l k text)]))) (hC := fun u hu => r07_Plain u s (hs.ext hu.fact) k text hs1 hs2 hs3 hs4 hx1) ?_
      intro m6 hm6
      have hfl := findL_len s.t.l s.y.l k text
      generalize findL s.t.l s.y.l k text = fl at *
      generalize findE s.t.l s.y.l k text = fe at *
      generalize plainS s.t.l s.y.l k text = ps at *
      generalize plainE s.t.l s.y.l k text = pe at *
      refine RunH.adv tb_ok [] rfl rfl (by simp [AllOb, Ob.P, sum_len, sz_sum, one_int, u8V_one] <;> omega) ?_
      refine RunH.gives (ho := rfl) (hw := rfl) (hd := rfl) (hf := rfl) (hes := rfl) (hc := Tryz.call28) (e := boolE (decide (fl = fl))) (hC := fun u hu => equalE_spec u A2 A3 c2 c3 fl fl (Sl.own (B := w.heap.size) (hu.row (κ := kEntry) (l := fl) (id := 4) rfl) (by omega)) (Sl.own (B := w.heap.size) (hu.row (κ := kEntry) (l := fl) (id := 5) rfl) (by omega))) ?_
      intro m7 hm7
      refine RunH.adv tb_ok [true, true] rfl rfl (by simp [AllOb, Ob.P, sum_len, sz_sum, one_int, u8V_one] <;> omega) ?_
      refine RunH.read (boolE (decide (ps = ps))) rfl rfl rfl rfl (fun u q h hag => op_eq hag rfl rfl rfl rfl rfl (by kernel_rfl) (eq_sum u 9998 _ _)) ?_
      refine RunH.adv tb_ok [true] rfl rfl (by simp [AllOb, Ob.P, sum_len, sz_sum, one_int, u8V_one] <;> omega) ?_
      refine RunH.go rfl rfl (OpGo.clearK (κ := kEntry) (A := A2) (c := c2) (l := fl) (id := 4) tb_ok rfl rfl rfl rfl rfl rfl rfl (List.all_eq_true.1 (by kernel_rfl)) rfl (by decide)) 8 ?_
      rintro ⟨⟩ m8 hm8
      refine RunH.adv tb_ok [true] rfl rfl (by simp [AllOb, Ob.P, sum_len, sz_sum, one_int, u8V_one] <;> omega) ?_
      refine RunH.gives (ho := rfl) (hw := rfl) (hd := rfl) (hf := rfl) (hes := rfl) (hc := Tryz.call22) (e := boolE (decide (s.t.l = s.t.l) && decide (s.y.l = s.y.l))) (hC := fun u hu => r07_Same u ⟨⟨A1, c1, s.t.l⟩, ⟨B1, d1, s.y.l⟩⟩ s ⟨Sl.own (B := w.heap.size) (hu.row (κ := kEntry) (l := s.t.l) (id := 1) rfl) (by show s.t.l.length ≤ lim; omega), Sl.own (B := w.heap.size) (hu.row (κ := kEntry) (l := s.y.l) (id := 2) rfl) (by show s.y.l.length ≤ lim; omega)⟩ (hs.ext hu.fact)) ?_
      intro m9 hm9
      refine RunH.adv tb_ok [true] rfl rfl (by simp [AllOb, Ob.P, sum_len, sz_sum, one_int, u8V_one] <;> omega) ?_
      refine RunH.gives (ho := rfl) (hw := rfl) (hd := rfl) (hf := rfl) (hes := rfl) (hc := Tryz.call15) (e := .tt) (hC := fun u hu => awake_spec u (hG.ext hu.fact)) ?_
      intro mA hmA
      refine RunH.adv tb_ok [] rfl rfl (by simp [AllOb, Ob.P, sum_len, sz_sum, one_int, u8V_one] <;> omega) ?_
      refine RunH.ret1 Tryz.func4 rfl rfl fun u hu => ⟨rfl, hu.fact⟩
end Go.Proofs.YtagnkcdhenilbaaGreatDoor

/-
SpaceFinds: the law is true for every input; the listed variables hold what the program's text lays.
-/
namespace Go.Proofs.YtagnkcdhenilbaaGreatDoor
open Go V RowKit Go.ChangeShapes Go.WideShapes Go.ChangeAt

set_option maxRecDepth 100000 in
theorem spaceFinds_lifted (os : Os) (started : os.Started) (H : Type) (enc : TypeId × Value → H) :
    ReturnsInHanded {} Tryz.checked os 4 .any (fun w args => (Rows.spaceFindsSpec.pre enc Tryz.prog Tryz.f4 [] false w args ∧ laidMetH Tryz.prog Rows.spaceFindsRow.laid w) ∧ sizedMet enc Tryz.prog Tryz.f4 (OpenSpec.ofChange Rows.spaceFindsSpec) false w args)
      (Rows.spaceFindsSpec.post enc Tryz.prog Tryz.f4 false true false false) := by
  refine wrap (C := Tryz.checked) (X := fun w _ => laidMetH Tryz.prog Rows.spaceFindsRow.laid w) (fun _ _ _ hh h => h.of_heap hh) ownKnobs started (by kernel_rfl) Tryz.func4
    (ChangeSpec.witness_shaped (enc := enc) (C := Tryz.checked) (os := os) (X := fun w _ => laidMetH Tryz.prog Rows.spaceFindsRow.laid w) false (World.laidAll Tryz.prog os Rows.spaceFindsRow.laid)
      #[.agg #[.slice none 0 0, .slice none 0 0], .int .i64 0, .string ⟨#[]⟩] 8 (World.laidAll_os _ _ _)
      (World.shaped_of_ZipB (by kernel_rfl) (by kernel_rfl)) (by kernel_rfl) (by kernel_rfl) (by kernel_rfl)
      (by rw [MakeChecks.laidMetH_plain _ _ _ (by kernel_rfl)]; exact laidMet_laidAll _ (by kernel_rfl) (by kernel_rfl))) ?_
  intro W base args ds gs before hval0 hW hsz0 hL hS
  have hval : ∀ (j : Nat) t v, Tryz.f4.params[j]? = some t → args[j]? = some v → Value.okWide Tryz.prog W .any base t v := hval0
  have hsz : (DataW.weightsEach Tryz.prog (Tryz.f4.params.toList ++ Rows.spaceFindsSpec.plain.varTypes Tryz.prog) (ds ++ gs)).all (· ≤ reachBytes) = true := hsz0
  have hW' := hW
  obtain ⟨p, q, hA0, hV, rfl, _, _⟩ := hW
  have hA : DataW.TrodAll enc Tryz.prog W 0 (fun _ => true) true Tryz.f4.params.toList args.toList ds p := hA0
  rw [Tryz.params4] at hA hval hsz
  obtain ⟨v0, v1, v2, d0, d1, d2, p0, p1, p2, rfl, rfl, rfl, h0, h1, h2⟩ := trodAll_three hA
  obtain ⟨rfl, rfl⟩ := trodVars_none hV
  have wt : ∀ {j : Nat} {t : TypeId} {d : DataW H}, [24, 3, 9][j]? = some t → [d0, d1, d2][j]? = some d → ∀ n ∈ d.weights Tryz.prog t, n ≤ reachBytes := by
    intro j t d ht hd n hn
    exact of_decide_eq_true (List.all_eq_true.1 hsz _ (DataW.weights_mem_each ht hd n hn))
  obtain ⟨x0, rfl, hx0⟩ := open_space h0 (wt (j := 0) rfl rfl) ((okWide_struct Tryz.underlying24 (hval 0 _ v0 rfl rfl)).imp fun _ h => h.1)
  obtain ⟨x1, rfl, _, _, _⟩ := ChangeShapes.open_int Tryz.underlying3 (hval 1 _ v1 rfl rfl) h1
  obtain ⟨x2, rfl, _, _, _⟩ := ChangeMaps.open_string Tryz.underlying9 (hval 2 _ v2 rfl rfl) h2
  refine (finds_walk W (glob_of hS (show laidMetH Tryz.prog Rows.spaceChecksRow.laid W from hL)) x0 hx0 x1 x2.data.toList).mono fun e W' ⟨he, hb⟩ => ?_
  subst he
  exact ⟨_, rfl, _, _, _, [], _, [], hW', trodAll_mk1 (shut_bool Tryz.underlying4 _),
    trodAll_mk3 (Below.trod laidOuts (by kernel_rfl) (of_decide_eq_true (by kernel_rfl)) h0 hb (fun y hy => hW'.lt y (by simp [hy]))) (Below.trod laidOuts (by kernel_rfl) (of_decide_eq_true (by kernel_rfl)) h1 hb (fun y hy => hW'.lt y (by simp [hy]))) (Below.trod laidOuts (by kernel_rfl) (of_decide_eq_true (by kernel_rfl)) h2 hb (fun y hy => hW'.lt y (by simp [hy]))), rfl, hb.frame _, fun h => by cases h⟩

end Go.Proofs.YtagnkcdhenilbaaGreatDoor

/-
The closed facts of spaceFinds's row and card, one by one; no condition.
-/
namespace Go.Proofs.YtagnkcdhenilbaaGreatDoor
open Go
theorem spaceFinds_c0 : (Rows.spaceFindsRow.wf (OpenSpec.ofChange Rows.spaceFindsSpec) : Bool) = true := by kernel_rfl
theorem spaceFinds_c1 : (laidOutB Tryz.prog : Bool) = true := by kernel_rfl
theorem spaceFinds_c2 : (mapsRowed Tryz.prog : Bool) = true := by kernel_rfl
theorem spaceFinds_c3 : (Tryz.f4.params.all (Tryz.prog.readableRec ·) : Bool) = true := by kernel_rfl
theorem spaceFinds_c4 : (namedTie Tryz.prog Rows.spaceFindsRow.named Rows.spaceFindsSpec.vars : Bool) = true := by kernel_rfl
theorem spaceFinds_c5 : (Rows.spaceFindsRow.stops == [] : Bool) = true := by kernel_rfl
theorem spaceFinds_c6 : (Tryz.prog.stops == [] : Bool) = true := by kernel_rfl
theorem spaceFinds_c7 : (Rows.spaceFindsRow.knobs == [] : Bool) = true := by kernel_rfl
theorem spaceFinds_c8 : (Tryz.prog.stopKnobs == [] : Bool) = true := by kernel_rfl
theorem spaceFinds_c9 : (Rows.spaceFindsRow.inPlace == Tryz.prog.inPlace 4 : Bool) = true := by kernel_rfl
theorem spaceFinds_c10 : (Rows.spaceFindsRow.unfollowed == Tryz.prog.unfollowed 4 : Bool) = true := by kernel_rfl
theorem spaceFinds_c11 : (Rows.spaceFindsRow.recurses == Tryz.prog.recurses 4 : Bool) = true := by kernel_rfl
theorem spaceFinds_c12 : (Rows.spaceFindsRow.named == Tryz.prog.varsNamed 4 : Bool) = true := by kernel_rfl
theorem spaceFinds_c13 : (Rows.spaceFindsRow.maps == (Tryz.f4.params.toList ++ Rows.spaceFindsSpec.plain.varTypes Tryz.prog).any (Tryz.prog.mapsRec ·) : Bool) = true := by kernel_rfl
theorem spaceFinds_c14 : (Rows.spaceFindsRow.ifaces == (Tryz.f4.params.toList ++ Rows.spaceFindsSpec.plain.varTypes Tryz.prog).any (Tryz.prog.ifacesRec ·) : Bool) = true := by kernel_rfl
theorem spaceFinds_c15 : (Rows.spaceFindsRow.mapsOut == Tryz.prog.mapsAmong Tryz.f4.resultTypes.toList : Bool) = true := by kernel_rfl
theorem spaceFinds_c16 : (Rows.spaceFindsRow.loops == (Tryz.f4.params.toList ++ Rows.spaceFindsSpec.plain.varTypes Tryz.prog).any (Tryz.prog.loopsFrom ·) : Bool) = true := by kernel_rfl
theorem spaceFinds_c17 : (Rows.spaceFindsRow.wideKeys == (Tryz.f4.params.toList ++ Rows.spaceFindsSpec.plain.varTypes Tryz.prog ++ Tryz.f4.resultTypes.toList).any (Tryz.prog.wideKeysFrom ·) : Bool) = true := by kernel_rfl
theorem spaceFinds_c18 : (Rows.spaceFindsSpec.vars.all (Tryz.prog.varReadable ·) : Bool) = true := by kernel_rfl
theorem spaceFinds_c19 : (Tryz.f4.resultTypes.all (fun t => Tryz.prog.readableRec t && decide (t < Tryz.prog.types.size)) : Bool) = true := by kernel_rfl
theorem spaceFinds_c20 : (Rows.spaceFindsRow.ifacesOut == Tryz.f4.resultTypes.toList.any (Tryz.prog.ifacesRec ·) : Bool) = true := by kernel_rfl
theorem spaceFinds_c21 : (Rows.spaceFindsRow.loopsOut == Tryz.f4.resultTypes.toList.any (Tryz.prog.loopsFrom ·) : Bool) = true := by kernel_rfl
theorem spaceFinds_c22 : (Rows.spaceFindsRow.plainKeys == Tryz.prog.plainKeys : Bool) = true := by kernel_rfl
theorem spaceFinds_c23 : (Rows.spaceFindsRow.shortTexts.isNone : Bool) = true := by kernel_rfl
theorem spaceFinds_c24 : (Tryz.prog.stopsHeard : Bool) = true := by kernel_rfl
theorem spaceFinds_c25 : (Tryz.prog.mayEnter : Bool) = true := by kernel_rfl
theorem spaceFinds_c26 : (Rows.spaceFindsRow.lifted == Tryz.prog.liftsFinal : Bool) = true := by kernel_rfl
theorem spaceFinds_c27 : (Tryz.prog.make == some Rows.spaceFindsRow.make : Bool) = true := by kernel_rfl
theorem spaceFinds_c28 : (Rows.spaceFindsRow.kinds == (if Rows.spaceFindsRow.domain.isEmpty then [] else Tryz.f4.params.toList.map fun t => match Tryz.prog.underlying t with | some (.int k) => some k | _ => none) : Bool) = true := by kernel_rfl
theorem spaceFinds_c29 : (Rows.spaceFindsRow.pinned == Rows.spaceFindsRow.pinnedBy : Bool) = true := by kernel_rfl
theorem spaceFinds_c30 : (Rows.spaceFindsRow.veiled == (Tryz.f4.params.toList ++ Rows.spaceFindsSpec.plain.varTypes Tryz.prog ++ Tryz.f4.resultTypes.toList).any (Tryz.prog.veiledRec ·) : Bool) = true := by kernel_rfl
theorem spaceFinds_c31 : (Rows.spaceFindsRow.veiledFits Tryz.prog Tryz.f4.params.toList (Tryz.f4.params.toList ++ Rows.spaceFindsSpec.plain.varTypes Tryz.prog ++ Tryz.f4.resultTypes.toList) : Bool) = true := by kernel_rfl
set_option maxRecDepth 100000 in
theorem spaceFinds_joined : joinedFacts Tryz.prog 4 Tryz.f4 Rows.spaceFindsSpec Rows.spaceFindsRow = true :=
  joined_of spaceFinds_c0 spaceFinds_c1 spaceFinds_c2 spaceFinds_c3 spaceFinds_c4 spaceFinds_c5 spaceFinds_c6 spaceFinds_c7 spaceFinds_c8 spaceFinds_c9 spaceFinds_c10 spaceFinds_c11 spaceFinds_c12 spaceFinds_c13 spaceFinds_c14 spaceFinds_c15 spaceFinds_c16 spaceFinds_c17 spaceFinds_c18 spaceFinds_c19 spaceFinds_c20 spaceFinds_c21 spaceFinds_c22 spaceFinds_c23 spaceFinds_c24 spaceFinds_c25 spaceFinds_c26 spaceFinds_c27 spaceFinds_c28 spaceFinds_c29 spaceFinds_c30 spaceFinds_c31
theorem spaceFinds_named : Tryz.prog.funcNamed "hoarstone/hoarstonelaw07.SpaceFinds" = some 4 := by kernel_rfl
theorem spaceFinds_inst : decide (Tryz.f4.isInstance Tryz.prog Rows.spaceFindsRow.origin Rows.spaceFindsRow.targs) = true := by kernel_rfl
theorem spaceFinds_wfText : Rows.spaceFindsRow.wfByText (OpenSpec.ofChange Rows.spaceFindsSpec) = true := by kernel_rfl
theorem spaceFinds_goes : (false = Rows.spaceFindsRow.goesBy Tryz.prog) := by kernel_rfl
end Go.Proofs.YtagnkcdhenilbaaGreatDoor

/-
SpaceFinds: the law is true for every input; its listed package variables hold what the program's text lays (the card ties them). No condition.
-/
namespace Go.Proofs.YtagnkcdhenilbaaGreatDoor
open Go
theorem spaceFinds_wrapped : Tryz.f4.isWrapper Tryz.prog Rows.spaceFindsRow.wrapper Rows.spaceFindsRow.mainSum := by
  unfold Func.isWrapper; first | (rw [if_pos (by decide +kernel)]; kernel_rfl) | (rw [if_neg (by decide +kernel)]; exact ⟨rfl, rfl⟩)
theorem spaceFinds_prog : Rows.spaceFindsRow.program = Tryz.pinned.name := by kernel_rfl
theorem spaceFinds_sum : Rows.spaceFindsRow.sum = Tryz.pinned.sum := by kernel_rfl
theorem spaceFinds_spec : Rows.spaceFindsRow.spec = Rows.spaceFindsSpec.name := by kernel_rfl
theorem spaceFinds_holds : Rows.SpaceFindsSaid :=
  OpenClaim.holds_of_wide 4 Tryz.f4 spaceFinds_prog spaceFinds_sum spaceFinds_spec rfl rfl rfl rfl ⟨rfl, rfl, rfl, rfl, rfl⟩ rfl rfl rfl rfl rfl spaceFinds_named Tryz.func4 spaceFinds_joined
    (of_decide_eq_true spaceFinds_inst) spaceFinds_wrapped (fun os started H enc _ => spaceFinds_lifted os started H enc)
theorem spaceFinds_main : Tryz.prog.mainIs = some (Rows.spaceFindsCard.stood.harness.1, Rows.spaceFindsCard.stood.harness.2.toList) := by kernel_rfl
theorem spaceFinds_har : (!Rows.spaceFindsCard.stood.harness.1 && Rows.spaceFindsCard.stood.harness.2.isEmpty && !false) = false := by kernel_rfl
theorem spaceFinds_looks : false = Tryz.prog.looks [] := by kernel_rfl
theorem spaceFinds_plain : ([24, 3, 9].all fun u => !Tryz.prog.wantsStandIn u) = true := by kernel_rfl
theorem spaceFinds_card_holds : Rows.SpaceFindsCardSaid :=
  Claim7.holds_tied_plain_at .later [] [.data, .data, .data, .pinned] true Rows.spaceFindsCard.stood.harness false
    spaceFinds_holds (fun _ h => by cases h) spaceFinds_wfText (fun _ h => by cases h) spaceFinds_row_tie rfl ⟨rfl, rfl⟩ spaceFinds_main spaceFinds_har
    (fun f fn hf hfn => by
      obtain rfl : f = 4 := (Option.some.inj (spaceFinds_named.symm.trans hf)).symm
      obtain rfl : fn = Tryz.f4 := (Option.some.inj (Tryz.func4.symm.trans hfn)).symm
      exact ⟨spaceFinds_looks, fun j t ht => by
        rw [Tryz.params4] at ht
        have hm : t ∈ [24, 3, 9] := by simpa using Array.mem_of_getElem? ht
        exact (show Tryz.prog.wantsStandIn t = false by simpa using List.all_eq_true.1 spaceFinds_plain t hm)⟩)
    spaceFinds_goes
#print axioms spaceFinds_card_holds
end Go.Proofs.YtagnkcdhenilbaaGreatDoor
