/-
A part of the proof of SpaceNames: for every input the law returns true, and what was passed in reads as before; the listed package variables hold what the program's text lays. No further condition.
-/
import Derived.Test.YtagnkcdhenilbaaGreatDoorRows
import Derived.Test.YtagnkcdhenilbaaGreatDoorCards
import Derived.KernelRfl
import Derived.Test.YtagnkcdhenilbaaGreatDoorTie
import Derived.SevenTiedAt
import Derived.Test.YtagnkcdhenilbaaGreatDoorKPA2
import Derived.Test.YtagnkcdhenilbaaGreatDoorKP07e
import Derived.Test.YtagnkcdhenilbaaGreatDoorKPC6
import Derived.Test.YtagnkcdhenilbaaGreatDoorKR1
set_option linter.unusedVariables false
set_option linter.unusedSectionVars false
set_option linter.unusedSimpArgs false
namespace Go.Proofs.YtagnkcdhenilbaaGreatDoor
open Go V RowKit

set_option maxRecDepth 10000 in
set_option maxHeartbeats 1000000 in
theorem names_walk (w : World) (hG : Glob w) (s : Spc) (hs : s.ok w) (k : Int) (x : Sum) : Gives Tryz.prog 5 [s.ev.v, intV k, sumV x] w .tt := by
  have hl : lim = 140737488351232 := rfl
  refine enterH tb_ok [(0, s.ev), (1, intE k), (2, sumE x)] Tryz.func5 rfl Tryz.ntmps5 rfl rfl ?_
  refine RunH.adv tb_ok [] rfl rfl (by simp [AllOb, Ob.P, sum_len, sz_sum, one_int, u8V_one] <;> omega) ?_
  refine RunH.gives (ho := rfl) (hw := rfl) (hd := rfl) (hf := rfl) (hes := rfl) (hc := Tryz.call14) (e := boolE (bigL s.t.l || bigL s.y.l)) (hC := fun u hu => r07_Great u s (hs.ext hu.fact)) ?_
  intro m1 hm1
  cases g1 : (bigL s.t.l || bigL s.y.l) with
  | true =>
    refine RunH.adv tb_ok [true] rfl rfl (by simp [AllOb, Ob.P, sum_len, sz_sum, one_int, u8V_one, g1] <;> omega) ?_
    refine RunH.gives (ho := rfl) (hw := rfl) (hd := rfl) (hf := rfl) (hes := rfl) (hc := Tryz.call15) (e := .tt) (hC := fun u hu => awake_spec u (hG.ext hu.fact)) ?_
    intro mA hmA
    refine RunH.adv tb_ok [] rfl rfl (by simp [AllOb, Ob.P, sum_len, sz_sum, one_int, u8V_one] <;> omega) ?_
    refine RunH.ret1 Tryz.func5 rfl rfl fun u hu => ⟨rfl, hu.fact⟩
  | false =>
    rw [Bool.or_eq_false_iff] at g1
    have b1 := bigL_small g1.1
    have b2 := bigL_small g1.2
    have hs1 : s.t.l.length ≤ 1000000 := by omega
    have hs2 : s.y.l.length ≤ 1000000 := by omega
    have hs3 : ∀ e ∈ s.t.l, e.path.length ≤ 1000000 := fun x hx => by have := b1.2 x hx; omega
    have hs4 : ∀ e ∈ s.y.l, e.path.length ≤ 1000000 := fun x hx => by have := b2.2 x hx; omega
    refine RunH.adv tb_ok [false] rfl rfl (by simp [AllOb, Ob.P, sum_len, sz_sum, one_int, u8V_one] <;> omega) ?_
    refine RunH.doesB [] 4 (hc := Tryz.call16) (ho := rfl) (hw := rfl) (hd := rfl) (hf := rfl) (hes := rfl) (hσ := rfl) (hn := rfl) (hV := fun _ => rfl) (hG := fun _ => rfl) (e := fun y => spV s y) (hC := r07_Own s hs1 hs2) (hp := fun u hu => hs.ext hu.fact) ?_
    rintro ⟨⟨A1, c1⟩, ⟨B1, d1⟩⟩ m2 hm2
    refine RunH.drop ?_
    refine RunH.adv tb_ok [] rfl rfl (by simp [AllOb, Ob.P, sum_len, sz_sum, one_int, u8V_one] <;> omega) ?_
    refine RunH.doesB [] 6 (hc := Tryz.call29) (ho := rfl) (hw := rfl) (hd := rfl) (hf := rfl) (hes := rfl) (hσ := rfl) (hn := rfl) (hV := fun _ => rfl) (hG := fun _ => rfl) (e := fun z : Option Addr × Nat => .av (.val (.tuple #[.slice z.1 (namesL s.t.l s.y.l k x).length z.2, intV (namesE s.t.l s.y.l k x)]))) (hC := Names_spec ⟨⟨A1, c1, s.t.l⟩, ⟨B1, d1, s.y.l⟩⟩ k x hs1 hs2)
      (hp := fun u hu => ⟨(hG.ext hu.fact).max, Sl.own (B := w.heap.size) (hu.row (κ := kEntry) (l := s.t.l) (id := 2) rfl) (by show s.t.l.length ≤ lim; omega), Sl.own (B := w.heap.size) (hu.row (κ := kEntry) (l := s.y.l) (id := 3) rfl) (by show s.y.l.length ≤ lim; omega)⟩) ?_
    rintro ⟨A2, c2⟩ m3 hm3
    refine RunH.drop ?_
    refine RunH.adv tb_ok [] rfl rfl (by simp [AllOb, Ob.P, sum_len, sz_sum, one_int, u8V_one] <;> omega) ?_
    refine RunH.doesB [] 7 (hc := Tryz.call30) (ho := rfl) (hw := rfl) (hd := rfl) (hf := rfl) (hes := rfl) (hσ := rfl) (hn := rfl) (hV := fun _ => rfl) (hG := fun _ => rfl) (e := fun z : Option Addr × Nat => .av (.val (.tuple #[.slice z.1 (namesL s.t.l s.y.l k x).length z.2, intV (namesE s.t.l s.y.l k x)]))) (hC := r07_Names s k x hs1 hs2 hs3 hs4) (hp := fun u hu => hs.ext hu.fact) ?_
    rintro ⟨A3, c3⟩ m4 hm4
    refine RunH.drop ?_
    refine RunH.adv tb_ok [] rfl rfl (by simp [AllOb, Ob.P, sum_len, sz_sum, one_int, u8V_one] <;> omega) ?_
    refine RunH.gives (ho := rfl) (hw := rfl) (hd := rfl) (hf := rfl) (hes := rfl) (hc := Tryz.call31) (e := .av (.val (.tuple #[strV (nameS s.t.l s.y.l k x), intV (namesE s.t.l s.y.l k x)]))) (hC := fun u hu => Name_spec u ⟨⟨A1, c1, s.t.l⟩, ⟨B1, d1, s.y.l⟩⟩ k x (hG.ext hu.fact).max ⟨Sl.own (B := w.heap.size) (hu.row (κ := kEntry) (l := s.t.l) (id := 2) rfl) (by show s.t.l.length ≤ lim; omega), Sl.own (B := w.heap.size) (hu.row (κ := kEntry) (l := s.y.l) (id := 3) rfl) (by show s.y.l.length ≤ lim; omega)⟩ hs1 hs2) ?_
    intro m5 hm5
    refine RunH.adv tb_ok [] rfl rfl (by simp [AllOb, Ob.P, sum_len, sz_sum, one_int, u8V_one] <;> omega) ?_
    refine RunH.gives (ho := rfl) (hw := rfl) (hd := rfl) (hf := rfl) (hes := rfl) (hc := Tryz.call32) (e := .av (.val (.tuple #[strV (nameS s.t.l s.y.l k x), intV (namesE s.t.l s.y.l k x)]))) (hC := fun u hu => r07_Name u s (hs.ext hu.fact) k x hs1 hs2 hs3 hs4) ?_
    intro m6 hm6
    have hfl : (namesL s.t.l s.y.l k x).length ≤ 1000000 := by
      unfold namesL
      split
      · rename_i h
        have := (kList_sub h).2
        have := pathsOf_len (kList k s.t.l s.y.l) x
        omega
      · simp
    generalize namesL s.t.l s.y.l k x = fl at *
    generalize namesE s.t.l s.y.l k x = fe at *
    generalize nameS s.t.l s.y.l k x = ps at *
    refine RunH.adv tb_ok [] rfl rfl (by simp [AllOb, Ob.P, sum_len, sz_sum, one_int, u8V_one] <;> omega) ?_
    refine RunH.gives (ho := rfl) (hw := rfl) (hd := rfl) (hf := rfl) (hes := rfl) (hc := Tryz.call23) (e := boolE (decide (fl = fl))) (hC := fun u hu => equalS_spec u A2 A3 c2 c3 fl fl (Sl.own (B := w.heap.size) (hu.row (κ := kStr) (l := fl) (id := 5) rfl) (by omega)) (Sl.own (B := w.heap.size) (hu.row (κ := kStr) (l := fl) (id := 6) rfl) (by omega))) ?_
    intro m7 hm7
    refine RunH.adv tb_ok [true, true, true] rfl rfl (by simp [AllOb, Ob.P, sum_len, sz_sum, one_int, u8V_one] <;> omega) ?_
    refine RunH.go rfl rfl (OpGo.clearK (κ := kStr) (A := A2) (c := c2) (l := fl) (id := 5) tb_ok rfl rfl rfl rfl rfl rfl rfl (List.all_eq_true.1 (by kernel_rfl)) rfl (by decide)) 8 ?_
    rintro ⟨⟩ m8 hm8
    refine RunH.adv tb_ok [true] rfl rfl (by simp [AllOb, Ob.P, sum_len, sz_sum, one_int, u8V_one] <;> omega) ?_
    refine RunH.gives (ho := rfl) (hw := rfl) (hd := rfl) (hf := rfl) (hes := rfl) (hc := Tryz.call22) (e := boolE (decide (s.t.l = s.t.l) && decide (s.y.l = s.y.l))) (hC := fun u hu => r07_Same u ⟨⟨A1, c1, s.t.l⟩, ⟨B1, d1, s.y.l⟩⟩ s ⟨Sl.own (B := w.heap.size) (hu.row (κ := kEntry) (l := s.t.l) (id := 2) rfl) (by show s.t.l.length ≤ lim; omega), Sl.own (B := w.heap.size) (hu.row (κ := kEntry) (l := s.y.l) (id := 3) rfl) (by show s.y.l.length ≤ lim; omega)⟩ (hs.ext hu.fact)) ?_
    intro m9 hm9
    refine RunH.adv tb_ok [true] rfl rfl (by simp [AllOb, Ob.P, sum_len, sz_sum, one_int, u8V_one] <;> omega) ?_
    refine RunH.gives (ho := rfl) (hw := rfl) (hd := rfl) (hf := rfl) (hes := rfl) (hc := Tryz.call15) (e := .tt) (hC := fun u hu => awake_spec u (hG.ext hu.fact)) ?_
    intro mA hmA
    refine RunH.adv tb_ok [] rfl rfl (by simp [AllOb, Ob.P, sum_len, sz_sum, one_int, u8V_one] <;> omega) ?_
    refine RunH.ret1 Tryz.func5 rfl rfl fun u hu => ⟨rfl, hu.fact⟩
end Go.Proofs.YtagnkcdhenilbaaGreatDoor

/-
SpaceNames: the law is true for every input; the listed variables hold what the program's text lays.
-/
namespace Go.Proofs.YtagnkcdhenilbaaGreatDoor
open Go V RowKit Go.ChangeShapes Go.WideShapes Go.ChangeAt

set_option maxRecDepth 100000 in
theorem spaceNames_lifted (os : Os) (started : os.Started) (H : Type) (enc : TypeId × Value → H) :
    ReturnsInHanded {} Tryz.checked os 5 .any (fun w args => (Rows.spaceNamesSpec.pre enc Tryz.prog Tryz.f5 [] false w args ∧ laidMetH Tryz.prog Rows.spaceNamesRow.laid w) ∧ sizedMet enc Tryz.prog Tryz.f5 (OpenSpec.ofChange Rows.spaceNamesSpec) false w args)
      (Rows.spaceNamesSpec.post enc Tryz.prog Tryz.f5 false true false false) := by
  refine wrap (C := Tryz.checked) (X := fun w _ => laidMetH Tryz.prog Rows.spaceNamesRow.laid w) (fun _ _ _ hh h => h.of_heap hh) ownKnobs started (by kernel_rfl) Tryz.func5
    (ChangeSpec.witness_shaped (enc := enc) (C := Tryz.checked) (os := os) (X := fun w _ => laidMetH Tryz.prog Rows.spaceNamesRow.laid w) false (World.laidAll Tryz.prog os Rows.spaceNamesRow.laid)
      #[.agg #[.slice none 0 0, .slice none 0 0], .int .i64 0, sumV Sum.zero] 8 (World.laidAll_os _ _ _)
      (World.shaped_of_ZipB (by kernel_rfl) (by kernel_rfl)) (by kernel_rfl) (by kernel_rfl) (by kernel_rfl)
      (by rw [MakeChecks.laidMetH_plain _ _ _ (by kernel_rfl)]; exact laidMet_laidAll _ (by kernel_rfl) (by kernel_rfl))) ?_
  intro W base args ds gs before hval0 hW hsz0 hL hS
  have hval : ∀ (j : Nat) t v, Tryz.f5.params[j]? = some t → args[j]? = some v → Value.okWide Tryz.prog W .any base t v := hval0
  have hsz : (DataW.weightsEach Tryz.prog (Tryz.f5.params.toList ++ Rows.spaceNamesSpec.plain.varTypes Tryz.prog) (ds ++ gs)).all (· ≤ reachBytes) = true := hsz0
  have hW' := hW
  obtain ⟨p, q, hA0, hV, rfl, _, _⟩ := hW
  have hA : DataW.TrodAll enc Tryz.prog W 0 (fun _ => true) true Tryz.f5.params.toList args.toList ds p := hA0
  rw [Tryz.params5] at hA hval hsz
  obtain ⟨v0, v1, v2, d0, d1, d2, p0, p1, p2, rfl, rfl, rfl, h0, h1, h2⟩ := trodAll_three hA
  obtain ⟨rfl, rfl⟩ := trodVars_none hV
  have wt : ∀ {j : Nat} {t : TypeId} {d : DataW H}, [24, 3, 39][j]? = some t → [d0, d1, d2][j]? = some d → ∀ n ∈ d.weights Tryz.prog t, n ≤ reachBytes := by
    intro j t d ht hd n hn
    exact of_decide_eq_true (List.all_eq_true.1 hsz _ (DataW.weights_mem_each ht hd n hn))
  obtain ⟨x0, rfl, hx0⟩ := open_space h0 (wt (j := 0) rfl rfl) ((okWide_struct Tryz.underlying24 (hval 0 _ v0 rfl rfl)).imp fun _ h => h.1)
  obtain ⟨x1, rfl, _, _, _⟩ := ChangeShapes.open_int Tryz.underlying3 (hval 1 _ v1 rfl rfl) h1
  obtain ⟨x2, rfl⟩ := open_sumA h2 (hval 2 _ v2 rfl rfl)
  refine (names_walk W (glob_of hS (show laidMetH Tryz.prog Rows.spaceChecksRow.laid W from hL)) x0 hx0 x1 x2).mono fun e W' ⟨he, hb⟩ => ?_
  subst he
  exact ⟨_, rfl, _, _, _, [], _, [], hW', trodAll_mk1 (shut_bool Tryz.underlying4 _),
    trodAll_mk3 (Below.trod laidOuts (by kernel_rfl) (of_decide_eq_true (by kernel_rfl)) h0 hb (fun y hy => hW'.lt y (by simp [hy]))) (Below.trod laidOuts (by kernel_rfl) (of_decide_eq_true (by kernel_rfl)) h1 hb (fun y hy => hW'.lt y (by simp [hy]))) (Below.trod laidOuts (by kernel_rfl) (of_decide_eq_true (by kernel_rfl)) h2 hb (fun y hy => hW'.lt y (by simp [hy]))), rfl, hb.frame _, fun h => by cases h⟩

end Go.Proofs.YtagnkcdhenilbaaGreatDoor

/-
The closed facts of spaceNames's row and card, one by one; no condition.
-/
namespace Go.Proofs.YtagnkcdhenilbaaGreatDoor
open Go
theorem spaceNames_c0 : (Rows.spaceNamesRow.wf (OpenSpec.ofChange Rows.spaceNamesSpec) : Bool) = true := by kernel_rfl
theorem spaceNames_c1 : (laidOutB Tryz.prog : Bool) = true := by kernel_rfl
theorem spaceNames_c2 : (mapsRowed Tryz.prog : Bool) = true := by kernel_rfl
theorem spaceNames_c3 : (Tryz.f5.params.all (Tryz.prog.readableRec ·) : Bool) = true := by kernel_rfl
theorem spaceNames_c4 : (namedTie Tryz.prog Rows.spaceNamesRow.named Rows.spaceNamesSpec.vars : Bool) = true := by kernel_rfl
theorem spaceNames_c5 : (Rows.spaceNamesRow.stops == [] : Bool) = true := by kernel_rfl
theorem spaceNames_c6 : (Tryz.prog.stops == [] : Bool) = true := by kernel_rfl
theorem spaceNames_c7 : (Rows.spaceNamesRow.knobs == [] : Bool) = true := by kernel_rfl
theorem spaceNames_c8 : (Tryz.prog.stopKnobs == [] : Bool) = true := by kernel_rfl
theorem spaceNames_c9 : (Rows.spaceNamesRow.inPlace == Tryz.prog.inPlace 5 : Bool) = true := by kernel_rfl
theorem spaceNames_c10 : (Rows.spaceNamesRow.unfollowed == Tryz.prog.unfollowed 5 : Bool) = true := by kernel_rfl
theorem spaceNames_c11 : (Rows.spaceNamesRow.recurses == Tryz.prog.recurses 5 : Bool) = true := by kernel_rfl
theorem spaceNames_c12 : (Rows.spaceNamesRow.named == Tryz.prog.varsNamed 5 : Bool) = true := by kernel_rfl
theorem spaceNames_c13 : (Rows.spaceNamesRow.maps == (Tryz.f5.params.toList ++ Rows.spaceNamesSpec.plain.varTypes Tryz.prog).any (Tryz.prog.mapsRec ·) : Bool) = true := by kernel_rfl
theorem spaceNames_c14 : (Rows.spaceNamesRow.ifaces == (Tryz.f5.params.toList ++ Rows.spaceNamesSpec.plain.varTypes Tryz.prog).any (Tryz.prog.ifacesRec ·) : Bool) = true := by kernel_rfl
theorem spaceNames_c15 : (Rows.spaceNamesRow.mapsOut == Tryz.prog.mapsAmong Tryz.f5.resultTypes.toList : Bool) = true := by kernel_rfl
theorem spaceNames_c16 : (Rows.spaceNamesRow.loops == (Tryz.f5.params.toList ++ Rows.spaceNamesSpec.plain.varTypes Tryz.prog).any (Tryz.prog.loopsFrom ·) : Bool) = true := by kernel_rfl
theorem spaceNames_c17 : (Rows.spaceNamesRow.wideKeys == (Tryz.f5.params.toList ++ Rows.spaceNamesSpec.plain.varTypes Tryz.prog ++ Tryz.f5.resultTypes.toList).any (Tryz.prog.wideKeysFrom ·) : Bool) = true := by kernel_rfl
theorem spaceNames_c18 : (Rows.spaceNamesSpec.vars.all (Tryz.prog.varReadable ·) : Bool) = true := by kernel_rfl
theorem spaceNames_c19 : (Tryz.f5.resultTypes.all (fun t => Tryz.prog.readableRec t && decide (t < Tryz.prog.types.size)) : Bool) = true := by kernel_rfl
theorem spaceNames_c20 : (Rows.spaceNamesRow.ifacesOut == Tryz.f5.resultTypes.toList.any (Tryz.prog.ifacesRec ·) : Bool) = true := by kernel_rfl
theorem spaceNames_c21 : (Rows.spaceNamesRow.loopsOut == Tryz.f5.resultTypes.toList.any (Tryz.prog.loopsFrom ·) : Bool) = true := by kernel_rfl
theorem spaceNames_c22 : (Rows.spaceNamesRow.plainKeys == Tryz.prog.plainKeys : Bool) = true := by kernel_rfl
theorem spaceNames_c23 : (Rows.spaceNamesRow.shortTexts.isNone : Bool) = true := by kernel_rfl
theorem spaceNames_c24 : (Tryz.prog.stopsHeard : Bool) = true := by kernel_rfl
theorem spaceNames_c25 : (Tryz.prog.mayEnter : Bool) = true := by kernel_rfl
theorem spaceNames_c26 : (Rows.spaceNamesRow.lifted == Tryz.prog.liftsFinal : Bool) = true := by kernel_rfl
theorem spaceNames_c27 : (Tryz.prog.make == some Rows.spaceNamesRow.make : Bool) = true := by kernel_rfl
theorem spaceNames_c28 : (Rows.spaceNamesRow.kinds == (if Rows.spaceNamesRow.domain.isEmpty then [] else Tryz.f5.params.toList.map fun t => match Tryz.prog.underlying t with | some (.int k) => some k | _ => none) : Bool) = true := by kernel_rfl
theorem spaceNames_c29 : (Rows.spaceNamesRow.pinned == Rows.spaceNamesRow.pinnedBy : Bool) = true := by kernel_rfl
theorem spaceNames_c30 : (Rows.spaceNamesRow.veiled == (Tryz.f5.params.toList ++ Rows.spaceNamesSpec.plain.varTypes Tryz.prog ++ Tryz.f5.resultTypes.toList).any (Tryz.prog.veiledRec ·) : Bool) = true := by kernel_rfl
theorem spaceNames_c31 : (Rows.spaceNamesRow.veiledFits Tryz.prog Tryz.f5.params.toList (Tryz.f5.params.toList ++ Rows.spaceNamesSpec.plain.varTypes Tryz.prog ++ Tryz.f5.resultTypes.toList) : Bool) = true := by kernel_rfl
set_option maxRecDepth 100000 in
theorem spaceNames_joined : joinedFacts Tryz.prog 5 Tryz.f5 Rows.spaceNamesSpec Rows.spaceNamesRow = true :=
  joined_of spaceNames_c0 spaceNames_c1 spaceNames_c2 spaceNames_c3 spaceNames_c4 spaceNames_c5 spaceNames_c6 spaceNames_c7 spaceNames_c8 spaceNames_c9 spaceNames_c10 spaceNames_c11 spaceNames_c12 spaceNames_c13 spaceNames_c14 spaceNames_c15 spaceNames_c16 spaceNames_c17 spaceNames_c18 spaceNames_c19 spaceNames_c20 spaceNames_c21 spaceNames_c22 spaceNames_c23 spaceNames_c24 spaceNames_c25 spaceNames_c26 spaceNames_c27 spaceNames_c28 spaceNames_c29 spaceNames_c30 spaceNames_c31
theorem spaceNames_named : Tryz.prog.funcNamed "hoarstone/hoarstonelaw07.SpaceNames" = some 5 := by kernel_rfl
theorem spaceNames_inst : decide (Tryz.f5.isInstance Tryz.prog Rows.spaceNamesRow.origin Rows.spaceNamesRow.targs) = true := by kernel_rfl
theorem spaceNames_wfText : Rows.spaceNamesRow.wfByText (OpenSpec.ofChange Rows.spaceNamesSpec) = true := by kernel_rfl
theorem spaceNames_goes : (false = Rows.spaceNamesRow.goesBy Tryz.prog) := by kernel_rfl
end Go.Proofs.YtagnkcdhenilbaaGreatDoor

/-
SpaceNames: the law is true for every input; its listed package variables hold what the program's text lays (the card ties them). No condition.
-/
namespace Go.Proofs.YtagnkcdhenilbaaGreatDoor
open Go
theorem spaceNames_wrapped : Tryz.f5.isWrapper Tryz.prog Rows.spaceNamesRow.wrapper Rows.spaceNamesRow.mainSum := by
  unfold Func.isWrapper; first | (rw [if_pos (by decide +kernel)]; kernel_rfl) | (rw [if_neg (by decide +kernel)]; exact ⟨rfl, rfl⟩)
theorem spaceNames_prog : Rows.spaceNamesRow.program = Tryz.pinned.name := by kernel_rfl
theorem spaceNames_sum : Rows.spaceNamesRow.sum = Tryz.pinned.sum := by kernel_rfl
theorem spaceNames_spec : Rows.spaceNamesRow.spec = Rows.spaceNamesSpec.name := by kernel_rfl
theorem spaceNames_holds : Rows.SpaceNamesSaid :=
  OpenClaim.holds_of_wide 5 Tryz.f5 spaceNames_prog spaceNames_sum spaceNames_spec rfl rfl rfl rfl ⟨rfl, rfl, rfl, rfl, rfl⟩ rfl rfl rfl rfl rfl spaceNames_named Tryz.func5 spaceNames_joined
    (of_decide_eq_true spaceNames_inst) spaceNames_wrapped (fun os started H enc _ => spaceNames_lifted os started H enc)
theorem spaceNames_main : Tryz.prog.mainIs = some (Rows.spaceNamesCard.stood.harness.1, Rows.spaceNamesCard.stood.harness.2.toList) := by kernel_rfl
theorem spaceNames_har : (!Rows.spaceNamesCard.stood.harness.1 && Rows.spaceNamesCard.stood.harness.2.isEmpty && !false) = false := by kernel_rfl
theorem spaceNames_looks : false = Tryz.prog.looks [] := by kernel_rfl
theorem spaceNames_plain : ([24, 3, 39].all fun u => !Tryz.prog.wantsStandIn u) = true := by kernel_rfl
theorem spaceNames_card_holds : Rows.SpaceNamesCardSaid :=
  Claim7.holds_tied_plain_at .later [] [.data, .data, .data, .pinned] true Rows.spaceNamesCard.stood.harness false
    spaceNames_holds (fun _ h => by cases h) spaceNames_wfText (fun _ h => by cases h) spaceNames_row_tie rfl ⟨rfl, rfl⟩ spaceNames_main spaceNames_har
    (fun f fn hf hfn => by
      obtain rfl : f = 5 := (Option.some.inj (spaceNames_named.symm.trans hf)).symm
      obtain rfl : fn = Tryz.f5 := (Option.some.inj (Tryz.func5.symm.trans hfn)).symm
      exact ⟨spaceNames_looks, fun j t ht => by
        rw [Tryz.params5] at ht
        have hm : t ∈ [24, 3, 39] := by simpa using Array.mem_of_getElem? ht
        exact (show Tryz.prog.wantsStandIn t = false by simpa using List.all_eq_true.1 spaceNames_plain t hm)⟩)
    spaceNames_goes
#print axioms spaceNames_card_holds
end Go.Proofs.YtagnkcdhenilbaaGreatDoor
