/-
A part of the proof of TrieDecodes: for every input the law returns true, and what was passed in reads as before; the listed package variables hold what the program's text lays. No further condition.
-/
import Derived.Test.YtbfjmimiigjenaaGreatDoorRows
import Derived.Test.YtbfjmimiigjenaaGreatDoorCards
import Derived.KernelRfl
import Derived.Test.YtbfjmimiigjenaaGreatDoorTie
import Derived.SevenTiedAt
import Derived.Test.YtbfjmimiigjenaaGreatDoorKG13
import Derived.Test.YtbfjmimiigjenaaGreatDoorKVZ
set_option maxRecDepth 100000
set_option linter.unusedVariables false
set_option linter.unusedSimpArgs false
namespace Go.Proofs.YtbfjmimiigjenaaGreatDoor
open Go V RowKit
set_option maxHeartbeats 1000000 in
theorem decodes_walk (w : World) (hG : Glob w) (A : Option Addr) (c : Nat) (l : List UInt8) (h : Sl kBy w A c l) : Gives Tryz.prog 12 [.slice A l.length c] w .tt := by
 have hlim : lim = 140737488351232 := rfl
 have hsm := h.small
 have hz31 : (Tryz.t31).size = 1 := by kernel_rfl
 refine enterH tk [(0, slE A l.length c)] Tryz.func12 rfl Tryz.ntmps12 rfl rfl ?_
 by_cases h1 : 60000 < l.length
 ·refine RH.adv tk [true] rfl rfl (by simp [h1] <;> omega) ?_
  refine RH.gv .tt rfl rfl rfl Tryz.call30 (fun u hu => awake_spec u (hG.ext hu.fact)) ?_
  intro m9 hm9
  refine RH.a [] ?_
  refine RH.ret1 Tryz.func12 rfl rfl fun u hu => ⟨rfl, hu.fact⟩
 refine RH.adv tk [false] rfl rfl (by simp [h1] <;> omega) ?_
 refine RH.toNx 60 ?_
 refine RH.dd [] 61 (fun z : Option Addr × Nat => rowS 60 z.1 l.length z.2) rfl rfl rfl Tryz.call37 (bClone_spec A c l (by omega)) (fun u hu => h.ext hu.fact) ?_
 rintro ⟨A1, c1⟩ m1 hm1
 refine RH.drop ?_
 refine V.RH.know (fun u => Ext w u) (fun u h => h) ?_
 refine RH.a [] ?_
 have gd := GoodO.dec l
 have hD := Decode_spec A1 c1 l (by omega)
 have hR := rDecode_spec A c l (by omega)
 generalize decL l = d at *
 obtain ⟨t, k, e⟩ := d
 dsimp only at gd hD hR
 refine RH.dd [] 4 (fun o : Option Plot => .av (.val (.tuple #[.agg #[ptrO o], intV k, intV e]))) rfl rfl rfl Tryz.call45 hD (fun u hu => ⟨hG.ext hu.fact, Sl.own (B := w.heap.size) (hu.row (κ := kBy) (l := l) (id := 60) rfl) (by omega)⟩) ?_
 intro pm m2 hm2
 refine V.RH.know (fun u => Ext w u ∧ IsO u pm t) (fun u h => ⟨h.1, h.2.now trivial⟩) ?_
 refine RH.adv tk [] rfl rfl (by simp [hz31, Value.oneCell'] <;> omega) ?_
 refine V.RH.slotE 19 (mapE pm) rfl rfl ?_
 refine RH.adv tk [] rfl rfl (by simp [hz31, Value.oneCell'] <;> omega) ?_
 refine RH.dd [] 7 (fun z : At2 => .av (.val (.tuple #[(rmE z (ksO t) (xsO t)).v, intV k, intV e]))) rfl rfl rfl Tryz.call74 hR (fun u hu => h.ext hu.fact.1) ?_
 intro zm m3 hm3
 refine V.RH.know (fun u => (Ext w u ∧ IsO u pm t) ∧ RM u zm (ksO t) (xsO t)) (fun u h => ⟨h.1, h.2.now trivial⟩) ?_
 refine RH.adv tk [] rfl rfl (by simp [hz31, Value.oneCell'] <;> omega) ?_
 refine V.RH.slotE 25 (rmE zm (ksO t) (xsO t)) rfl rfl ?_
 refine RH.adv tk [] rfl rfl (by simp [hz31, Value.oneCell'] <;> omega) ?_
 refine RH.tell [(0, slE A l.length c), (3, rowS 60 A1 l.length c1), (4, .av (.box 4 m2 0)), (5, intE k), (6, intE e), (7, .av (.box 7 m3 0)), (8, intE k), (9, intE e)]
  [(4, some (.box m2 [.val (ptrO pm)] 31)), (7, some (.box m3 (rmF zm (ksO t) (xsO t)) 81)), (60, rowE kBy A1 c1 l)] [] rfl rfl rfl 62 ?_
 refine RH.w [(4, some (.box m2 [.val (ptrO pm)] 31)), (7, some (.box m3 (rmF zm (ksO t) (xsO t)) 81)), (60, rowE kBy A1 c1 l)] 25 ?_
 refine RD.a [true, true] ?_
 refine RD.gv 13 (sumE (sum1 7)) rfl rfl rfl Tryz.call21 (fun u hu => one3_spec u _) ?_
 intro m4 hm4
 refine RD.gv 14 .tt rfl rfl rfl Tryz.call62 (fun u hu => lives_spec u (hG.ext hu.fact.1.1) pm t hu.fact.1.2 zm hu.fact.2 gd [97] (by decide) (sum1 7)) ?_
 intro m5 hm5
 refine RD.a [] ?_
 refine RD.gv 19 .tt rfl rfl rfl Tryz.call46 (fun u hu => by
  have h9 := bEqualA u A1 A c1 c l l (Sl.own (B := w.heap.size) (hu.row (κ := kBy) (l := l) (id := 60) rfl) (by omega)) (h.ext hu.fact.1.1)
  rw [decide_eq_true rfl] at h9
  exact h9) ?_
 intro m6 hm6
 refine RD.a [] ?_
 refine RD.gv 22 .tt rfl rfl rfl Tryz.call30 (fun u hu => awake_spec u (hG.ext hu.fact.1.1)) ?_
 intro m7 hm7
 refine RD.a [] ?_
 refine RD.e ?_
 refine RH.ret1 Tryz.func12 rfl rfl fun u hu => ⟨rfl, hu.fact.1.1⟩
open Go V RowKit Go.ChangeShapes Go.WideShapes Go.ChangeAt
theorem trieDecodes_lifted (os : Os) (started : os.Started) (H : Type) (enc : TypeId × Value → H) :
  ReturnsInHanded {} Tryz.checked os 12 .any (fun w args => (Rows.trieDecodesSpec.pre enc Tryz.prog Tryz.f12 [] false w args ∧ laidMetH Tryz.prog Rows.trieDecodesRow.laid w) ∧ sizedMet enc Tryz.prog Tryz.f12 (OpenSpec.ofChange Rows.trieDecodesSpec) false w args)
   (Rows.trieDecodesSpec.post enc Tryz.prog Tryz.f12 false true false false) := by
 refine wrap (C := Tryz.checked) (X := fun w _ => laidMetH Tryz.prog Rows.trieDecodesRow.laid w) (fun _ _ _ hh h => h.of_heap hh) ownKnobs started (by kernel_rfl) Tryz.func12
  (ChangeSpec.witness_shaped (enc := enc) (C := Tryz.checked) (os := os) (X := fun w _ => laidMetH Tryz.prog Rows.trieDecodesRow.laid w) false (World.laidAll Tryz.prog os Rows.trieDecodesRow.laid)
   #[.slice none 0 0] 8 (World.laidAll_os _ _ _)
   (World.shaped_of_ZipB (by kernel_rfl) (by kernel_rfl)) (by kernel_rfl) (by kernel_rfl) (by kernel_rfl)
   (by rw [MakeChecks.laidMetH_plain _ _ _ (by kernel_rfl)]; exact laidMet_laidAll _ (by kernel_rfl) (by kernel_rfl))) ?_
 intro W base args ds gs before hval0 hW hsz0 hL hS
 have hval : ∀ (j : Nat) t v, Tryz.f12.params[j]? = some t → args[j]? = some v → Value.okWide Tryz.prog W .any base t v := hval0
 have hsz : (DataW.weightsEach Tryz.prog (Tryz.f12.params.toList ++ Rows.trieDecodesSpec.plain.varTypes Tryz.prog) (ds ++ gs)).all (· ≤ reachBytes) = true := hsz0
 have hW' := hW
 obtain ⟨p, q, hA0, hV, rfl, _, _⟩ := hW
 have hA : DataW.TrodAll enc Tryz.prog W 0 (fun _ => true) true Tryz.f12.params.toList args.toList ds p := hA0
 rw [Tryz.params12] at hA hval hsz
 obtain ⟨v0, d0, rfl, rfl, h0⟩ := trodAll_one hA
 obtain ⟨rfl, rfl⟩ := trodVars_none hV
 have wt : ∀ {j : Nat} {t : TypeId} {d : DataW H}, [22][j]? = some t → [d0][j]? = some d → ∀ n ∈ d.weights Tryz.prog t, n ≤ reachBytes := by
  intro j t d ht hd n hn
  exact of_decide_eq_true (List.all_eq_true.1 hsz _ (DataW.weights_mem_each ht hd n hn))
 obtain ⟨x0, rfl, hx0⟩ := open_bytes h0 (wt (j := 0) rfl rfl) (hval 0 _ v0 rfl rfl)
 refine (decodes_walk W (glob_of hS (show laidMetH Tryz.prog Rows.trieShapeRow.laid W from hL)) x0.A x0.c x0.l hx0).mono fun e W' ⟨he, hb⟩ => ?_
 subst he
 exact ⟨_, rfl, _, _, _, [], _, [], hW', trodAll_mk1 (shut_bool Tryz.underlying4 _),
  trodAll_mk1 (Below.trod laidOuts (by kernel_rfl) (of_decide_eq_true (by kernel_rfl)) h0 hb (fun y hy => hW'.lt y (by simp [hy]))), rfl, hb.frame _, fun h => by cases h⟩
end Go.Proofs.YtbfjmimiigjenaaGreatDoor
namespace Go.Proofs.YtbfjmimiigjenaaGreatDoor
open Go
theorem trieDecodes_c0 : (Rows.trieDecodesRow.wf (OpenSpec.ofChange Rows.trieDecodesSpec) : Bool) = true := by kernel_rfl
theorem trieDecodes_c1 : (laidOutB Tryz.prog : Bool) = true := by kernel_rfl
theorem trieDecodes_c2 : (mapsRowed Tryz.prog : Bool) = true := by kernel_rfl
theorem trieDecodes_c3 : (Tryz.f12.params.all (Tryz.prog.readableRec ·) : Bool) = true := by kernel_rfl
theorem trieDecodes_c4 : (namedTie Tryz.prog Rows.trieDecodesRow.named Rows.trieDecodesSpec.vars : Bool) = true := by kernel_rfl
theorem trieDecodes_c5 : (Rows.trieDecodesRow.stops == [] : Bool) = true := by kernel_rfl
theorem trieDecodes_c6 : (Tryz.prog.stops == [] : Bool) = true := by kernel_rfl
theorem trieDecodes_c7 : (Rows.trieDecodesRow.knobs == [] : Bool) = true := by kernel_rfl
theorem trieDecodes_c8 : (Tryz.prog.stopKnobs == [] : Bool) = true := by kernel_rfl
theorem trieDecodes_c9 : (Rows.trieDecodesRow.inPlace == Tryz.prog.inPlace 12 : Bool) = true := by kernel_rfl
theorem trieDecodes_c10 : (Rows.trieDecodesRow.unfollowed == Tryz.prog.unfollowed 12 : Bool) = true := by kernel_rfl
theorem trieDecodes_c11 : (Rows.trieDecodesRow.recurses == Tryz.prog.recurses 12 : Bool) = true := by kernel_rfl
theorem trieDecodes_c12 : (Rows.trieDecodesRow.named == Tryz.prog.varsNamed 12 : Bool) = true := by kernel_rfl
theorem trieDecodes_c13 : (Rows.trieDecodesRow.maps == (Tryz.f12.params.toList ++ Rows.trieDecodesSpec.plain.varTypes Tryz.prog).any (Tryz.prog.mapsRec ·) : Bool) = true := by kernel_rfl
theorem trieDecodes_c14 : (Rows.trieDecodesRow.ifaces == (Tryz.f12.params.toList ++ Rows.trieDecodesSpec.plain.varTypes Tryz.prog).any (Tryz.prog.ifacesRec ·) : Bool) = true := by kernel_rfl
theorem trieDecodes_c15 : (Rows.trieDecodesRow.mapsOut == Tryz.prog.mapsAmong Tryz.f12.resultTypes.toList : Bool) = true := by kernel_rfl
theorem trieDecodes_c16 : (Rows.trieDecodesRow.loops == (Tryz.f12.params.toList ++ Rows.trieDecodesSpec.plain.varTypes Tryz.prog).any (Tryz.prog.loopsFrom ·) : Bool) = true := by kernel_rfl
theorem trieDecodes_c17 : (Rows.trieDecodesRow.wideKeys == (Tryz.f12.params.toList ++ Rows.trieDecodesSpec.plain.varTypes Tryz.prog ++ Tryz.f12.resultTypes.toList).any (Tryz.prog.wideKeysFrom ·) : Bool) = true := by kernel_rfl
theorem trieDecodes_c18 : (Rows.trieDecodesSpec.vars.all (Tryz.prog.varReadable ·) : Bool) = true := by kernel_rfl
theorem trieDecodes_c19 : (Tryz.f12.resultTypes.all (fun t => Tryz.prog.readableRec t && decide (t < Tryz.prog.types.size)) : Bool) = true := by kernel_rfl
theorem trieDecodes_c20 : (Rows.trieDecodesRow.ifacesOut == Tryz.f12.resultTypes.toList.any (Tryz.prog.ifacesRec ·) : Bool) = true := by kernel_rfl
theorem trieDecodes_c21 : (Rows.trieDecodesRow.loopsOut == Tryz.f12.resultTypes.toList.any (Tryz.prog.loopsFrom ·) : Bool) = true := by kernel_rfl
theorem trieDecodes_c22 : (Rows.trieDecodesRow.plainKeys == Tryz.prog.plainKeys : Bool) = true := by kernel_rfl
theorem trieDecodes_c23 : (Rows.trieDecodesRow.shortTexts.isNone : Bool) = true := by kernel_rfl
theorem trieDecodes_c24 : (Tryz.prog.stopsHeard : Bool) = true := by kernel_rfl
theorem trieDecodes_c25 : (Tryz.prog.mayEnter : Bool) = true := by kernel_rfl
theorem trieDecodes_c26 : (Rows.trieDecodesRow.lifted == Tryz.prog.liftsFinal : Bool) = true := by kernel_rfl
theorem trieDecodes_c27 : (Tryz.prog.make == some Rows.trieDecodesRow.make : Bool) = true := by kernel_rfl
theorem trieDecodes_c28 : (Rows.trieDecodesRow.kinds == (if Rows.trieDecodesRow.domain.isEmpty then [] else Tryz.f12.params.toList.map fun t => match Tryz.prog.underlying t with | some (.int k) => some k | _ => none) : Bool) = true := by kernel_rfl
theorem trieDecodes_c29 : (Rows.trieDecodesRow.pinned == Rows.trieDecodesRow.pinnedBy : Bool) = true := by kernel_rfl
theorem trieDecodes_c30 : (Rows.trieDecodesRow.veiled == (Tryz.f12.params.toList ++ Rows.trieDecodesSpec.plain.varTypes Tryz.prog ++ Tryz.f12.resultTypes.toList).any (Tryz.prog.veiledRec ·) : Bool) = true := by kernel_rfl
theorem trieDecodes_c31 : (Rows.trieDecodesRow.veiledFits Tryz.prog Tryz.f12.params.toList (Tryz.f12.params.toList ++ Rows.trieDecodesSpec.plain.varTypes Tryz.prog ++ Tryz.f12.resultTypes.toList) : Bool) = true := by kernel_rfl
theorem trieDecodes_joined : joinedFacts Tryz.prog 12 Tryz.f12 Rows.trieDecodesSpec Rows.trieDecodesRow = true :=
 joined_of trieDecodes_c0 trieDecodes_c1 trieDecodes_c2 trieDecodes_c3 trieDecodes_c4 trieDecodes_c5 trieDecodes_c6 trieDecodes_c7 trieDecodes_c8 trieDecodes_c9 trieDecodes_c10 trieDecodes_c11 trieDecodes_c12 trieDecodes_c13 trieDecodes_c14 trieDecodes_c15 trieDecodes_c16 trieDecodes_c17 trieDecodes_c18 trieDecodes_c19 trieDecodes_c20 trieDecodes_c21 trieDecodes_c22 trieDecodes_c23 trieDecodes_c24 trieDecodes_c25 trieDecodes_c26 trieDecodes_c27 trieDecodes_c28 trieDecodes_c29 trieDecodes_c30 trieDecodes_c31
theorem trieDecodes_named : Tryz.prog.funcNamed "hoarstone/hoarstonelaw03.TrieDecodes" = some 12 := by kernel_rfl
theorem trieDecodes_inst : decide (Tryz.f12.isInstance Tryz.prog Rows.trieDecodesRow.origin Rows.trieDecodesRow.targs) = true := by kernel_rfl
theorem trieDecodes_wfText : Rows.trieDecodesRow.wfByText (OpenSpec.ofChange Rows.trieDecodesSpec) = true := by kernel_rfl
theorem trieDecodes_goes : (false = Rows.trieDecodesRow.goesBy Tryz.prog) := by kernel_rfl
theorem trieDecodes_wrapped : Tryz.f12.isWrapper Tryz.prog Rows.trieDecodesRow.wrapper Rows.trieDecodesRow.mainSum := by
 unfold Func.isWrapper; first | (rw [if_pos (by decide +kernel)]; kernel_rfl) | (rw [if_neg (by decide +kernel)]; exact ⟨rfl, rfl⟩)
theorem trieDecodes_prog : Rows.trieDecodesRow.program = Tryz.pinned.name := by kernel_rfl
theorem trieDecodes_sum : Rows.trieDecodesRow.sum = Tryz.pinned.sum := by kernel_rfl
theorem trieDecodes_spec : Rows.trieDecodesRow.spec = Rows.trieDecodesSpec.name := by kernel_rfl
theorem trieDecodes_holds : Rows.TrieDecodesSaid :=
 OpenClaim.holds_of_wide 12 Tryz.f12 trieDecodes_prog trieDecodes_sum trieDecodes_spec rfl rfl rfl rfl ⟨rfl, rfl, rfl, rfl, rfl⟩ rfl rfl rfl rfl rfl trieDecodes_named Tryz.func12 trieDecodes_joined
  (of_decide_eq_true trieDecodes_inst) trieDecodes_wrapped (fun os started H enc _ => trieDecodes_lifted os started H enc)
theorem trieDecodes_main : Tryz.prog.mainIs = some (Rows.trieDecodesCard.stood.harness.1, Rows.trieDecodesCard.stood.harness.2.toList) := by kernel_rfl
theorem trieDecodes_har : (!Rows.trieDecodesCard.stood.harness.1 && Rows.trieDecodesCard.stood.harness.2.isEmpty && !false) = false := by kernel_rfl
theorem trieDecodes_looks : false = Tryz.prog.looks [] := by kernel_rfl
theorem trieDecodes_plain : ([22].all fun u => !Tryz.prog.wantsStandIn u) = true := by kernel_rfl
theorem trieDecodes_card_holds : Rows.TrieDecodesCardSaid :=
 Claim7.holds_tied_plain_at .later [] [.data, .data, .sentinel] true Rows.trieDecodesCard.stood.harness false
  trieDecodes_holds (fun _ h => by cases h) trieDecodes_wfText (fun _ h => by cases h) trieDecodes_row_tie rfl ⟨rfl, rfl⟩ trieDecodes_main trieDecodes_har
  (fun f fn hf hfn => by
   obtain rfl : f = 12 := (Option.some.inj (trieDecodes_named.symm.trans hf)).symm
   obtain rfl : fn = Tryz.f12 := (Option.some.inj (Tryz.func12.symm.trans hfn)).symm
   exact ⟨trieDecodes_looks, fun j t ht => by
    rw [Tryz.params12] at ht
    have hm : t ∈ [22] := by simpa using Array.mem_of_getElem? ht
    exact (show Tryz.prog.wantsStandIn t = false by simpa using List.all_eq_true.1 trieDecodes_plain t hm)⟩)
  trieDecodes_goes
#print axioms trieDecodes_card_holds
end Go.Proofs.YtbfjmimiigjenaaGreatDoor
