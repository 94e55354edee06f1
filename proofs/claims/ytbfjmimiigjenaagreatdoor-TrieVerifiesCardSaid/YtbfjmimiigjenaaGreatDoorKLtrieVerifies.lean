/-
A part of the proof of TrieVerifies: for every input the law returns true, and what was passed in reads as before; the listed package variables hold what the program's text lays. No further condition.
-/
import Derived.Test.YtbfjmimiigjenaaGreatDoorRows
import Derived.Test.YtbfjmimiigjenaaGreatDoorCards
import Derived.KernelRfl
import Derived.Test.YtbfjmimiigjenaaGreatDoorTie
import Derived.SevenTiedAt
import Derived.Test.YtbfjmimiigjenaaGreatDoorKQ45
set_option maxRecDepth 100000
set_option linter.unusedVariables false
set_option linter.unusedSimpArgs false
namespace Go.Proofs.YtbfjmimiigjenaaGreatDoor
open Go V RowKit
def bigStp (s : Stp) : Bool := decide (100 < s.stem.length) || (decide (300 < s.bytes.length) || decide (300 < s.nodes.length))
theorem lawV1_spec (w : World) (s : Stp) (h : s.ok w) : Gives Tryz.prog 36 [(EV.st (stpF s)).v] w (boE (bigStp s)) := by
 have hl : lim = 140737488351232 := rfl
 have hs1 := h.1.small
 have hs2 := h.2.small
 refine enterH tk [(0, .st (stpF s))] Tryz.func36 rfl Tryz.ntmps36 rfl rfl ?_
 by_cases h1 : 100 < s.stem.length
 ·refine RH.adv tk [true] rfl rfl (by simp [h1]; omega) ?_
  refine RH.ret1 Tryz.func36 rfl rfl fun u hu => ⟨by simp [bigStp, h1]; rfl, hu.fact⟩
 ·by_cases h2 : 300 < s.bytes.length
  ·refine RH.adv tk [false, true] rfl rfl (by simp [h1]; omega) ?_
   refine RH.ret1 Tryz.func36 rfl rfl fun u hu => ⟨by simp [bigStp, h1, h2]; rfl, hu.fact⟩
  ·refine RH.adv tk [false, false] rfl rfl (by simp [h1]; omega) ?_
   refine RH.ret1 Tryz.func36 rfl rfl fun u hu => ⟨by simp [bigStp, h1, h2, EV.v, AV.v]; omega, hu.fact⟩
set_option maxHeartbeats 1000000 in
theorem verifies_walk (w : World) (hG : Glob w) (root : Sum) (name : Str) (A : Option Addr) (c : Nat) (l : List Stp) (h : Sl kStp w A c l) (hs : ∀ s ∈ l, s.ok w) :
  Gives Tryz.prog 5 [sumV root, strV name, .slice A l.length c] w .tt := by
 have hlim : lim = 140737488351232 := rfl
 have hsm := h.small
 refine enterH tk [(0, sumE root), (1, strE name), (2, slE A l.length c)] Tryz.func5 rfl Tryz.ntmps5 rfl rfl ?_
 by_cases h1 : 100 < name.length
 ·refine RH.adv tk [true, true] rfl rfl (by simp [h1]; omega) ?_
  refine RH.gives (ho := rfl) (hw := rfl) (hd := rfl) (hf := rfl) (hes := rfl) (hc := Tryz.call30) (e := .tt) (hC := fun u hu => awake_spec u (hG.ext hu.fact)) ?_
  intro m9 hm9
  refine RH.adv tk [] rfl rfl (by simp <;> omega) ?_
  refine RH.ret1 Tryz.func5 rfl rfl fun u hu => ⟨rfl, hu.fact⟩
 by_cases h2 : 100 < l.length
 ·refine RH.adv tk [false, true] rfl rfl (by simp [h1, h2]; omega) ?_
  refine RH.gives (ho := rfl) (hw := rfl) (hd := rfl) (hf := rfl) (hes := rfl) (hc := Tryz.call30) (e := .tt) (hC := fun u hu => awake_spec u (hG.ext hu.fact)) ?_
  intro m9 hm9
  refine RH.adv tk [] rfl rfl (by simp <;> omega) ?_
  refine RH.ret1 Tryz.func5 rfl rfl fun u hu => ⟨rfl, hu.fact⟩
 refine RH.adv tk [false, false] rfl rfl (by simp [h1, h2]; omega) ?_
 refine RH.gives (ho := rfl) (hw := rfl) (hd := rfl) (hf := rfl) (hes := rfl) (hc := Tryz.call35) (e := boE (l.any bigStp)) (hC := fun u hu => containsFuncP u A c l (h.ext hu.fact) 36 [] [] bigStp ⟨fun xs w => Tryz.call36 xs w, fun s hm u' hu' => lawV1_spec u' s ⟨((hs s hm).1.ext hu.fact).ext hu', ((hs s hm).2.ext hu.fact).ext hu'⟩⟩) ?_
 intro m1 hm1
 by_cases h3 : l.any bigStp = true
 ·refine RH.adv tk [true] rfl rfl (by simp [AllOb, Ob.P, h3]) ?_
  refine RH.gives (ho := rfl) (hw := rfl) (hd := rfl) (hf := rfl) (hes := rfl) (hc := Tryz.call30) (e := .tt) (hC := fun u hu => awake_spec u (hG.ext hu.fact)) ?_
  intro m9 hm9
  refine RH.adv tk [] rfl rfl (by simp <;> omega) ?_
  refine RH.ret1 Tryz.func5 rfl rfl fun u hu => ⟨rfl, hu.fact⟩
 have hfit : ∀ s ∈ l, s.stem.length ≤ 100 ∧ s.bytes.length ≤ 300 ∧ s.nodes.length ≤ 300 := fun s hm => by
  have := List.any_eq_false.1 (Bool.eq_false_iff.2 h3) s hm
  simp [bigStp] at this
  omega
 refine RH.adv tk [false] rfl rfl (by simp [AllOb, Ob.P, h3]) ?_
 refine RH.nilrow 50 kStp.T kStp.sz 51 ?_
 refine RH.nilrow 51 kRStp.T kRStp.sz 52 ?_
 refine RH.loop (α := Nat × ((Option Addr × Nat) × List Stp) × (Option Addr × Nat)) (fun y => [(1, strE name), (3, .av (.box 0 w.heap.size 0)), (7, rowS 50 y.2.1.1.1 y.2.1.2.length y.2.1.1.2), (8, rowS 51 y.2.2.1 (l.take y.1).length y.2.2.2), (31, slE A l.length c), (32, intE l.length), (33, intE y.1)])
  (fun y => [(0, some (.box w.heap.size [.val (sumV root)] 40)), (50, rowE kStp y.2.1.1.1 y.2.1.1.2 y.2.1.2), (51, rowE kRStp y.2.2.1 y.2.2.2 (l.take y.1))])
  (fun y u => (Ext w u ∧ Late (fun _ => True) (fun u => ∀ s ∈ y.2.1.2, s.ok u) w.heap.size u) ∧ y.1 ≤ l.length ∧ y.2.1.2.map Stp.dat = (l.take y.1).map Stp.dat) (fun y => l.length - y.1) (0, ((none, 0), []), (none, 0)) rfl rfl (fun u hu => ⟨⟨hu, fun v _ _ s hs => nomatch hs⟩, Nat.zero_le _, rfl⟩) ?_
 rintro ⟨i, ⟨⟨A1, c1⟩, os⟩, ⟨A2, c2⟩⟩ m2
 refine RH.pure (fun u hu => hu.2) fun ⟨hi, hos⟩ => ?_
 refine V.RH.know (fun u => Ext w u ∧ Late (fun _ => True) (fun u => ∀ s ∈ os, s.ok u) w.heap.size u) (fun u h => h.1) ?_
 refine RH.above (id := 0) rfl rfl fun hz1 hz2 => ?_
 dsimp only at hi hos ⊢
 by_cases hlt : i < l.length
 ·have hmem := List.getElem_mem hlt
  have hts : l.take (i + 1) = l.take i ++ [l[i]] := List.take_succ_eq_append_getElem hlt
  have htl : (l.take i).length = i := by rw [List.length_take]; omega
  have hol : os.length = i := by have := congrArg List.length hos; rw [List.length_map, List.length_map, htl] at this; exact this
  obtain ⟨hf1, hf2, hf3⟩ := hfit _ hmem
  refine RH.adv tk [true] rfl rfl (by simp [h.ptr hlt] <;> omega) ?_
  refine RH.loadS (.st (stpF l[i])) rfl rfl rfl rfl (fun u hu => (h.ext hu.fact.1).load hlt) ?_
  refine RH.adv tk [] rfl rfl (by simp <;> omega) ?_
  refine RH.draw rfl [(52, some (.box m2 (stpF l[i]) 61))] rfl 10 rfl rfl ?_
  refine RD.adv tk (by kernel_rfl) [] rfl rfl (by simp <;> omega) ?_
  refine RD.doB (i := 2) [] 60 (fun y : Option Addr × Nat => .av (.val (.slice y.1 l[i].bytes.length y.2))) rfl (by kernel_rfl) rfl rfl rfl rfl Tryz.call37 (bClone_spec l[i].A l[i].c l[i].bytes (by omega)).fresh rfl rfl (fun _ => rfl) (fun _ => rfl) (fun u hu => (hs _ hmem).1.ext hu.fact.1) (fun _ => rfl) (fun _ h => h) ?_
  rintro ⟨B1, b1⟩ m3 hm3
  refine RD.adv tk (by kernel_rfl) [] rfl rfl (by simp <;> omega) ?_
  refine RD.doB (i := 5) [] 61 (fun y : Option Addr × Nat => .av (.val (.slice y.1 l[i].nodes.length y.2))) rfl (by kernel_rfl) rfl rfl rfl rfl Tryz.call38 (cloneD l[i].B l[i].d l[i].nodes (by omega)).fresh rfl rfl (fun _ => rfl) (fun _ => rfl) (fun u hu => (hs _ hmem).2.ext hu.fact.1.1) (fun _ => rfl) (fun _ h => h.1) ?_
  rintro ⟨D1, d1⟩ m4 hm4
  refine RD.adv tk (by kernel_rfl) [] rfl rfl (by simp <;> omega) ?_
  refine RD.step tk (nx := 61) (i := 7) rfl (by kernel_rfl) rfl rfl rfl ?_ rfl (fun _ h => h.1.1) rfl ?_
  ·first | trivial | (simp; done)
  refine RD.adv tk (by kernel_rfl) [] rfl rfl (by simp <;> omega) ?_
  refine RD.step tk (nx := 61) (i := 9) rfl (by kernel_rfl) rfl rfl rfl ?_ rfl (fun _ h => h.1.1) rfl ?_
  ·first | trivial | (simp; done)
  refine RD.adv tk (by kernel_rfl) [] rfl rfl (by simp <;> omega) ?_
  refine RD.done (.inl rfl) (by kernel_rfl) ?_
  generalize hz : Stp.mk l[i].stem l[i].has l[i].sum B1 l[i].bytes b1 D1 l[i].nodes d1 = z at *
  have hzd : z.dat = l[i].dat := by rw [← hz]; rfl
  refine V.RH.know (fun u => Ext w u ∧ Late (fun _ => True) (fun u => ∀ s ∈ os ++ [z], s.ok u) w.heap.size u) (fun u hu => ⟨hu.1.1.1, fun v hv _ s hs => ?_⟩) ?_
  ·rcases List.mem_append.1 hs with h | h
   ·exact hu.1.1.2 v hv trivial s h
   ·rw [List.mem_singleton] at h
    subst h
    rw [← hz]
    exact ⟨Sl.own (hu.1.2 v (hv.mono fun k _ hk => by omega) 0 _ rfl) (by show l[i].bytes.length ≤ lim; omega), Sl.own (hu.2 v (hv.mono fun k _ hk => by omega) 0 _ rfl) (by show l[i].nodes.length ≤ lim; omega)⟩
  refine RH.tell [(1, strE name), (3, .av (.box 0 w.heap.size 0)), (7, rowS 50 A1 os.length c1), (8, rowS 51 A2 (l.take i).length c2), (10, .av (.box 52 m2 0)), (11, .av (.box 53 (m2 + 1) 0)), (31, slE A l.length c), (32, intE l.length), (33, intE i)]
   [(0, some (.box w.heap.size [.val (sumV root)] 40)), (50, rowE kStp A1 c1 os), (51, rowE kRStp A2 c2 (l.take i)), (52, some (.box m2 (stpF l[i]) 61)), (53, some (.box (m2 + 1) (stpF z) 61))] [] rfl (by rw [← hz]; rfl) rfl 61 ?_
  refine RH.draw rfl [(52, some (.box m2 (stpF l[i]) 61)), (53, some (.box (m2 + 1) (stpF z) 61))] rfl 11 rfl rfl ?_
  refine RD.adv tk (by kernel_rfl) [] rfl rfl (by simp <;> omega) ?_
  refine RD.step tk (nx := 61) (i := 2) rfl (by kernel_rfl) rfl rfl rfl ?_ rfl (fun _ h => h) ⟨rfl, rfl⟩ ?_
  ·first | trivial | (simp; done)
  refine RD.adv tk (by kernel_rfl) [] rfl rfl (by simp <;> omega) ?_
  refine RD.apK (nx := 62) (i := 3) (κ := kStp) (id := 50) (r := [z]) (l := os) rfl (by kernel_rfl) rfl rfl rfl rfl rfl elt_stp rfl rfl (fun w hst => hst.liR (id := 61) (κ := kStp) (l := [z]) rfl (by simp [hlim])) (by simp; omega) (by simp [hlim]; omega) (fun _ _ => rfl) (fun _ h => h) ?_
  intro A3 c3 m5 hm5
  refine RD.adv tk (by kernel_rfl) [] rfl rfl (by simp <;> omega) ?_
  refine RD.gives (i := 6) (.st (stpF l[i])) rfl (by kernel_rfl) rfl rfl rfl rfl Tryz.call39 (fun u hu => toStep_spec u l[i]) rfl (fun _ h => h) ?_
  intro m6 hm6
  refine RD.adv tk (by kernel_rfl) [] rfl rfl (by simp <;> omega) ?_
  refine RD.step tk (nx := 62) (i := 7) rfl (by kernel_rfl) rfl rfl rfl ?_ rfl (fun _ h => h) ⟨rfl, rfl⟩ ?_
  ·first | trivial | (simp; done)
  refine RD.adv tk (by kernel_rfl) [] rfl rfl (by simp <;> omega) ?_
  refine RD.apK (nx := 63) (i := 8) (κ := kRStp) (id := 51) (r := [l[i]]) (l := l.take i) rfl (by kernel_rfl) rfl rfl rfl rfl rfl elt_RStp rfl rfl (fun w hst => hst.liR (id := 62) (κ := kRStp) (l := [l[i]]) rfl (by simp [hlim])) (by simp; omega) (by simp [hlim]; omega) (fun _ _ => rfl) (fun _ h => h) ?_
  intro A4 c4 m7 hm7
  refine RD.adv tk (by kernel_rfl) [] rfl rfl (by simp <;> omega) ?_
  refine RD.done (.inl rfl) (by kernel_rfl) ?_
  rw [← hts]
  refine RH.adv tk [] rfl rfl (by simp [AllOb, Ob.P]; omega) ?_
  refine RH.again (i + 1, ((A3, c3), os ++ [z]), (A4, c4)) (.head _) rfl rfl (by show l.length - (i + 1) < l.length - i; omega) fun u hu => ⟨hu, hlt, ?_⟩
  show (os ++ [z]).map Stp.dat = (l.take (i + 1)).map Stp.dat
  rw [hts, List.map_append, List.map_append, hos, List.map_cons, List.map_cons, hzd]
 ·have hil : i = l.length := by omega
  rw [hil, List.take_length] at hos
  rw [hil, List.take_length]
  have hol : os.length = l.length := by have := congrArg List.length hos; rw [List.length_map, List.length_map] at this; exact this
  have hob : ∀ s ∈ os, s.bytes.length ≤ 1000 := fun s hs' => by
   have h5 : s.dat ∈ l.map Stp.dat := by rw [← hos]; exact List.mem_map.2 ⟨s, hs', rfl⟩
   obtain ⟨t, ht, he⟩ := List.mem_map.1 h5
   have h6 : t.bytes = s.bytes := congrArg (fun z : StD => z.2.2.2.1) he
   rw [← h6]
   exact Nat.le_trans (hfit t ht).2.1 (by decide)
  refine RH.adv tk [false] rfl rfl (by simp <;> omega) ?_
  refine RH.gives (ho := rfl) (hw := rfl) (hd := rfl) (hf := rfl) (hes := rfl) (hc := Tryz.call40) (e := verV (verifyR root name (l.map Stp.dat))) (hC := fun u hu => by
   have h7 := Verify_spec u (hG.ext hu.fact.1) root name A1 c1 os (Sl.own (B := w.heap.size) (hu.row (κ := kStp) (id := 50) (l := os) rfl) (by omega)) (hu.fact.2.now trivial) hob
   rw [hos] at h7
   exact h7) ?_
  intro m3 hm3
  generalize hV1 : verifyR root name (l.map Stp.dat) = V1 at *
  obtain ⟨vx, vb, ve⟩ := V1
  refine RH.adv tk [] rfl rfl (by simp) ?_
  refine RH.gives (ho := rfl) (hw := rfl) (hd := rfl) (hf := rfl) (hes := rfl) (hc := Tryz.call41) (e := verV (vx, vb, ve)) (hC := fun u hu => by
   have h7 := rVerify_spec u root name A2 c2 l (Sl.own (B := w.heap.size) (hu.row (κ := kRStp) (id := 51) (l := l) rfl) (by omega)) (fun s hm => ⟨(hs s hm).1.ext hu.fact.1, (hs s hm).2.ext hu.fact.1⟩) (fun s hm => Nat.le_trans (hfit s hm).2.1 (by decide))
   rw [hV1] at h7
   exact h7) ?_
  intro m4 hm4
  refine RH.adv tk [] rfl rfl (by simp) ?_
  refine RH.read (boE (decide (vx = vx))) rfl rfl rfl rfl (fun w' a _ hag => op_eq hag rfl rfl rfl rfl rfl (by kernel_rfl) (eq_sum w' 9998 _ _)) ?_
  refine RH.adv tk [true, true, true] rfl rfl (by simp) ?_
  refine RH.gives (ho := rfl) (hw := rfl) (hd := rfl) (hf := rfl) (hes := rfl) (hc := Tryz.call42) (e := .tt) (hC := fun u hu => by
   have h7 := eqSteps_spec u A1 A2 c1 c2 os l (Sl.own (B := w.heap.size) (hu.row (κ := kStp) (id := 50) (l := os) rfl) (by omega)) (Sl.own (B := w.heap.size) (hu.row (κ := kRStp) (id := 51) (l := l) rfl) (by omega)) (hu.fact.2.now trivial) (fun s hm => ⟨(hs s hm).1.ext hu.fact.1, (hs s hm).2.ext hu.fact.1⟩)
   rw [decide_eq_true hos] at h7
   exact h7) ?_
  intro m5 hm5
  refine RH.adv tk [] rfl rfl (by simp <;> omega) ?_
  refine RH.gives (ho := rfl) (hw := rfl) (hd := rfl) (hf := rfl) (hes := rfl) (hc := Tryz.call30) (e := .tt) (hC := fun u hu => awake_spec u (hG.ext hu.fact.1)) ?_
  intro m9 hm9
  refine RH.adv tk [] rfl rfl (by simp <;> omega) ?_
  refine RH.ret1 Tryz.func5 rfl rfl fun u hu => ⟨rfl, hu.fact.1⟩
open Go V RowKit Go.ChangeShapes Go.WideShapes Go.ChangeAt
theorem trieVerifies_lifted (os : Os) (started : os.Started) (H : Type) (enc : TypeId × Value → H) :
  ReturnsInHanded {} Tryz.checked os 5 .any (fun w args => (Rows.trieVerifiesSpec.pre enc Tryz.prog Tryz.f5 [] false w args ∧ laidMetH Tryz.prog Rows.trieVerifiesRow.laid w) ∧ sizedMet enc Tryz.prog Tryz.f5 (OpenSpec.ofChange Rows.trieVerifiesSpec) false w args)
   (Rows.trieVerifiesSpec.post enc Tryz.prog Tryz.f5 false true false false) := by
 refine wrap (C := Tryz.checked) (X := fun w _ => laidMetH Tryz.prog Rows.trieVerifiesRow.laid w) (fun _ _ _ hh h => h.of_heap hh) ownKnobs started (by kernel_rfl) Tryz.func5
  (ChangeSpec.witness_shaped (enc := enc) (C := Tryz.checked) (os := os) (X := fun w _ => laidMetH Tryz.prog Rows.trieVerifiesRow.laid w) false (World.laidAll Tryz.prog os Rows.trieVerifiesRow.laid)
   #[sumV Sum.zero, .string ⟨#[]⟩, .slice none 0 0] 8 (World.laidAll_os _ _ _)
   (World.shaped_of_ZipB (by kernel_rfl) (by kernel_rfl)) (by kernel_rfl) (by kernel_rfl) (by kernel_rfl)
   (by rw [MakeChecks.laidMetH_plain _ _ _ (by kernel_rfl)]; exact laidMet_laidAll _ (by kernel_rfl) (by kernel_rfl))) ?_
 intro W base args ds gs before hval0 hW hsz0 hL hS
 have hval : ∀ (j : Nat) t v, Tryz.f5.params[j]? = some t → args[j]? = some v → Value.okWide Tryz.prog W .any base t v := hval0
 have hsz : (DataW.weightsEach Tryz.prog (Tryz.f5.params.toList ++ Rows.trieVerifiesSpec.plain.varTypes Tryz.prog) (ds ++ gs)).all (· ≤ reachBytes) = true := hsz0
 have hW' := hW
 obtain ⟨p, q, hA0, hV, rfl, _, _⟩ := hW
 have hA : DataW.TrodAll enc Tryz.prog W 0 (fun _ => true) true Tryz.f5.params.toList args.toList ds p := hA0
 rw [Tryz.params5] at hA hval hsz
 obtain ⟨v0, v1, v2, d0, d1, d2, p0, p1, p2, rfl, rfl, rfl, h0, h1, h2⟩ := trodAll_three hA
 obtain ⟨rfl, rfl⟩ := trodVars_none hV
 have wt : ∀ {j : Nat} {t : TypeId} {d : DataW H}, [40, 9, 58][j]? = some t → [d0, d1, d2][j]? = some d → ∀ n ∈ d.weights Tryz.prog t, n ≤ reachBytes := by
  intro j t d ht hd n hn
  exact of_decide_eq_true (List.all_eq_true.1 hsz _ (DataW.weights_mem_each ht hd n hn))
 obtain ⟨x0, rfl⟩ := open_sumA h0 (hval 0 _ v0 rfl rfl)
 obtain ⟨x1, rfl, _, _, _⟩ := ChangeMaps.open_string Tryz.underlying9 (hval 1 _ v1 rfl rfl) h1
 obtain ⟨x2, rfl, hx2⟩ := open_steps h2 (wt (j := 2) rfl rfl) (hval 2 _ v2 rfl rfl)
 refine (verifies_walk W (glob_of hS (show laidMetH Tryz.prog Rows.trieShapeRow.laid W from hL)) x0 x1.data.toList x2.A x2.c x2.l hx2.1 hx2.2).mono fun e W' ⟨he, hb⟩ => ?_
 subst he
 exact ⟨_, rfl, _, _, _, [], _, [], hW', trodAll_mk1 (shut_bool Tryz.underlying4 _),
  trodAll_mk3 (Below.trod laidOuts (by kernel_rfl) (of_decide_eq_true (by kernel_rfl)) h0 hb (fun y hy => hW'.lt y (by simp [hy]))) (Below.trod laidOuts (by kernel_rfl) (of_decide_eq_true (by kernel_rfl)) h1 hb (fun y hy => hW'.lt y (by simp [hy]))) (Below.trod laidOuts (by kernel_rfl) (of_decide_eq_true (by kernel_rfl)) h2 hb (fun y hy => hW'.lt y (by simp [hy]))), rfl, hb.frame _, fun h => by cases h⟩
end Go.Proofs.YtbfjmimiigjenaaGreatDoor
namespace Go.Proofs.YtbfjmimiigjenaaGreatDoor
open Go
theorem trieVerifies_c0 : (Rows.trieVerifiesRow.wf (OpenSpec.ofChange Rows.trieVerifiesSpec) : Bool) = true := by kernel_rfl
theorem trieVerifies_c1 : (laidOutB Tryz.prog : Bool) = true := by kernel_rfl
theorem trieVerifies_c2 : (mapsRowed Tryz.prog : Bool) = true := by kernel_rfl
theorem trieVerifies_c3 : (Tryz.f5.params.all (Tryz.prog.readableRec ·) : Bool) = true := by kernel_rfl
theorem trieVerifies_c4 : (namedTie Tryz.prog Rows.trieVerifiesRow.named Rows.trieVerifiesSpec.vars : Bool) = true := by kernel_rfl
theorem trieVerifies_c5 : (Rows.trieVerifiesRow.stops == [] : Bool) = true := by kernel_rfl
theorem trieVerifies_c6 : (Tryz.prog.stops == [] : Bool) = true := by kernel_rfl
theorem trieVerifies_c7 : (Rows.trieVerifiesRow.knobs == [] : Bool) = true := by kernel_rfl
theorem trieVerifies_c8 : (Tryz.prog.stopKnobs == [] : Bool) = true := by kernel_rfl
theorem trieVerifies_c9 : (Rows.trieVerifiesRow.inPlace == Tryz.prog.inPlace 5 : Bool) = true := by kernel_rfl
theorem trieVerifies_c10 : (Rows.trieVerifiesRow.unfollowed == Tryz.prog.unfollowed 5 : Bool) = true := by kernel_rfl
theorem trieVerifies_c11 : (Rows.trieVerifiesRow.recurses == Tryz.prog.recurses 5 : Bool) = true := by kernel_rfl
theorem trieVerifies_c12 : (Rows.trieVerifiesRow.named == Tryz.prog.varsNamed 5 : Bool) = true := by kernel_rfl
theorem trieVerifies_c13 : (Rows.trieVerifiesRow.maps == (Tryz.f5.params.toList ++ Rows.trieVerifiesSpec.plain.varTypes Tryz.prog).any (Tryz.prog.mapsRec ·) : Bool) = true := by kernel_rfl
theorem trieVerifies_c14 : (Rows.trieVerifiesRow.ifaces == (Tryz.f5.params.toList ++ Rows.trieVerifiesSpec.plain.varTypes Tryz.prog).any (Tryz.prog.ifacesRec ·) : Bool) = true := by kernel_rfl
theorem trieVerifies_c15 : (Rows.trieVerifiesRow.mapsOut == Tryz.prog.mapsAmong Tryz.f5.resultTypes.toList : Bool) = true := by kernel_rfl
theorem trieVerifies_c16 : (Rows.trieVerifiesRow.loops == (Tryz.f5.params.toList ++ Rows.trieVerifiesSpec.plain.varTypes Tryz.prog).any (Tryz.prog.loopsFrom ·) : Bool) = true := by kernel_rfl
theorem trieVerifies_c17 : (Rows.trieVerifiesRow.wideKeys == (Tryz.f5.params.toList ++ Rows.trieVerifiesSpec.plain.varTypes Tryz.prog ++ Tryz.f5.resultTypes.toList).any (Tryz.prog.wideKeysFrom ·) : Bool) = true := by kernel_rfl
theorem trieVerifies_c18 : (Rows.trieVerifiesSpec.vars.all (Tryz.prog.varReadable ·) : Bool) = true := by kernel_rfl
theorem trieVerifies_c19 : (Tryz.f5.resultTypes.all (fun t => Tryz.prog.readableRec t && decide (t < Tryz.prog.types.size)) : Bool) = true := by kernel_rfl
theorem trieVerifies_c20 : (Rows.trieVerifiesRow.ifacesOut == Tryz.f5.resultTypes.toList.any (Tryz.prog.ifacesRec ·) : Bool) = true := by kernel_rfl
theorem trieVerifies_c21 : (Rows.trieVerifiesRow.loopsOut == Tryz.f5.resultTypes.toList.any (Tryz.prog.loopsFrom ·) : Bool) = true := by kernel_rfl
theorem trieVerifies_c22 : (Rows.trieVerifiesRow.plainKeys == Tryz.prog.plainKeys : Bool) = true := by kernel_rfl
theorem trieVerifies_c23 : (Rows.trieVerifiesRow.shortTexts.isNone : Bool) = true := by kernel_rfl
theorem trieVerifies_c24 : (Tryz.prog.stopsHeard : Bool) = true := by kernel_rfl
theorem trieVerifies_c25 : (Tryz.prog.mayEnter : Bool) = true := by kernel_rfl
theorem trieVerifies_c26 : (Rows.trieVerifiesRow.lifted == Tryz.prog.liftsFinal : Bool) = true := by kernel_rfl
theorem trieVerifies_c27 : (Tryz.prog.make == some Rows.trieVerifiesRow.make : Bool) = true := by kernel_rfl
theorem trieVerifies_c28 : (Rows.trieVerifiesRow.kinds == (if Rows.trieVerifiesRow.domain.isEmpty then [] else Tryz.f5.params.toList.map fun t => match Tryz.prog.underlying t with | some (.int k) => some k | _ => none) : Bool) = true := by kernel_rfl
theorem trieVerifies_c29 : (Rows.trieVerifiesRow.pinned == Rows.trieVerifiesRow.pinnedBy : Bool) = true := by kernel_rfl
theorem trieVerifies_c30 : (Rows.trieVerifiesRow.veiled == (Tryz.f5.params.toList ++ Rows.trieVerifiesSpec.plain.varTypes Tryz.prog ++ Tryz.f5.resultTypes.toList).any (Tryz.prog.veiledRec ·) : Bool) = true := by kernel_rfl
theorem trieVerifies_c31 : (Rows.trieVerifiesRow.veiledFits Tryz.prog Tryz.f5.params.toList (Tryz.f5.params.toList ++ Rows.trieVerifiesSpec.plain.varTypes Tryz.prog ++ Tryz.f5.resultTypes.toList) : Bool) = true := by kernel_rfl
theorem trieVerifies_joined : joinedFacts Tryz.prog 5 Tryz.f5 Rows.trieVerifiesSpec Rows.trieVerifiesRow = true :=
 joined_of trieVerifies_c0 trieVerifies_c1 trieVerifies_c2 trieVerifies_c3 trieVerifies_c4 trieVerifies_c5 trieVerifies_c6 trieVerifies_c7 trieVerifies_c8 trieVerifies_c9 trieVerifies_c10 trieVerifies_c11 trieVerifies_c12 trieVerifies_c13 trieVerifies_c14 trieVerifies_c15 trieVerifies_c16 trieVerifies_c17 trieVerifies_c18 trieVerifies_c19 trieVerifies_c20 trieVerifies_c21 trieVerifies_c22 trieVerifies_c23 trieVerifies_c24 trieVerifies_c25 trieVerifies_c26 trieVerifies_c27 trieVerifies_c28 trieVerifies_c29 trieVerifies_c30 trieVerifies_c31
theorem trieVerifies_named : Tryz.prog.funcNamed "hoarstone/hoarstonelaw03.TrieVerifies" = some 5 := by kernel_rfl
theorem trieVerifies_inst : decide (Tryz.f5.isInstance Tryz.prog Rows.trieVerifiesRow.origin Rows.trieVerifiesRow.targs) = true := by kernel_rfl
theorem trieVerifies_wfText : Rows.trieVerifiesRow.wfByText (OpenSpec.ofChange Rows.trieVerifiesSpec) = true := by kernel_rfl
theorem trieVerifies_goes : (false = Rows.trieVerifiesRow.goesBy Tryz.prog) := by kernel_rfl
theorem trieVerifies_wrapped : Tryz.f5.isWrapper Tryz.prog Rows.trieVerifiesRow.wrapper Rows.trieVerifiesRow.mainSum := by
 unfold Func.isWrapper; first | (rw [if_pos (by decide +kernel)]; kernel_rfl) | (rw [if_neg (by decide +kernel)]; exact ⟨rfl, rfl⟩)
theorem trieVerifies_prog : Rows.trieVerifiesRow.program = Tryz.pinned.name := by kernel_rfl
theorem trieVerifies_sum : Rows.trieVerifiesRow.sum = Tryz.pinned.sum := by kernel_rfl
theorem trieVerifies_spec : Rows.trieVerifiesRow.spec = Rows.trieVerifiesSpec.name := by kernel_rfl
theorem trieVerifies_holds : Rows.TrieVerifiesSaid :=
 OpenClaim.holds_of_wide 5 Tryz.f5 trieVerifies_prog trieVerifies_sum trieVerifies_spec rfl rfl rfl rfl ⟨rfl, rfl, rfl, rfl, rfl⟩ rfl rfl rfl rfl rfl trieVerifies_named Tryz.func5 trieVerifies_joined
  (of_decide_eq_true trieVerifies_inst) trieVerifies_wrapped (fun os started H enc _ => trieVerifies_lifted os started H enc)
theorem trieVerifies_main : Tryz.prog.mainIs = some (Rows.trieVerifiesCard.stood.harness.1, Rows.trieVerifiesCard.stood.harness.2.toList) := by kernel_rfl
theorem trieVerifies_har : (!Rows.trieVerifiesCard.stood.harness.1 && Rows.trieVerifiesCard.stood.harness.2.isEmpty && !false) = false := by kernel_rfl
theorem trieVerifies_looks : false = Tryz.prog.looks [] := by kernel_rfl
theorem trieVerifies_plain : ([40, 9, 58].all fun u => !Tryz.prog.wantsStandIn u) = true := by kernel_rfl
theorem trieVerifies_card_holds : Rows.TrieVerifiesCardSaid :=
 Claim7.holds_tied_plain_at .later [] [.data, .data, .sentinel] true Rows.trieVerifiesCard.stood.harness false
  trieVerifies_holds (fun _ h => by cases h) trieVerifies_wfText (fun _ h => by cases h) trieVerifies_row_tie rfl ⟨rfl, rfl⟩ trieVerifies_main trieVerifies_har
  (fun f fn hf hfn => by
   obtain rfl : f = 5 := (Option.some.inj (trieVerifies_named.symm.trans hf)).symm
   obtain rfl : fn = Tryz.f5 := (Option.some.inj (Tryz.func5.symm.trans hfn)).symm
   exact ⟨trieVerifies_looks, fun j t ht => by
    rw [Tryz.params5] at ht
    have hm : t ∈ [40, 9, 58] := by simpa using Array.mem_of_getElem? ht
    exact (show Tryz.prog.wantsStandIn t = false by simpa using List.all_eq_true.1 trieVerifies_plain t hm)⟩)
  trieVerifies_goes
#print axioms trieVerifies_card_holds
end Go.Proofs.YtbfjmimiigjenaaGreatDoor
