/-
A part of the proof of TrieRoots: for every input the law returns true, and what was passed in reads as before; the listed package variables hold what the program's text lays. No further condition.
-/
import Derived.Test.YtbfjmimiigjenaaGreatDoorRows
import Derived.Test.YtbfjmimiigjenaaGreatDoorCards
import Derived.KernelRfl
import Derived.Test.YtbfjmimiigjenaaGreatDoorTie
import Derived.SevenTiedAt
import Derived.Test.YtbfjmimiigjenaaGreatDoorKG22
import Derived.Test.YtbfjmimiigjenaaGreatDoorKVZ
set_option maxRecDepth 100000
set_option linter.unusedVariables false
set_option linter.unusedSimpArgs false
namespace Go.Proofs.YtbfjmimiigjenaaGreatDoor
open Go V RowKit
theorem rms_turn {β : Type} {κ' : Kd β} {H : Heap} {v u u' : World} {n : Nat} {vs : List Stp} (hn : v.heap.size ≤ n) {g : Nat} {cur cur' : Array Value}
  (h : Agr (own H) v u ∧ ∀ s ∈ vs, Rm kBy n s.A s.bytes.length s.c u ∧ Rm kSum n s.B s.nodes.length s.d u) (hgn : n ≤ g) (hg : u.heap[g]? = some (.cells cur κ'.T)) (ha : Agr (fun k => k = g) u u') (hg' : u'.heap[g]? = some (.cells cur' κ'.T)) (hs : cur'.size = cur.size) :
  Agr (own H) v u' ∧ ∀ s ∈ vs, Rm kBy n s.A s.bytes.length s.c u' ∧ Rm kSum n s.B s.nodes.length s.d u' := by
 refine ⟨⟨ha.os.trans h.1.os, ha.tape.trans h.1.tape, ha.output.trans h.1.output, Nat.le_trans h.1.size ha.size, fun k hk hko => ?_⟩, fun s hs1 => ⟨(h.2 s hs1).1.turn hg ha hg' hs, (h.2 s hs1).2.turn hg ha hg' hs⟩⟩
 rw [ha.block k (Nat.lt_of_lt_of_le hk h.1.size) (by omega)]
 exact h.1.block k hk hko
theorem nilSl {α : Type} {κ : Kd α} (u : World) : Sl κ u none 0 [] := ⟨Nat.le_refl _, Nat.zero_le _, fun h => absurd rfl h, fun j v hv => by simp at hv, fun _ => ⟨rfl, rfl⟩⟩
set_option maxHeartbeats 1000000 in
theorem roots_walk (w : World) (hG : Glob w) (A : Option Addr) (c : Nat) (names : List Str) (hA : Sl kStr w A c names) (B : Option Addr) (d : Nat) (sums : List Sum) (hB : Sl kSum w B d sums) (name : Str) :
  Gives Tryz.prog 7 [.slice A names.length c, .slice B sums.length d, strV name] w .tt := by
 have hlim : lim = 140737488351232 := rfl
 have hz31 : (Tryz.t31).size = 1 := by kernel_rfl
 have hz1 : (Tryz.t9).size = 1 := by kernel_rfl
 have hz32 : (Tryz.t40).size = 32 := by kernel_rfl
 have hsB := hB.small
 refine enterH tk [(0, slE A names.length c), (1, slE B sums.length d), (2, strE name)] Tryz.func7 rfl Tryz.ntmps7 rfl rfl ?_
 refine RH.a [] ?_
 refine RH.gv (boE (greatB names)) rfl rfl rfl Tryz.call47 (fun u hu => great_spec u A c names (hA.ext hu.fact)) ?_
 intro m1 hm1
 cases hgr : greatB names with
 | true =>
  refine RH.adv tk [true] rfl rfl (by simp [hgr]) ?_
  refine RH.gv .tt rfl rfl rfl Tryz.call30 (fun u hu => awake_spec u (hG.ext hu.fact)) ?_
  intro m9 hm9
  refine RH.a [] ?_
  refine RH.ret1 Tryz.func7 rfl rfl fun u hu => ⟨rfl, hu.fact⟩
 | false =>
 by_cases h2 : 620 < sums.length
 ·refine RH.adv tk [false, true] rfl rfl (by simp [hgr, h2] <;> omega) ?_
  refine RH.gv .tt rfl rfl rfl Tryz.call30 (fun u hu => awake_spec u (hG.ext hu.fact)) ?_
  intro m9 hm9
  refine RH.a [] ?_
  refine RH.ret1 Tryz.func7 rfl rfl fun u hu => ⟨rfl, hu.fact⟩
 by_cases h4 : 100 < name.length
 ·refine RH.adv tk [false, false, true] rfl rfl (by simp [hgr, h2, h4] <;> omega) ?_
  refine RH.gv .tt rfl rfl rfl Tryz.call30 (fun u hu => awake_spec u (hG.ext hu.fact)) ?_
  intro m9 hm9
  refine RH.a [] ?_
  refine RH.ret1 Tryz.func7 rfl rfl fun u hu => ⟨rfl, hu.fact⟩
 refine RH.adv tk [false, false, false] rfl rfl (by simp [hgr, h2, h4] <;> omega) ?_
 have gt := GoodO.from (names := names) (sums := sums)
 have hFrom := From_spec A c names B d sums
 have hrFrom := rFrom_spec A c names B d sums
 generalize fromE names sums = ef at *
 generalize (if ef = 0 then fromO (names.zip sums) else none) = t at *
 have hmt := gt.many
 refine RH.dd [] 7 (fun z : At2 => .av (.val (.tuple #[(rmE z (ksO t) (xsO t)).v, intV ef]))) rfl rfl rfl Tryz.call48 hrFrom (fun u hu => ⟨hA.ext (hu.fact), hB.ext (hu.fact)⟩) ?_
 intro zt n1 hn1
 refine V.RH.know (fun u => (Ext w u ∧ RM u zt (ksO t) (xsO t))) (fun u h => ⟨h.1, h.2.now trivial⟩) ?_
 refine RH.adv tk [] rfl rfl (by first | (simp [hz1, hz32]; done) | (simp [hz31, Value.oneCell'] <;> omega)) ?_
 refine V.RH.slotE 34 (rmE zt (ksO t) (xsO t)) rfl rfl ?_
 refine RH.adv tk [] rfl rfl (by first | (simp [hz1, hz32]; done) | (simp [hz31, Value.oneCell'] <;> omega)) ?_
 by_cases h0 : ef = 0
 case neg =>
  refine RH.adv tk [true] rfl rfl (by simp [h0]) ?_
  refine RH.gv .tt rfl rfl rfl Tryz.call30 (fun u hu => awake_spec u (hG.ext hu.fact.1)) ?_
  intro m9 hm9
  refine RH.a [] ?_
  refine RH.ret1 Tryz.func7 rfl rfl fun u hu => ⟨rfl, hu.fact.1⟩
 subst h0
 refine RH.a [false] ?_
 refine RH.dd [] 9 (fun o : Option Plot => .av (.val (.tuple #[.agg #[ptrO o], intV 0]))) rfl rfl rfl Tryz.call17 hFrom (fun u hu => ⟨hG.ext (hu.fact.1), hA.ext (hu.fact.1), hB.ext (hu.fact.1)⟩) ?_
 intro pt n2 hn2
 refine V.RH.know (fun u => ((Ext w u ∧ RM u zt (ksO t) (xsO t)) ∧ IsO u pt t)) (fun u h => ⟨h.1, h.2.now trivial⟩) ?_
 refine RH.adv tk [] rfl rfl (by first | (simp [hz1, hz32]; done) | (simp [hz31, Value.oneCell'] <;> omega)) ?_
 refine V.RH.slotE 43 (mapE pt) rfl rfl ?_
 refine RH.adv tk [] rfl rfl (by first | (simp [hz1, hz32]; done) | (simp [hz31, Value.oneCell'] <;> omega)) ?_
 refine RH.tell [(0, slE A names.length c), (1, slE B sums.length d), (2, strE name), (7, .av (.box 7 n1 0)), (8, intE 0), (9, .av (.box 9 n2 0)), (10, intE 0)] [(7, some (.box n1 (rmF zt (ksO t) (xsO t)) 81)), (9, some (.box n2 ([.val (ptrO pt)]) 31))] [] rfl rfl rfl 20 ?_
 refine V.RH.fix fun v0 hv0 hw0 => ?_
 have hF0 := fun u (h : Agr (own _) v0 u) => hw0.keeps u h
 generalize hK0 : Agr (own [(7, some (.box n1 (rmF zt (ksO t) (xsO t)) 81)), (9, some (.box n2 ([.val (ptrO pt)]) 31))]) v0 = K0 at *
 refine RH.w [(7, some (.box n1 (rmF zt (ksO t) (xsO t)) 81)), (9, some (.box n2 ([.val (ptrO pt)]) 31))] 17 ?_
 refine RD.a [false] ?_
 refine RD.gv 4 (sumE (rootO t)) rfl rfl rfl Tryz.call24 (fun u hu => Root_spec u (hG.ext (hF0 u hu.fact).1.1) pt t (hF0 u hu.fact).2) ?_
 intro q4 hq4
 refine RD.a [] ?_
 refine RD.gv 6 (sumE (rootO t)) rfl rfl rfl Tryz.call49 (fun u hu => rRoot_spec u zt t gt.wf gt.low1000 (by omega) (hF0 u hu.fact).1.2) ?_
 intro q6 hq6
 refine RD.r 7 (boE (!decide (rootO t = rootO t))) rfl rfl (fun w' a h hag => op_neq hag rfl rfl rfl rfl rfl (by kernel_rfl) (eq_sum w' 9998 _ _)) ?_
 refine RD.a [false] ?_
 refine RD.dd 11 [] 70 (fun z : Option Addr × Nat => slE z.1 (encL t).length z.2) rfl rfl rfl Tryz.call44 (Encode_spec pt t gt.ok gt.low1000 (by omega)) (fun u hu => (hF0 u hu.fact).2) ?_
 rintro ⟨A2, c2⟩ m16 hm16
 refine RD.a [] ?_
 refine RD.dd 13 [] 71 (fun z : Option Addr × Nat => slE z.1 (encL t).length z.2) rfl rfl rfl Tryz.call50 (rEncode_spec zt t gt.wf gt.low1000 (by omega)) (fun u hu => (hF0 u hu.fact.1).1.2) ?_
 rintro ⟨A3, c3⟩ m17 hm17
 refine RD.gv 14 .tt rfl rfl rfl Tryz.call46 (fun u hu => by
  have h := bEqualA u A2 A3 c2 c3 (encL t) (encL t) (hu.fact.1.2.now trivial) (hu.fact.2.now trivial)
  rw [decide_eq_true rfl] at h
  exact h) ?_
 intro m18 hm18
 refine RD.a [] ?_
 refine RD.e ?_
 refine V.RH.know K0 (fun u h => h.1.1) ?_
 refine RH.a [] ?_
 refine RH.tell [(0, slE A names.length c), (1, slE B sums.length d), (2, strE name), (7, .av (.box 7 n1 0)), (8, intE 0), (9, .av (.box 9 n2 0)), (10, intE 0), (63, rmE zt (ksO t) (xsO t)), (64, strE name)] [(7, some (.box n1 (rmF zt (ksO t) (xsO t)) 81)), (9, some (.box n2 ([.val (ptrO pt)]) 31))] [] rfl rfl rfl 81 ?_
 by_cases hn60 : 60 < name.length
 case pos =>
  refine RH.gv (.av (.val (.tuple #[.slice none 0 0, intV 11]))) rfl rfl rfl Tryz.call51 (fun u hu => rWay_long2 u zt (ksO t) (xsO t) name hn60) ?_
  intro m20 hm20
  refine RH.a [] ?_
  refine RH.gv (.av (.val (.tuple #[.slice none 0 0, intV 11]))) rfl rfl rfl Tryz.call52 (fun u hu => Way_long2 u pt name hn60) ?_
  intro m21 hm21
  refine RH.a [false] ?_
  refine RH.gv .tt rfl rfl rfl Tryz.call42 (fun u hu => by
   have h := eqSteps_spec u none none 0 0 [] [] (nilSl u) (nilSl u) (fun s h => by cases h) (fun s h => by cases h)
   rw [decide_eq_true rfl] at h
   exact h) ?_
  intro m22 hm22
  refine RH.a [] ?_
  refine RH.loop (α := Unit) (fun _ => [(0, slE A names.length c), (1, slE B sums.length d), (2, strE name), (7, .av (.box 7 n1 0)), (8, intE 0), (9, .av (.box 9 n2 0)), (10, intE 0), (11, slE none 0 0), (12, intE 11), (13, slE none 0 0), (14, intE 11), (83, slE none 0 0), (84, intE 0), (85, intE 0)]) (fun _ => [(7, some (.box n1 (rmF zt (ksO t) (xsO t)) 81)), (9, some (.box n2 ([.val (ptrO pt)]) 31))]) (fun _ => K0) (fun _ => 0) () rfl rfl (fun u h => h) ?_
  rintro ⟨⟩ m23
  refine RH.a [false] ?_
  refine RH.gv (.av (.val (.tuple #[.slice none 0 0, intV 11]))) rfl rfl rfl Tryz.call52 (fun u hu => Way_long2 u pt name hn60) ?_
  intro m24 hm24
  refine RH.a [true] ?_
  refine RH.gv .tt rfl rfl rfl Tryz.call42 (fun u hu => by
   have h := eqSteps_spec u none none 0 0 [] [] (nilSl u) (nilSl u) (fun s h => by cases h) (fun s h => by cases h)
   rw [decide_eq_true rfl] at h
   exact h) ?_
  intro m25 hm25
  refine RH.a [] ?_
  refine RH.gv .tt rfl rfl rfl Tryz.call30 (fun u hu => awake_spec u (hG.ext (hF0 u hu.fact).1.1)) ?_
  intro m99 hm99
  refine RH.a [] ?_
  refine RH.ret1 Tryz.func7 rfl rfl fun u hu => ⟨rfl, (hF0 u hu.fact).1.1⟩
 have hwl : (wayO t name).length ≤ 61 := by
  cases t with
  | none => exact Nat.zero_le _
  | some t => exact Nat.le_trans (wayT_len t name) (by omega)
 refine RH.dd [] 82 (fun z : (Option Addr × Nat) × List Stp => .av (.val (.tuple #[.slice z.1.1 z.2.length z.1.2, intV 0]))) rfl rfl rfl Tryz.call51 (rWay_ok zt t gt.wf gt.low1000 (by omega) name (by omega)) (fun u hu => (hF0 u hu.fact).1.2) ?_
 rintro ⟨⟨A4, c4⟩, ws⟩ m20 hm20
 refine RH.a [] ?_
 refine RH.pure (fun u hu => ((hu.2.now trivial).1 : ws.map Stp.dat = (wayO t name).map Tree.dat)) fun hws => ?_
 have hl1 : ws.length ≤ lim := by have := congrArg List.length hws; simp only [List.length_map] at this; omega
 refine V.RH.know (fun u => K0 u ∧ ∀ s ∈ ws, s.ok u) (fun u h => ⟨h.1, (h.2.now trivial).2⟩) ?_
 refine RH.tell [(0, slE A names.length c), (1, slE B sums.length d), (2, strE name), (7, .av (.box 7 n1 0)), (8, intE 0), (9, .av (.box 9 n2 0)), (10, intE 0), (11, slE A4 ws.length c4), (12, intE 0), (69, mapE pt), (70, strE name)] [(7, some (.box n1 (rmF zt (ksO t) (xsO t)) 81)), (9, some (.box n2 ([.val (ptrO pt)]) 31)), (81, rowE kRStp A4 c4 ws)] [] rfl rfl rfl 90 ?_
 refine V.RH.fix fun v1 hv1 hw1 => ?_
 have hF1 := fun u (h : Agr (own [(7, some (.box n1 (rmF zt (ksO t) (xsO t)) 81)), (9, some (.box n2 ([.val (ptrO pt)]) 31)), (81, rowE kRStp A4 c4 ws)]) v1 u) => hw1.keeps u h
 refine RH.dd [] 91 (fun z : (Option Addr × Nat) × List Stp => .av (.val (.tuple #[.slice z.1.1 z.2.length z.1.2, intV 0]))) rfl rfl rfl Tryz.call52 (WayR_ok pt t gt.ok name (by omega)) (fun u hu => (hF0 u (hF1 u hu.fact).1).2) ?_
 rintro ⟨⟨A5, c5⟩, vs⟩ m21 hm21
 refine RH.pure (fun u hu => ((hu.2.now trivial).1 : vs.map Stp.dat = (wayO t name).map Tree.dat)) fun hvs => ?_
 have hl2 : vs.length ≤ lim := by have := congrArg List.length hvs; simp only [List.length_map] at this; omega
 refine RH.a [false] ?_
 refine RH.gv .tt rfl rfl rfl Tryz.call42 (fun u hu => by
  have h := eqSteps_spec u A5 A4 c5 c4 vs ws (Sl.own (B := w.heap.size) (hu.row (κ := kStp) (l := vs) (id := 90) rfl) hl2) (Sl.own (B := w.heap.size) (hu.row (κ := kRStp) (l := ws) (id := 81) rfl) hl1) (fun s h => ((hu.fact.2.now trivial).2 s h).1) (hF1 u hu.fact.1).2
  rw [decide_eq_true (hvs.trans hws.symm)] at h
  exact h) ?_
 intro m22 hm22
 refine V.RH.know (fun u => Agr (own [(7, some (.box n1 (rmF zt (ksO t) (xsO t)) 81)), (9, some (.box n2 ([.val (ptrO pt)]) 31)), (81, rowE kRStp A4 c4 ws)]) v1 u ∧ ∀ s ∈ vs, Rm kBy v1.heap.size s.A s.bytes.length s.c u ∧ Rm kSum v1.heap.size s.B s.nodes.length s.d u) (fun u h => ⟨h.1, fun s hs => by rw [hv1]; exact ((h.2.now trivial).2 s hs).2⟩) ?_
 refine RH.pureS (p := vs ≠ [] → Ptr A5) (fun u hu => (Sl.own (B := w.heap.size) (hu.row (κ := kStp) (l := vs) (id := 90) rfl) hl2).addr) fun hp5 => ?_
 refine RH.a [] ?_
 refine RH.loop (α := Nat) (fun i => [(0, slE A names.length c), (1, slE B sums.length d), (2, strE name), (7, .av (.box 7 n1 0)), (8, intE 0), (9, .av (.box 9 n2 0)), (10, intE 0), (11, slE A4 ws.length c4), (12, intE 0), (13, slE A5 vs.length c5), (14, intE 0), (83, slE A5 vs.length c5), (84, intE vs.length), (85, intE i)]) (fun _ => [(7, some (.box n1 (rmF zt (ksO t) (xsO t)) 81)), (9, some (.box n2 ([.val (ptrO pt)]) 31)), (81, rowE kRStp A4 c4 ws), (90, rowE kStp A5 c5 vs)]) (fun i u => (Agr (own [(7, some (.box n1 (rmF zt (ksO t) (xsO t)) 81)), (9, some (.box n2 ([.val (ptrO pt)]) 31)), (81, rowE kRStp A4 c4 ws)]) v1 u ∧ ∀ s ∈ vs, Rm kBy v1.heap.size s.A s.bytes.length s.c u ∧ Rm kSum v1.heap.size s.B s.nodes.length s.d u) ∧ i ≤ vs.length) (fun i => vs.length - i) 0 rfl rfl (fun u h => ⟨h, Nat.zero_le _⟩) ?_
 rintro i m23
 refine RH.pure (fun u h => h.2) fun hi => ?_
 refine V.RH.know (fun u => Agr (own [(7, some (.box n1 (rmF zt (ksO t) (xsO t)) 81)), (9, some (.box n2 ([.val (ptrO pt)]) 31)), (81, rowE kRStp A4 c4 ws)]) v1 u ∧ ∀ s ∈ vs, Rm kBy v1.heap.size s.A s.bytes.length s.c u ∧ Rm kSum v1.heap.size s.B s.nodes.length s.d u) (fun u h => h.1) ?_
 by_cases hlt : i < vs.length
 case pos =>
  have hp6 : Ptr A5 := hp5 fun e => by rw [e] at hlt; cases hlt
  refine RH.adv tk [true] rfl rfl (by simp [hp6] <;> omega) ?_
  refine RH.loadS (slE (vs[i]).A (vs[i]).bytes.length (vs[i]).c) rfl rfl rfl rfl (fun u hu => stp_bytes (Sl.own (B := w.heap.size) (hu.row (κ := kStp) (l := vs) (id := 90) rfl) hl2) hlt) ?_
  refine RH.a [] ?_
  refine RH.go rfl rfl (OpGo.clearRm (κ := kBy) (A := (vs[i]).A) (q := (vs[i]).bytes.length) (c := (vs[i]).c) (n0 := v1.heap.size) tk rfl rfl rfl rfl rfl (List.all_eq_true.1 (by kernel_rfl)) rfl (by decide) (fun u h => (h.2 _ (List.getElem_mem hlt)).1) (fun u u' g cur cur' h a b c d e => rms_turn (κ' := kBy) (Nat.le_refl _) h a b c d e)) 92 ?_
  rintro ⟨⟩ m31 hm31
  refine RH.adv tk [] rfl rfl (by simp [hp6] <;> omega) ?_
  refine RH.loadS (slE (vs[i]).B (vs[i]).nodes.length (vs[i]).d) rfl rfl rfl rfl (fun u hu => stp_nodes (Sl.own (B := w.heap.size) (hu.row (κ := kStp) (l := vs) (id := 90) rfl) hl2) hlt) ?_
  refine RH.a [] ?_
  refine RH.go rfl rfl (OpGo.clearRm (κ := kSum) (A := (vs[i]).B) (q := (vs[i]).nodes.length) (c := (vs[i]).d) (n0 := v1.heap.size) tk rfl rfl rfl rfl rfl (List.all_eq_true.1 (by kernel_rfl)) rfl (by decide) (fun u h => (h.2 _ (List.getElem_mem hlt)).2) (fun u u' g cur cur' h a b c d e => rms_turn (κ' := kSum) (Nat.le_refl _) h a b c d e)) 92 ?_
  rintro ⟨⟩ m32 hm32
  refine RH.a [] ?_
  exact RH.again (i + 1) (.head _) rfl rfl (by omega) fun u h => ⟨h, hlt⟩
 refine RH.a [false] ?_
 refine V.RH.know (fun u => Agr (own [(7, some (.box n1 (rmF zt (ksO t) (xsO t)) 81)), (9, some (.box n2 ([.val (ptrO pt)]) 31)), (81, rowE kRStp A4 c4 ws)]) v1 u) (fun u h => h.1) ?_
 refine RH.tell [(0, slE A names.length c), (1, slE B sums.length d), (2, strE name), (7, .av (.box 7 n1 0)), (8, intE 0), (9, .av (.box 9 n2 0)), (10, intE 0), (11, slE A4 ws.length c4), (12, intE 0), (13, slE A5 vs.length c5), (14, intE 0), (100, mapE pt), (101, strE name)] [(7, some (.box n1 (rmF zt (ksO t) (xsO t)) 81)), (9, some (.box n2 ([.val (ptrO pt)]) 31)), (81, rowE kRStp A4 c4 ws)] [] rfl rfl rfl 92 ?_
 refine RH.dd [] 93 (fun z : (Option Addr × Nat) × List Stp => .av (.val (.tuple #[.slice z.1.1 z.2.length z.1.2, intV 0]))) rfl rfl rfl Tryz.call52 (Way_ok pt t gt.ok name (by omega)) (fun u hu => (hF0 u (hF1 u hu.fact).1).2) ?_
 rintro ⟨⟨A6, c6⟩, vs2⟩ m24 hm24
 refine RH.pure (fun u hu => ((hu.2.now trivial).1 : vs2.map Stp.dat = (wayO t name).map Tree.dat)) fun hvs2 => ?_
 have hl3 : vs2.length ≤ lim := by have := congrArg List.length hvs2; simp only [List.length_map] at this; omega
 refine RH.a [true] ?_
 refine RH.gv .tt rfl rfl rfl Tryz.call42 (fun u hu => by
  have h := eqSteps_spec u A6 A4 c6 c4 vs2 ws (Sl.own (B := w.heap.size) (hu.row (κ := kStp) (l := vs2) (id := 92) rfl) hl3) (Sl.own (B := w.heap.size) (hu.row (κ := kRStp) (l := ws) (id := 81) rfl) hl1) (hu.fact.2.now trivial).2 (hF1 u hu.fact.1).2
  rw [decide_eq_true (hvs2.trans hws.symm)] at h
  exact h) ?_
 intro m25 hm25
 refine RH.a [] ?_
 refine RH.gv .tt rfl rfl rfl Tryz.call30 (fun u hu => awake_spec u (hG.ext (hF0 u (hF1 u hu.fact.1).1).1.1)) ?_
 intro m99 hm99
 refine RH.a [] ?_
 refine RH.ret1 Tryz.func7 rfl rfl fun u hu => ⟨rfl, (hF0 u (hF1 u hu.fact.1).1).1.1⟩
open Go V RowKit Go.ChangeShapes Go.WideShapes Go.ChangeAt
theorem trieRoots_lifted (os : Os) (started : os.Started) (H : Type) (enc : TypeId × Value → H) :
  ReturnsInHanded {} Tryz.checked os 7 .any (fun w args => (Rows.trieRootsSpec.pre enc Tryz.prog Tryz.f7 [] false w args ∧ laidMetH Tryz.prog Rows.trieRootsRow.laid w) ∧ sizedMet enc Tryz.prog Tryz.f7 (OpenSpec.ofChange Rows.trieRootsSpec) false w args)
   (Rows.trieRootsSpec.post enc Tryz.prog Tryz.f7 false true false false) := by
 refine wrap (C := Tryz.checked) (X := fun w _ => laidMetH Tryz.prog Rows.trieRootsRow.laid w) (fun _ _ _ hh h => h.of_heap hh) ownKnobs started (by kernel_rfl) Tryz.func7
  (ChangeSpec.witness_shaped (enc := enc) (C := Tryz.checked) (os := os) (X := fun w _ => laidMetH Tryz.prog Rows.trieRootsRow.laid w) false (World.laidAll Tryz.prog os Rows.trieRootsRow.laid)
   #[.slice none 0 0, .slice none 0 0, .string ⟨#[]⟩] 8 (World.laidAll_os _ _ _)
   (World.shaped_of_ZipB (by kernel_rfl) (by kernel_rfl)) (by kernel_rfl) (by kernel_rfl) (by kernel_rfl)
   (by rw [MakeChecks.laidMetH_plain _ _ _ (by kernel_rfl)]; exact laidMet_laidAll _ (by kernel_rfl) (by kernel_rfl))) ?_
 intro W base args ds gs before hval0 hW hsz0 hL hS
 have hval : ∀ (j : Nat) t v, Tryz.f7.params[j]? = some t → args[j]? = some v → Value.okWide Tryz.prog W .any base t v := hval0
 have hsz : (DataW.weightsEach Tryz.prog (Tryz.f7.params.toList ++ Rows.trieRootsSpec.plain.varTypes Tryz.prog) (ds ++ gs)).all (· ≤ reachBytes) = true := hsz0
 have hW' := hW
 obtain ⟨p, q, hA0, hV, rfl, _, _⟩ := hW
 have hA : DataW.TrodAll enc Tryz.prog W 0 (fun _ => true) true Tryz.f7.params.toList args.toList ds p := hA0
 rw [Tryz.params7] at hA hval hsz
 obtain ⟨v0, v1, v2, d0, d1, d2, p0, p1, p2, rfl, rfl, rfl, h0, h1, h2⟩ := trodAll_three hA
 obtain ⟨rfl, rfl⟩ := trodVars_none hV
 have wt : ∀ {j : Nat} {t : TypeId} {d : DataW H}, [25, 26, 9][j]? = some t → [d0, d1, d2][j]? = some d → ∀ n ∈ d.weights Tryz.prog t, n ≤ reachBytes := by
  intro j t d ht hd n hn
  exact of_decide_eq_true (List.all_eq_true.1 hsz _ (DataW.weights_mem_each ht hd n hn))
 obtain ⟨x0, rfl, hx0⟩ := open_strs h0 (wt (j := 0) rfl rfl) (hval 0 _ v0 rfl rfl)
 obtain ⟨x1, rfl, hx1⟩ := open_sums h1 (wt (j := 1) rfl rfl) (hval 1 _ v1 rfl rfl)
 obtain ⟨x2, rfl, _, _, _⟩ := ChangeMaps.open_string Tryz.underlying9 (hval 2 _ v2 rfl rfl) h2
 refine (roots_walk W (glob_of hS (show laidMetH Tryz.prog Rows.trieShapeRow.laid W from hL)) x0.A x0.c x0.l hx0 x1.A x1.c x1.l hx1 x2.data.toList).mono fun e W' ⟨he, hb⟩ => ?_
 subst he
 exact ⟨_, rfl, _, _, _, [], _, [], hW', trodAll_mk1 (shut_bool Tryz.underlying4 _),
  trodAll_mk3 (Below.trod laidOuts (by kernel_rfl) (of_decide_eq_true (by kernel_rfl)) h0 hb (fun y hy => hW'.lt y (by simp [hy]))) (Below.trod laidOuts (by kernel_rfl) (of_decide_eq_true (by kernel_rfl)) h1 hb (fun y hy => hW'.lt y (by simp [hy]))) (Below.trod laidOuts (by kernel_rfl) (of_decide_eq_true (by kernel_rfl)) h2 hb (fun y hy => hW'.lt y (by simp [hy]))), rfl, hb.frame _, fun h => by cases h⟩
end Go.Proofs.YtbfjmimiigjenaaGreatDoor
namespace Go.Proofs.YtbfjmimiigjenaaGreatDoor
open Go
theorem trieRoots_c0 : (Rows.trieRootsRow.wf (OpenSpec.ofChange Rows.trieRootsSpec) : Bool) = true := by kernel_rfl
theorem trieRoots_c1 : (laidOutB Tryz.prog : Bool) = true := by kernel_rfl
theorem trieRoots_c2 : (mapsRowed Tryz.prog : Bool) = true := by kernel_rfl
theorem trieRoots_c3 : (Tryz.f7.params.all (Tryz.prog.readableRec ·) : Bool) = true := by kernel_rfl
theorem trieRoots_c4 : (namedTie Tryz.prog Rows.trieRootsRow.named Rows.trieRootsSpec.vars : Bool) = true := by kernel_rfl
theorem trieRoots_c5 : (Rows.trieRootsRow.stops == [] : Bool) = true := by kernel_rfl
theorem trieRoots_c6 : (Tryz.prog.stops == [] : Bool) = true := by kernel_rfl
theorem trieRoots_c7 : (Rows.trieRootsRow.knobs == [] : Bool) = true := by kernel_rfl
theorem trieRoots_c8 : (Tryz.prog.stopKnobs == [] : Bool) = true := by kernel_rfl
theorem trieRoots_c9 : (Rows.trieRootsRow.inPlace == Tryz.prog.inPlace 7 : Bool) = true := by kernel_rfl
theorem trieRoots_c10 : (Rows.trieRootsRow.unfollowed == Tryz.prog.unfollowed 7 : Bool) = true := by kernel_rfl
theorem trieRoots_c11 : (Rows.trieRootsRow.recurses == Tryz.prog.recurses 7 : Bool) = true := by kernel_rfl
theorem trieRoots_c12 : (Rows.trieRootsRow.named == Tryz.prog.varsNamed 7 : Bool) = true := by kernel_rfl
theorem trieRoots_c13 : (Rows.trieRootsRow.maps == (Tryz.f7.params.toList ++ Rows.trieRootsSpec.plain.varTypes Tryz.prog).any (Tryz.prog.mapsRec ·) : Bool) = true := by kernel_rfl
theorem trieRoots_c14 : (Rows.trieRootsRow.ifaces == (Tryz.f7.params.toList ++ Rows.trieRootsSpec.plain.varTypes Tryz.prog).any (Tryz.prog.ifacesRec ·) : Bool) = true := by kernel_rfl
theorem trieRoots_c15 : (Rows.trieRootsRow.mapsOut == Tryz.prog.mapsAmong Tryz.f7.resultTypes.toList : Bool) = true := by kernel_rfl
theorem trieRoots_c16 : (Rows.trieRootsRow.loops == (Tryz.f7.params.toList ++ Rows.trieRootsSpec.plain.varTypes Tryz.prog).any (Tryz.prog.loopsFrom ·) : Bool) = true := by kernel_rfl
theorem trieRoots_c17 : (Rows.trieRootsRow.wideKeys == (Tryz.f7.params.toList ++ Rows.trieRootsSpec.plain.varTypes Tryz.prog ++ Tryz.f7.resultTypes.toList).any (Tryz.prog.wideKeysFrom ·) : Bool) = true := by kernel_rfl
theorem trieRoots_c18 : (Rows.trieRootsSpec.vars.all (Tryz.prog.varReadable ·) : Bool) = true := by kernel_rfl
theorem trieRoots_c19 : (Tryz.f7.resultTypes.all (fun t => Tryz.prog.readableRec t && decide (t < Tryz.prog.types.size)) : Bool) = true := by kernel_rfl
theorem trieRoots_c20 : (Rows.trieRootsRow.ifacesOut == Tryz.f7.resultTypes.toList.any (Tryz.prog.ifacesRec ·) : Bool) = true := by kernel_rfl
theorem trieRoots_c21 : (Rows.trieRootsRow.loopsOut == Tryz.f7.resultTypes.toList.any (Tryz.prog.loopsFrom ·) : Bool) = true := by kernel_rfl
theorem trieRoots_c22 : (Rows.trieRootsRow.plainKeys == Tryz.prog.plainKeys : Bool) = true := by kernel_rfl
theorem trieRoots_c23 : (Rows.trieRootsRow.shortTexts.isNone : Bool) = true := by kernel_rfl
theorem trieRoots_c24 : (Tryz.prog.stopsHeard : Bool) = true := by kernel_rfl
theorem trieRoots_c25 : (Tryz.prog.mayEnter : Bool) = true := by kernel_rfl
theorem trieRoots_c26 : (Rows.trieRootsRow.lifted == Tryz.prog.liftsFinal : Bool) = true := by kernel_rfl
theorem trieRoots_c27 : (Tryz.prog.make == some Rows.trieRootsRow.make : Bool) = true := by kernel_rfl
theorem trieRoots_c28 : (Rows.trieRootsRow.kinds == (if Rows.trieRootsRow.domain.isEmpty then [] else Tryz.f7.params.toList.map fun t => match Tryz.prog.underlying t with | some (.int k) => some k | _ => none) : Bool) = true := by kernel_rfl
theorem trieRoots_c29 : (Rows.trieRootsRow.pinned == Rows.trieRootsRow.pinnedBy : Bool) = true := by kernel_rfl
theorem trieRoots_c30 : (Rows.trieRootsRow.veiled == (Tryz.f7.params.toList ++ Rows.trieRootsSpec.plain.varTypes Tryz.prog ++ Tryz.f7.resultTypes.toList).any (Tryz.prog.veiledRec ·) : Bool) = true := by kernel_rfl
theorem trieRoots_c31 : (Rows.trieRootsRow.veiledFits Tryz.prog Tryz.f7.params.toList (Tryz.f7.params.toList ++ Rows.trieRootsSpec.plain.varTypes Tryz.prog ++ Tryz.f7.resultTypes.toList) : Bool) = true := by kernel_rfl
theorem trieRoots_joined : joinedFacts Tryz.prog 7 Tryz.f7 Rows.trieRootsSpec Rows.trieRootsRow = true :=
 joined_of trieRoots_c0 trieRoots_c1 trieRoots_c2 trieRoots_c3 trieRoots_c4 trieRoots_c5 trieRoots_c6 trieRoots_c7 trieRoots_c8 trieRoots_c9 trieRoots_c10 trieRoots_c11 trieRoots_c12 trieRoots_c13 trieRoots_c14 trieRoots_c15 trieRoots_c16 trieRoots_c17 trieRoots_c18 trieRoots_c19 trieRoots_c20 trieRoots_c21 trieRoots_c22 trieRoots_c23 trieRoots_c24 trieRoots_c25 trieRoots_c26 trieRoots_c27 trieRoots_c28 trieRoots_c29 trieRoots_c30 trieRoots_c31
theorem trieRoots_named : Tryz.prog.funcNamed "hoarstone/hoarstonelaw03.TrieRoots" = some 7 := by kernel_rfl
theorem trieRoots_inst : decide (Tryz.f7.isInstance Tryz.prog Rows.trieRootsRow.origin Rows.trieRootsRow.targs) = true := by kernel_rfl
theorem trieRoots_wfText : Rows.trieRootsRow.wfByText (OpenSpec.ofChange Rows.trieRootsSpec) = true := by kernel_rfl
theorem trieRoots_goes : (false = Rows.trieRootsRow.goesBy Tryz.prog) := by kernel_rfl
theorem trieRoots_wrapped : Tryz.f7.isWrapper Tryz.prog Rows.trieRootsRow.wrapper Rows.trieRootsRow.mainSum := by
 unfold Func.isWrapper; first | (rw [if_pos (by decide +kernel)]; kernel_rfl) | (rw [if_neg (by decide +kernel)]; exact ⟨rfl, rfl⟩)
theorem trieRoots_prog : Rows.trieRootsRow.program = Tryz.pinned.name := by kernel_rfl
theorem trieRoots_sum : Rows.trieRootsRow.sum = Tryz.pinned.sum := by kernel_rfl
theorem trieRoots_spec : Rows.trieRootsRow.spec = Rows.trieRootsSpec.name := by kernel_rfl
theorem trieRoots_holds : Rows.TrieRootsSaid :=
 OpenClaim.holds_of_wide 7 Tryz.f7 trieRoots_prog trieRoots_sum trieRoots_spec rfl rfl rfl rfl ⟨rfl, rfl, rfl, rfl, rfl⟩ rfl rfl rfl rfl rfl trieRoots_named Tryz.func7 trieRoots_joined
  (of_decide_eq_true trieRoots_inst) trieRoots_wrapped (fun os started H enc _ => trieRoots_lifted os started H enc)
theorem trieRoots_main : Tryz.prog.mainIs = some (Rows.trieRootsCard.stood.harness.1, Rows.trieRootsCard.stood.harness.2.toList) := by kernel_rfl
theorem trieRoots_har : (!Rows.trieRootsCard.stood.harness.1 && Rows.trieRootsCard.stood.harness.2.isEmpty && !false) = false := by kernel_rfl
theorem trieRoots_looks : false = Tryz.prog.looks [] := by kernel_rfl
theorem trieRoots_plain : ([25, 26, 9].all fun u => !Tryz.prog.wantsStandIn u) = true := by kernel_rfl
theorem trieRoots_card_holds : Rows.TrieRootsCardSaid :=
 Claim7.holds_tied_plain_at .later [] [.data, .data, .sentinel] true Rows.trieRootsCard.stood.harness false
  trieRoots_holds (fun _ h => by cases h) trieRoots_wfText (fun _ h => by cases h) trieRoots_row_tie rfl ⟨rfl, rfl⟩ trieRoots_main trieRoots_har
  (fun f fn hf hfn => by
   obtain rfl : f = 7 := (Option.some.inj (trieRoots_named.symm.trans hf)).symm
   obtain rfl : fn = Tryz.f7 := (Option.some.inj (Tryz.func7.symm.trans hfn)).symm
   exact ⟨trieRoots_looks, fun j t ht => by
    rw [Tryz.params7] at ht
    have hm : t ∈ [25, 26, 9] := by simpa using Array.mem_of_getElem? ht
    exact (show Tryz.prog.wantsStandIn t = false by simpa using List.all_eq_true.1 trieRoots_plain t hm)⟩)
  trieRoots_goes
#print axioms trieRoots_card_holds
end Go.Proofs.YtbfjmimiigjenaaGreatDoor
