/-
Lemmas. No condition.
-/
import Derived.Test.YtbfjmimiigjenaaGreatDoorKQ39
set_option maxRecDepth 10000
set_option linter.unusedVariables false
set_option linter.unusedSectionVars false
set_option linter.unusedSimpArgs false
namespace Go.Proofs.YtbfjmimiigjenaaGreatDoor
open Go V RowKit
def Stp.bs (s : Stp) : List UInt8 := stepB s.stem (if s.has = true then some s.sum else none) s.bytes s.nodes
theorem stp_mid (s : Stp) : ((boxCells (stpF s)).toList.drop 2).take 32 = s.sum.l.map u8V := step_sum s.stem s.has s.sum _ _ rfl rfl
set_option maxHeartbeats 400000 in
theorem bytesOf_spec (s : Stp) (hst : s.stem.length ≤ 1000) (hbl : s.bytes.length ≤ 1000) (hno : s.bytes.length = s.nodes.length) :
  Does Tryz.prog tb 77 [(EV.st (stpF s)).v] [] (fun u => s.ok u) (fun y : Option Addr × Nat => .slice y.1 s.bs.length y.2) (fun _ => []) (fun y => Late (fun _ => True) (fun u => Sl kBy u y.1 y.2 s.bs)) := by
 have hlim : lim = 140737488351232 := rfl
 refine V.Does.enter0 [(0, .st (stpF s))] Tryz.func77 rfl Tryz.ntmps77 rfl rfl 0 ?_
 intro m0 K
 refine RH.adv tk [] rfl rfl (by simp) ?_
 rw [u8_of]
 have e1 : (((s.bytes.length : Nat) : Int).fdiv (2 ^ min (Int.toNat 8) IntKind.i64.bits) % 256) = ((UInt8.ofNat (s.bytes.length / 256)).toNat : Int) := by
  have e0 : (2 : Int) ^ min (Int.toNat 8) IntKind.i64.bits = 256 := rfl
  rw [e0, Int.fdiv_eq_ediv_of_nonneg _ (by omega), UInt8.toNat_ofNat']
  omega
 have e2 : ((s.bytes.length : Int) % 256) = ((UInt8.ofNat s.bytes.length).toNat : Int) := by rw [UInt8.toNat_ofNat']; omega
 have hsh := s.sum.h
 have hbs : s.bs = ([UInt8.ofNat s.stem.length] ++ s.stem ++ vB (if s.has = true then some s.sum else none)) ++ [UInt8.ofNat (s.bytes.length / 256), UInt8.ofNat s.bytes.length] ++ pairB s.bytes s.nodes := by unfold Stp.bs stepB; rfl
 refine RH.go rfl rfl (OpGo.appendStr (id := 1) (l := [UInt8.ofNat s.stem.length]) (t := s.stem) rfl rfl rfl rfl (by simp) (by simp; omega)) 2 ?_
 rintro ⟨A1, c1⟩ m1 hm1
 have hvl : (vB (if s.has = true then some s.sum else none)).length ≤ 33 := by split <;> simp [vB, hsh]
 apply RH.joinK (α := Option Addr × Nat) (fun y => [(1, .av (.box 0 m0 0)), (3, rowS 1 y.1 ([UInt8.ofNat s.stem.length] ++ s.stem ++ vB (if s.has = true then some s.sum else none)).length y.2)])
  (fun y => [(0, some (.box m0 (stpF s) 61)), (1, rowE kBy y.1 y.2 ([UInt8.ofNat s.stem.length] ++ s.stem ++ vB (if s.has = true then some s.sum else none)))]) (fun _ u => K u ∧ s.ok u)
 ·by_cases hh : s.has = true
  ·rw [if_pos hh]
   refine RH.adv tk [true] rfl rfl (by simp [hh] <;> omega) ?_
   refine RH.draw rfl [] rfl 7 rfl rfl ?_
   refine RD.adv tk (by kernel_rfl) [] rfl rfl (by simp <;> omega) ?_
   refine RD.read (by kernel_rfl) (i := 4) (.av (.val (.slice (some ⟨m0, 2, none⟩) 32 32))) rfl rfl rfl rfl rfl rfl (fun u q _ ha => ?_) ?_
   ·have e1 : q.eval (.tmp 19) = .pointer (some ⟨m0, 2, none⟩) := ev_run (e := .av (.box 0 m0 2)) ha rfl
    simp only [execOp, e1, Option.map_none, slice_all, Sem.run_bind, Result.andThen_ok, Sem.run_pure]
    rfl
   refine RD.step tk (nx := 5) (i := 1) rfl (by kernel_rfl) rfl rfl rfl ?_ rfl (fun _ h => h) ⟨rfl, rfl⟩ ?_
   ·first | trivial | (simp; done)
   refine RD.adv tk (by kernel_rfl) [] rfl rfl (by simp <;> omega) ?_
   refine RD.apK (nx := 6) (i := 2) (κ := kBy) (id := 1) (r := [1]) (l := [UInt8.ofNat s.stem.length] ++ s.stem) rfl (by kernel_rfl) rfl rfl rfl rfl rfl elt_byte rfl rfl (fun w hst => hst.liR (id := 5) (κ := kBy) (l := [(1 : UInt8)]) rfl (by simp [hlim])) (by simp; omega) (by simp; omega) (fun _ _ => rfl) (fun _ h => h) ?_
   intro A3 c3 m3 hm3
   refine RD.adv tk (by kernel_rfl) [] rfl rfl (by simp <;> omega) ?_
   refine RD.apK (nx := 7) (i := 5) (κ := kBy) (id := 1) (r := s.sum.l) (l := [UInt8.ofNat s.stem.length] ++ s.stem ++ [1]) rfl (by kernel_rfl) rfl rfl rfl rfl rfl elt_byte rfl (by rw [hsh]; rfl) (fun w hst => (sl_sum (range_take (n := 32) (hst.holds 0 _ rfl).2.1 (stp_mid s))).lies) (by simp [hsh]; omega) (by simp [hsh]; omega) (fun _ _ => rfl) (fun _ h => h) ?_
   intro A4 c4 m4 hm4
   refine RD.adv tk (by kernel_rfl) [] rfl rfl (by simp <;> omega) ?_
   refine RD.done (.inl rfl) (by kernel_rfl) ?_
   exact RH.mtS (A4, c4) [] (.head _) (by rw [show [UInt8.ofNat s.stem.length] ++ s.stem ++ [1] ++ s.sum.l = [UInt8.ofNat s.stem.length] ++ s.stem ++ vB (some s.sum) by simp [vB]]; rfl) (by rw [show [UInt8.ofNat s.stem.length] ++ s.stem ++ [1] ++ s.sum.l = [UInt8.ofNat s.stem.length] ++ s.stem ++ vB (some s.sum) by simp [vB]]; rfl) rfl fun u h => h
  ·rw [if_neg hh]
   refine RH.adv tk [false] rfl rfl (by simp [hh] <;> omega) ?_
   refine RH.apK (κ := kBy) (id := 1) (l := [UInt8.ofNat s.stem.length] ++ s.stem) (r := [0]) rfl rfl rfl rfl rfl rfl elt_byte rfl rfl (fun u hu => hu.liR (κ := kBy) (l := [(0 : UInt8)]) (id := 2) rfl (by simp [hlim])) (by simp; omega) (by simp; omega) ?_
   intro A4 c4 m4 hm4
   refine V.RH.advN 2 tk [] rfl rfl trivial ?_
   exact RH.mtS (A4, c4) [] (.head _) rfl rfl rfl fun u h => h
 rintro ⟨A2, c2⟩ m2
 dsimp only
 generalize hL2 : [UInt8.ofNat s.stem.length] ++ s.stem ++ vB (if s.has = true then some s.sum else none) = L2 at *
 have hl2 : L2.length ≤ 1034 := by rw [← hL2]; simp; omega
 refine RH.toNx 10 ?_
 refine RH.adv tk [] rfl rfl (by simp) ?_
 rw [e1, e2]
 refine RH.apK (κ := kBy) (id := 1) (l := L2) (r := [UInt8.ofNat (s.bytes.length / 256), UInt8.ofNat s.bytes.length]) rfl rfl rfl rfl rfl rfl elt_byte rfl rfl (fun u hu => hu.liR (κ := kBy) (l := [UInt8.ofNat (s.bytes.length / 256), UInt8.ofNat s.bytes.length]) (id := 10) rfl (by simp [hlim])) (by simp; omega) (by simp; omega) ?_
 intro A5 c5 m5 hm5
 refine RH.adv tk [] rfl rfl (by simp <;> omega) ?_
 generalize hL3 : L2 ++ [UInt8.ofNat (s.bytes.length / 256), UInt8.ofNat s.bytes.length] = L3 at *
 have hl3 : L3.length ≤ 1036 := by rw [← hL3]; simp; omega
 rw [show L3 = L3 ++ pairB (s.bytes.take 0) (s.nodes.take 0) by simp [pairB]]
 refine RH.tell [(1, .av (.box 0 m0 0)), (3, rowS 1 A5 (L3 ++ pairB (s.bytes.take 0) (s.nodes.take 0)).length c5), (38, slE s.A s.bytes.length s.c), (39, intE s.bytes.length), (40, intE 0)] [(0, some (.box m0 (stpF s) 61)), (1, rowE kBy A5 c5 (L3 ++ pairB (s.bytes.take 0) (s.nodes.take 0)))] [] rfl rfl rfl 10 ?_
 refine RH.loop (α := Nat × (Option Addr × Nat)) (fun y => [(1, .av (.box 0 m0 0)), (3, rowS 1 y.2.1 (L3 ++ pairB (s.bytes.take y.1) (s.nodes.take y.1)).length y.2.2), (38, slE s.A s.bytes.length s.c), (39, intE s.bytes.length), (40, intE y.1)])
  (fun y => [(0, some (.box m0 (stpF s) 61)), (1, rowE kBy y.2.1 y.2.2 (L3 ++ pairB (s.bytes.take y.1) (s.nodes.take y.1)))])
  (fun y u => (K u ∧ s.ok u) ∧ y.1 ≤ s.bytes.length) (fun y => s.bytes.length - y.1) (0, (A5, c5)) rfl rfl (fun u h => ⟨h, Nat.zero_le _⟩) ?_
 rintro ⟨i, A6, c6⟩ m6
 refine RH.pure (fun u h => h.2) fun hi => ?_
 refine V.RH.know (fun u => K u ∧ s.ok u) (fun u h => h.1) ?_
 dsimp only at hi ⊢
 have hpl := pairB_len (s.bytes.take i) (s.nodes.take i)
 rw [List.length_take] at hpl
 by_cases hlt : i < s.bytes.length
 ·have hltn : i < s.nodes.length := by omega
  have hpt := pair_take (bs := s.bytes) (os := s.nodes) hno.symm hlt
  have hx32 := (s.nodes[i]).h
  refine RH.pure (fun u h => (⟨h.2.1.ptr hlt, h.2.2.ptr hltn⟩ : Ptr s.A ∧ Ptr s.B)) fun ⟨pA, pB⟩ => ?_
  generalize hL4 : L3 ++ pairB (s.bytes.take i) (s.nodes.take i) = L4 at *
  have hl4 : L4.length ≤ 1036 + 33000 := by rw [← hL4, List.length_append]; omega
  refine RH.adv tk [true] rfl rfl (by simp [pA] <;> omega) ?_
  refine RH.load (byE s.bytes[i]) rfl rfl rfl rfl (fun u hu => hu.2.1.load hlt) ?_
  refine RH.adv tk [] rfl rfl (by simp <;> omega) ?_
  refine RH.apK (κ := kBy) (id := 1) (l := L4) (r := [s.bytes[i]]) rfl rfl rfl rfl rfl rfl elt_byte rfl rfl (fun u hu => hu.liR (κ := kBy) (l := [s.bytes[i]]) (id := 10) rfl (by simp [hlim])) (by simp; omega) (by simp; omega) ?_
  intro A7 c7 m7 hm7
  refine RH.adv tk [true] rfl rfl (by simp; exact ⟨pB, hltn⟩) ?_
  refine RH.read (.av (.val (.slice (some ⟨blkA s.B, offA s.B + i * 32, none⟩) 32 32))) rfl rfl rfl rfl (fun u q _ ha => ?_) ?_
  ·have e1 : q.eval (.tmp 58) = .pointer (some ⟨blkA s.B, offA s.B + i * 32, none⟩) := ev_run (e := .av (.val (.pointer (some ⟨blkA s.B, offA s.B + i * 32, none⟩)))) ha rfl
   simp only [execOp, e1, Option.map_none, slice_all, Sem.run_bind, Result.andThen_ok, Sem.run_pure]
   rfl
  refine RH.adv tk [] rfl rfl (by simp <;> omega) ?_
  refine RH.apK (κ := kBy) (id := 1) (l := L4 ++ [s.bytes[i]]) (r := s.nodes[i].l) rfl rfl rfl rfl rfl rfl elt_byte rfl (by rw [hx32]; rfl) (fun u hu => (sl_sum (hu.fact.2.2.sumAt hltn)).lies) (by simp [hx32]; omega) (by simp [hx32]; omega) ?_
  intro A8 c8 m8 hm8
  have hn : L4 ++ [s.bytes[i]] ++ s.nodes[i].l = L3 ++ pairB (s.bytes.take (i + 1)) (s.nodes.take (i + 1)) := by rw [hpt, ← hL4]; simp
  rw [hn]
  refine RH.adv tk [] rfl rfl (by simp <;> omega) ?_
  exact RH.again (i + 1, (A8, c8)) (.head _) rfl rfl (by show s.bytes.length - (i + 1) < s.bytes.length - i; omega) fun u h => ⟨h, hlt⟩
 ·have hn : i = s.bytes.length := by omega
  rw [hn, List.take_length, List.take_of_length_le (by omega)] at hpl ⊢
  rw [← hbs]
  have hsm : s.bs.length ≤ 34036 := by rw [hbs, List.length_append]; omega
  refine RH.adv tk [false] rfl rfl (by simp <;> omega) ?_
  refine RH.free (i := 1) rfl ?_
  refine RH.ret1 Tryz.func77 rfl rfl fun w hst => ⟨(A6, c6), rfl, hst.out [] rfl rfl fun u h => ⟨h.1.1, fun v hv _ => Sl.own (hoL h.2 hv) (by omega)⟩⟩
mutual
theorem wayT_all : ∀ (t : Tree) (n : Str), ∀ p ∈ t.wayT n, p ∈ t.all
 | .node s v k, n => by
  intro p hp
  unfold Tree.wayT at hp
  unfold Tree.all
  rcases List.mem_cons.1 hp with rfl | hp
  ·exact .head _
  ·cases hc : cutP s n with
   | none => rw [hc] at hp; cases hp
   | some r =>
    rw [hc] at hp
    cases r with
    | nil => cases hp
    | cons c r => exact .tail _ (kwayT_all k c r p hp)
theorem kwayT_all : ∀ (k : Kids) (c : UInt8) (n : Str), ∀ p ∈ k.wayT c n, p ∈ k.all
 | .nil, _, _ => by intro p hp; cases hp
 | .cons b t r, c, n => by
  intro p hp
  unfold Kids.wayT at hp
  unfold Kids.all
  split at hp
  ·exact List.mem_append_left _ (wayT_all t n p hp)
  ·exact List.mem_append_right _ (kwayT_all r c n p hp)
end
theorem dat_bs {s : Stp} {t : Tree} (h : s.dat = t.dat) : s.bs = t.nodeB := by
 cases t with
 | node st v k =>
  unfold Stp.dat Tree.dat at h
  injection h with h1 h
  injection h with h2 h
  injection h with h3 h
  injection h with h4 h5
  unfold Stp.bs Tree.nodeB
  rw [h1, h2, h3, h4, h5]
  cases v <;> rfl
theorem way_fit {t : Option Tree} (hw : wfO t) (hl : lowO 60 t) (n : Str) : ∀ p ∈ wayO t n, p.wf ∧ p.stem.length ≤ 60 := by
 cases t with
 | none => intro p hp; cases hp
 | some t => exact fun p hp => all_low hw hl p (wayT_all t n p hp)
theorem dat_fit {s : Stp} {t : Tree} (h : s.dat = t.dat) (hw : t.wf ∧ t.stem.length ≤ 60) : s.stem.length ≤ 60 ∧ s.bytes.length ≤ 256 ∧ s.bytes.length = s.nodes.length := by
 cases t with
 | node st v k =>
  unfold Stp.dat Tree.dat at h
  injection h with h1 h
  injection h with h2 h
  injection h with h3 h
  injection h with h4 h5
  have hk : k.wf := by have := hw.1; unfold Tree.wf at this; exact this.1
  rw [h1, h4, h5]
  exact ⟨hw.2, kbL hk, (owns_len k).symm⟩
theorem wayO_len (t : Option Tree) (n : Str) : (wayO t n).length ≤ n.length + 1 := by
 cases t with
 | none => simp [wayO]
 | some t => exact wayT_len t n
theorem told_len {t : Option Tree} : ∀ l : List Str, (∀ n ∈ l, n.length ≤ 60) → (toldB t l).length ≤ 61 * l.length
 | [], _ => by simp [toldB]
 | n :: r, h => by
  have h1 := told_len (t := t) r fun z hz => h z (.tail _ hz)
  have h2 := wayO_len t n
  have h3 := h n (.head _)
  unfold toldB at h1 ⊢
  rw [List.flatMap_cons, List.length_append, List.length_map, List.length_cons]
  omega
theorem elt_sli : ElT tb kSli.T 1 24 := ⟨⟨Tryz.t22, (Tryz.t22).zero.getD undef, by kernel_rfl, by kernel_rfl, by kernel_rfl, by kernel_rfl, by kernel_rfl⟩, by decide⟩
set_option maxHeartbeats 400000 in
theorem Told_spec (po : Option Plot) (t : Option Tree) (ht : okO t) (hl : lowO 60 t) (hm : maO t ≤ 600) :
  Does Tryz.prog tb 56 [(mapE po).v] [] (fun u => IsO u po t) (fun y : (Option Addr × Nat) × List (Row UInt8) => .slice y.1.1 y.2.length y.1.2) (fun y => [(0, rowE kSli y.1.1 y.1.2 (y.2.map sliOf))])
   (fun y => Late (fun _ => True) (fun u => y.2.map Row.l = toldB t ((enO t).map Prod.fst) ∧ ∀ r ∈ y.2, Sl kBy u r.A r.c r.l)) := by
 have hlim : lim = 140737488351232 := rfl
 have hz31 : (Tryz.t31).size = 1 := by kernel_rfl
 refine V.Does.enter0 [(0, mapE po)] Tryz.func56 rfl Tryz.ntmps56 rfl rfl 0 ?_
 intro m0 K
 refine RH.adv tk [] rfl rfl (by simp [hz31, Value.oneCell']) ?_
 refine RH.toNx 10 ?_
 have hlo : lowO 1000 t := fun n x hx => Nat.le_trans (hl n x hx) (by decide)
 have hw := okO_wf ht
 have hN60 : ∀ n ∈ (enO t).map Prod.fst, n.length ≤ 60 := fun n hn => by
  obtain ⟨⟨k, x⟩, h1, rfl⟩ := List.mem_map.1 hn
  exact hl k x ((meO hw _ _).1 h1)
 have hNl : ((enO t).map Prod.fst).length ≤ 600 := by rw [List.length_map, entsO_many]; exact hm
 refine RH.doB [] 11 (hc := Tryz.call29) (ho := rfl) (hw := rfl) (hd := rfl) (hf := rfl) (hes := rfl) (hσ := rfl) (hn := rfl) (hV := fun _ => rfl) (hG := fun _ => rfl) (e := fun y : Option Addr × Nat => rowS 10 y.1 ((enO t).map Prod.fst).length y.2) (hC := TNames_spec po t 60 ht hl (by decide)) (hp := fun u hu => hu.fact.2) ?_
 rintro ⟨NA, nc⟩ m1 hm1
 refine RH.drop ?_
 dsimp only
 generalize (enO t).map Prod.fst = N at *
 refine RH.adv tk [] rfl rfl (by simp <;> omega) ?_
 refine RH.nilrow 50 kSli.T kSli.sz 51 ?_
 refine RH.loop (α := Nat × (Option Addr × Nat) × List (Row UInt8)) (fun y => [(1, .av (.box 0 m0 0)), (3, rowS 50 y.2.1.1 y.2.2.length y.2.1.2), (11, rowS 10 NA N.length nc), (12, intE N.length), (13, intE y.1)])
  (fun y => [(0, some (.box m0 [.val (ptrO po)] 31)), (10, rowE kStr NA nc N), (50, rowE kSli y.2.1.1 y.2.1.2 (y.2.2.map sliOf))])
  (fun y u => ((K u ∧ IsO u po t) ∧ Late (fun _ => True) (fun u => ∀ r ∈ y.2.2, Sl kBy u r.A r.c r.l) m0 u) ∧ y.1 ≤ N.length ∧ y.2.2.map Row.l = toldB t (N.take y.1)) (fun y => N.length - y.1) (0, (none, 0), []) rfl rfl
  (fun u h => ⟨⟨h, fun v _ _ r hr => by cases hr⟩, Nat.zero_le _, rfl⟩) ?_
 rintro ⟨j, ⟨A, c⟩, rs⟩ m2
 refine RH.pure (fun u h => h.2) fun ⟨hj, hrs⟩ => ?_
 refine V.RH.know (fun u => (K u ∧ IsO u po t) ∧ Late (fun _ => True) (fun u => ∀ r ∈ rs, Sl kBy u r.A r.c r.l) m0 u) (fun u h => h.1) ?_
 refine RH.above (id := 0) rfl rfl fun hz1 hz2 => ?_
 dsimp only at hj hrs ⊢
 by_cases hlt : j < N.length
 ·have hnj := hN60 _ (List.getElem_mem hlt)
  have hts : N.take (j + 1) = N.take j ++ [N[j]] := List.take_succ_eq_append_getElem hlt
  have hlen0 := told_len (t := t) (N.take j) fun n hn => hN60 n (List.mem_of_mem_take hn)
  rw [← hrs, List.length_map, List.length_take] at hlen0
  have hfit := way_fit hw hl N[j]
  have hwl := wayO_len t N[j]
  have hWay := Way_ok po t ht N[j] hnj
  have htw : ∀ l, toldB t (l ++ [N[j]]) = toldB t l ++ (wayO t N[j]).map Tree.nodeB := fun l => by unfold toldB; rw [List.flatMap_append]; simp
  generalize hW : wayO t N[j] = W at hfit hwl hWay htw
  refine RH.pureS (fun u hu => hu.ptr (id := 10) (κ := kStr) (l := N) rfl (by intro e; rw [e] at hlt; cases hlt)) fun hptr => ?_
  refine RH.adv tk [true] rfl rfl (by simp [hptr] <;> omega) ?_
  refine RH.loadS (strE N[j]) rfl rfl rfl rfl (fun u hu => (Sl.own (B := m0) (hu.row (κ := kStr) (l := N) (id := 10) rfl) (by omega)).load hlt) ?_
  refine RH.adv tk [] rfl rfl (by simp <;> omega) ?_
  refine RH.toNx 52 ?_
  refine RH.doB [] 53 (hc := Tryz.call52) (ho := rfl) (hw := rfl) (hd := rfl) (hf := rfl) (hes := rfl) (hσ := rfl) (hn := rfl) (hV := fun _ => rfl) (hG := fun _ => rfl) (e := fun y : (Option Addr × Nat) × List Stp => .av (.val (.tuple #[.slice y.1.1 y.2.length y.1.2, intV 0]))) (hC := hWay) (hp := fun u hu => hu.fact.1.2) ?_
  rintro ⟨⟨WA, wc⟩, ws⟩ m3 hm3
  dsimp only
  refine RH.pure (fun u h => (h.2.now trivial).1) fun hdat => ?_
  refine V.RH.know (fun u => ((K u ∧ IsO u po t) ∧ Late (fun _ => True) (fun u => ∀ r ∈ rs, Sl kBy u r.A r.c r.l) m0 u) ∧ ∀ s ∈ ws, s.ok u) (fun u h => ⟨h.1, (h.2.now trivial).2⟩) ?_
  have hwl2 : ws.length = W.length := by have := congrArg List.length hdat; rw [List.length_map, List.length_map] at this; exact this
  have hwe : ∀ i (h : i < ws.length), (ws[i]).dat = (W[i]'(by omega)).dat := fun i h => by
   have := congrArg (fun l => l[i]?) hdat
   simp [h, (show i < W.length by omega)] at this
   exact this
  refine RH.adv tk [] rfl rfl (by simp <;> omega) ?_
  refine RH.toNx 60 ?_
  refine RH.loop (α := Nat × (Option Addr × Nat) × List (Row UInt8)) (fun y => [(1, .av (.box 0 m0 0)), (3, rowS 50 y.2.1.1 y.2.2.length y.2.1.2), (11, rowS 10 NA N.length nc), (12, intE N.length), (13, intE j), (23, slE WA ws.length wc), (24, intE ws.length), (25, intE y.1)])
   (fun y => [(0, some (.box m0 [.val (ptrO po)] 31)), (10, rowE kStr NA nc N), (50, rowE kSli y.2.1.1 y.2.1.2 (y.2.2.map sliOf)), (52, rowE kStp WA wc ws)])
   (fun y u => (((K u ∧ IsO u po t) ∧ Late (fun _ => True) (fun u => ∀ r ∈ y.2.2, Sl kBy u r.A r.c r.l) m0 u) ∧ ∀ s ∈ ws, s.ok u) ∧ y.1 ≤ ws.length ∧ y.2.2.map Row.l = toldB t (N.take j) ++ (W.take y.1).map Tree.nodeB) (fun y => ws.length - y.1) (0, (A, c), rs) rfl rfl
   (fun u h => ⟨h, Nat.zero_le _, by rw [hrs]; simp⟩) ?_
  rintro ⟨i, ⟨A1, c1⟩, rs1⟩ m4
  refine RH.pure (fun u h => h.2) fun ⟨hi, hrs1⟩ => ?_
  refine V.RH.know (fun u => ((K u ∧ IsO u po t) ∧ Late (fun _ => True) (fun u => ∀ r ∈ rs1, Sl kBy u r.A r.c r.l) m0 u) ∧ ∀ s ∈ ws, s.ok u) (fun u h => h.1) ?_
  refine RH.above (id := 0) rfl rfl fun hz3 hz4 => ?_
  dsimp only at hi hrs1 ⊢
  by_cases hlti : i < ws.length
  ·have hf := dat_fit (hwe i hlti) (hfit _ (List.getElem_mem _))
   have hbs := dat_bs (hwe i hlti)
   have htsi : W.take (i + 1) = W.take i ++ [W[i]'(by omega)] := List.take_succ_eq_append_getElem (by omega)
   have hlen1 := congrArg List.length hrs1
   rw [List.length_append, List.length_map, List.length_map, ← hrs, List.length_map, List.length_take] at hlen1
   refine RH.pureS (fun u hu => hu.ptr (id := 52) (κ := kStp) (l := ws) rfl (by intro e; rw [e] at hlti; cases hlti)) fun hptrW => ?_
   refine RH.adv tk [true] rfl rfl (by simp [hptrW] <;> omega) ?_
   refine RH.loadS (.st (stpF ws[i])) rfl rfl rfl rfl (fun u hu => (Sl.own (B := m0) (hu.row (κ := kStp) (l := ws) (id := 52) rfl) (by omega)).load hlti) ?_
   have hmem := List.getElem_mem hlti
   generalize ws[i] = st at *
   refine RH.adv tk [] rfl rfl (by simp) ?_
   refine RH.doB [] 70 (hc := Tryz.call77) (ho := rfl) (hw := rfl) (hd := rfl) (hf := rfl) (hes := rfl) (hσ := rfl) (hn := rfl) (hV := fun _ => rfl) (hG := fun _ => rfl) (e := fun y : Option Addr × Nat => slE y.1 st.bs.length y.2) (hC := bytesOf_spec st (by omega) (by omega) hf.2.2) (hp := fun u hu => hu.fact.2 st hmem) ?_
   rintro ⟨BA, bc⟩ m5 hm5
   dsimp only
   refine RH.adv tk [] rfl rfl (by simp <;> omega) ?_
   refine RH.apK (κ := kSli) (id := 50) (l := rs1.map sliOf) (r := [(BA, st.bs.length, bc)]) rfl rfl rfl rfl (List.length_map _).symm rfl elt_sli rfl rfl (fun u hu => hu.liR (κ := kSli) (l := [(BA, st.bs.length, bc)]) (id := 70) rfl (by simp [hlim])) (by simp; omega) (by simp [hlim]; omega) ?_
   intro A2 c2 m6 hm6
   rw [show rs1.map sliOf ++ [(BA, st.bs.length, bc)] = (rs1 ++ [(⟨BA, bc, st.bs⟩ : Row UInt8)]).map sliOf by simp, List.length_map]
   refine RH.adv tk [] rfl rfl (by simp <;> omega) ?_
   refine RH.again (i + 1, (A2, c2), rs1 ++ [(⟨BA, bc, st.bs⟩ : Row UInt8)]) (.head _) rfl rfl (by show ws.length - (i + 1) < ws.length - i; omega) fun u h => ⟨⟨⟨h.1.1.1, fun v hv hp r hr => ?_⟩, h.1.2⟩, hlti, ?_⟩
   ·rcases List.mem_append.1 hr with hr | hr
    ·exact h.1.1.2 v hv hp r hr
    ·rw [List.mem_singleton] at hr
     subst hr
     exact h.2 v (hv.mono fun k _ hk => by omega) trivial
   ·dsimp only
    rw [List.map_append, hrs1, htsi, List.map_append, hbs]
    simp
  ·have hin : i = ws.length := by omega
   have htk : W.take ws.length = W := List.take_of_length_le (by omega)
   rw [hin, htk] at hrs1
   refine RH.adv tk [false] rfl rfl (by simp <;> omega) ?_
   refine RH.again (j + 1, (A1, c1), rs1) (.tail _ (.head _)) rfl rfl (by show N.length - (j + 1) < N.length - j; omega) fun u h => ⟨h.1, hlt, ?_⟩
   dsimp only
   rw [hrs1, hts, htw]
 ·have hjn : j = N.length := by omega
  rw [hjn, List.take_length] at hrs
  refine RH.adv tk [false] rfl rfl (by simp <;> omega) ?_
  refine RH.ret1 Tryz.func56 rfl rfl fun w hst => ⟨((A, c), rs), rfl, hst.out [(0, 50)] rfl rfl fun u h => ⟨h.1.1, fun v hv hp => ⟨hrs, h.2 v hv hp⟩⟩⟩
section
variable {n : Nat} {B0 : Nat} {I : World → Prop} {H : Heap} {m : Nat} {env : SEnv}
theorem V.OpGo.byteStrG {d : Nat} {x : Operand} {ty : TypeId} {ps : String} {af : Array Edge} {gd : Option (Nat × Bool)} {ex : EV} {A : Option Addr} {c : Nat} {l : List UInt8}
  (hd : Nat.blt d n = true) (hx : evE env x = some ex) (hxv : ex.v = .slice A l.length c) (hp : Ptr A ∨ A = none) (hl : ∀ w, St tb B0 H I w → Sl kBy w A c l) :
  OpGo Tryz.prog tb B0 n ⟨some d, .convert 22 9 x, ty, ps, af, gd⟩ env H m I (fun _ : Unit => (d, strE l) :: env) (fun _ => H) (fun _ => I) := by
 rcases hp with hp | rfl
 ·exact OpGo.byteStrP hd hx hxv hp hl
 intro w a hm hst ha
 have hdn : d < n := Nat.lt_of_lt_of_le (Nat.lt_succ_self d) (Nat.le_of_ble_eq_true hd)
 obtain ⟨rfl, rfl⟩ := (hl w hst).nil rfl
 have hxv' : a.eval x = .slice none 0 0 := (ev_run ha hx).trans hxv
 have h : (convert 22 9 (.slice none 0 0)).run Tryz.prog w = .ok (strV []) w := by
  rw [Go.run_convert_bytes_string w 22 9 5 none 0 0 (tk.und rfl) (tk.und rfl) (tk.und rfl)]
  rfl
 unfold Oper.wp
 have : (execOp a.eval ⟨some d, .convert 22 9 x, ty, ps, af, gd⟩).run Tryz.prog w = .ok (.value (strV [])) w := by
  simp only [execOp, hxv', Sem.run_bind, h]
  rfl
 rw [this]
 refine ⟨(), ?_, by rw [← hm]; exact Nat.le_refl _, hst⟩
 rw [kn_cons]; exact ha.put hdn _
end
theorem bEqualG (w : World) (A B : Option Addr) (c d : Nat) (l k : List UInt8) (hA : Sl kBy w A c l) (hB : Sl kBy w B d k) (pA : Ptr A ∨ A = none) (pB : Ptr B ∨ B = none) : Gives Tryz.prog 46 [.slice A l.length c, .slice B k.length d] w (boE (decide (l = k))) := by
 refine enterH tk [(0, slE A l.length c), (1, slE B k.length d)] Tryz.func46 rfl Tryz.ntmps46 rfl rfl ?_
 refine RH.adv tk [] rfl rfl (by simp <;> omega) ?_
 refine RH.go rfl rfl (OpGo.byteStrG (A := A) (c := c) (l := l) rfl rfl rfl pA (fun u hu => hA.ext hu.fact)) 3 ?_
 rintro ⟨⟩ m3 hm3
 refine RH.adv tk [] rfl rfl (by simp <;> omega) ?_
 refine RH.go rfl rfl (OpGo.byteStrG (A := B) (c := d) (l := k) rfl rfl rfl pB (fun u hu => hB.ext hu.fact)) 3 ?_
 rintro ⟨⟩ m4 hm4
 refine RH.adv tk [] rfl rfl (by simp <;> omega) ?_
 refine RH.ret1 Tryz.func46 rfl rfl fun u hst => ⟨rfl, hst.fact⟩
abbrev Nice (A : Option Addr) : Prop := Ptr A ∨ A = none
def clashP (L : List (List UInt8)) (i k : Nat) : Bool := !decide (L.getD i [] = L.getD k []) && decide (shaW (L.getD i []) = shaW (L.getD k []))
def clashL (L : List (List UInt8)) : Bool := (List.range L.length).any fun i => (List.range i).any fun k => clashP L i k
theorem clashL_of {L : List (List UInt8)} {x y : List UInt8} (hx : x ∈ L) (hy : y ∈ L) (hne : x ≠ y) (hs : shaW x = shaW y) : clashL L = true := by
 obtain ⟨i, hi, rfl⟩ := List.getElem_of_mem hx
 obtain ⟨k, hk, rfl⟩ := List.getElem_of_mem hy
 have g : ∀ j (h : j < L.length), L.getD j [] = L[j] := fun j h => by rw [List.getD_eq_getElem?_getD, List.getElem?_eq_getElem h]; rfl
 unfold clashL
 rw [List.any_eq_true]
 rcases Nat.lt_trichotomy i k with h | h | h
 ·exact ⟨k, List.mem_range.2 hk, List.any_eq_true.2 ⟨i, List.mem_range.2 h, by unfold clashP; rw [g i hi, g k hk]; simp [hs.symm, fun e => hne (Eq.symm e)]; exact fun e => hne e.symm⟩⟩
 ·subst h; exact absurd rfl hne
 ·exact ⟨i, List.mem_range.2 hi, List.any_eq_true.2 ⟨k, List.mem_range.2 h, by unfold clashP; rw [g i hi, g k hk]; simp [hs, hne]⟩⟩
theorem any_range_succ (p : Nat → Bool) (n : Nat) : (List.range (n + 1)).any p = ((List.range n).any p || p n) := by rw [List.range_succ, List.any_append]; simp
set_option maxHeartbeats 400000 in
theorem Clash_spec (w : World) (hG : Glob w) (A : Option Addr) (c : Nat) (rs : List (Row UInt8)) (hA : Sl kSli w A c (rs.map sliOf)) (hr : ∀ r ∈ rs, Sl kBy w r.A r.c r.l ∧ Nice r.A) (hn : rs.length ≤ 1000000) (hlen : ∀ r ∈ rs, r.l.length ≤ 1000000) :
  Gives Tryz.prog 55 [.slice A rs.length c] w (boE (clashL (rs.map Row.l))) := by
 have hlim : lim = 140737488351232 := rfl
 have hml : (rs.map sliOf).length = rs.length := List.length_map _
 have hLl : (rs.map Row.l).length = rs.length := List.length_map _
 have hgd : ∀ i (h : i < rs.length), (rs.map Row.l).getD i [] = (rs[i]).l := fun i h => by rw [List.getD_eq_getElem?_getD, List.getElem?_map, List.getElem?_eq_getElem h]; rfl
 refine enterH tk [(0, slE A rs.length c)] Tryz.func55 rfl Tryz.ntmps55 rfl rfl ?_
 refine RH.adv tk [] rfl rfl (by simp <;> omega) ?_
 refine RH.loop (α := Nat) (fun i => [(0, slE A rs.length c), (6, intE rs.length), (7, intE i)]) (fun _ => []) (fun i u => Ext w u ∧ i ≤ rs.length ∧ ((List.range i).any fun i => (List.range i).any fun k => clashP (rs.map Row.l) i k) = false) (fun i => rs.length - i) 0 rfl rfl (fun u h => ⟨h, Nat.zero_le _, rfl⟩) ?_
 intro i m1
 refine RH.pure (fun u h => h.2) fun ⟨hi, hpre⟩ => ?_
 by_cases hlt : i < rs.length
 ·refine RH.adv tk [true] rfl rfl (by simp <;> omega) ?_
  refine RH.loop (α := Nat) (fun k => [(0, slE A rs.length c), (3, intE i), (6, intE rs.length), (7, intE i), (10, intE i), (11, intE k)]) (fun _ => []) (fun k u => Ext w u ∧ k ≤ i ∧ ((List.range k).any fun k => clashP (rs.map Row.l) i k) = false) (fun k => i - k) 0 rfl rfl (fun u h => ⟨h.1, Nat.zero_le _, rfl⟩) ?_
  intro k m2
  refine RH.pure (fun u h => h.2) fun ⟨hk, hprk⟩ => ?_
  by_cases hltk : k < i
  ·have hlk : k < rs.length := by omega
   have pA : Ptr A := hA.ptr (i := i) (by omega)
   refine RH.adv tk [true] rfl rfl (by simp <;> omega) ?_
   have hQ := hr _ (List.getElem_mem hlt)
   have hQ2 := hr _ (List.getElem_mem hlk)
   have hq := hlen _ (List.getElem_mem hlt)
   have hq2 := hlen _ (List.getElem_mem hlk)
   have hcp : clashP (rs.map Row.l) i k = (!decide ((rs[i]).l = (rs[k]).l) && decide (shaW (rs[i]).l = shaW (rs[k]).l)) := by unfold clashP; rw [hgd i hlt, hgd k hlk]
   refine RH.draw rfl [] rfl 23 rfl rfl ?_
   refine RD.adv tk (by kernel_rfl) [] rfl rfl (by simp; exact ⟨pA, hlk, pA, hlt⟩) ?_
   refine RD.load (by kernel_rfl) (i := 3) (slE rs[i].A rs[i].l.length rs[i].c) rfl rfl rfl rfl rfl rfl (fun u hu => by have h := (hA.ext hu.1).load (i := i) (by rw [hml]; exact hlt); rw [List.getElem_map] at h; exact h) ?_
   refine RD.load (by kernel_rfl) (i := 7) (slE rs[k].A rs[k].l.length rs[k].c) rfl rfl rfl rfl rfl rfl (fun u hu => by have h := (hA.ext hu.1).load (i := k) (by rw [hml]; exact hlk); rw [List.getElem_map] at h; exact h) ?_
   refine RD.adv tk (by kernel_rfl) [] rfl rfl (by simp <;> omega) ?_
   refine RD.gives (i := 8) (boE (decide ((rs[i]).l = (rs[k]).l))) rfl (by kernel_rfl) rfl rfl rfl rfl Tryz.call46 (fun u hu => bEqualG u _ _ _ _ _ _ (hQ.1.ext hu.fact.1) (hQ2.1.ext hu.fact.1) hQ.2 hQ2.2) rfl (fun _ h => h) ?_
   intro m3 hm3
   by_cases he : (rs[i]).l = (rs[k]).l
   ·refine RD.adv tk (by kernel_rfl) [false] rfl rfl (by simp [he] <;> omega) ?_
    refine RD.done (.inl rfl) (by kernel_rfl) ?_
    refine RH.adv tk [false] rfl rfl (by simp <;> omega) ?_
    exact RH.again (k + 1) (.head _) rfl rfl (by omega) fun u h => ⟨h.1, by omega, by rw [any_range_succ, hprk, hcp]; simp [he]⟩
   ·refine RD.adv tk (by kernel_rfl) [true] rfl rfl (by simp [he]; exact ⟨pA, hlk, pA, hlt⟩) ?_
    refine RD.load (by kernel_rfl) (i := 14) (slE rs[i].A rs[i].l.length rs[i].c) rfl rfl rfl rfl rfl rfl (fun u hu => by have h := (hA.ext hu.1).load (i := i) (by rw [hml]; exact hlt); rw [List.getElem_map] at h; exact h) ?_
    refine RD.load (by kernel_rfl) (i := 19) (slE rs[k].A rs[k].l.length rs[k].c) rfl rfl rfl rfl rfl rfl (fun u hu => by have h := (hA.ext hu.1).load (i := k) (by rw [hml]; exact hlk); rw [List.getElem_map] at h; exact h) ?_
    refine RD.adv tk (by kernel_rfl) [] rfl rfl (by simp <;> omega) ?_
    refine RD.gives (i := 15) (sumE (shaW (rs[i]).l)) rfl (by kernel_rfl) rfl rfl rfl rfl Tryz.call78 (fun u hu => Of_spec u (hG.ext hu.fact.1) _ _ _ (hQ.1.ext hu.fact.1) (by omega)) rfl (fun _ h => h) ?_
    intro m4 hm4
    refine RD.adv tk (by kernel_rfl) [] rfl rfl (by simp <;> omega) ?_
    refine RD.gives (i := 20) (sumE (shaW (rs[k]).l)) rfl (by kernel_rfl) rfl rfl rfl rfl Tryz.call78 (fun u hu => Of_spec u (hG.ext hu.fact.1) _ _ _ (hQ2.1.ext hu.fact.1) (by omega)) rfl (fun _ h => h) ?_
    intro m5 hm5
    refine RD.read (by kernel_rfl) (i := 21) (boE (decide (shaW (rs[i]).l = shaW (rs[k]).l))) rfl rfl rfl rfl rfl rfl (fun w' a h hag => op_eq hag rfl rfl rfl rfl rfl (by kernel_rfl) (eq_sum w' 9998 _ _)) ?_
    refine RD.adv tk (by kernel_rfl) [] rfl rfl (by simp <;> omega) ?_
    refine RD.done (.inl rfl) (by kernel_rfl) ?_
    by_cases hs : shaW (rs[i]).l = shaW (rs[k]).l
    ·refine RH.adv tk [true] rfl rfl (by simp [hs] <;> omega) ?_
     refine RH.ret1 Tryz.func55 rfl rfl fun u hst => ⟨?_, hst.fact.1⟩
     have : clashL (rs.map Row.l) = true := clashL_of (List.mem_map.2 ⟨_, List.getElem_mem hlt, rfl⟩) (List.mem_map.2 ⟨_, List.getElem_mem hlk, rfl⟩) he hs
     rw [this]; rfl
    ·refine RH.adv tk [false] rfl rfl (by simp [hs] <;> omega) ?_
     exact RH.again (k + 1) (.head _) rfl rfl (by omega) fun u h => ⟨h.1, by omega, by rw [any_range_succ, hprk, hcp]; simp [hs]⟩
  ·have hki : k = i := by omega
   rw [hki] at hprk
   refine RH.adv tk [false] rfl rfl (by simp <;> omega) ?_
   exact RH.again (i + 1) (.tail _ (.head _)) rfl rfl (by omega) fun u h => ⟨h.1, hlt, by rw [any_range_succ, hpre, hprk]; rfl⟩
 ·have hin : i = rs.length := by omega
  refine RH.adv tk [false] rfl rfl (by simp <;> omega) ?_
  refine RH.ret1 Tryz.func55 rfl rfl fun u hst => ⟨?_, hst.fact.1⟩
  unfold clashL
  rw [hLl, ← hin, hpre]; rfl
theorem diff_len {s t : Option Tree} (hs : wfO s) (ht : wfO t) : (diffL s t).length = (diffL t s).length := by
 rw [diffL_eq hs ht, diffL_eq ht hs, List.length_map, List.length_map, dks_swap hs ht]
theorem diff_nil {s t : Option Tree} (hs : wfO s) (ht : wfO t) : (diffL s t).length = 0 ↔ s = t := by
 rw [diffL_eq hs ht, List.length_map, List.length_eq_zero_iff, dks_nil hs ht]
theorem diff_pair {s t : Option Tree} (hs : wfO s) (ht : wfO t) (i : Nat) (h : i < (diffL s t).length) (h2 : i < (diffL t s).length) :
  ((diffL s t)[i]).name = ((diffL t s)[i]).name ∧ ((diffL s t)[i]).had = ((diffL t s)[i]).has ∧ ((diffL s t)[i]).has = ((diffL t s)[i]).had ∧ ((diffL s t)[i]).old = ((diffL t s)[i]).new ∧ ((diffL s t)[i]).new = ((diffL t s)[i]).old := by
 have e1 : ∃ k, (diffL s t)[i]? = some (cOf s t k) ∧ (diffL t s)[i]? = some (cOf t s k) := by
  have hl : i < (dks s t).length := by rw [diffL_eq hs ht, List.length_map] at h; exact h
  refine ⟨(dks s t)[i], ?_, ?_⟩
  ·rw [diffL_eq hs ht, List.getElem?_map, List.getElem?_eq_getElem hl]; rfl
  ·rw [diffL_eq ht hs, ← dks_swap hs ht, List.getElem?_map, List.getElem?_eq_getElem hl]; rfl
 obtain ⟨k, g1, g2⟩ := e1
 rw [List.getElem?_eq_getElem h] at g1
 rw [List.getElem?_eq_getElem h2] at g2
 rw [Option.some.inj g1, Option.some.inj g2]
 exact ⟨rfl, rfl, rfl, rfl, rfl⟩
theorem diff_rise {s t : Option Tree} (hs : wfO s) (ht : wfO t) (i : Nat) (h : i < (diffL s t).length) (h0 : 0 < i) : Op.bytesLess ((diffL s t)[i - 1]).name ((diffL s t)[i]).name = true := by
 have hp : (diffL s t).Pairwise fun a b => Op.bytesLess a.name b.name = true := by
  rw [diffL_eq hs ht, List.pairwise_map]
  exact dks_rise s t
 exact List.pairwise_iff_getElem.1 hp (i - 1) i (by omega) h (by omega)
theorem diff_short {s t : Option Tree} (hs : wfO s) (ht : wfO t) {N : Nat} (ls : lowO N s) (lt : lowO N t) : ∀ x ∈ diffL s t, x.name.length ≤ N := by
 intro x hx
 rw [diffL_eq hs ht] at hx
 obtain ⟨k, hk, rfl⟩ := List.mem_map.1 hx
 have h := (mem_dks hs ht k).1 hk
 show k.length ≤ N
 cases h1 : getO s k with
 | some y => exact ls k y h1
 | none =>
  cases h2 : getO t k with
  | some y => exact lt k y h2
  | none => rw [h1, h2] at h; exact absurd rfl h
theorem diff_many {s t : Option Tree} (hs : wfO s) (ht : wfO t) : (diffL s t).length ≤ maO s + maO t := by
 rw [diffL_eq hs ht, List.length_map]; exact dks_len hs ht
theorem told_clash {s t : Option Tree} (hs : wfO s) (ht : wfO t) (ls : lowO 60 s) (lt : lowO 60 t) (hr : rootO s = rootO t) (hne : s ≠ t) : clashL (toldB s ((enO s).map Prod.fst) ++ toldB t ((enO t).map Prod.fst) ++ [[]]) = true := by
 obtain ⟨x, hx, y, hy, h1, h2⟩ := map_clash hs ht (fun n z h => Nat.le_trans (ls n z h) (by decide)) (fun n z h => Nat.le_trans (lt n z h) (by decide)) ((enO s).map Prod.fst) ((enO t).map Prod.fst)
  (fun n z h => (mem_keys hs n).2 (by rw [h]; rfl)) (fun n z h => (mem_keys ht n).2 (by rw [h]; rfl)) hr hne
 exact clashL_of hx hy h1 h2
theorem told_ne {t : Option Tree} (l : List Str) : ∀ b ∈ toldB t l, b ≠ [] := by
 intro b hb
 obtain ⟨n, _, hn⟩ := List.mem_flatMap.1 hb
 obtain ⟨p, _, rfl⟩ := List.mem_map.1 hn
 exact nodeB_ne p
theorem told_short {t : Option Tree} (hw : wfO t) (hl : lowO 60 t) (l : List Str) : ∀ b ∈ toldB t l, b.length ≤ 100000 := by
 intro b hb
 obtain ⟨n, _, hn⟩ := List.mem_flatMap.1 hb
 obtain ⟨p, hp, rfl⟩ := List.mem_map.1 hn
 obtain ⟨pw, ps⟩ := way_fit hw hl n p hp
 cases p with
 | node s v k =>
  have hk : k.wf := by unfold Tree.wf at pw; exact pw.1
  have h1 := kbL hk
  have h2 := pairB_len k.bytes k.owns
  have h3 : s.length ≤ 60 := ps
  have h4 : (vB v).length ≤ 33 := by cases v with
   | none => simp [vB]
   | some x => simp [vB, x.h]
  unfold Tree.nodeB stepB
  simp only [List.length_append, List.length_cons, List.length_nil]
  omega
theorem diff_pack {s t : Option Tree} (hs : wfO s) (ht : wfO t) (ls : lowO 60 s) (lt : lowO 60 t) (hn : maO s + maO t ≤ 300) : ∃ D E, diffL s t = D ∧ diffL t s = E ∧ D.length = E.length ∧ (D.length = 0 ↔ s = t)
  ∧ (∀ i (h : i < D.length) (h2 : i < E.length), (D[i]).name = (E[i]).name ∧ (D[i]).had = (E[i]).has ∧ (D[i]).has = (E[i]).had ∧ (D[i]).old = (E[i]).new ∧ (D[i]).new = (E[i]).old)
  ∧ (∀ i (h : i < D.length), 0 < i → Op.bytesLess (D[i - 1]).name (D[i]).name = true) ∧ (∀ x ∈ D, x.name.length ≤ 60) ∧ (∀ x ∈ E, x.name.length ≤ 60) ∧ D.length ≤ 300 ∧ applyO s D = (t, 0) ∧ applyO t E = (s, 0) ∧ (D ≠ [] → applyO t D = (none, 7)) :=
 ⟨_, _, rfl, rfl, diff_len hs ht, diff_nil hs ht, diff_pair hs ht, diff_rise hs ht, diff_short hs ht ls lt, diff_short ht hs lt ls, Nat.le_trans (diff_many hs ht) (by omega), apply_all hs ht ls lt (by omega), apply_all ht hs lt ls (by omega), apply_other hs ht ls lt⟩
theorem V.RD.pureS {P : Program} {f : Fr} {n : Nat} {tb : TT} {B0 : Nat} {S : Stops} {R : Ending → World → Prop} {k : List Item} {ops : Array Oper} {G : Heap} {I0 : World → Prop} {fuel : Nat} {l : List Bool} {env : SEnv} {H : Heap} {nx m : Nat} {I : World → Prop} {p : Prop}
  (h : ∀ w, St tb B0 H I w → p) (hr : p → RD P f n tb B0 S R k ops G I0 fuel l env H nx m I) : RD P f n tb B0 S R k ops G I0 fuel l env H nx m I :=
 fun w a hm hst => hr (h w hst) w a hm hst
theorem tch_name {w : World} {A : Option Addr} {c : Nat} {l : List TChg} (h : Sl kTCh w A c l) {i : Nat} (hi : i < l.length) : (loadVar 9 ⟨blkA A, offA A + i * 67 + 0, none⟩).run Tryz.prog w = .ok (strV l[i].name) w :=
 YtbfjmimiigjenaaGreatDoor.Sl.field h hi 0 ⟨rfl, Tryz.t9, rfl, rfl⟩ fun j x hx => by
  rw [tch_cs]
  cases j with
  | zero => simpa [Value.cells, strV] using hx
  | succ j => simp [Value.cells, strV] at hx
end Go.Proofs.YtbfjmimiigjenaaGreatDoor
