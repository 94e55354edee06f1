/-
A part of the proof of TrieShape: for every input the law returns true, and what was passed in reads as before; the listed package variables hold what the program's text lays. No further condition.
-/
import Derived.Test.YtbfjmimiigjenaaGreatDoorRows
import Derived.Test.YtbfjmimiigjenaaGreatDoorCards
import Derived.KernelRfl
import Derived.Test.YtbfjmimiigjenaaGreatDoorTie
import Derived.SevenTiedAt
import Derived.Test.YtbfjmimiigjenaaGreatDoorKK1
import Derived.Test.YtbfjmimiigjenaaGreatDoorKR1
set_option linter.unusedVariables false
set_option linter.unusedSectionVars false
set_option linter.unusedSimpArgs false
/-
TrieShape, walked whole.
-/
namespace Go.Proofs.YtbfjmimiigjenaaGreatDoor
open Go V RowKit

theorem pairs_perm {P : List (Str × Sum)} {L : List Nat} (h : L.Perm (List.range P.length)) : (L.map fun i => P.getD i ([], Sum.zero)).Perm P := by
  refine (h.map _).trans ?_
  have : (List.range P.length).map (fun i => P.getD i ([], Sum.zero)) = P := by
    apply List.ext_getElem (by simp)
    intro i h1 h2
    simp only [List.getElem_map, List.getElem_range]
    rw [List.getD_eq_getElem?_getD, List.getElem?_eq_getElem h2]; rfl
  rw [this]

theorem same_self (u : World) (po qo : Option Plot) (t : Option Tree) (h1 : IsO u po t) (h2 : IsO u qo t) (ht : okO t) (hl : lowO 1000 t) : Gives Tryz.prog 23 [(mapE po).v, (mapE qo).v] u (boolE true) := by
  have h := TSame_spec u po t qo t h1 ht hl h2 ht hl
  rw [decide_eq_true rfl] at h
  exact h

set_option maxRecDepth 10000 in
set_option maxHeartbeats 300000 in
theorem shape_walk (w : World) (hG : Glob w) (NA : Option Addr) (nc : Nat) (nl : List UInt8) (hnl : Sl kByte w NA nc nl) (MA : Option Addr) (mc : Nat) (ml : List UInt8) (hml : Sl kByte w MA mc ml) :
    Gives Tryz.prog 3 [.slice NA nl.length nc, .slice MA ml.length mc] w .tt := by
  have hlim : lim = 140737488351232 := rfl
  have hz31 : (Tryz.t31).size = 1 := by kernel_rfl
  refine enterH tb_ok [(0, slE NA nl.length nc), (1, slE MA ml.length mc)] Tryz.func3 rfl Tryz.ntmps3 rfl rfl ?_
  refine RunH.adv tb_ok [] rfl rfl (by simp <;> omega) ?_
  refine RunH.doesB [] 2 (hc := Tryz.call15) (ho := rfl) (hw := rfl) (hd := rfl) (hf := rfl) (hes := rfl) (hσ := rfl) (hn := rfl) (hV := fun _ => rfl) (hG := fun _ => rfl) (e := fun y : Nat × Option Addr × Nat => .av (.box 0 y.1 0)) (hC := OfK_spec NA nc nl) (hp := fun u hu => hnl.ext hu.fact) ?_
  rintro ⟨b, SA, sc⟩ m1 hm1
  refine RunH.drop ?_
  refine RunH.adv tb_ok [] rfl rfl (by simp <;> omega) ?_
  refine RunH.doesB [(0, 0)] 5 (hc := Tryz.call16) (ho := rfl) (hw := rfl) (hd := rfl) (hf := rfl) (hes := rfl) (hσ := rfl) (hn := rfl) (hV := fun _ => rfl) (hG := fun _ => rfl) (e := fun y : (Nat × Int) × (Option Addr × Nat) × (Option Addr × Nat) × List Str × List Sum => .av (.val (.tuple #[.slice y.2.1.1 y.2.2.2.1.length y.2.1.2, .slice y.2.2.1.1 y.2.2.2.2.length y.2.2.1.2]))) (hC := filled_spec b ⟨SA, sc, nl.take 300, 0, 88172645463325252⟩ (by rw [List.length_take]; omega) (Nat.zero_le _) 20 (by decide)) (hp := fun u hu => Sl.own (B := w.heap.size) (hu.row (κ := kByte) (l := nl.take 300) (id := 1) rfl) (by rw [List.length_take]; omega)) ?_
  rintro ⟨z1, ⟨A, c⟩, ⟨B, d⟩, names, sums⟩ m2 hm2
  refine RunH.pure (fun u h => h.2) fun ⟨⟨hnd, hnm, hn20⟩, hsl, _⟩ => ?_
  dsimp only at hnd hnm hn20 hsl
  refine RunH.drop ?_
  dsimp only
  refine RunH.tell [(0, slE NA nl.length nc), (1, slE MA ml.length mc), (29, .av (.val (.tuple #[.slice A names.length c, .slice B sums.length d])))] [(3, rowE kStr A c names), (4, rowE kSum B d sums)] [] rfl rfl rfl 5 ?_
  refine RunH.free (i := 3) rfl ?_
  refine RunH.free (i := 4) rfl ?_
  refine V.RunH.know (fun u => Ext w u ∧ Sl kStr u A c names ∧ Sl kSum u B d sums) (fun u h => ⟨h.1.1, Sl.own h.1.2 (by omega), Sl.own h.2 (by omega)⟩) ?_
  have hzf := zip_fst hsl
  generalize hP : names.zip sums = P at hzf
  have hPl : P.length = names.length := by rw [← hP, List.length_zip]; omega
  have hFrom := From_spec A c names B d sums
  rw [from_ok hsl (by omega) hnd (fun n hn => by have := (hnm n hn).1; omega), if_pos rfl, hP] at hFrom
  refine RunH.adv tb_ok [] rfl rfl (by simp <;> omega) ?_
  refine RunH.doesB [] 5 (hc := Tryz.call17) (ho := rfl) (hw := rfl) (hd := rfl) (hf := rfl) (hes := rfl) (hσ := rfl) (hn := rfl) (hV := fun _ => rfl) (hG := fun _ => rfl) (e := fun o : Option Plot => .av (.val (.tuple #[.agg #[ptrO o], intV 0]))) (hC := hFrom) (hp := fun u hu => ⟨hG.ext hu.fact.1, hu.fact.2.1, hu.fact.2.2⟩) ?_
  intro pw m3 hm3
  refine V.RunH.know (fun u => (Ext w u ∧ Sl kStr u A c names ∧ Sl kSum u B d sums) ∧ IsO u pw (fromO P)) (fun u h => ⟨h.1, h.2.now trivial⟩) ?_
  refine RunH.adv tb_ok [] rfl rfl (by simp [hz31, Value.oneCell'] <;> omega) ?_
  refine V.RunH.slotE 36 (mapE pw) rfl rfl ?_
  refine RunH.adv tb_ok [false] rfl rfl (by simp [hz31, Value.oneCell'] <;> omega) ?_
  refine RunH.tell [(40, slE MA ml.length mc), (6, slE A names.length c), (7, slE B sums.length d), (8, .av (.box 5 m3 0))] [(5, some (.box m3 [.val (ptrO pw)] 31))] [] rfl rfl rfl 6 ?_
  refine RunH.doesB [] 8 (hc := Tryz.call15) (ho := rfl) (hw := rfl) (hd := rfl) (hf := rfl) (hes := rfl) (hσ := rfl) (hn := rfl) (hV := fun _ => rfl) (hG := fun _ => rfl) (e := fun y : Nat × Option Addr × Nat => .av (.box 6 y.1 0)) (hC := OfK_spec MA mc ml) (hp := fun u hu => hml.ext hu.fact.1.1) ?_
  rintro ⟨b, SA, sc⟩ m4 hm4
  refine RunH.drop ?_
  dsimp only
  refine RunH.free (i := 7) rfl ?_
  have hl3 : (ml.take 300).length ≤ 300 := by rw [List.length_take]; omega
  generalize hbl : ml.take 300 = bl at hl3
  refine V.RunH.know (fun u => (Ext w u ∧ Sl kStr u A c names ∧ Sl kSum u B d sums ∧ Sl kByte u SA sc bl) ∧ IsO u pw (fromO P)) (fun u h => ⟨⟨h.1.1.1, h.1.1.2.1, h.1.1.2.2, Sl.own h.2 (by omega)⟩, h.1.2⟩) ?_
  refine RunH.adv tb_ok [] rfl rfl (by simp <;> omega) ?_
  refine RunH.doesB [(0, 6)] 11 (hc := Tryz.call18) (ho := rfl) (hw := rfl) (hd := rfl) (hf := rfl) (hes := rfl) (hσ := rfl) (hn := rfl) (hV := fun _ => rfl) (hG := fun _ => rfl) (e := fun y : (Nat × Int) × (Option Addr × Nat) × List Nat => rowS 10 y.2.1.1 y.2.2.length y.2.1.2) (hC := order_spec b ⟨SA, sc, bl, 0, 88172645463325252⟩ hl3 (Nat.zero_le _) names.length (by omega)) (hp := fun u hu => hu.fact.1.2.2.2) ?_
  rintro ⟨st0, ⟨AO, cO⟩, L⟩ m5 hm5
  dsimp only
  refine RunH.pure (fun u h => h.2) fun ⟨hLp, hst0⟩ => ?_
  have hLn : L.length = names.length := by rw [hLp.length_eq, List.length_range]
  refine RunH.free (i := 10) rfl ?_
  refine V.RunH.know (fun u => (Ext w u ∧ Sl kStr u A c names ∧ Sl kSum u B d sums ∧ Sl kByte u SA sc bl ∧ Sl kN u AO cO L) ∧ IsO u pw (fromO P)) (fun u h => ⟨⟨h.1.1.1.1, h.1.1.1.2.1, h.1.1.1.2.2.1, h.1.1.1.2.2.2, Sl.own h.2 (by omega)⟩, h.1.1.2⟩) ?_
  refine RunH.adv tb_ok [] rfl rfl (by simp <;> omega) ?_
  have hLP : L.Perm (List.range P.length) := by rw [hPl]; exact hLp
  have hQP := pairs_perm hLP
  generalize hQ : (L.map fun i => P.getD i ([], Sum.zero)) = Q at hQP
  have hQl : Q.length = L.length := by rw [← hQ, List.length_map]
  have hQm : ∀ k, ∀ e ∈ Q.take k, e.1 ∈ names := fun k e he => by
    have h1 : e ∈ P := hQP.mem_iff.1 (List.mem_of_mem_take he)
    rw [← hzf]; exact List.mem_map.2 ⟨e, h1, rfl⟩
  have hQ50 : ∀ k, ∀ e ∈ Q.take k, e.1.length ≤ 60 := fun k e he => by have := (hnm _ (hQm k e he)).1; omega
  have hok : ∀ k, okO (fromO (Q.take k)) ∧ lowO 60 (fromO (Q.take k)) ∧ manyO (fromO (Q.take k)) ≤ 20 := fun k => by
    have h := from_all (N := 60) (Q.take k) (by decide) (hQ50 k) (by rw [List.length_take]; omega)
    exact ⟨h.1, h.2.1, Nat.le_trans h.2.2 (by rw [List.length_take]; omega)⟩
  refine RunH.loop (α := Nat × (Nat × Int) × Option Plot) (fun z => [(6, slE A names.length c), (7, slE B sums.length d), (8, .av (.box 5 m3 0)), (10, .av (.box 6 b 0)), (11, .av (.box 8 m4 0)), (45, slE AO L.length cO), (46, intE L.length), (47, intE z.1)])
    (fun z => [(5, some (.box m3 [.val (ptrO pw)] 31)), (6, some (stoB b (Sto.to ⟨SA, sc, bl, 0, 88172645463325252⟩ z.2.1))), (8, some (.box m4 [.val (ptrO z.2.2)] 31))])
    (fun z u => ((Ext w u ∧ Sl kStr u A c names ∧ Sl kSum u B d sums ∧ Sl kByte u SA sc bl ∧ Sl kN u AO cO L) ∧ IsO u pw (fromO P)) ∧ IsO u z.2.2 (fromO (Q.take z.1)) ∧ z.1 ≤ L.length ∧ z.2.1.1 ≤ names.length + 2 * z.1) (fun z => L.length - z.1) (0, st0, none) rfl rfl
    (fun u h => ⟨h, trivial, Nat.zero_le _, by show st0.1 ≤ _; omega⟩) ?_
  rintro ⟨k, st, pm⟩ m6
  refine RunH.pure (fun u h => h.2.2) fun ⟨hk, hst⟩ => ?_
  dsimp only at hk hst ⊢
  by_cases hlt : k < L.length
  · obtain ⟨okA, lowA, mnA⟩ := hok k
    have hiP : L[k] < P.length := List.mem_range.1 (hLP.mem_iff.1 (List.getElem_mem hlt))
    have hin : L[k] < names.length := by omega
    have his : L[k] < sums.length := by omega
    have hQk : Q[k]'(by omega) = (names[L[k]], sums[L[k]]) := by
      subst hQ
      rw [List.getElem_map, List.getD_eq_getElem?_getD, List.getElem?_eq_getElem hiP]
      subst hP
      rw [Option.getD_some, List.getElem_zip]
    have hnx : fromO (Q.take (k + 1)) = some (putO (fromO (Q.take k)) names[L[k]] sums[L[k]]) := by
      rw [List.take_succ_eq_append_getElem (by omega : k < Q.length), from_snoc, hQk]
    have hgood := hnm _ (List.getElem_mem hin)
    refine V.RunH.know (fun u => ((Ext w u ∧ Sl kStr u A c names ∧ Sl kSum u B d sums ∧ Sl kByte u SA sc bl ∧ Sl kN u AO cO L) ∧ IsO u pw (fromO P)) ∧ IsO u pm (fromO (Q.take k))) (fun u h => ⟨h.1, h.2.1⟩) ?_
    refine RunH.pure (fun u h => (⟨h.1.1.2.1.ptr hin, h.1.1.2.2.1.ptr his, h.1.1.2.2.2.2.ptr hlt⟩ : Ptr A ∧ Ptr B ∧ Ptr AO)) fun ⟨pA, hpB, pO⟩ => ?_
    refine RunH.adv tb_ok [true] rfl rfl (by simp [pO] <;> omega) ?_
    refine RunH.load (intE L[k]) rfl rfl rfl rfl (fun w' h' => h'.1.1.2.2.2.2.load hlt) ?_
    generalize hxi : L[k] = i at *
    generalize hnmv : names[i] = nm at *
    generalize hsmv : sums[i] = sx at *
    generalize htA : fromO (Q.take k) = tA at *
    refine RunH.adv tb_ok [] rfl rfl (by simp <;> omega) ?_
    refine RunH.doesB [(0, 6)] 12 (hc := Tryz.call19) (ho := rfl) (hw := rfl) (hd := rfl) (hf := rfl) (hes := rfl) (hσ := rfl) (hn := rfl) (hV := fun _ => rfl) (hG := fun _ => rfl) (e := fun y : Bool × Nat × Int => boolE y.1) (hC := seldom_spec b (Sto.to ⟨SA, sc, bl, 0, 88172645463325252⟩ st) hl3 (by show st.1 ≤ _; omega) 2 (by omega) (by omega)) (hp := fun u hu => hu.fact.1.1.2.2.2.1) ?_
    rintro ⟨q, st1⟩ m7 hm7
    refine RunH.pure (fun u h => h.2) fun hq => ?_
    dsimp only at hq
    have hs1 : st1.1 ≤ st.1 + 1 := hq
    refine RunH.tell [(6, slE A names.length c), (7, slE B sums.length d), (8, .av (.box 5 m3 0)), (10, .av (.box 6 b 0)), (11, .av (.box 8 m4 0)), (45, slE AO L.length cO), (46, intE L.length), (47, intE k), (13, intE i), (52, boolE q)] [(5, some (.box m3 [.val (ptrO pw)] 31)), (6, some (stoB b (Sto.to ⟨SA, sc, bl, 0, 88172645463325252⟩ st1))), (8, some (.box m4 [.val (ptrO pm)] 31))] [] rfl rfl rfl 12 ?_
    refine V.RunH.know (fun u => (((Ext w u ∧ Sl kStr u A c names ∧ Sl kSum u B d sums ∧ Sl kByte u SA sc bl ∧ Sl kN u AO cO L) ∧ IsO u pw (fromO P)) ∧ IsO u pm tA)) (fun u h => h.1) ?_
    have lowA' : lowO 1000 tA := fun n x h => Nat.le_trans (lowA n x h) (by decide)
    apply RunH.joinK (α := Option Plot) (fun _ => [(6, slE A names.length c), (7, slE B sums.length d), (8, .av (.box 5 m3 0)), (10, .av (.box 6 b 0)), (11, .av (.box 8 m4 0)), (45, slE AO L.length cO), (46, intE L.length), (47, intE k), (13, intE i), (99, .av (.box 6 b 0))]) (fun z => [(5, some (.box m3 [.val (ptrO pw)] 31)), (6, some (stoB b (Sto.to ⟨SA, sc, bl, 0, 88172645463325252⟩ st1))), (8, some (.box m4 [.val (ptrO z)] 31))]) (fun z u => (((Ext w u ∧ Sl kStr u A c names ∧ Sl kSum u B d sums ∧ Sl kByte u SA sc bl ∧ Sl kN u AO cO L) ∧ IsO u pw (fromO P)) ∧ IsO u z tA))
    · cases q with
      | false =>
        refine RunH.adv tb_ok [false] rfl rfl (by simp <;> omega) ?_
        exact RunH.meetS pm [] (.head _) rfl rfl rfl fun u h => h
      | true =>
        refine RunH.adv tb_ok [true] rfl rfl (by simp [pA] <;> omega) ?_
        refine RunH.load (strE nm) rfl rfl rfl rfl (fun w' h' => by have := h'.1.1.2.1.load hin; rw [hnmv] at this; exact this) ?_
        have hgl : nm.length ≤ 50 := hgood.1
        refine RunH.adv tb_ok [] rfl rfl (by simp <;> omega) ?_
        generalize hot : nm ++ [99] = other at *
        have hol : other.length ≤ 60 := by rw [← hot]; have := hgood.1; simp; omega
        have hog : getO tA other = none := by
          rw [← htA]
          refine get_from_none fun hm => ?_
          obtain ⟨e, he, h1⟩ := List.mem_map.1 hm
          have h2 := (hnm _ (hQm k e he)).2
          rw [h1, ← hot] at h2
          exact h2 (by simp)
        have hdp := drop_put_same okA (sum1 9) hog
        have hpo := okO_put okA lowA' (by omega) other (sum1 9) (by omega)
        have hpg : (getO (some (putO tA other (sum1 9))) other).isSome = true := by rw [putO_get (okO_wf okA), if_pos rfl]; rfl
        have hpm : manyO (some (putO tA other (sum1 9))) = manyO tA + 1 := by rw [putO_many (okO_wf okA), hog]; rfl
        apply RunH.joinK (α := Nat × Plot) (fun z => [(6, slE A names.length c), (7, slE B sums.length d), (8, .av (.box 5 m3 0)), (10, .av (.box 6 b 0)), (11, .av (.box 8 m4 0)), (45, slE AO L.length cO), (46, intE L.length), (47, intE k), (13, intE i), (14, strE other), (15, .av (.box 30 z.1 0)), (16, intE 0)]) (fun z => [(5, some (.box m3 [.val (ptrO pw)] 31)), (6, some (stoB b (Sto.to ⟨SA, sc, bl, 0, 88172645463325252⟩ st1))), (8, some (.box m4 [.val (ptrO pm)] 31)), (30, some (.box z.1 [.val (ptrO (some z.2))] 31))]) (fun z u => ((((Ext w u ∧ Sl kStr u A c names ∧ Sl kSum u B d sums ∧ Sl kByte u SA sc bl ∧ Sl kN u AO cO L) ∧ IsO u pw (fromO P)) ∧ IsO u pm tA)) ∧ IsO u (some z.2) (some (putO tA other (sum1 9))))
        · refine RunH.draw rfl [(5, some (.box m3 [.val (ptrO pw)] 31)), (6, some (stoB b (Sto.to ⟨SA, sc, bl, 0, 88172645463325252⟩ st1))), (8, some (.box m4 [.val (ptrO pm)] 31))] rfl 10 rfl rfl ?_
          refine RunD.adv tb_ok (by kernel_rfl) [] rfl rfl (by simp <;> omega) ?_
          refine RunD.two (i := 2) (j := 7) (by kernel_rfl) ?_ ?_
          · refine opD_go rfl rfl (OpGo.gives (sumE (sum1 9)) rfl rfl rfl rfl Tryz.call21 (fun u hu => one3_spec u _)) 31 (fun _ => rfl) (fun _ _ h => h) ?_
            rintro ⟨⟩ q1a hq1a
            refine RunD.adv tb_ok (by kernel_rfl) [] rfl rfl (by simp <;> omega) ?_
            refine RunD.two (i := 3) (j := 7) (by kernel_rfl) ?_ ?_
            · refine V.opD_doesB (i := 3) [] 31 31 (fun b1 : Plot => .av (.val (.tuple #[.agg #[ptrV b1.b], intV 0]))) rfl rfl rfl rfl rfl Tryz.call20 (Put_ok pm tA okA other (sum1 9) hol (.inr (by omega))) rfl rfl (fun _ => rfl) (fun _ => rfl) (fun u hu => ⟨hG.ext hu.fact.1.1.1, hu.fact.2⟩) (fun _ => rfl) (fun _ h => h) ?_
              rintro b2a q2a hq2a
              refine RunD.adv tb_ok (by kernel_rfl) [] rfl rfl (by simp <;> omega) ?_
              refine RunD.step tb_ok (nx := 30) (i := 7) rfl (by kernel_rfl) rfl rfl rfl ?_ rfl (fun _ h => h.1) ⟨rfl, rfl⟩ ?_
              · first | trivial | (simp; done) | (simp [AllOb, Ob.P, hz31, Value.oneCell']; done)
              refine RunD.adv tb_ok (by kernel_rfl) [] rfl rfl (by simp <;> omega) ?_
              refine V.RunD.slotE 63 (mapE (some b2a)) rfl rfl ?_
              refine RunD.step tb_ok (nx := 31) (i := 8) rfl (by kernel_rfl) rfl rfl rfl ?_ rfl (fun _ h => h.1) rfl ?_
              · first | trivial | (simp; done) | (simp [AllOb, Ob.P, hz31, Value.oneCell']; done)
              refine RunD.adv tb_ok (by kernel_rfl) [] rfl rfl (by simp <;> omega) ?_
              refine RunD.done (.inl rfl) (by kernel_rfl) ?_
              exact RunH.meetS (q2a, b2a) [] (.head _) rfl rfl rfl fun u h => ⟨h.1, h.2.now h.1.2⟩
            · refine opD_step tb_ok (nx := 30) (i := 7) rfl rfl rfl rfl ?_ rfl (fun _ h => h) ⟨rfl, rfl⟩ ?_
              · first | trivial | (simp; done) | (simp [AllOb, Ob.P, hz31, Value.oneCell']; done)
              refine RunD.adv tb_ok (by kernel_rfl) [] rfl rfl (by simp <;> omega) ?_
              refine RunD.doesB (nx := 31) (i := 3) [] 31 (fun b1 : Plot => .av (.val (.tuple #[.agg #[ptrV b1.b], intV 0]))) rfl (by kernel_rfl) rfl rfl rfl rfl Tryz.call20 (Put_ok pm tA okA other (sum1 9) hol (.inr (by omega))) rfl rfl (fun _ => rfl) (fun _ => rfl) (fun u hu => ⟨hG.ext hu.fact.1.1.1, hu.fact.2⟩) (fun _ => rfl) (fun _ h => h) ?_
              rintro b2a q2a hq2a
              refine RunD.adv tb_ok (by kernel_rfl) [] rfl rfl (by simp <;> omega) ?_
              refine V.RunD.slotE 63 (mapE (some b2a)) rfl rfl ?_
              refine RunD.step tb_ok (nx := 31) (i := 8) rfl (by kernel_rfl) rfl rfl rfl ?_ rfl (fun _ h => h.1) rfl ?_
              · first | trivial | (simp; done) | (simp [AllOb, Ob.P, hz31, Value.oneCell']; done)
              refine RunD.adv tb_ok (by kernel_rfl) [] rfl rfl (by simp <;> omega) ?_
              refine RunD.done (.inl rfl) (by kernel_rfl) ?_
              exact RunH.meetS (q1a, b2a) [] (.head _) rfl rfl rfl fun u h => ⟨h.1, h.2.now h.1.2⟩
          · refine opD_step tb_ok (nx := 30) (i := 7) rfl rfl rfl rfl ?_ rfl (fun _ h => h) ⟨rfl, rfl⟩ ?_
            · first | trivial | (simp; done) | (simp [AllOb, Ob.P, hz31, Value.oneCell']; done)
            refine RunD.adv tb_ok (by kernel_rfl) [] rfl rfl (by simp <;> omega) ?_
            refine RunD.gives (nx := 31) (i := 2) (sumE (sum1 9)) rfl (by kernel_rfl) rfl rfl rfl rfl Tryz.call21 (fun u hu => one3_spec u _) rfl (fun _ h => h) ?_
            intro q1a hq1a
            refine RunD.adv tb_ok (by kernel_rfl) [] rfl rfl (by simp <;> omega) ?_
            refine RunD.doesB (nx := 31) (i := 3) [] 31 (fun b1 : Plot => .av (.val (.tuple #[.agg #[ptrV b1.b], intV 0]))) rfl (by kernel_rfl) rfl rfl rfl rfl Tryz.call20 (Put_ok pm tA okA other (sum1 9) hol (.inr (by omega))) rfl rfl (fun _ => rfl) (fun _ => rfl) (fun u hu => ⟨hG.ext hu.fact.1.1.1, hu.fact.2⟩) (fun _ => rfl) (fun _ h => h) ?_
            rintro b2a q2a hq2a
            refine RunD.adv tb_ok (by kernel_rfl) [] rfl rfl (by simp <;> omega) ?_
            refine V.RunD.slotE 63 (mapE (some b2a)) rfl rfl ?_
            refine RunD.step tb_ok (nx := 31) (i := 8) rfl (by kernel_rfl) rfl rfl rfl ?_ rfl (fun _ h => h.1) rfl ?_
            · first | trivial | (simp; done) | (simp [AllOb, Ob.P, hz31, Value.oneCell']; done)
            refine RunD.adv tb_ok (by kernel_rfl) [] rfl rfl (by simp <;> omega) ?_
            refine RunD.done (.inl rfl) (by kernel_rfl) ?_
            exact RunH.meetS (m7, b2a) [] (.head _) rfl rfl rfl fun u h => ⟨h.1, h.2.now h.1.2⟩
        rintro ⟨ma, La⟩ m8
        dsimp only
        refine RunH.toNx 31 ?_
        refine RunH.adv tb_ok [] rfl rfl (by simp <;> omega) ?_
        refine RunH.doesB [] 32 (hc := Tryz.call22) (ho := rfl) (hw := rfl) (hd := rfl) (hf := rfl) (hes := rfl) (hσ := rfl) (hn := rfl) (hV := fun _ => rfl) (hG := fun _ => rfl) (e := fun o : Option Plot => .av (.val (.tuple #[.agg #[ptrO o], intV 0]))) (hC := Drop_ok (some La) (some (putO tA other (sum1 9))) hpo.1 hpo.2.1 other (by omega) hpg) (hp := fun u hu => ⟨hG.ext hu.fact.1.1.1.1, hu.fact.2⟩) ?_
        rintro pk m9 hm9
        rw [hdp]
        refine V.RunH.know (fun u => (((((Ext w u ∧ Sl kStr u A c names ∧ Sl kSum u B d sums ∧ Sl kByte u SA sc bl ∧ Sl kN u AO cO L) ∧ IsO u pw (fromO P)) ∧ IsO u pm tA)) ∧ IsO u (some La) (some (putO tA other (sum1 9)))) ∧ IsO u pk tA) (fun u h => ⟨h.1, h.2.now h.1.2⟩) ?_
        refine RunH.adv tb_ok [] rfl rfl (by simp [hz31, Value.oneCell'] <;> omega) ?_
        refine V.RunH.slotE 69 (mapE pk) rfl rfl ?_
        refine RunH.adv tb_ok [] rfl rfl (by simp [hz31, Value.oneCell'] <;> omega) ?_
        refine RunH.draw rfl [(5, some (.box m3 [.val (ptrO pw)] 31)), (6, some (stoB b (Sto.to ⟨SA, sc, bl, 0, 88172645463325252⟩ st1))), (8, some (.box m4 [.val (ptrO pm)] 31)), (30, some (.box ma [.val (ptrO (some La))] 31)), (32, some (.box m9 [.val (ptrO pk)] 31))] rfl 27 rfl rfl ?_
        refine RunD.adv tb_ok (by kernel_rfl) [false, false] rfl rfl (by simp <;> omega) ?_
        refine RunD.gives (i := 9) (boolE true) rfl (by kernel_rfl) rfl rfl rfl rfl Tryz.call23 (fun u hu => same_self u pk pm tA hu.fact.2 hu.fact.1.1.2 okA lowA') rfl (fun _ h => h) ?_
        intro n1 hn1
        refine RunD.adv tb_ok (by kernel_rfl) [false] rfl rfl (by simp <;> omega) ?_
        refine RunD.gives (i := 14) (sumE (rootO tA)) rfl (by kernel_rfl) rfl rfl rfl rfl Tryz.call24 (fun u hu => Root_spec u (hG.ext hu.fact.1.1.1.1.1) pk tA hu.fact.2) rfl (fun _ h => h) ?_
        intro n2 hn2
        refine RunD.adv tb_ok (by kernel_rfl) [] rfl rfl (by simp <;> omega) ?_
        refine RunD.gives (i := 16) (sumE (rootO tA)) rfl (by kernel_rfl) rfl rfl rfl rfl Tryz.call24 (fun u hu => Root_spec u (hG.ext hu.fact.1.1.1.1.1) pm tA hu.fact.1.1.2) rfl (fun _ h => h) ?_
        intro n3 hn3
        refine RunD.read (by kernel_rfl) (i := 17) (boolE (!decide (rootO tA = rootO tA))) rfl rfl rfl rfl rfl rfl (fun w' a h hag => op_neq hag rfl rfl rfl rfl rfl (by kernel_rfl) (eq_sum w' 9998 _ _)) ?_
        refine RunD.adv tb_ok (by kernel_rfl) [false] rfl rfl (by simp <;> omega) ?_
        refine RunD.gives (i := 21) (intE ((manyO tA + 1 : Nat) : Int)) rfl (by kernel_rfl) rfl rfl rfl rfl Tryz.call25 (fun u hu => by have h := Many_spec u (some La) (some (putO tA other (sum1 9))) hu.fact.1.2; rw [hpm] at h; exact h) rfl (fun _ h => h) ?_
        intro n4 hn4
        refine RunD.adv tb_ok (by kernel_rfl) [] rfl rfl (by simp <;> omega) ?_
        refine RunD.gives (i := 23) (intE (manyO tA)) rfl (by kernel_rfl) rfl rfl rfl rfl Tryz.call25 (fun u hu => Many_spec u pm tA hu.fact.1.1.2) rfl (fun _ h => h) ?_
        intro n5 hn5
        refine RunD.adv tb_ok (by kernel_rfl) [] rfl rfl (by simp <;> omega) ?_
        refine RunD.done (.inl rfl) (by kernel_rfl) ?_
        refine RunH.adv tb_ok [false] rfl rfl (by simp [hz31, Value.oneCell'] <;> omega) ?_
        exact RunH.meetS pk [] (.head _) rfl rfl rfl fun u h => ⟨h.1.1.1, h.2⟩
    rintro pm m10
    refine RunH.toNx 40 ?_
    refine RunH.doesB [(0, 6)] 41 (hc := Tryz.call19) (ho := rfl) (hw := rfl) (hd := rfl) (hf := rfl) (hes := rfl) (hσ := rfl) (hn := rfl) (hV := fun _ => rfl) (hG := fun _ => rfl) (e := fun y : Bool × Nat × Int => boolE y.1) (hC := seldom_spec b (Sto.to ⟨SA, sc, bl, 0, 88172645463325252⟩ st1) hl3 (by show st1.1 ≤ _; omega) 3 (by omega) (by omega)) (hp := fun u hu => hu.fact.1.1.2.2.2.1) ?_
    rintro ⟨q, st2⟩ m11 hm11
    refine RunH.pure (fun u h => h.2) fun hq => ?_
    dsimp only at hq
    have hs2 : st2.1 ≤ st1.1 + 1 := hq
    refine RunH.tell [(6, slE A names.length c), (7, slE B sums.length d), (8, .av (.box 5 m3 0)), (10, .av (.box 6 b 0)), (11, .av (.box 8 m4 0)), (45, slE AO L.length cO), (46, intE L.length), (47, intE k), (13, intE i), (100, boolE q)] [(5, some (.box m3 [.val (ptrO pw)] 31)), (6, some (stoB b (Sto.to ⟨SA, sc, bl, 0, 88172645463325252⟩ st2))), (8, some (.box m4 [.val (ptrO pm)] 31))] [] rfl rfl rfl 41 ?_
    refine V.RunH.know (fun u => (((Ext w u ∧ Sl kStr u A c names ∧ Sl kSum u B d sums ∧ Sl kByte u SA sc bl ∧ Sl kN u AO cO L) ∧ IsO u pw (fromO P)) ∧ IsO u pm tA)) (fun u h => h.1) ?_
    apply RunH.joinK (α := Option Plot × Option Tree) (fun _ => [(6, slE A names.length c), (7, slE B sums.length d), (8, .av (.box 5 m3 0)), (10, .av (.box 6 b 0)), (11, .av (.box 8 m4 0)), (45, slE AO L.length cO), (46, intE L.length), (47, intE k), (13, intE i)]) (fun z => [(5, some (.box m3 [.val (ptrO pw)] 31)), (6, some (stoB b (Sto.to ⟨SA, sc, bl, 0, 88172645463325252⟩ st2))), (8, some (.box m4 [.val (ptrO z.1)] 31))]) (fun z u => ((((Ext w u ∧ Sl kStr u A c names ∧ Sl kSum u B d sums ∧ Sl kByte u SA sc bl ∧ Sl kN u AO cO L) ∧ IsO u pw (fromO P)) ∧ IsO u z.1 z.2)) ∧ (z.2 = tA ∨ z.2 = some (putO tA nm (sum1 8))))
    · cases q with
      | false =>
        refine RunH.adv tb_ok [false] rfl rfl (by simp <;> omega) ?_
        exact RunH.meetS (pm, tA) [] (.head _) rfl rfl rfl fun u h => ⟨h, .inl rfl⟩
      | true =>
        refine RunH.adv tb_ok [true] rfl rfl (by simp <;> omega) ?_
        refine RunH.draw rfl [] rfl 12 rfl rfl ?_
        refine RunD.adv tb_ok (by kernel_rfl) [] rfl rfl (by simp [pA] <;> omega) ?_
        refine RunD.load (by kernel_rfl) (i := 4) (strE nm) rfl rfl rfl rfl rfl rfl (fun u hu => by have := hu.1.1.2.1.load hin; rw [hnmv] at this; exact this) ?_
        refine RunD.two (i := 0) (j := 5) (by kernel_rfl) ?_ ?_
        · refine opD_step tb_ok (nx := 42) (i := 0) rfl rfl rfl rfl ?_ rfl (fun _ h => h) ⟨rfl, rfl⟩ ?_
          · first | trivial | (simp; done) | (simp [AllOb, Ob.P, hz31, Value.oneCell']; done)
          refine RunD.adv tb_ok (by kernel_rfl) [] rfl rfl (by simp <;> omega) ?_
          refine RunD.gives (nx := 42) (i := 5) (sumE (sum1 8)) rfl (by kernel_rfl) rfl rfl rfl rfl Tryz.call21 (fun u hu => one3_spec u _) rfl (fun _ h => h) ?_
          intro n1 hn1
          refine RunD.adv tb_ok (by kernel_rfl) [] rfl rfl (by simp <;> omega) ?_
          refine RunD.doesB (nx := 42) (i := 6) [] 42 (fun b1 : Plot => .av (.val (.tuple #[.agg #[ptrV b1.b], intV 0]))) rfl (by kernel_rfl) rfl rfl rfl rfl Tryz.call20 (Put_ok pm tA okA nm (sum1 8) (by have := hgood.1; omega) (.inr (by omega))) rfl rfl (fun _ => rfl) (fun _ => rfl) (fun u hu => ⟨hG.ext hu.fact.1.1.1, hu.fact.2⟩) (fun _ => rfl) (fun _ h => h) ?_
          rintro Lb n2 hn2
          refine RunD.adv tb_ok (by kernel_rfl) [] rfl rfl (by simp <;> omega) ?_
          refine V.RunD.slotE 109 (mapE (some Lb)) rfl rfl ?_
          refine RunD.step tb_ok (nx := 42) (i := 10) rfl (by kernel_rfl) rfl rfl rfl ?_ rfl (fun _ h => h.1) rfl ?_
          · first | trivial | (simp; done) | (simp [AllOb, Ob.P, hz31, Value.oneCell']; done)
          refine RunD.adv tb_ok (by kernel_rfl) [] rfl rfl (by simp <;> omega) ?_
          refine RunD.done (.inl rfl) (by kernel_rfl) ?_
          refine RunH.adv tb_ok [false] rfl rfl (by simp [hz31, Value.oneCell'] <;> omega) ?_
          exact RunH.meetS (some Lb, some (putO tA nm (sum1 8))) [] (.head _) rfl rfl rfl fun u h => ⟨⟨h.1.1, h.2.now h.1.2⟩, .inr rfl⟩
        · refine opD_go rfl rfl (OpGo.gives (sumE (sum1 8)) rfl rfl rfl rfl Tryz.call21 (fun u hu => one3_spec u _)) 42 (fun _ => rfl) (fun _ _ h => h) ?_
          rintro ⟨⟩ n1 hn1
          refine RunD.adv tb_ok (by kernel_rfl) [] rfl rfl (by simp <;> omega) ?_
          refine RunD.step tb_ok (nx := 42) (i := 0) rfl (by kernel_rfl) rfl rfl rfl ?_ rfl (fun _ h => h) ⟨rfl, rfl⟩ ?_
          · first | trivial | (simp; done) | (simp [AllOb, Ob.P, hz31, Value.oneCell']; done)
          refine RunD.adv tb_ok (by kernel_rfl) [] rfl rfl (by simp <;> omega) ?_
          refine RunD.doesB (nx := 42) (i := 6) [] 42 (fun b1 : Plot => .av (.val (.tuple #[.agg #[ptrV b1.b], intV 0]))) rfl (by kernel_rfl) rfl rfl rfl rfl Tryz.call20 (Put_ok pm tA okA nm (sum1 8) (by have := hgood.1; omega) (.inr (by omega))) rfl rfl (fun _ => rfl) (fun _ => rfl) (fun u hu => ⟨hG.ext hu.fact.1.1.1, hu.fact.2⟩) (fun _ => rfl) (fun _ h => h) ?_
          rintro Lb n2 hn2
          refine RunD.adv tb_ok (by kernel_rfl) [] rfl rfl (by simp <;> omega) ?_
          refine V.RunD.slotE 109 (mapE (some Lb)) rfl rfl ?_
          refine RunD.step tb_ok (nx := 42) (i := 10) rfl (by kernel_rfl) rfl rfl rfl ?_ rfl (fun _ h => h.1) rfl ?_
          · first | trivial | (simp; done) | (simp [AllOb, Ob.P, hz31, Value.oneCell']; done)
          refine RunD.adv tb_ok (by kernel_rfl) [] rfl rfl (by simp <;> omega) ?_
          refine RunD.done (.inl rfl) (by kernel_rfl) ?_
          refine RunH.adv tb_ok [false] rfl rfl (by simp [hz31, Value.oneCell'] <;> omega) ?_
          exact RunH.meetS (some Lb, some (putO tA nm (sum1 8))) [] (.head _) rfl rfl rfl fun u h => ⟨⟨h.1.1, h.2.now h.1.2⟩, .inr rfl⟩
    rintro ⟨pB, tB⟩ m12
    refine RunH.pure (fun u h => h.2) fun htB => ?_
    dsimp only at htB ⊢
    have hB : (okO tB ∧ lowO 1000 tB ∧ manyO tB ≤ 21) ∧ some (putO tB nm sx) = fromO (Q.take (k + 1)) := by
      rcases htB with rfl | rfl
      · exact ⟨⟨okA, lowA', by omega⟩, hnx.symm⟩
      · have h := okO_put okA lowA' (by omega) nm (sum1 8) (by have := hgood.1; omega)
        exact ⟨⟨h.1, h.2.1, by omega⟩, (put_put_same (okO_wf okA) nm (sum1 8) sx).trans hnx.symm⟩
    clear htB
    obtain ⟨⟨okB, lowB, mnB⟩, hput⟩ := hB
    refine V.RunH.know (fun u => (((Ext w u ∧ Sl kStr u A c names ∧ Sl kSum u B d sums ∧ Sl kByte u SA sc bl ∧ Sl kN u AO cO L) ∧ IsO u pw (fromO P)) ∧ IsO u pB tB)) (fun u h => h.1) ?_
    refine RunH.toNx 50 ?_
    apply RunH.joinK (α := Nat × Nat) (fun z => [(6, slE A names.length c), (7, slE B sums.length d), (8, .av (.box 5 m3 0)), (10, .av (.box 6 b 0)), (11, .av (.box 8 m4 0)), (45, slE AO L.length cO), (46, intE L.length), (47, intE k), (13, intE i), (20, .av (.box 50 z.1 0)), (21, .av (.box 52 z.2 0))]) (fun z => [(5, some (.box m3 [.val (ptrO pw)] 31)), (6, some (stoB b (Sto.to ⟨SA, sc, bl, 0, 88172645463325252⟩ st2))), (8, some (.box m4 [.val (ptrO pB)] 31)), (50, some (.box z.1 [.val (ptrO pB)] 31)), (52, some (.box z.2 [.val (sumV (rootO tB))] 40))]) (fun z u => (((Ext w u ∧ Sl kStr u A c names ∧ Sl kSum u B d sums ∧ Sl kByte u SA sc bl ∧ Sl kN u AO cO L) ∧ IsO u pw (fromO P)) ∧ IsO u pB tB))
    · refine RunH.adv tb_ok [] rfl rfl (by simp <;> omega) ?_
      refine RunH.draw rfl [(5, some (.box m3 [.val (ptrO pw)] 31)), (6, some (stoB b (Sto.to ⟨SA, sc, bl, 0, 88172645463325252⟩ st2))), (8, some (.box m4 [.val (ptrO pB)] 31))] rfl 7 rfl rfl ?_
      refine RunD.adv tb_ok (by kernel_rfl) [] rfl rfl (by simp <;> omega) ?_
      refine RunD.three (i := 2) (j := 3) (q := 4) (by kernel_rfl) ?_ ?_ ?_
      · refine opD_go rfl rfl (OpGo.gives (sumE (rootO tB)) rfl rfl rfl rfl Tryz.call24 (fun u hu => Root_spec u (hG.ext hu.fact.1.1.1) pB tB hu.fact.2)) 54 (fun _ => rfl) (fun _ _ h => h) ?_
        rintro ⟨⟩ q2d hq2d
        refine RunD.adv tb_ok (by kernel_rfl) [] rfl rfl (by simp <;> omega) ?_
        refine RunD.two (i := 3) (j := 4) (by kernel_rfl) ?_ ?_
        · refine opD_step tb_ok (nx := 50) (i := 3) rfl rfl rfl rfl ?_ rfl (fun _ h => h) ⟨rfl, rfl⟩ ?_
          · first | trivial | (simp; done) | (simp [AllOb, Ob.P, hz31, Value.oneCell']; done)
          refine RunD.adv tb_ok (by kernel_rfl) [] rfl rfl (by simp <;> omega) ?_
          refine RunD.step tb_ok (nx := 52) (i := 4) rfl (by kernel_rfl) rfl rfl rfl ?_ rfl (fun _ h => h) ⟨rfl, rfl⟩ ?_
          · first | trivial | (simp; done) | (simp [AllOb, Ob.P, hz31, Value.oneCell']; done)
          refine RunD.adv tb_ok (by kernel_rfl) [] rfl rfl (by simp <;> omega) ?_
          refine RunD.step tb_ok (nx := 54) (i := 5) rfl (by kernel_rfl) rfl rfl rfl ?_ rfl (fun _ h => h) rfl ?_
          · first | trivial | (simp; done) | (simp [AllOb, Ob.P, hz31, Value.oneCell']; done)
          refine RunD.adv tb_ok (by kernel_rfl) [] rfl rfl (by simp <;> omega) ?_
          refine RunD.step tb_ok (nx := 54) (i := 6) rfl (by kernel_rfl) rfl rfl rfl ?_ rfl (fun _ h => h) rfl ?_
          · first | trivial | (simp; done) | (simp [AllOb, Ob.P, hz31, Value.oneCell']; done)
          refine RunD.adv tb_ok (by kernel_rfl) [] rfl rfl (by simp <;> omega) ?_
          refine RunD.done (.inl rfl) (by kernel_rfl) ?_
          exact RunH.meetS (q2d, q2d + 1) [] (.head _) rfl rfl rfl fun u h => h
        · refine opD_step tb_ok (nx := 52) (i := 4) rfl rfl rfl rfl ?_ rfl (fun _ h => h) ⟨rfl, rfl⟩ ?_
          · first | trivial | (simp; done) | (simp [AllOb, Ob.P, hz31, Value.oneCell']; done)
          refine RunD.adv tb_ok (by kernel_rfl) [] rfl rfl (by simp <;> omega) ?_
          refine RunD.step tb_ok (nx := 50) (i := 3) rfl (by kernel_rfl) rfl rfl rfl ?_ rfl (fun _ h => h) ⟨rfl, rfl⟩ ?_
          · first | trivial | (simp; done) | (simp [AllOb, Ob.P, hz31, Value.oneCell']; done)
          refine RunD.adv tb_ok (by kernel_rfl) [] rfl rfl (by simp <;> omega) ?_
          refine RunD.step tb_ok (nx := 54) (i := 5) rfl (by kernel_rfl) rfl rfl rfl ?_ rfl (fun _ h => h) rfl ?_
          · first | trivial | (simp; done) | (simp [AllOb, Ob.P, hz31, Value.oneCell']; done)
          refine RunD.adv tb_ok (by kernel_rfl) [] rfl rfl (by simp <;> omega) ?_
          refine RunD.step tb_ok (nx := 54) (i := 6) rfl (by kernel_rfl) rfl rfl rfl ?_ rfl (fun _ h => h) rfl ?_
          · first | trivial | (simp; done) | (simp [AllOb, Ob.P, hz31, Value.oneCell']; done)
          refine RunD.adv tb_ok (by kernel_rfl) [] rfl rfl (by simp <;> omega) ?_
          refine RunD.done (.inl rfl) (by kernel_rfl) ?_
          exact RunH.meetS (q2d + 1, q2d) [] (.head _) rfl rfl rfl fun u h => h
      · refine opD_step tb_ok (nx := 50) (i := 3) rfl rfl rfl rfl ?_ rfl (fun _ h => h) ⟨rfl, rfl⟩ ?_
        · first | trivial | (simp; done) | (simp [AllOb, Ob.P, hz31, Value.oneCell']; done)
        refine RunD.adv tb_ok (by kernel_rfl) [] rfl rfl (by simp <;> omega) ?_
        refine RunD.two (i := 2) (j := 4) (by kernel_rfl) ?_ ?_
        · refine opD_go rfl rfl (OpGo.gives (sumE (rootO tB)) rfl rfl rfl rfl Tryz.call24 (fun u hu => Root_spec u (hG.ext hu.fact.1.1.1) pB tB hu.fact.2)) 54 (fun _ => rfl) (fun _ _ h => h) ?_
          rintro ⟨⟩ q2d hq2d
          refine RunD.adv tb_ok (by kernel_rfl) [] rfl rfl (by simp <;> omega) ?_
          refine RunD.step tb_ok (nx := 52) (i := 4) rfl (by kernel_rfl) rfl rfl rfl ?_ rfl (fun _ h => h) ⟨rfl, rfl⟩ ?_
          · first | trivial | (simp; done) | (simp [AllOb, Ob.P, hz31, Value.oneCell']; done)
          refine RunD.adv tb_ok (by kernel_rfl) [] rfl rfl (by simp <;> omega) ?_
          refine RunD.step tb_ok (nx := 54) (i := 5) rfl (by kernel_rfl) rfl rfl rfl ?_ rfl (fun _ h => h) rfl ?_
          · first | trivial | (simp; done) | (simp [AllOb, Ob.P, hz31, Value.oneCell']; done)
          refine RunD.adv tb_ok (by kernel_rfl) [] rfl rfl (by simp <;> omega) ?_
          refine RunD.step tb_ok (nx := 54) (i := 6) rfl (by kernel_rfl) rfl rfl rfl ?_ rfl (fun _ h => h) rfl ?_
          · first | trivial | (simp; done) | (simp [AllOb, Ob.P, hz31, Value.oneCell']; done)
          refine RunD.adv tb_ok (by kernel_rfl) [] rfl rfl (by simp <;> omega) ?_
          refine RunD.done (.inl rfl) (by kernel_rfl) ?_
          exact RunH.meetS (m12, q2d) [] (.head _) rfl rfl rfl fun u h => h
        · refine opD_step tb_ok (nx := 52) (i := 4) rfl rfl rfl rfl ?_ rfl (fun _ h => h) ⟨rfl, rfl⟩ ?_
          · first | trivial | (simp; done) | (simp [AllOb, Ob.P, hz31, Value.oneCell']; done)
          refine RunD.adv tb_ok (by kernel_rfl) [] rfl rfl (by simp <;> omega) ?_
          refine RunD.gives (nx := 54) (i := 2) (sumE (rootO tB)) rfl (by kernel_rfl) rfl rfl rfl rfl Tryz.call24 (fun u hu => Root_spec u (hG.ext hu.fact.1.1.1) pB tB hu.fact.2) rfl (fun _ h => h) ?_
          intro q2d hq2d
          refine RunD.adv tb_ok (by kernel_rfl) [] rfl rfl (by simp <;> omega) ?_
          refine RunD.step tb_ok (nx := 54) (i := 5) rfl (by kernel_rfl) rfl rfl rfl ?_ rfl (fun _ h => h) rfl ?_
          · first | trivial | (simp; done) | (simp [AllOb, Ob.P, hz31, Value.oneCell']; done)
          refine RunD.adv tb_ok (by kernel_rfl) [] rfl rfl (by simp <;> omega) ?_
          refine RunD.step tb_ok (nx := 54) (i := 6) rfl (by kernel_rfl) rfl rfl rfl ?_ rfl (fun _ h => h) rfl ?_
          · first | trivial | (simp; done) | (simp [AllOb, Ob.P, hz31, Value.oneCell']; done)
          refine RunD.adv tb_ok (by kernel_rfl) [] rfl rfl (by simp <;> omega) ?_
          refine RunD.done (.inl rfl) (by kernel_rfl) ?_
          exact RunH.meetS (m12, m12 + 1) [] (.head _) rfl rfl rfl fun u h => h
      · refine opD_step tb_ok (nx := 52) (i := 4) rfl rfl rfl rfl ?_ rfl (fun _ h => h) ⟨rfl, rfl⟩ ?_
        · first | trivial | (simp; done) | (simp [AllOb, Ob.P, hz31, Value.oneCell']; done)
        refine RunD.adv tb_ok (by kernel_rfl) [] rfl rfl (by simp <;> omega) ?_
        refine RunD.two (i := 2) (j := 3) (by kernel_rfl) ?_ ?_
        · refine opD_go rfl rfl (OpGo.gives (sumE (rootO tB)) rfl rfl rfl rfl Tryz.call24 (fun u hu => Root_spec u (hG.ext hu.fact.1.1.1) pB tB hu.fact.2)) 54 (fun _ => rfl) (fun _ _ h => h) ?_
          rintro ⟨⟩ q2d hq2d
          refine RunD.adv tb_ok (by kernel_rfl) [] rfl rfl (by simp <;> omega) ?_
          refine RunD.step tb_ok (nx := 50) (i := 3) rfl (by kernel_rfl) rfl rfl rfl ?_ rfl (fun _ h => h) ⟨rfl, rfl⟩ ?_
          · first | trivial | (simp; done) | (simp [AllOb, Ob.P, hz31, Value.oneCell']; done)
          refine RunD.adv tb_ok (by kernel_rfl) [] rfl rfl (by simp <;> omega) ?_
          refine RunD.step tb_ok (nx := 54) (i := 5) rfl (by kernel_rfl) rfl rfl rfl ?_ rfl (fun _ h => h) rfl ?_
          · first | trivial | (simp; done) | (simp [AllOb, Ob.P, hz31, Value.oneCell']; done)
          refine RunD.adv tb_ok (by kernel_rfl) [] rfl rfl (by simp <;> omega) ?_
          refine RunD.step tb_ok (nx := 54) (i := 6) rfl (by kernel_rfl) rfl rfl rfl ?_ rfl (fun _ h => h) rfl ?_
          · first | trivial | (simp; done) | (simp [AllOb, Ob.P, hz31, Value.oneCell']; done)
          refine RunD.adv tb_ok (by kernel_rfl) [] rfl rfl (by simp <;> omega) ?_
          refine RunD.done (.inl rfl) (by kernel_rfl) ?_
          exact RunH.meetS (q2d, m12) [] (.head _) rfl rfl rfl fun u h => h
        · refine opD_step tb_ok (nx := 50) (i := 3) rfl rfl rfl rfl ?_ rfl (fun _ h => h) ⟨rfl, rfl⟩ ?_
          · first | trivial | (simp; done) | (simp [AllOb, Ob.P, hz31, Value.oneCell']; done)
          refine RunD.adv tb_ok (by kernel_rfl) [] rfl rfl (by simp <;> omega) ?_
          refine RunD.gives (nx := 54) (i := 2) (sumE (rootO tB)) rfl (by kernel_rfl) rfl rfl rfl rfl Tryz.call24 (fun u hu => Root_spec u (hG.ext hu.fact.1.1.1) pB tB hu.fact.2) rfl (fun _ h => h) ?_
          intro q2d hq2d
          refine RunD.adv tb_ok (by kernel_rfl) [] rfl rfl (by simp <;> omega) ?_
          refine RunD.step tb_ok (nx := 54) (i := 5) rfl (by kernel_rfl) rfl rfl rfl ?_ rfl (fun _ h => h) rfl ?_
          · first | trivial | (simp; done) | (simp [AllOb, Ob.P, hz31, Value.oneCell']; done)
          refine RunD.adv tb_ok (by kernel_rfl) [] rfl rfl (by simp <;> omega) ?_
          refine RunD.step tb_ok (nx := 54) (i := 6) rfl (by kernel_rfl) rfl rfl rfl ?_ rfl (fun _ h => h) rfl ?_
          · first | trivial | (simp; done) | (simp [AllOb, Ob.P, hz31, Value.oneCell']; done)
          refine RunD.adv tb_ok (by kernel_rfl) [] rfl rfl (by simp <;> omega) ?_
          refine RunD.done (.inl rfl) (by kernel_rfl) ?_
          exact RunH.meetS (m12 + 1, m12) [] (.head _) rfl rfl rfl fun u h => h
    rintro ⟨a20, a21⟩ m13
    refine RunH.toNx 60 ?_
    dsimp only
    apply RunH.joinK (α := Nat × Plot) (fun z => [(6, slE A names.length c), (7, slE B sums.length d), (8, .av (.box 5 m3 0)), (10, .av (.box 6 b 0)), (11, .av (.box 8 m4 0)), (45, slE AO L.length cO), (46, intE L.length), (47, intE k), (13, intE i), (20, .av (.box 50 a20 0)), (21, .av (.box 52 a21 0)), (22, .av (.box 60 z.1 0)), (23, intE 0)]) (fun z => [(5, some (.box m3 [.val (ptrO pw)] 31)), (6, some (stoB b (Sto.to ⟨SA, sc, bl, 0, 88172645463325252⟩ st2))), (8, some (.box m4 [.val (ptrO pB)] 31)), (50, some (.box a20 [.val (ptrO pB)] 31)), (52, some (.box a21 [.val (sumV (rootO tB))] 40)), (60, some (.box z.1 [.val (ptrO (some z.2))] 31))]) (fun z u => ((((Ext w u ∧ Sl kStr u A c names ∧ Sl kSum u B d sums ∧ Sl kByte u SA sc bl ∧ Sl kN u AO cO L) ∧ IsO u pw (fromO P)) ∧ IsO u pB tB)) ∧ IsO u (some z.2) (fromO (Q.take (k + 1))))
    · refine RunH.adv tb_ok [] rfl rfl (by simp <;> omega) ?_
      refine RunH.draw rfl [(5, some (.box m3 [.val (ptrO pw)] 31)), (6, some (stoB b (Sto.to ⟨SA, sc, bl, 0, 88172645463325252⟩ st2))), (8, some (.box m4 [.val (ptrO pB)] 31)), (50, some (.box a20 [.val (ptrO pB)] 31)), (52, some (.box a21 [.val (sumV (rootO tB))] 40))] rfl 16 rfl rfl ?_
      refine RunD.adv tb_ok (by kernel_rfl) [] rfl rfl (by simp [pA]; exact ⟨hpB, his, hin⟩) ?_
      refine RunD.load (by kernel_rfl) (i := 4) (strE nm) rfl rfl rfl rfl rfl rfl (fun u hu => by have := hu.1.1.2.1.load hin; rw [hnmv] at this; exact this) ?_
      refine RunD.load (by kernel_rfl) (i := 8) (sumE sx) rfl rfl rfl rfl rfl rfl (fun u hu => by have := hu.1.1.2.2.1.load his; rw [hsmv] at this; exact this) ?_
      refine RunD.two (i := 9) (j := 13) (by kernel_rfl) ?_ ?_
      · refine V.opD_doesB (i := 9) [] 61 61 (fun b1 : Plot => .av (.val (.tuple #[.agg #[ptrV b1.b], intV 0]))) rfl rfl rfl rfl rfl Tryz.call20 (Put_ok pB tB okB nm sx (by have := hgood.1; omega) (.inr (by omega))) rfl rfl (fun _ => rfl) (fun _ => rfl) (fun u hu => ⟨hG.ext hu.fact.1.1.1, hu.fact.2⟩) (fun _ => rfl) (fun _ h => h) ?_
        rintro b2c q2c hq2c
        refine RunD.adv tb_ok (by kernel_rfl) [] rfl rfl (by simp <;> omega) ?_
        refine RunD.step tb_ok (nx := 60) (i := 13) rfl (by kernel_rfl) rfl rfl rfl ?_ rfl (fun _ h => h.1) ⟨rfl, rfl⟩ ?_
        · first | trivial | (simp; done) | (simp [AllOb, Ob.P, hz31, Value.oneCell']; done)
        refine RunD.adv tb_ok (by kernel_rfl) [] rfl rfl (by simp <;> omega) ?_
        refine V.RunD.slotE 127 (mapE (some b2c)) rfl rfl ?_
        refine RunD.step tb_ok (nx := 61) (i := 14) rfl (by kernel_rfl) rfl rfl rfl ?_ rfl (fun _ h => h.1) rfl ?_
        · first | trivial | (simp; done) | (simp [AllOb, Ob.P, hz31, Value.oneCell']; done)
        refine RunD.adv tb_ok (by kernel_rfl) [] rfl rfl (by simp <;> omega) ?_
        refine RunD.done (.inl rfl) (by kernel_rfl) ?_
        exact RunH.meetS (q2c, b2c) [] (.head _) rfl rfl rfl fun u h => ⟨h.1, hput ▸ h.2.now h.1.2⟩
      · refine opD_step tb_ok (nx := 60) (i := 13) rfl rfl rfl rfl ?_ rfl (fun _ h => h) ⟨rfl, rfl⟩ ?_
        · first | trivial | (simp; done) | (simp [AllOb, Ob.P, hz31, Value.oneCell']; done)
        refine RunD.adv tb_ok (by kernel_rfl) [] rfl rfl (by simp <;> omega) ?_
        refine RunD.doesB (nx := 61) (i := 9) [] 61 (fun b1 : Plot => .av (.val (.tuple #[.agg #[ptrV b1.b], intV 0]))) rfl (by kernel_rfl) rfl rfl rfl rfl Tryz.call20 (Put_ok pB tB okB nm sx (by have := hgood.1; omega) (.inr (by omega))) rfl rfl (fun _ => rfl) (fun _ => rfl) (fun u hu => ⟨hG.ext hu.fact.1.1.1, hu.fact.2⟩) (fun _ => rfl) (fun _ h => h) ?_
        rintro b2c q2c hq2c
        refine RunD.adv tb_ok (by kernel_rfl) [] rfl rfl (by simp <;> omega) ?_
        refine V.RunD.slotE 127 (mapE (some b2c)) rfl rfl ?_
        refine RunD.step tb_ok (nx := 61) (i := 14) rfl (by kernel_rfl) rfl rfl rfl ?_ rfl (fun _ h => h.1) rfl ?_
        · first | trivial | (simp; done) | (simp [AllOb, Ob.P, hz31, Value.oneCell']; done)
        refine RunD.adv tb_ok (by kernel_rfl) [] rfl rfl (by simp <;> omega) ?_
        refine RunD.done (.inl rfl) (by kernel_rfl) ?_
        exact RunH.meetS (m13, b2c) [] (.head _) rfl rfl rfl fun u h => ⟨h.1, hput ▸ h.2.now h.1.2⟩
    rintro ⟨a22, Lc⟩ m14
    refine RunH.toNx 70 ?_
    dsimp only
    refine RunH.adv tb_ok [] rfl rfl (by simp <;> omega) ?_
    refine RunH.draw rfl [(5, some (.box m3 [.val (ptrO pw)] 31)), (6, some (stoB b (Sto.to ⟨SA, sc, bl, 0, 88172645463325252⟩ st2))), (8, some (.box m4 [.val (ptrO pB)] 31)), (50, some (.box a20 [.val (ptrO pB)] 31)), (52, some (.box a21 [.val (sumV (rootO tB))] 40)), (60, some (.box a22 [.val (ptrO (some Lc))] 31))] rfl 8 rfl rfl ?_
    refine RunD.adv tb_ok (by kernel_rfl) [false] rfl rfl (by simp <;> omega) ?_
    refine RunD.gives (i := 4) (sumE (rootO tB)) rfl (by kernel_rfl) rfl rfl rfl rfl Tryz.call24 (fun u hu => Root_spec u (hG.ext hu.fact.1.1.1.1) pB tB hu.fact.1.2) rfl (fun _ h => h) ?_
    intro n3 hn3
    refine RunD.adv tb_ok (by kernel_rfl) [] rfl rfl (by simp <;> omega) ?_
    refine RunD.read (by kernel_rfl) (i := 6) (boolE (!decide (rootO tB = rootO tB))) rfl rfl rfl rfl rfl rfl (fun w' a h hag => op_neq hag rfl rfl rfl rfl rfl (by kernel_rfl) (eq_sum w' 9998 _ _)) ?_
    refine RunD.adv tb_ok (by kernel_rfl) [] rfl rfl (by simp <;> omega) ?_
    refine RunD.done (.inl rfl) (by kernel_rfl) ?_
    refine RunH.adv tb_ok [false] rfl rfl (by simp [hz31, Value.oneCell'] <;> omega) ?_
    refine RunH.again (k + 1, st2, some Lc) (.head _) rfl rfl (by dsimp only; omega) fun u h => ⟨h.1.1, h.2, by dsimp only; omega, by dsimp only; omega⟩
  · have hkL : k = L.length := by omega
    have hdQ : (Q.map Prod.fst).Nodup := (hQP.map Prod.fst).nodup_iff.2 (hzf ▸ hnd)
    have htk : fromO (Q.take k) = fromO P := by
      rw [List.take_of_length_le (by omega)]
      exact from_perm hQP hdQ
    have hdP : (P.map Prod.fst).Nodup := hzf ▸ hnd
    have hkk := hok k
    rw [htk] at hkk
    obtain ⟨okP, lowP, mnP⟩ := hkk
    have lowP' : lowO 1000 (fromO P) := fun n x h => Nat.le_trans (lowP n x h) (by decide)
    refine V.RunH.know (fun u => (((Ext w u ∧ Sl kStr u A c names ∧ Sl kSum u B d sums ∧ Sl kByte u SA sc bl ∧ Sl kN u AO cO L) ∧ IsO u pw (fromO P)) ∧ IsO u pm (fromO P))) (fun u h => ⟨h.1, htk ▸ h.2.1⟩) ?_
    have hsl2 : (sortN names).length = names.length := by unfold sortN; simp
    have hN := TNames_spec pm (fromO P) 1000 okP lowP' (Nat.le_refl _)
    rw [names_sorted hdP, hzf, hsl2] at hN
    refine RunH.toNx 80 ?_
    refine RunH.adv tb_ok [false] rfl rfl (by simp <;> omega) ?_
    refine RunH.doesB [] 81 (hc := Tryz.call26) (ho := rfl) (hw := rfl) (hd := rfl) (hf := rfl) (hes := rfl) (hσ := rfl) (hn := rfl) (hV := fun _ => rfl) (hG := fun _ => rfl) (e := fun y : Option Addr × Nat => rowS 80 y.1 names.length y.2) (hC := cloneStr A c names (by omega)) (hp := fun u hu => hu.fact.1.1.2.1) ?_
    rintro ⟨AC, cC⟩ m7 hm7
    refine RunH.drop ?_
    refine RunH.adv tb_ok [] rfl rfl (by simp <;> omega) ?_
    refine RunH.doesB [(0, 80)] 81 (hc := Tryz.call27) (ho := rfl) (hw := rfl) (hd := rfl) (hf := rfl) (hes := rfl) (hσ := rfl) (hn := rfl) (hV := fun _ => rfl) (hG := fun _ => rfl) (e := fun _ : Unit => .av (.val (.tuple #[]))) (hC := Sort_spec AC cC names (by omega)) (hp := fun u hu => trivial) ?_
    rintro ⟨⟩ m8 hm8
    refine RunH.drop ?_
    refine RunH.adv tb_ok [] rfl rfl (by simp <;> omega) ?_
    refine RunH.draw rfl [(5, some (.box m3 [.val (ptrO pw)] 31)), (8, some (.box m4 [.val (ptrO pm)] 31))] rfl 20 rfl rfl ?_
    refine RunD.adv tb_ok (by kernel_rfl) [] rfl rfl (by simp <;> omega) ?_
    refine RunD.gives (i := 2) (boolE true) rfl (by kernel_rfl) rfl rfl rfl rfl Tryz.call23 (fun u hu => same_self u pm pw (fromO P) hu.fact.2 hu.fact.1.2 okP lowP') rfl (fun _ h => h) ?_
    intro n1 hn1
    refine RunD.adv tb_ok (by kernel_rfl) [true] rfl rfl (by simp <;> omega) ?_
    refine RunD.gives (i := 5) (sumE (rootO (fromO P))) rfl (by kernel_rfl) rfl rfl rfl rfl Tryz.call24 (fun u hu => Root_spec u (hG.ext hu.fact.1.1.1) pm _ hu.fact.2) rfl (fun _ h => h) ?_
    intro n2 hn2
    refine RunD.adv tb_ok (by kernel_rfl) [] rfl rfl (by simp <;> omega) ?_
    refine RunD.gives (i := 7) (sumE (rootO (fromO P))) rfl (by kernel_rfl) rfl rfl rfl rfl Tryz.call24 (fun u hu => Root_spec u (hG.ext hu.fact.1.1.1) pw _ hu.fact.1.2) rfl (fun _ h => h) ?_
    intro n3 hn3
    refine RunD.read (by kernel_rfl) (i := 8) (boolE (decide (rootO (fromO P) = rootO (fromO P)))) rfl rfl rfl rfl rfl rfl (fun w' a h hag => op_eq hag rfl rfl rfl rfl rfl (by kernel_rfl) (eq_sum w' 9998 _ _)) ?_
    refine RunD.adv tb_ok (by kernel_rfl) [true] rfl rfl (by simp <;> omega) ?_
    refine RunD.doesB (i := 12) [] 82 (fun y : Option Addr × Nat => rowS 81 y.1 names.length y.2) rfl (by kernel_rfl) rfl rfl rfl rfl Tryz.call29 hN rfl rfl (fun _ => rfl) (fun _ => rfl) (fun u hu => hu.fact.2) (fun _ => rfl) (fun _ h => h) ?_
    rintro ⟨AN, cN⟩ n4 hn4
    refine RunD.adv tb_ok (by kernel_rfl) [] rfl rfl (by simp <;> omega) ?_
    refine RunD.gives (i := 14) (boolE (decide (sortN names = sortN names))) rfl (by kernel_rfl) rfl rfl rfl rfl Tryz.call28 (fun u hu => by
      have h := equalS_spec u AN AC cN cC (sortN names) (sortN names) (Sl.own (B := w.heap.size) (hu.row (κ := kStr) (l := sortN names) (id := 81) rfl) (by omega)) (Sl.own (B := w.heap.size) (hu.row (κ := kStr) (l := sortN names) (id := 80) rfl) (by omega))
      rw [hsl2] at h
      exact h) rfl (fun _ h => h.1) ?_
    intro n5 hn5
    refine RunD.adv tb_ok (by kernel_rfl) [true] rfl rfl (by simp <;> omega) ?_
    refine RunD.gives (i := 17) .tt rfl (by kernel_rfl) rfl rfl rfl rfl Tryz.call30 (fun u hu => awake_spec u (hG.ext hu.fact.1.1.1.1)) rfl (fun _ h => h.1) ?_
    intro n6 hn6
    refine RunD.adv tb_ok (by kernel_rfl) [] rfl rfl (by simp <;> omega) ?_
    refine RunD.done (.inl rfl) (by kernel_rfl) ?_
    refine RunH.ret1 Tryz.func3 rfl rfl fun w hst => ⟨rfl, hst.fact.1.1.1.1⟩
end Go.Proofs.YtbfjmimiigjenaaGreatDoor

/-
TrieShape: the law is true for every input; the listed variables hold what the program's text lays.
-/
namespace Go.Proofs.YtbfjmimiigjenaaGreatDoor
open Go V RowKit Go.ChangeShapes Go.WideShapes Go.ChangeAt

set_option maxRecDepth 100000 in
theorem trieShape_lifted (os : Os) (started : os.Started) (H : Type) (enc : TypeId × Value → H) :
    ReturnsInHanded {} Tryz.checked os 3 .any (fun w args => (Rows.trieShapeSpec.pre enc Tryz.prog Tryz.f3 [] false w args ∧ laidMetH Tryz.prog Rows.trieShapeRow.laid w) ∧ sizedMet enc Tryz.prog Tryz.f3 (OpenSpec.ofChange Rows.trieShapeSpec) false w args)
      (Rows.trieShapeSpec.post enc Tryz.prog Tryz.f3 false true false false) := by
  refine wrap (C := Tryz.checked) (X := fun w _ => laidMetH Tryz.prog Rows.trieShapeRow.laid w) (fun _ _ _ hh h => h.of_heap hh) ownKnobs started (by kernel_rfl) Tryz.func3
    (ChangeSpec.witness_shaped (enc := enc) (C := Tryz.checked) (os := os) (X := fun w _ => laidMetH Tryz.prog Rows.trieShapeRow.laid w) false (World.laidAll Tryz.prog os Rows.trieShapeRow.laid)
      #[.slice none 0 0, .slice none 0 0] 8 (World.laidAll_os _ _ _)
      (World.shaped_of_ZipB (by kernel_rfl) (by kernel_rfl)) (by kernel_rfl) (by kernel_rfl) (by kernel_rfl)
      (by rw [MakeChecks.laidMetH_plain _ _ _ (by kernel_rfl)]; exact laidMet_laidAll _ (by kernel_rfl) (by kernel_rfl))) ?_
  intro W base args ds gs before hval0 hW hsz0 hL hS
  have hval : ∀ (j : Nat) t v, Tryz.f3.params[j]? = some t → args[j]? = some v → Value.okWide Tryz.prog W .any base t v := hval0
  have hsz : (DataW.weightsEach Tryz.prog (Tryz.f3.params.toList ++ Rows.trieShapeSpec.plain.varTypes Tryz.prog) (ds ++ gs)).all (· ≤ reachBytes) = true := hsz0
  have hW' := hW
  obtain ⟨p, q, hA0, hV, rfl, _, _⟩ := hW
  have hA : DataW.TrodAll enc Tryz.prog W 0 (fun _ => true) true Tryz.f3.params.toList args.toList ds p := hA0
  rw [Tryz.params3] at hA hval hsz
  obtain ⟨v0, v1, d0, d1, p0, p1, rfl, rfl, rfl, h0, h1⟩ := trodAll_two hA
  obtain ⟨rfl, rfl⟩ := trodVars_none hV
  have wt : ∀ {j : Nat} {t : TypeId} {d : DataW H}, [22, 22][j]? = some t → [d0, d1][j]? = some d → ∀ n ∈ d.weights Tryz.prog t, n ≤ reachBytes := by
    intro j t d ht hd n hn
    exact of_decide_eq_true (List.all_eq_true.1 hsz _ (DataW.weights_mem_each ht hd n hn))
  obtain ⟨x0, rfl, hx0⟩ := open_bytes h0 (wt (j := 0) rfl rfl) (hval 0 _ v0 rfl rfl)
  obtain ⟨x1, rfl, hx1⟩ := open_bytes h1 (wt (j := 1) rfl rfl) (hval 1 _ v1 rfl rfl)
  refine (shape_walk W (glob_of hS (show laidMetH Tryz.prog Rows.trieShapeRow.laid W from hL)) x0.A x0.c x0.l hx0 x1.A x1.c x1.l hx1).mono fun e W' ⟨he, hb⟩ => ?_
  subst he
  exact ⟨_, rfl, _, _, _, [], _, [], hW', trodAll_mk1 (shut_bool Tryz.underlying4 _),
    trodAll_mk2 (Below.trod laidOuts (by kernel_rfl) (of_decide_eq_true (by kernel_rfl)) h0 hb (fun y hy => hW'.lt y (by simp [hy]))) (Below.trod laidOuts (by kernel_rfl) (of_decide_eq_true (by kernel_rfl)) h1 hb (fun y hy => hW'.lt y (by simp [hy]))), rfl, hb.frame _, fun h => by cases h⟩

end Go.Proofs.YtbfjmimiigjenaaGreatDoor

/-
The closed facts of trieShape's row and card, one by one; no condition.
-/
namespace Go.Proofs.YtbfjmimiigjenaaGreatDoor
open Go
theorem trieShape_c0 : (Rows.trieShapeRow.wf (OpenSpec.ofChange Rows.trieShapeSpec) : Bool) = true := by kernel_rfl
theorem trieShape_c1 : (laidOutB Tryz.prog : Bool) = true := by kernel_rfl
theorem trieShape_c2 : (mapsRowed Tryz.prog : Bool) = true := by kernel_rfl
theorem trieShape_c3 : (Tryz.f3.params.all (Tryz.prog.readableRec ·) : Bool) = true := by kernel_rfl
theorem trieShape_c4 : (namedTie Tryz.prog Rows.trieShapeRow.named Rows.trieShapeSpec.vars : Bool) = true := by kernel_rfl
theorem trieShape_c5 : (Rows.trieShapeRow.stops == [] : Bool) = true := by kernel_rfl
theorem trieShape_c6 : (Tryz.prog.stops == [] : Bool) = true := by kernel_rfl
theorem trieShape_c7 : (Rows.trieShapeRow.knobs == [] : Bool) = true := by kernel_rfl
theorem trieShape_c8 : (Tryz.prog.stopKnobs == [] : Bool) = true := by kernel_rfl
theorem trieShape_c9 : (Rows.trieShapeRow.inPlace == Tryz.prog.inPlace 3 : Bool) = true := by kernel_rfl
theorem trieShape_c10 : (Rows.trieShapeRow.unfollowed == Tryz.prog.unfollowed 3 : Bool) = true := by kernel_rfl
theorem trieShape_c11 : (Rows.trieShapeRow.recurses == Tryz.prog.recurses 3 : Bool) = true := by kernel_rfl
theorem trieShape_c12 : (Rows.trieShapeRow.named == Tryz.prog.varsNamed 3 : Bool) = true := by kernel_rfl
theorem trieShape_c13 : (Rows.trieShapeRow.maps == (Tryz.f3.params.toList ++ Rows.trieShapeSpec.plain.varTypes Tryz.prog).any (Tryz.prog.mapsRec ·) : Bool) = true := by kernel_rfl
theorem trieShape_c14 : (Rows.trieShapeRow.ifaces == (Tryz.f3.params.toList ++ Rows.trieShapeSpec.plain.varTypes Tryz.prog).any (Tryz.prog.ifacesRec ·) : Bool) = true := by kernel_rfl
theorem trieShape_c15 : (Rows.trieShapeRow.mapsOut == Tryz.prog.mapsAmong Tryz.f3.resultTypes.toList : Bool) = true := by kernel_rfl
theorem trieShape_c16 : (Rows.trieShapeRow.loops == (Tryz.f3.params.toList ++ Rows.trieShapeSpec.plain.varTypes Tryz.prog).any (Tryz.prog.loopsFrom ·) : Bool) = true := by kernel_rfl
theorem trieShape_c17 : (Rows.trieShapeRow.wideKeys == (Tryz.f3.params.toList ++ Rows.trieShapeSpec.plain.varTypes Tryz.prog ++ Tryz.f3.resultTypes.toList).any (Tryz.prog.wideKeysFrom ·) : Bool) = true := by kernel_rfl
theorem trieShape_c18 : (Rows.trieShapeSpec.vars.all (Tryz.prog.varReadable ·) : Bool) = true := by kernel_rfl
theorem trieShape_c19 : (Tryz.f3.resultTypes.all (fun t => Tryz.prog.readableRec t && decide (t < Tryz.prog.types.size)) : Bool) = true := by kernel_rfl
theorem trieShape_c20 : (Rows.trieShapeRow.ifacesOut == Tryz.f3.resultTypes.toList.any (Tryz.prog.ifacesRec ·) : Bool) = true := by kernel_rfl
theorem trieShape_c21 : (Rows.trieShapeRow.loopsOut == Tryz.f3.resultTypes.toList.any (Tryz.prog.loopsFrom ·) : Bool) = true := by kernel_rfl
theorem trieShape_c22 : (Rows.trieShapeRow.plainKeys == Tryz.prog.plainKeys : Bool) = true := by kernel_rfl
theorem trieShape_c23 : (Rows.trieShapeRow.shortTexts.isNone : Bool) = true := by kernel_rfl
theorem trieShape_c24 : (Tryz.prog.stopsHeard : Bool) = true := by kernel_rfl
theorem trieShape_c25 : (Tryz.prog.mayEnter : Bool) = true := by kernel_rfl
theorem trieShape_c26 : (Rows.trieShapeRow.lifted == Tryz.prog.liftsFinal : Bool) = true := by kernel_rfl
theorem trieShape_c27 : (Tryz.prog.make == some Rows.trieShapeRow.make : Bool) = true := by kernel_rfl
theorem trieShape_c28 : (Rows.trieShapeRow.kinds == (if Rows.trieShapeRow.domain.isEmpty then [] else Tryz.f3.params.toList.map fun t => match Tryz.prog.underlying t with | some (.int k) => some k | _ => none) : Bool) = true := by kernel_rfl
theorem trieShape_c29 : (Rows.trieShapeRow.pinned == Rows.trieShapeRow.pinnedBy : Bool) = true := by kernel_rfl
theorem trieShape_c30 : (Rows.trieShapeRow.veiled == (Tryz.f3.params.toList ++ Rows.trieShapeSpec.plain.varTypes Tryz.prog ++ Tryz.f3.resultTypes.toList).any (Tryz.prog.veiledRec ·) : Bool) = true := by kernel_rfl
theorem trieShape_c31 : (Rows.trieShapeRow.veiledFits Tryz.prog Tryz.f3.params.toList (Tryz.f3.params.toList ++ Rows.trieShapeSpec.plain.varTypes Tryz.prog ++ Tryz.f3.resultTypes.toList) : Bool) = true := by kernel_rfl
set_option maxRecDepth 100000 in
theorem trieShape_joined : joinedFacts Tryz.prog 3 Tryz.f3 Rows.trieShapeSpec Rows.trieShapeRow = true :=
  joined_of trieShape_c0 trieShape_c1 trieShape_c2 trieShape_c3 trieShape_c4 trieShape_c5 trieShape_c6 trieShape_c7 trieShape_c8 trieShape_c9 trieShape_c10 trieShape_c11 trieShape_c12 trieShape_c13 trieShape_c14 trieShape_c15 trieShape_c16 trieShape_c17 trieShape_c18 trieShape_c19 trieShape_c20 trieShape_c21 trieShape_c22 trieShape_c23 trieShape_c24 trieShape_c25 trieShape_c26 trieShape_c27 trieShape_c28 trieShape_c29 trieShape_c30 trieShape_c31
theorem trieShape_named : Tryz.prog.funcNamed "hoarstone/hoarstonelaw03.TrieShape" = some 3 := by kernel_rfl
theorem trieShape_inst : decide (Tryz.f3.isInstance Tryz.prog Rows.trieShapeRow.origin Rows.trieShapeRow.targs) = true := by kernel_rfl
theorem trieShape_wfText : Rows.trieShapeRow.wfByText (OpenSpec.ofChange Rows.trieShapeSpec) = true := by kernel_rfl
theorem trieShape_goes : (false = Rows.trieShapeRow.goesBy Tryz.prog) := by kernel_rfl
end Go.Proofs.YtbfjmimiigjenaaGreatDoor

/-
TrieShape: the law is true for every input; its listed package variables hold what the program's text lays (the card ties them). No condition.
-/
namespace Go.Proofs.YtbfjmimiigjenaaGreatDoor
open Go
theorem trieShape_wrapped : Tryz.f3.isWrapper Tryz.prog Rows.trieShapeRow.wrapper Rows.trieShapeRow.mainSum := by
  unfold Func.isWrapper; first | (rw [if_pos (by decide +kernel)]; kernel_rfl) | (rw [if_neg (by decide +kernel)]; exact ⟨rfl, rfl⟩)
theorem trieShape_prog : Rows.trieShapeRow.program = Tryz.pinned.name := by kernel_rfl
theorem trieShape_sum : Rows.trieShapeRow.sum = Tryz.pinned.sum := by kernel_rfl
theorem trieShape_spec : Rows.trieShapeRow.spec = Rows.trieShapeSpec.name := by kernel_rfl
theorem trieShape_holds : Rows.TrieShapeSaid :=
  OpenClaim.holds_of_wide 3 Tryz.f3 trieShape_prog trieShape_sum trieShape_spec rfl rfl rfl rfl ⟨rfl, rfl, rfl, rfl, rfl⟩ rfl rfl rfl rfl rfl trieShape_named Tryz.func3 trieShape_joined
    (of_decide_eq_true trieShape_inst) trieShape_wrapped (fun os started H enc _ => trieShape_lifted os started H enc)
theorem trieShape_main : Tryz.prog.mainIs = some (Rows.trieShapeCard.stood.harness.1, Rows.trieShapeCard.stood.harness.2.toList) := by kernel_rfl
theorem trieShape_har : (!Rows.trieShapeCard.stood.harness.1 && Rows.trieShapeCard.stood.harness.2.isEmpty && !false) = false := by kernel_rfl
theorem trieShape_looks : false = Tryz.prog.looks [] := by kernel_rfl
theorem trieShape_plain : ([22, 22].all fun u => !Tryz.prog.wantsStandIn u) = true := by kernel_rfl
theorem trieShape_card_holds : Rows.TrieShapeCardSaid :=
  Claim7.holds_tied_plain_at .later [] [.data, .data, .sentinel] true Rows.trieShapeCard.stood.harness false
    trieShape_holds (fun _ h => by cases h) trieShape_wfText (fun _ h => by cases h) trieShape_row_tie rfl ⟨rfl, rfl⟩ trieShape_main trieShape_har
    (fun f fn hf hfn => by
      obtain rfl : f = 3 := (Option.some.inj (trieShape_named.symm.trans hf)).symm
      obtain rfl : fn = Tryz.f3 := (Option.some.inj (Tryz.func3.symm.trans hfn)).symm
      exact ⟨trieShape_looks, fun j t ht => by
        rw [Tryz.params3] at ht
        have hm : t ∈ [22, 22] := by simpa using Array.mem_of_getElem? ht
        exact (show Tryz.prog.wantsStandIn t = false by simpa using List.all_eq_true.1 trieShape_plain t hm)⟩)
    trieShape_goes
#print axioms trieShape_card_holds
end Go.Proofs.YtbfjmimiigjenaaGreatDoor
