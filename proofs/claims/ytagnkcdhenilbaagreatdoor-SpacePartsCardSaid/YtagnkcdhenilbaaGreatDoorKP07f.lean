/-
A part of the proofs of the laws of a seat: contracts of functions and lemmas on them; the listed package variables hold what the program's text lays. No further condition.
-/
import Derived.Test.YtagnkcdhenilbaaGreatDoorKSEnds
import Derived.Test.YtagnkcdhenilbaaGreatDoorKPS22
set_option linter.unusedVariables false
set_option linter.unusedSectionVars false
set_option linter.unusedSimpArgs false
namespace Go.Proofs.YtagnkcdhenilbaaGreatDoor
open Go V

theorem r07_With (A : Option Addr) (c : Nat) (l : List Entry) (p : Str) (x : Sum) (hn : l.length ≤ 1000000) :
    Does Tryz.prog tb 109 [.slice A l.length c, strV p, sumV x] [] (fun u => Sl kEntry u A c l) (fun z : Option Addr × Nat => .slice z.1 (setL l ⟨p, x⟩).length z.2) (fun z => [(0, rowE kEntry z.1 z.2 (setL l ⟨p, x⟩))]) (fun _ _ _ => True) := by
  have hl : lim = 140737488351232 := rfl
  refine Does.enter tb_ok [(0, slE A l.length c), (1, strE p), (2, sumE x)] Tryz.func109 rfl Tryz.ntmps109 rfl rfl 0 ?_
  intro B0 m0 K
  refine RunH.adv tb_ok [] rfl rfl (by simp <;> omega) ?_
  refine RunH.gives (ho := rfl) (hw := rfl) (hd := rfl) (hf := rfl) (hes := rfl) (hc := Tryz.call107) (e := atV l p) (hC := fun u hu => r07_At u A c l hu.fact.2 p) ?_
  intro m1 hm1
  have hpl := posOf_le l p
  have htk : (l.take (posOf l p)).length = posOf l p := by rw [List.length_take]; omega
  refine RunH.adv tb_ok [] rfl rfl (by simp <;> omega) ?_
  refine RunH.pure (fun u h => h.2.cap) fun hcap => ?_
  apply RunH.joinK (α := Option Addr × Nat) (fun z => [(0, slE A l.length c), (7, intE (posOf l p)), (8, boolE (isAt l p)), (9, rowS 50 z.1 (l.take (posOf l p) ++ [(⟨p, x⟩ : Entry)]).length z.2)])
    (fun z => [(50, rowE kEntry z.1 z.2 (l.take (posOf l p) ++ [⟨p, x⟩]))]) (fun _ u => K u ∧ Sl kEntry u A c l)
  · refine RunH.draw rfl [(0, some (.box m0 [.val (sumV x)] 39))] rfl 11 rfl rfl ?_
    refine RunD.adv tb_ok (by kernel_rfl) [] rfl rfl (by simp <;> omega) ?_
    refine RunD.two (i := 0) (j := 8) (by kernel_rfl) ?_ ?_
    · refine opD_step tb_ok (nx := 50) (i := 0) rfl rfl rfl rfl ?_ rfl (fun _ h => h) ⟨rfl, rfl⟩ ?_
      · first | trivial | (simp [AllOb, Ob.P, sum_len, sz_sum, one_int, u8V_one]; done)
      refine RunD.adv tb_ok (by kernel_rfl) [] rfl rfl (by simp <;> omega) ?_
      refine RunD.two (i := 4) (j := 8) (by kernel_rfl) ?_ ?_
      · refine opD_appendK (nx := 70) (i := 4) (κ := kEntry) (id := 50) (r := l.take (posOf l p)) (l := []) rfl rfl rfl rfl rfl rfl elt_entry rfl (by rw [htk]; rfl) (fun w hst => (Go.Proofs.YtagnkcdhenilbaaGreatDoor.Sl.take hst.fact.2 (posOf l p) hpl).lies) (by simp; omega) (by simp; omega) (fun _ _ => rfl) (fun _ h => h) ?_
        intro A1 c1 m4 hm4
        refine RunD.adv tb_ok (by kernel_rfl) [] rfl rfl (by simp <;> omega) ?_
        refine RunD.step tb_ok (nx := 58) (i := 8) rfl (by kernel_rfl) rfl rfl rfl ?_ rfl (fun _ h => h) ⟨rfl, rfl⟩ ?_
        · first | trivial | (simp [AllOb, Ob.P, sum_len, sz_sum, one_int, u8V_one]; done)
        refine RunD.adv tb_ok (by kernel_rfl) [] rfl rfl (by simp <;> omega) ?_
        refine RunD.appendK (nx := 70) (i := 9) (κ := kEntry) (id := 50) (r := [⟨p, x⟩]) (l := l.take (posOf l p)) rfl (by kernel_rfl) rfl rfl rfl rfl rfl elt_entry rfl rfl (fun w hst => hst.liesRow (id := 58) (κ := kEntry) (l := [⟨p, x⟩]) rfl (by simp [hl])) (by simp; omega) (by simp; omega) (fun _ _ => rfl) (fun _ h => h) ?_
        intro A2 c2 m9 hm9
        refine RunD.adv tb_ok (by kernel_rfl) [] rfl rfl (by simp <;> omega) ?_
        refine RunD.done (.inl rfl) (by kernel_rfl) ?_
        refine RunH.meetS (A2, c2) [(50, 50)] (.head _) rfl rfl rfl fun _ h => h
      · refine opD_step tb_ok (nx := 58) (i := 8) rfl rfl rfl rfl ?_ rfl (fun _ h => h) ⟨rfl, rfl⟩ ?_
        · first | trivial | (simp [AllOb, Ob.P, sum_len, sz_sum, one_int, u8V_one]; done)
        refine RunD.adv tb_ok (by kernel_rfl) [] rfl rfl (by simp <;> omega) ?_
        refine RunD.appendK (nx := 70) (i := 4) (κ := kEntry) (id := 50) (r := l.take (posOf l p)) (l := []) rfl (by kernel_rfl) rfl rfl rfl rfl rfl elt_entry rfl (by rw [htk]; rfl) (fun w hst => (Go.Proofs.YtagnkcdhenilbaaGreatDoor.Sl.take hst.fact.2 (posOf l p) hpl).lies) (by simp; omega) (by simp; omega) (fun _ _ => rfl) (fun _ h => h) ?_
        intro A1 c1 m4 hm4
        refine RunD.adv tb_ok (by kernel_rfl) [] rfl rfl (by simp <;> omega) ?_
        refine RunD.appendK (nx := 70) (i := 9) (κ := kEntry) (id := 50) (r := [⟨p, x⟩]) (l := l.take (posOf l p)) rfl (by kernel_rfl) rfl rfl rfl rfl rfl elt_entry rfl rfl (fun w hst => hst.liesRow (id := 58) (κ := kEntry) (l := [⟨p, x⟩]) rfl (by simp [hl])) (by simp; omega) (by simp; omega) (fun _ _ => rfl) (fun _ h => h) ?_
        intro A2 c2 m9 hm9
        refine RunD.adv tb_ok (by kernel_rfl) [] rfl rfl (by simp <;> omega) ?_
        refine RunD.done (.inl rfl) (by kernel_rfl) ?_
        refine RunH.meetS (A2, c2) [(50, 50)] (.head _) rfl rfl rfl fun _ h => h
    · refine opD_step tb_ok (nx := 58) (i := 8) rfl rfl rfl rfl ?_ rfl (fun _ h => h) ⟨rfl, rfl⟩ ?_
      · first | trivial | (simp [AllOb, Ob.P, sum_len, sz_sum, one_int, u8V_one]; done)
      refine RunD.adv tb_ok (by kernel_rfl) [] rfl rfl (by simp <;> omega) ?_
      refine RunD.step tb_ok (nx := 50) (i := 0) rfl (by kernel_rfl) rfl rfl rfl ?_ rfl (fun _ h => h) ⟨rfl, rfl⟩ ?_
      · first | trivial | (simp [AllOb, Ob.P, sum_len, sz_sum, one_int, u8V_one]; done)
      refine RunD.adv tb_ok (by kernel_rfl) [] rfl rfl (by simp <;> omega) ?_
      refine RunD.appendK (nx := 70) (i := 4) (κ := kEntry) (id := 50) (r := l.take (posOf l p)) (l := []) rfl (by kernel_rfl) rfl rfl rfl rfl rfl elt_entry rfl (by rw [htk]; rfl) (fun w hst => (Go.Proofs.YtagnkcdhenilbaaGreatDoor.Sl.take hst.fact.2 (posOf l p) hpl).lies) (by simp; omega) (by simp; omega) (fun _ _ => rfl) (fun _ h => h) ?_
      intro A1 c1 m4 hm4
      refine RunD.adv tb_ok (by kernel_rfl) [] rfl rfl (by simp <;> omega) ?_
      refine RunD.appendK (nx := 70) (i := 9) (κ := kEntry) (id := 50) (r := [⟨p, x⟩]) (l := l.take (posOf l p)) rfl (by kernel_rfl) rfl rfl rfl rfl rfl elt_entry rfl rfl (fun w hst => hst.liesRow (id := 58) (κ := kEntry) (l := [⟨p, x⟩]) rfl (by simp [hl])) (by simp; omega) (by simp; omega) (fun _ _ => rfl) (fun _ h => h) ?_
      intro A2 c2 m9 hm9
      refine RunD.adv tb_ok (by kernel_rfl) [] rfl rfl (by simp <;> omega) ?_
      refine RunD.done (.inl rfl) (by kernel_rfl) ?_
      refine RunH.meetS (A2, c2) [(50, 50)] (.head _) rfl rfl rfl fun _ h => h
  rintro ⟨A2, c2⟩ m2
  have hlen : (l.take (posOf l p) ++ [(⟨p, x⟩ : Entry)]).length = posOf l p + 1 := by rw [List.length_append, htk]; rfl
  by_cases ha : isAt l p = true
  · have hpos : posOf l p < l.length := by
      unfold isAt at ha
      simp only [Bool.and_eq_true, decide_eq_true_eq] at ha
      exact ha.1
    have hset : setL l ⟨p, x⟩ = (l.take (posOf l p) ++ [⟨p, x⟩]) ++ l.drop (posOf l p + 1) := by
      unfold setL; rw [if_pos ha, List.set_eq_take_append_cons_drop]; simp [hpos]
    have h1 : ((posOf l p : Int) + 1).toNat = posOf l p + 1 := by omega
    have hdl : (l.drop (posOf l p + 1)).length = l.length - (posOf l p + 1) := List.length_drop ..
    refine RunH.adv tb_ok [true] rfl rfl (by simp [ha] <;> omega) ?_
    refine RunH.appendK (κ := kEntry) (id := 50) (r := l.drop (posOf l p + 1)) (l := l.take (posOf l p) ++ [⟨p, x⟩]) (A2 := subA A (posOf l p + 1) c kEntry.sz) (c2 := c - (posOf l p + 1)) rfl rfl rfl rfl rfl rfl elt_entry rfl (by rw [hdl]; rfl) (fun u hu => (hu.fact.2.drop (posOf l p + 1) (by omega)).lies) (by rw [hlen, hdl]; omega) (by rw [hlen, hdl]; omega) ?_
    intro A3 c3 m3 hm3
    refine RunH.adv tb_ok [] rfl rfl (by simp <;> omega) ?_
    rw [← hset]
    refine RunH.ret1 Tryz.func109 rfl rfl fun w hst => ⟨(A3, c3), rfl, hst.out [(0, 50)] rfl rfl fun u h => ⟨h.1, trivial⟩⟩
  · have hset : setL l ⟨p, x⟩ = (l.take (posOf l p) ++ [⟨p, x⟩]) ++ l.drop (posOf l p) := by
      unfold setL insL; rw [if_neg ha]; simp
    have hdl : (l.drop (posOf l p)).length = l.length - posOf l p := List.length_drop ..
    refine RunH.adv tb_ok [false] rfl rfl (by simp [ha] <;> omega) ?_
    refine RunH.appendK (κ := kEntry) (id := 50) (r := l.drop (posOf l p)) (l := l.take (posOf l p) ++ [⟨p, x⟩]) (A2 := subA A (posOf l p) c kEntry.sz) (c2 := c - posOf l p) rfl rfl rfl rfl rfl rfl elt_entry rfl (by rw [hdl]; rfl) (fun u hu => (hu.fact.2.drop (posOf l p) (by omega)).lies) (by rw [hlen, hdl]; omega) (by rw [hlen, hdl]; omega) ?_
    intro A3 c3 m3 hm3
    refine RunH.adv tb_ok [] rfl rfl (by simp <;> omega) ?_
    rw [← hset]
    refine RunH.ret1 Tryz.func109 rfl rfl fun w hst => ⟨(A3, c3), rfl, hst.out [(0, 50)] rfl rfl fun u h => ⟨h.1, trivial⟩⟩
--ENDWITH
end Go.Proofs.YtagnkcdhenilbaaGreatDoor

namespace Go.Proofs.YtagnkcdhenilbaaGreatDoor
open Go V

theorem r07_Without (A : Option Addr) (c : Nat) (l : List Entry) (i : Nat) (hi : i < l.length) (hn : l.length ≤ 1000000) :
    Does Tryz.prog tb 123 [.slice A l.length c, intV i] [] (fun u => Sl kEntry u A c l) (fun z : Option Addr × Nat => .slice z.1 (l.eraseIdx i).length z.2) (fun z => [(0, rowE kEntry z.1 z.2 (l.eraseIdx i))]) (fun _ _ _ => True) := by
  have hl : lim = 140737488351232 := rfl
  refine Does.enter tb_ok [(0, slE A l.length c), (1, intE i)] Tryz.func123 rfl Tryz.ntmps123 rfl rfl 0 ?_
  intro B0 m0 K
  refine RunH.adv tb_ok [] rfl rfl (by simp <;> omega) ?_
  refine RunH.pure (fun u h => h.2.cap) fun hcap => ?_
  have htk : (l.take i).length = i := by rw [List.length_take]; omega
  have hdl : (l.drop (i + 1)).length = l.length - (i + 1) := List.length_drop ..
  refine RunH.draw rfl [] rfl 11 rfl rfl ?_
  refine RunD.adv tb_ok (by kernel_rfl) [] rfl rfl (by simp <;> omega) ?_
  refine RunD.step tb_ok (nx := 50) (i := 0) rfl (by kernel_rfl) rfl rfl rfl ?_ rfl (fun _ h => h) ⟨rfl, rfl⟩ ?_
  · first | trivial | (simp [AllOb, Ob.P]; done)
  refine RunD.adv tb_ok (by kernel_rfl) [] rfl rfl (by simp <;> omega) ?_
  refine RunD.appendK (nx := 70) (i := 4) (κ := kEntry) (id := 50) (r := l.take i) (l := []) rfl (by kernel_rfl) rfl rfl rfl rfl rfl elt_entry rfl (by rw [htk]; rfl) (fun w hst => (Go.Proofs.YtagnkcdhenilbaaGreatDoor.Sl.take hst.fact.2 i (by omega)).lies) (by simp; omega) (by simp; omega) (fun _ _ => rfl) (fun _ h => h) ?_
  intro A1 c1 m1 hm1
  refine RunD.adv tb_ok (by kernel_rfl) [] rfl rfl (by simp <;> omega) ?_
  refine RunD.appendK (nx := 70) (i := 9) (κ := kEntry) (id := 50) (r := l.drop (i + 1)) (l := l.take i) (A2 := subA A (i + 1) c kEntry.sz) (c2 := c - (i + 1)) rfl (by kernel_rfl) rfl rfl rfl rfl rfl elt_entry rfl (by rw [hdl]; rfl) (fun w hst => (hst.fact.2.drop (i + 1) (by omega)).lies) (by rw [htk, hdl]; omega) (by rw [htk, hdl]; omega) (fun _ _ => rfl) (fun _ h => h) ?_
  intro A2 c2 m2 hm2
  refine RunD.adv tb_ok (by kernel_rfl) [] rfl rfl (by simp <;> omega) ?_
  refine RunD.done (.inl rfl) (by kernel_rfl) ?_
  refine RunH.adv tb_ok [] rfl rfl (by simp <;> omega) ?_
  rw [← List.eraseIdx_eq_take_drop_succ]
  refine RunH.ret1 Tryz.func123 rfl rfl fun w hst => ⟨(A2, c2), rfl, hst.out [(0, 50)] rfl rfl fun u h => ⟨h.1, trivial⟩⟩

theorem r07_In (s : Spc) (k : Int) (A : Option Addr) (c : Nat) (l : List Entry) (h1 : s.t.l.length ≤ 1000000) (h2 : s.y.l.length ≤ 1000000) :
    Does Tryz.prog tb 108 [s.ev.v, intV k, .slice A l.length c] [(0, rowE kEntry A c l)] (fun u => s.ok u)
      (fun y : Option Addr × Nat => .agg #[.slice (kA k A y.1) (kA k l.length (kList k s.y.l s.t.l).length) (kA k c y.2), .slice (kA k y.1 A) (kA k (kList k s.y.l s.t.l).length l.length) (kA k y.2 c)])
      (fun y => [(0, rowE kEntry A c l), (1, rowE kEntry y.1 y.2 (kList k s.y.l s.t.l))]) (fun _ _ _ => True) := by
  have hl : lim = 140737488351232 := rfl
  by_cases hk : k = 1
  · simp only [kA, kList, if_pos hk]
    refine Does.enter tb_ok [(0, s.ev), (1, intE k), (2, rowS 0 A l.length c)] Tryz.func108 rfl Tryz.ntmps108 rfl rfl 1 ?_
    intro B0 m0 K
    refine RunH.adv tb_ok [] rfl rfl (by simp <;> omega) ?_
    refine RunH.doesB [] 5 (hc := Tryz.call16) (ho := rfl) (hw := rfl) (hd := rfl) (hf := rfl) (hes := rfl) (hσ := rfl) (hn := rfl) (hV := fun _ => rfl) (hG := fun _ => rfl) (e := fun y => spV s y) (hC := r07_Own s h1 h2) (hp := fun u hu => hu.fact.2) ?_
    rintro ⟨⟨A1, c1⟩, ⟨B1, d1⟩⟩ m2 hm2
    refine RunH.drop ?_
    refine RunH.adv tb_ok [true] rfl rfl (by simp <;> omega) ?_
    exact RunH.retBox tb_ok (.st [.row 0 (.slice A l.length c), .val (.slice B1 s.y.l.length d1)]) Tryz.func108 rfl rfl rfl rfl fun w hst => ⟨(B1, d1), rfl, hst.out [(0, 0), (1, 4)] rfl rfl fun u h => ⟨h.1, trivial⟩⟩
  · simp only [kA, kList, if_neg hk]
    refine Does.enter tb_ok [(0, s.ev), (1, intE k), (2, rowS 0 A l.length c)] Tryz.func108 rfl Tryz.ntmps108 rfl rfl 1 ?_
    intro B0 m0 K
    refine RunH.adv tb_ok [] rfl rfl (by simp <;> omega) ?_
    refine RunH.doesB [] 5 (hc := Tryz.call16) (ho := rfl) (hw := rfl) (hd := rfl) (hf := rfl) (hes := rfl) (hσ := rfl) (hn := rfl) (hV := fun _ => rfl) (hG := fun _ => rfl) (e := fun y => spV s y) (hC := r07_Own s h1 h2) (hp := fun u hu => hu.fact.2) ?_
    rintro ⟨⟨A1, c1⟩, ⟨B1, d1⟩⟩ m2 hm2
    refine RunH.drop ?_
    refine RunH.adv tb_ok [false] rfl rfl (by simp <;> omega) ?_
    exact RunH.retBox tb_ok (.st [.val (.slice A1 s.t.l.length c1), .row 0 (.slice A l.length c)]) Tryz.func108 rfl rfl rfl rfl fun w hst => ⟨(A1, c1), rfl, hst.out [(0, 0), (1, 3)] rfl rfl fun u h => ⟨h.1, trivial⟩⟩
end Go.Proofs.YtagnkcdhenilbaaGreatDoor

namespace Go.Proofs.YtagnkcdhenilbaaGreatDoor
open Go V

set_option maxRecDepth 10000 in
theorem r07_Add (s : Spc) (k : Int) (p : Str) (x : Sum) (h1 : s.t.l.length ≤ 1000000) (h2 : s.y.l.length ≤ 1000000) (h3 : ∀ e ∈ s.t.l, e.path.length ≤ 1000000) (h4 : ∀ e ∈ s.y.l, e.path.length ≤ 1000000) (hl_p : p.length ≤ 1000000) :
    Does Tryz.prog tb 47 [s.ev.v, intV k, strV p, sumV x] [] (fun u => s.ok u)
      (fun z : (Option Addr × Nat) × (Option Addr × Nat) => .tuple #[.agg #[.slice z.1.1 (edT (addE s.t.l s.y.l k p) k (setL (kList k s.t.l s.y.l) ⟨p, x⟩) (kList k s.y.l s.t.l)).length z.1.2, .slice z.2.1 (edY (addE s.t.l s.y.l k p) k (setL (kList k s.t.l s.y.l) ⟨p, x⟩) (kList k s.y.l s.t.l)).length z.2.2], intV (addE s.t.l s.y.l k p)])
      (fun z => [(0, rowE kEntry z.1.1 z.1.2 (edT (addE s.t.l s.y.l k p) k (setL (kList k s.t.l s.y.l) ⟨p, x⟩) (kList k s.y.l s.t.l))), (1, rowE kEntry z.2.1 z.2.2 (edY (addE s.t.l s.y.l k p) k (setL (kList k s.t.l s.y.l) ⟨p, x⟩) (kList k s.y.l s.t.l)))]) (fun _ _ _ => True) := by
  have hl : lim = 140737488351232 := rfl
  refine Does.enter tb_ok [(0, s.ev), (1, intE k), (2, strE p), (3, sumE x)] Tryz.func47 rfl Tryz.ntmps47 rfl rfl 0 ?_
  intro B0 m0 K
  have hkl := row_kList s k
  have hb1 : (Spc.row s k).l.length ≤ 1000000 := by unfold Spc.row; split <;> assumption
  have hIn := fun A c l => r07_In s k A c l h1 h2
  have hof := fun u => r07_Of u s k
  have hask := fun u (hu : s.ok u) A c (hs : Sl kStr u A c [p]) => r07_asked u s hu h3 h4 k A c [p] hs (by simp; omega)
  have hrow := fun u (hu : s.ok u) => Spc.ok.row hu k
  have hz := fun (h : askE s.t.l s.y.l k [p] = 0) => kList_sub (askE_zero h).1
  have hE0 : addE s.t.l s.y.l k p = if askE s.t.l s.y.l k [p] = 0 then (if isAt (kList k s.t.l s.y.l) p = true then 5 else if 300 ≤ (kList k s.t.l s.y.l).length then 12 else 0) else askE s.t.l s.y.l k [p] := rfl
  rw [← hkl] at hE0 hz ⊢
  generalize hre : addE s.t.l s.y.l k p = e at *
  have hT0 : ∀ (e : Int) (l : List Entry), e ≠ 0 → edT e k l (kList k s.y.l s.t.l) = [] ∧ edY e k l (kList k s.y.l s.t.l) = [] := fun e l h => ⟨if_neg h, if_neg h⟩
  generalize hO : kList k s.y.l s.t.l = O at *
  generalize hR : Spc.row s k = R at *
  generalize hA0 : askE s.t.l s.y.l k [p] = a0 at *
  refine RunH.adv tb_ok [] rfl rfl (by simp <;> omega) ?_
  refine RunH.gives (ho := rfl) (hw := rfl) (hd := rfl) (hf := rfl) (hes := rfl) (hc := Tryz.call90) (e := intE a0) (hC := fun u hu => hask u hu.fact.2 _ _ (Sl.own (B := B0) (hu.row (κ := kStr) (l := [p]) (id := 3) rfl) (by simp [hl]))) ?_
  intro m1 hm1
  by_cases ha : a0 = 0
  · have hsub := hz ha
    rw [if_pos ha] at hE0
    refine RunH.adv tb_ok [false] rfl rfl (by simp [ha] <;> omega) ?_
    refine RunH.gives (ho := rfl) (hw := rfl) (hd := rfl) (hf := rfl) (hes := rfl) (hc := Tryz.call79) (e := .av R.av) (hC := fun u _ => hof u) ?_
    intro m2 hm2
    refine RunH.adv tb_ok [] rfl rfl (by simp <;> omega) ?_
    refine RunH.gives (ho := rfl) (hw := rfl) (hd := rfl) (hf := rfl) (hes := rfl) (hc := Tryz.call107) (e := atV R.l p) (hC := fun u hu => r07_At u _ _ _ (hrow u hu.fact.2) p) ?_
    intro m3 hm3
    by_cases hat : isAt R.l p = true
    · rw [if_pos hat] at hE0
      subst hE0
      refine RunH.adv tb_ok [true] rfl rfl (by simp [hat] <;> omega) ?_
      refine RunH.nilrow 20 kEntry.T kEntry.sz 21 ?_
      refine RunH.nilrow 21 kEntry.T kEntry.sz 22 ?_
      refine RunH.retBoxT tb_ok nilSp Tryz.func47 rfl rfl rfl rfl rfl fun w hst => ⟨((none, 0), (none, 0)), by rw [(hT0 _ _ (by decide)).1, (hT0 _ _ (by decide)).2]; rfl, by rw [(hT0 _ _ (by decide)).1, (hT0 _ _ (by decide)).2]; exact hst.out [(0, 20), (1, 21)] rfl rfl fun u h => ⟨h.1, trivial⟩⟩
    · rw [if_neg hat] at hE0
      by_cases hf : 300 ≤ R.l.length
      · have h300 : R.l.length = 300 := by have := hsub.2; omega
        rw [if_pos hf] at hE0
        subst hE0
        refine RunH.adv tb_ok [false, true] rfl rfl (by simp [hat] <;> omega) ?_
        refine RunH.nilrow 20 kEntry.T kEntry.sz 21 ?_
        refine RunH.nilrow 21 kEntry.T kEntry.sz 22 ?_
        refine RunH.retBoxT tb_ok nilSp Tryz.func47 rfl rfl rfl rfl rfl fun w hst => ⟨((none, 0), (none, 0)), by rw [(hT0 _ _ (by decide)).1, (hT0 _ _ (by decide)).2]; rfl, by rw [(hT0 _ _ (by decide)).1, (hT0 _ _ (by decide)).2]; exact hst.out [(0, 20), (1, 21)] rfl rfl fun u h => ⟨h.1, trivial⟩⟩
      · rw [if_neg hf] at hE0
        subst hE0
        refine RunH.adv tb_ok [false, false] rfl rfl (by simp [hat] <;> omega) ?_
        refine RunH.draw rfl [(0, some (.box m0 [s.t.av, s.y.av] 24)), (1, some (.box (m0 + 1) [.val (sumV x)] 39))] rfl 9 rfl rfl ?_
        refine RunD.adv tb_ok (by kernel_rfl) [] rfl rfl (by simp <;> omega) ?_
        refine RunD.doesB (i := 5) [] 5 (fun z : Option Addr × Nat => rowS 4 z.1 (setL R.l ⟨p, x⟩).length z.2) rfl (by kernel_rfl) rfl rfl rfl rfl Tryz.call109 (r07_With _ _ _ p x hb1) rfl rfl (fun _ => rfl) (fun _ => rfl) (fun u hu => hrow u hu.fact.2) (fun _ => rfl) (fun _ h => h) ?_
        rintro ⟨A1, c1⟩ m7 hm7
        generalize hL' : setL R.l ⟨p, x⟩ = L' at *
        refine RunD.adv tb_ok (by kernel_rfl) [] rfl rfl (by simp <;> omega) ?_
        refine RunD.doesB (i := 6) [(0, 4)] 7 (fun y : Option Addr × Nat => .st [.val (.slice (kA k A1 y.1) (kA k L'.length O.length) (kA k c1 y.2)), .val (.slice (kA k y.1 A1) (kA k O.length L'.length) (kA k y.2 c1))]) rfl (by kernel_rfl) rfl rfl rfl rfl Tryz.call108 (hIn A1 c1 L') rfl rfl (fun _ => rfl) (fun _ => rfl) (fun u hu => hu.fact.1.2) (fun _ => rfl) (fun _ h => h.1) ?_
        rintro ⟨B2, d2⟩ m8 hm8
        refine RunD.adv tb_ok (by kernel_rfl) [] rfl rfl (by simp <;> omega) ?_
        refine RunD.step tb_ok (i := 7) rfl (by kernel_rfl) rfl rfl rfl ?_ rfl (fun _ h => h.1.1) rfl ?_
        · first | trivial | (simp [AllOb, Ob.P, sum_len, sz_sum, one_int, u8V_one]; done)
        refine RunD.adv tb_ok (by kernel_rfl) [] rfl rfl (by simp <;> omega) ?_
        refine RunD.done (.inl rfl) (by kernel_rfl) ?_
        refine RunH.adv tb_ok [] rfl rfl (by simp <;> omega) ?_
        refine RunH.retBoxT tb_ok (.st [.val (.slice (kA k A1 B2) (kA k L'.length O.length) (kA k c1 d2)), .val (.slice (kA k B2 A1) (kA k O.length L'.length) (kA k d2 c1))]) Tryz.func47 rfl rfl rfl rfl rfl fun w hst => ⟨((kA k A1 B2, kA k c1 d2), (kA k B2 A1, kA k d2 c1)), ?_, ?_⟩
        · rw [← kA_len, ← kA_len]; rfl
        · exact outK k hst (j := 4) (q := 6) rfl rfl (by decide) fun u h => ⟨h.1.1.1, trivial⟩
  · rw [if_neg ha] at hE0
    subst hE0
    refine RunH.adv tb_ok [true] rfl rfl (by simp [ha] <;> omega) ?_
    refine RunH.nilrow 20 kEntry.T kEntry.sz 21 ?_
    refine RunH.nilrow 21 kEntry.T kEntry.sz 22 ?_
    refine RunH.retBoxT tb_ok nilSp Tryz.func47 rfl rfl rfl rfl rfl fun w hst => ⟨((none, 0), (none, 0)), by rw [(hT0 _ _ ha).1, (hT0 _ _ ha).2]; rfl, by rw [(hT0 _ _ ha).1, (hT0 _ _ ha).2]; exact hst.out [(0, 20), (1, 21)] rfl rfl fun u h => ⟨h.1, trivial⟩⟩

set_option maxRecDepth 10000 in
theorem r07_Set (s : Spc) (k : Int) (p : Str) (x : Sum) (h1 : s.t.l.length ≤ 1000000) (h2 : s.y.l.length ≤ 1000000) (h3 : ∀ e ∈ s.t.l, e.path.length ≤ 1000000) (h4 : ∀ e ∈ s.y.l, e.path.length ≤ 1000000) (hl_p : p.length ≤ 1000000) :
    Does Tryz.prog tb 49 [s.ev.v, intV k, strV p, sumV x] [] (fun u => s.ok u)
      (fun z : (Option Addr × Nat) × (Option Addr × Nat) => .tuple #[.agg #[.slice z.1.1 (edT (SetE s.t.l s.y.l k p) k (setL (kList k s.t.l s.y.l) ⟨p, x⟩) (kList k s.y.l s.t.l)).length z.1.2, .slice z.2.1 (edY (SetE s.t.l s.y.l k p) k (setL (kList k s.t.l s.y.l) ⟨p, x⟩) (kList k s.y.l s.t.l)).length z.2.2], intV (SetE s.t.l s.y.l k p)])
      (fun z => [(0, rowE kEntry z.1.1 z.1.2 (edT (SetE s.t.l s.y.l k p) k (setL (kList k s.t.l s.y.l) ⟨p, x⟩) (kList k s.y.l s.t.l))), (1, rowE kEntry z.2.1 z.2.2 (edY (SetE s.t.l s.y.l k p) k (setL (kList k s.t.l s.y.l) ⟨p, x⟩) (kList k s.y.l s.t.l)))]) (fun _ _ _ => True) := by
  have hl : lim = 140737488351232 := rfl
  refine Does.enter tb_ok [(0, s.ev), (1, intE k), (2, strE p), (3, sumE x)] Tryz.func49 rfl Tryz.ntmps49 rfl rfl 0 ?_
  intro B0 m0 K
  have hkl := row_kList s k
  have hb1 : (Spc.row s k).l.length ≤ 1000000 := by unfold Spc.row; split <;> assumption
  have hIn := fun A c l => r07_In s k A c l h1 h2
  have hof := fun u => r07_Of u s k
  have hask := fun u (hu : s.ok u) A c (hs : Sl kStr u A c [p]) => r07_asked u s hu h3 h4 k A c [p] hs (by simp; omega)
  have hrow := fun u (hu : s.ok u) => Spc.ok.row hu k
  have hz := fun (h : askE s.t.l s.y.l k [p] = 0) => kList_sub (askE_zero h).1
  have hE0 : SetE s.t.l s.y.l k p = if askE s.t.l s.y.l k [p] = 0 then (if isAt (kList k s.t.l s.y.l) p = true then 0 else 6) else askE s.t.l s.y.l k [p] := rfl
  rw [← hkl] at hE0 hz ⊢
  generalize hre : SetE s.t.l s.y.l k p = e at *
  have hT0 : ∀ (e : Int) (l : List Entry), e ≠ 0 → edT e k l (kList k s.y.l s.t.l) = [] ∧ edY e k l (kList k s.y.l s.t.l) = [] := fun e l h => ⟨if_neg h, if_neg h⟩
  generalize hO : kList k s.y.l s.t.l = O at *
  generalize hR : Spc.row s k = R at *
  generalize hA0 : askE s.t.l s.y.l k [p] = a0 at *
  refine RunH.adv tb_ok [] rfl rfl (by simp <;> omega) ?_
  refine RunH.gives (ho := rfl) (hw := rfl) (hd := rfl) (hf := rfl) (hes := rfl) (hc := Tryz.call90) (e := intE a0) (hC := fun u hu => hask u hu.fact.2 _ _ (Sl.own (B := B0) (hu.row (κ := kStr) (l := [p]) (id := 3) rfl) (by simp [hl]))) ?_
  intro m1 hm1
  by_cases ha : a0 = 0
  · have hsub := hz ha
    rw [if_pos ha] at hE0
    refine RunH.adv tb_ok [false] rfl rfl (by simp [ha] <;> omega) ?_
    refine RunH.gives (ho := rfl) (hw := rfl) (hd := rfl) (hf := rfl) (hes := rfl) (hc := Tryz.call79) (e := .av R.av) (hC := fun u _ => hof u) ?_
    intro m2 hm2
    refine RunH.adv tb_ok [] rfl rfl (by simp <;> omega) ?_
    refine RunH.gives (ho := rfl) (hw := rfl) (hd := rfl) (hf := rfl) (hes := rfl) (hc := Tryz.call107) (e := atV R.l p) (hC := fun u hu => r07_At u _ _ _ (hrow u hu.fact.2) p) ?_
    intro m3 hm3
    by_cases hat : isAt R.l p = true
    · rw [if_pos hat] at hE0
      subst hE0
      refine RunH.adv tb_ok [false] rfl rfl (by simp [hat] <;> omega) ?_
      refine RunH.draw rfl [(0, some (.box m0 [s.t.av, s.y.av] 24)), (1, some (.box (m0 + 1) [.val (sumV x)] 39))] rfl 9 rfl rfl ?_
      refine RunD.adv tb_ok (by kernel_rfl) [] rfl rfl (by simp <;> omega) ?_
      refine RunD.doesB (i := 5) [] 5 (fun z : Option Addr × Nat => rowS 4 z.1 (setL R.l ⟨p, x⟩).length z.2) rfl (by kernel_rfl) rfl rfl rfl rfl Tryz.call109 (r07_With _ _ _ p x hb1) rfl rfl (fun _ => rfl) (fun _ => rfl) (fun u hu => hrow u hu.fact.2) (fun _ => rfl) (fun _ h => h) ?_
      rintro ⟨A1, c1⟩ m7 hm7
      generalize hL' : setL R.l ⟨p, x⟩ = L' at *
      refine RunD.adv tb_ok (by kernel_rfl) [] rfl rfl (by simp <;> omega) ?_
      refine RunD.doesB (i := 6) [(0, 4)] 7 (fun y : Option Addr × Nat => .st [.val (.slice (kA k A1 y.1) (kA k L'.length O.length) (kA k c1 y.2)), .val (.slice (kA k y.1 A1) (kA k O.length L'.length) (kA k y.2 c1))]) rfl (by kernel_rfl) rfl rfl rfl rfl Tryz.call108 (hIn A1 c1 L') rfl rfl (fun _ => rfl) (fun _ => rfl) (fun u hu => hu.fact.1.2) (fun _ => rfl) (fun _ h => h.1) ?_
      rintro ⟨B2, d2⟩ m8 hm8
      refine RunD.adv tb_ok (by kernel_rfl) [] rfl rfl (by simp <;> omega) ?_
      refine RunD.step tb_ok (i := 7) rfl (by kernel_rfl) rfl rfl rfl ?_ rfl (fun _ h => h.1.1) rfl ?_
      · first | trivial | (simp [AllOb, Ob.P, sum_len, sz_sum, one_int, u8V_one]; done)
      refine RunD.adv tb_ok (by kernel_rfl) [] rfl rfl (by simp <;> omega) ?_
      refine RunD.done (.inl rfl) (by kernel_rfl) ?_
      refine RunH.adv tb_ok [] rfl rfl (by simp <;> omega) ?_
      refine RunH.retBoxT tb_ok (.st [.val (.slice (kA k A1 B2) (kA k L'.length O.length) (kA k c1 d2)), .val (.slice (kA k B2 A1) (kA k O.length L'.length) (kA k d2 c1))]) Tryz.func49 rfl rfl rfl rfl rfl fun w hst => ⟨((kA k A1 B2, kA k c1 d2), (kA k B2 A1, kA k d2 c1)), ?_, ?_⟩
      · rw [← kA_len, ← kA_len]; rfl
      · exact outK k hst (j := 4) (q := 6) rfl rfl (by decide) fun u h => ⟨h.1.1.1, trivial⟩
    · rw [if_neg hat] at hE0
      subst hE0
      refine RunH.adv tb_ok [true] rfl rfl (by simp [hat] <;> omega) ?_
      refine RunH.nilrow 20 kEntry.T kEntry.sz 21 ?_
      refine RunH.nilrow 21 kEntry.T kEntry.sz 22 ?_
      refine RunH.retBoxT tb_ok nilSp Tryz.func49 rfl rfl rfl rfl rfl fun w hst => ⟨((none, 0), (none, 0)), by rw [(hT0 _ _ (by decide)).1, (hT0 _ _ (by decide)).2]; rfl, by rw [(hT0 _ _ (by decide)).1, (hT0 _ _ (by decide)).2]; exact hst.out [(0, 20), (1, 21)] rfl rfl fun u h => ⟨h.1, trivial⟩⟩
  · rw [if_neg ha] at hE0
    subst hE0
    refine RunH.adv tb_ok [true] rfl rfl (by simp [ha] <;> omega) ?_
    refine RunH.nilrow 20 kEntry.T kEntry.sz 21 ?_
    refine RunH.nilrow 21 kEntry.T kEntry.sz 22 ?_
    refine RunH.retBoxT tb_ok nilSp Tryz.func49 rfl rfl rfl rfl rfl fun w hst => ⟨((none, 0), (none, 0)), by rw [(hT0 _ _ ha).1, (hT0 _ _ ha).2]; rfl, by rw [(hT0 _ _ ha).1, (hT0 _ _ ha).2]; exact hst.out [(0, 20), (1, 21)] rfl rfl fun u h => ⟨h.1, trivial⟩⟩

set_option maxRecDepth 10000 in
theorem r07_Drop (s : Spc) (k : Int) (p : Str) (h1 : s.t.l.length ≤ 1000000) (h2 : s.y.l.length ≤ 1000000) (h3 : ∀ e ∈ s.t.l, e.path.length ≤ 1000000) (h4 : ∀ e ∈ s.y.l, e.path.length ≤ 1000000) (hl_p : p.length ≤ 1000000) :
    Does Tryz.prog tb 50 [s.ev.v, intV k, strV p] [] (fun u => s.ok u)
      (fun z : (Option Addr × Nat) × (Option Addr × Nat) => .tuple #[.agg #[.slice z.1.1 (edT (DropE s.t.l s.y.l k p) k ((kList k s.t.l s.y.l).eraseIdx (posOf (kList k s.t.l s.y.l) p)) (kList k s.y.l s.t.l)).length z.1.2, .slice z.2.1 (edY (DropE s.t.l s.y.l k p) k ((kList k s.t.l s.y.l).eraseIdx (posOf (kList k s.t.l s.y.l) p)) (kList k s.y.l s.t.l)).length z.2.2], intV (DropE s.t.l s.y.l k p)])
      (fun z => [(0, rowE kEntry z.1.1 z.1.2 (edT (DropE s.t.l s.y.l k p) k ((kList k s.t.l s.y.l).eraseIdx (posOf (kList k s.t.l s.y.l) p)) (kList k s.y.l s.t.l))), (1, rowE kEntry z.2.1 z.2.2 (edY (DropE s.t.l s.y.l k p) k ((kList k s.t.l s.y.l).eraseIdx (posOf (kList k s.t.l s.y.l) p)) (kList k s.y.l s.t.l)))]) (fun _ _ _ => True) := by
  have hl : lim = 140737488351232 := rfl
  refine Does.enter tb_ok [(0, s.ev), (1, intE k), (2, strE p)] Tryz.func50 rfl Tryz.ntmps50 rfl rfl 0 ?_
  intro B0 m0 K
  have hkl := row_kList s k
  have hb1 : (Spc.row s k).l.length ≤ 1000000 := by unfold Spc.row; split <;> assumption
  have hIn := fun A c l => r07_In s k A c l h1 h2
  have hof := fun u => r07_Of u s k
  have hask := fun u (hu : s.ok u) A c (hs : Sl kStr u A c [p]) => r07_asked u s hu h3 h4 k A c [p] hs (by simp; omega)
  have hrow := fun u (hu : s.ok u) => Spc.ok.row hu k
  have hz := fun (h : askE s.t.l s.y.l k [p] = 0) => kList_sub (askE_zero h).1
  have hE0 : DropE s.t.l s.y.l k p = if askE s.t.l s.y.l k [p] = 0 then (if isAt (kList k s.t.l s.y.l) p = true then 0 else 6) else askE s.t.l s.y.l k [p] := rfl
  rw [← hkl] at hE0 hz ⊢
  generalize hre : DropE s.t.l s.y.l k p = e at *
  have hT0 : ∀ (e : Int) (l : List Entry), e ≠ 0 → edT e k l (kList k s.y.l s.t.l) = [] ∧ edY e k l (kList k s.y.l s.t.l) = [] := fun e l h => ⟨if_neg h, if_neg h⟩
  generalize hO : kList k s.y.l s.t.l = O at *
  generalize hR : Spc.row s k = R at *
  generalize hA0 : askE s.t.l s.y.l k [p] = a0 at *
  refine RunH.adv tb_ok [] rfl rfl (by simp <;> omega) ?_
  refine RunH.gives (ho := rfl) (hw := rfl) (hd := rfl) (hf := rfl) (hes := rfl) (hc := Tryz.call90) (e := intE a0) (hC := fun u hu => hask u hu.fact.2 _ _ (Sl.own (B := B0) (hu.row (κ := kStr) (l := [p]) (id := 2) rfl) (by simp [hl]))) ?_
  intro m1 hm1
  by_cases ha : a0 = 0
  · have hsub := hz ha
    rw [if_pos ha] at hE0
    refine RunH.adv tb_ok [false] rfl rfl (by simp [ha] <;> omega) ?_
    refine RunH.gives (ho := rfl) (hw := rfl) (hd := rfl) (hf := rfl) (hes := rfl) (hc := Tryz.call79) (e := .av R.av) (hC := fun u _ => hof u) ?_
    intro m2 hm2
    refine RunH.adv tb_ok [] rfl rfl (by simp <;> omega) ?_
    refine RunH.gives (ho := rfl) (hw := rfl) (hd := rfl) (hf := rfl) (hes := rfl) (hc := Tryz.call107) (e := atV R.l p) (hC := fun u hu => r07_At u _ _ _ (hrow u hu.fact.2) p) ?_
    intro m3 hm3
    by_cases hat : isAt R.l p = true
    · rw [if_pos hat] at hE0
      subst hE0
      have hpos : posOf R.l p < R.l.length := by
        unfold isAt at hat
        simp only [Bool.and_eq_true, decide_eq_true_eq] at hat
        exact hat.1
      refine RunH.adv tb_ok [false] rfl rfl (by simp [hat] <;> omega) ?_
      refine RunH.draw rfl [(0, some (.box m0 [s.t.av, s.y.av] 24))] rfl 8 rfl rfl ?_
      refine RunD.adv tb_ok (by kernel_rfl) [] rfl rfl (by simp <;> omega) ?_
      refine RunD.doesB (i := 4) [] 4 (fun z : Option Addr × Nat => rowS 3 z.1 (R.l.eraseIdx (posOf R.l p)).length z.2) rfl (by kernel_rfl) rfl rfl rfl rfl Tryz.call123 (r07_Without _ _ _ _ hpos hb1) rfl rfl (fun _ => rfl) (fun _ => rfl) (fun u hu => hrow u hu.fact.2) (fun _ => rfl) (fun _ h => h) ?_
      rintro ⟨A1, c1⟩ m7 hm7
      generalize hL' : R.l.eraseIdx (posOf R.l p) = L' at *
      refine RunD.adv tb_ok (by kernel_rfl) [] rfl rfl (by simp <;> omega) ?_
      refine RunD.doesB (i := 5) [(0, 3)] 6 (fun y : Option Addr × Nat => .st [.val (.slice (kA k A1 y.1) (kA k L'.length O.length) (kA k c1 y.2)), .val (.slice (kA k y.1 A1) (kA k O.length L'.length) (kA k y.2 c1))]) rfl (by kernel_rfl) rfl rfl rfl rfl Tryz.call108 (hIn A1 c1 L') rfl rfl (fun _ => rfl) (fun _ => rfl) (fun u hu => hu.fact.1.2) (fun _ => rfl) (fun _ h => h.1) ?_
      rintro ⟨B2, d2⟩ m8 hm8
      refine RunD.adv tb_ok (by kernel_rfl) [] rfl rfl (by simp <;> omega) ?_
      refine RunD.step tb_ok (i := 6) rfl (by kernel_rfl) rfl rfl rfl ?_ rfl (fun _ h => h.1.1) rfl ?_
      · first | trivial | (simp [AllOb, Ob.P, sum_len, sz_sum, one_int, u8V_one]; done)
      refine RunD.adv tb_ok (by kernel_rfl) [] rfl rfl (by simp <;> omega) ?_
      refine RunD.done (.inl rfl) (by kernel_rfl) ?_
      refine RunH.adv tb_ok [] rfl rfl (by simp <;> omega) ?_
      refine RunH.retBoxT tb_ok (.st [.val (.slice (kA k A1 B2) (kA k L'.length O.length) (kA k c1 d2)), .val (.slice (kA k B2 A1) (kA k O.length L'.length) (kA k d2 c1))]) Tryz.func50 rfl rfl rfl rfl rfl fun w hst => ⟨((kA k A1 B2, kA k c1 d2), (kA k B2 A1, kA k d2 c1)), ?_, ?_⟩
      · rw [← kA_len, ← kA_len]; rfl
      · exact outK k hst (j := 3) (q := 5) rfl rfl (by decide) fun u h => ⟨h.1.1.1, trivial⟩
    · rw [if_neg hat] at hE0
      subst hE0
      refine RunH.adv tb_ok [true] rfl rfl (by simp [hat] <;> omega) ?_
      refine RunH.nilrow 20 kEntry.T kEntry.sz 21 ?_
      refine RunH.nilrow 21 kEntry.T kEntry.sz 22 ?_
      refine RunH.retBoxT tb_ok nilSp Tryz.func50 rfl rfl rfl rfl rfl fun w hst => ⟨((none, 0), (none, 0)), by rw [(hT0 _ _ (by decide)).1, (hT0 _ _ (by decide)).2]; rfl, by rw [(hT0 _ _ (by decide)).1, (hT0 _ _ (by decide)).2]; exact hst.out [(0, 20), (1, 21)] rfl rfl fun u h => ⟨h.1, trivial⟩⟩
  · rw [if_neg ha] at hE0
    subst hE0
    refine RunH.adv tb_ok [true] rfl rfl (by simp [ha] <;> omega) ?_
    refine RunH.nilrow 20 kEntry.T kEntry.sz 21 ?_
    refine RunH.nilrow 21 kEntry.T kEntry.sz 22 ?_
    refine RunH.retBoxT tb_ok nilSp Tryz.func50 rfl rfl rfl rfl rfl fun w hst => ⟨((none, 0), (none, 0)), by rw [(hT0 _ _ ha).1, (hT0 _ _ ha).2]; rfl, by rw [(hT0 _ _ ha).1, (hT0 _ _ ha).2]; exact hst.out [(0, 20), (1, 21)] rfl rfl fun u h => ⟨h.1, trivial⟩⟩

set_option maxRecDepth 10000 in
theorem r07_Move (s : Spc) (k : Int) (p : Str) (q : Str) (h1 : s.t.l.length ≤ 1000000) (h2 : s.y.l.length ≤ 1000000) (h3 : ∀ e ∈ s.t.l, e.path.length ≤ 1000000) (h4 : ∀ e ∈ s.y.l, e.path.length ≤ 1000000) (hl_p : p.length ≤ 1000000) (hl_q : q.length ≤ 1000000) :
    Does Tryz.prog tb 52 [s.ev.v, intV k, strV p, strV q] [] (fun u => s.ok u)
      (fun z : (Option Addr × Nat) × (Option Addr × Nat) => .tuple #[.agg #[.slice z.1.1 (edT (MoveE s.t.l s.y.l k p q) k (moveL (kList k s.t.l s.y.l) p q) (kList k s.y.l s.t.l)).length z.1.2, .slice z.2.1 (edY (MoveE s.t.l s.y.l k p q) k (moveL (kList k s.t.l s.y.l) p q) (kList k s.y.l s.t.l)).length z.2.2], intV (MoveE s.t.l s.y.l k p q)])
      (fun z => [(0, rowE kEntry z.1.1 z.1.2 (edT (MoveE s.t.l s.y.l k p q) k (moveL (kList k s.t.l s.y.l) p q) (kList k s.y.l s.t.l))), (1, rowE kEntry z.2.1 z.2.2 (edY (MoveE s.t.l s.y.l k p q) k (moveL (kList k s.t.l s.y.l) p q) (kList k s.y.l s.t.l)))]) (fun _ _ _ => True) := by
  have hl : lim = 140737488351232 := rfl
  refine Does.enter tb_ok [(0, s.ev), (1, intE k), (2, strE p), (3, strE q)] Tryz.func52 rfl Tryz.ntmps52 rfl rfl 0 ?_
  intro B0 m0 K
  have hkl := row_kList s k
  have hb1 : (Spc.row s k).l.length ≤ 1000000 := by unfold Spc.row; split <;> assumption
  have hIn := fun A c l => r07_In s k A c l h1 h2
  have hof := fun u => r07_Of u s k
  have hask := fun u (hu : s.ok u) A c (hs : Sl kStr u A c [p, q]) => r07_asked u s hu h3 h4 k A c [p, q] hs (by simp; omega)
  have hrow := fun u (hu : s.ok u) => Spc.ok.row hu k
  have hz := fun (h : askE s.t.l s.y.l k [p, q] = 0) => kList_sub (askE_zero h).1
  have hE0 : MoveE s.t.l s.y.l k p q = if askE s.t.l s.y.l k [p, q] = 0 then (if isAt (kList k s.t.l s.y.l) p = true then (if isAt (kList k s.t.l s.y.l) q = true then 5 else 0) else 6) else askE s.t.l s.y.l k [p, q] := rfl
  rw [← hkl] at hE0 hz ⊢
  generalize hre : MoveE s.t.l s.y.l k p q = e at *
  have hT0 : ∀ (e : Int) (l : List Entry), e ≠ 0 → edT e k l (kList k s.y.l s.t.l) = [] ∧ edY e k l (kList k s.y.l s.t.l) = [] := fun e l h => ⟨if_neg h, if_neg h⟩
  generalize hO : kList k s.y.l s.t.l = O at *
  generalize hR : Spc.row s k = R at *
  generalize hA0 : askE s.t.l s.y.l k [p, q] = a0 at *
  refine RunH.adv tb_ok [] rfl rfl (by simp <;> omega) ?_
  refine RunH.gives (ho := rfl) (hw := rfl) (hd := rfl) (hf := rfl) (hes := rfl) (hc := Tryz.call90) (e := intE a0) (hC := fun u hu => hask u hu.fact.2 _ _ (Sl.own (B := B0) (hu.row (κ := kStr) (l := [p, q]) (id := 2) rfl) (by simp [hl]))) ?_
  intro m1 hm1
  by_cases ha : a0 = 0
  · have hsub := hz ha
    rw [if_pos ha] at hE0
    refine RunH.adv tb_ok [false] rfl rfl (by simp [ha] <;> omega) ?_
    refine RunH.gives (ho := rfl) (hw := rfl) (hd := rfl) (hf := rfl) (hes := rfl) (hc := Tryz.call79) (e := .av R.av) (hC := fun u _ => hof u) ?_
    intro m2 hm2
    refine RunH.adv tb_ok [] rfl rfl (by simp <;> omega) ?_
    refine RunH.gives (ho := rfl) (hw := rfl) (hd := rfl) (hf := rfl) (hes := rfl) (hc := Tryz.call107) (e := atV R.l p) (hC := fun u hu => r07_At u _ _ _ (hrow u hu.fact.2) p) ?_
    intro m3 hm3
    by_cases hat : isAt R.l p = true
    · rw [if_pos hat] at hE0
      have hpos : posOf R.l p < R.l.length := by
        unfold isAt at hat
        simp only [Bool.and_eq_true, decide_eq_true_eq] at hat
        exact hat.1
      refine RunH.adv tb_ok [false] rfl rfl (by simp [hat] <;> omega) ?_
      refine RunH.gives (ho := rfl) (hw := rfl) (hd := rfl) (hf := rfl) (hes := rfl) (hc := Tryz.call107) (e := atV R.l q) (hC := fun u hu => r07_At u _ _ _ (hrow u hu.fact.2) q) ?_
      intro m4 hm4
      by_cases haq : isAt R.l q = true
      · rw [if_pos haq] at hE0
        subst hE0
        refine RunH.adv tb_ok [true] rfl rfl (by simp [haq] <;> omega) ?_
        refine RunH.nilrow 20 kEntry.T kEntry.sz 21 ?_
        refine RunH.nilrow 21 kEntry.T kEntry.sz 22 ?_
        refine RunH.retBoxT tb_ok nilSp Tryz.func52 rfl rfl rfl rfl rfl fun w hst => ⟨((none, 0), (none, 0)), by rw [(hT0 _ _ (by decide)).1, (hT0 _ _ (by decide)).2]; rfl, by rw [(hT0 _ _ (by decide)).1, (hT0 _ _ (by decide)).2]; exact hst.out [(0, 20), (1, 21)] rfl rfl fun u h => ⟨h.1, trivial⟩⟩
      · rw [if_neg haq] at hE0
        subst hE0
        refine RunH.pure (fun u h => (hrow u h.2).ptr hpos) fun hptr => ?_
        have hm : moveL R.l p q = setL (R.l.eraseIdx (posOf R.l p)) ⟨q, R.l[posOf R.l p].sum⟩ := by
          unfold moveL; rw [List.getD_eq_getElem?_getD, List.getElem?_eq_getElem hpos]; rfl
        have hel : (R.l.eraseIdx (posOf R.l p)).length ≤ 1000000 := Nat.le_trans (List.length_eraseIdx_le ..) hb1
        refine RunH.adv tb_ok [false] rfl rfl (by simp [haq] <;> omega) ?_
        refine RunH.draw rfl [(0, some (.box m0 [s.t.av, s.y.av] 24))] rfl 15 rfl rfl ?_
        refine RunD.adv tb_ok (by kernel_rfl) [] rfl rfl (by simp [hptr] <;> omega) ?_
        refine RunD.load (by kernel_rfl) (i := 10) (sumE R.l[posOf R.l p].sum) rfl rfl rfl rfl rfl rfl (fun u hu => (hrow u hu.2).sum hpos) ?_
        refine RunD.adv tb_ok (by kernel_rfl) [] rfl rfl (by simp <;> omega) ?_
        refine RunD.doesB (i := 4) [] 4 (fun z : Option Addr × Nat => rowS 3 z.1 (R.l.eraseIdx (posOf R.l p)).length z.2) rfl (by kernel_rfl) rfl rfl rfl rfl Tryz.call123 (r07_Without _ _ _ _ hpos hb1) rfl rfl (fun _ => rfl) (fun _ => rfl) (fun u hu => hrow u hu.fact.2) (fun _ => rfl) (fun _ h => h) ?_
        rintro ⟨A0, c0⟩ m6 hm6
        have hW := r07_With A0 c0 (R.l.eraseIdx (posOf R.l p)) q R.l[posOf R.l p].sum hel
        rw [← hm] at hW
        refine RunD.adv tb_ok (by kernel_rfl) [] rfl rfl (by simp <;> omega) ?_
        refine RunD.doesB (i := 11) [] 5 (fun z : Option Addr × Nat => rowS 4 z.1 (moveL R.l p q).length z.2) rfl (by kernel_rfl) rfl rfl rfl rfl Tryz.call109 hW rfl rfl (fun _ => rfl) (fun _ => rfl) (fun u hu => Sl.own (B := B0) (hu.row (κ := kEntry) (l := R.l.eraseIdx (posOf R.l p)) (id := 3) rfl) (by omega)) (fun _ => rfl) (fun _ h => h.1) ?_
        rintro ⟨A1, c1⟩ m7 hm7
        generalize hL' : moveL R.l p q = L' at *
        refine RunD.adv tb_ok (by kernel_rfl) [] rfl rfl (by simp <;> omega) ?_
        refine RunD.doesB (i := 12) [(0, 4)] 7 (fun y : Option Addr × Nat => .st [.val (.slice (kA k A1 y.1) (kA k L'.length O.length) (kA k c1 y.2)), .val (.slice (kA k y.1 A1) (kA k O.length L'.length) (kA k y.2 c1))]) rfl (by kernel_rfl) rfl rfl rfl rfl Tryz.call108 (hIn A1 c1 L') rfl rfl (fun _ => rfl) (fun _ => rfl) (fun u hu => hu.fact.1.1.2) (fun _ => rfl) (fun _ h => h.1.1) ?_
        rintro ⟨B2, d2⟩ m8 hm8
        refine RunD.adv tb_ok (by kernel_rfl) [] rfl rfl (by simp <;> omega) ?_
        refine RunD.step tb_ok (i := 13) rfl (by kernel_rfl) rfl rfl rfl ?_ rfl (fun _ h => h.1.1.1) rfl ?_
        · first | trivial | (simp [AllOb, Ob.P, sum_len, sz_sum, one_int, u8V_one]; done)
        refine RunD.adv tb_ok (by kernel_rfl) [] rfl rfl (by simp <;> omega) ?_
        refine RunD.done (.inl rfl) (by kernel_rfl) ?_
        refine RunH.adv tb_ok [] rfl rfl (by simp <;> omega) ?_
        refine RunH.retBoxT tb_ok (.st [.val (.slice (kA k A1 B2) (kA k L'.length O.length) (kA k c1 d2)), .val (.slice (kA k B2 A1) (kA k O.length L'.length) (kA k d2 c1))]) Tryz.func52 rfl rfl rfl rfl rfl fun w hst => ⟨((kA k A1 B2, kA k c1 d2), (kA k B2 A1, kA k d2 c1)), ?_, ?_⟩
        · rw [← kA_len, ← kA_len]; rfl
        · exact outK k hst (j := 4) (q := 6) rfl rfl (by decide) fun u h => ⟨h.1.1.1.1, trivial⟩
    · rw [if_neg hat] at hE0
      subst hE0
      refine RunH.adv tb_ok [true] rfl rfl (by simp [hat] <;> omega) ?_
      refine RunH.nilrow 20 kEntry.T kEntry.sz 21 ?_
      refine RunH.nilrow 21 kEntry.T kEntry.sz 22 ?_
      refine RunH.retBoxT tb_ok nilSp Tryz.func52 rfl rfl rfl rfl rfl fun w hst => ⟨((none, 0), (none, 0)), by rw [(hT0 _ _ (by decide)).1, (hT0 _ _ (by decide)).2]; rfl, by rw [(hT0 _ _ (by decide)).1, (hT0 _ _ (by decide)).2]; exact hst.out [(0, 20), (1, 21)] rfl rfl fun u h => ⟨h.1, trivial⟩⟩
  · rw [if_neg ha] at hE0
    subst hE0
    refine RunH.adv tb_ok [true] rfl rfl (by simp [ha] <;> omega) ?_
    refine RunH.nilrow 20 kEntry.T kEntry.sz 21 ?_
    refine RunH.nilrow 21 kEntry.T kEntry.sz 22 ?_
    refine RunH.retBoxT tb_ok nilSp Tryz.func52 rfl rfl rfl rfl rfl fun w hst => ⟨((none, 0), (none, 0)), by rw [(hT0 _ _ ha).1, (hT0 _ _ ha).2]; rfl, by rw [(hT0 _ _ ha).1, (hT0 _ _ ha).2]; exact hst.out [(0, 20), (1, 21)] rfl rfl fun u h => ⟨h.1, trivial⟩⟩
end Go.Proofs.YtagnkcdhenilbaaGreatDoor
