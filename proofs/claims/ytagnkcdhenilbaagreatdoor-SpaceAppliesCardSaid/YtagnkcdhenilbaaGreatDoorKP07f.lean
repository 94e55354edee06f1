/-
A part of the proofs of the laws of a seat: contracts of functions and lemmas on them; the listed package variables hold what the program's text lays. No further condition.
-/
import Derived.Test.YtagnkcdhenilbaaGreatDoorKSEnds
import Derived.Test.YtagnkcdhenilbaaGreatDoorKPS22
set_option linter.unusedVariables false
set_option linter.unusedSectionVars false
set_option linter.unusedSimpArgs false
namespace Go.Proofs.YtagnkcdhenilbaaGreatDoor
open Go V

theorem r07_With (A : Option Addr) (c : Nat) (l : List Entry) (p : Str) (x : Sum) (hn : l.length ≤ 1000000) :
    Does Tryz.prog tb 109 [.slice A l.length c, strV p, sumV x] [] (fun u => Sl kEntry u A c l) (fun z : Option Addr × Nat => .slice z.1 (setL l ⟨p, x⟩).length z.2) (fun z => [(0, rowE kEntry z.1 z.2 (setL l ⟨p, x⟩))]) (fun _ _ _ => True) := by
  have hl : lim = 140737488351232 := rfl
  refine Does.enter tb_ok [(0, slE A l.length c), (1, strE p), (2, sumE x)] Tryz.func109 rfl Tryz.ntmps109 rfl rfl 0 ?_
  intro B0 m0 K
  refine RunH.adv tb_ok [] rfl rfl (by simp <;> omega) ?_
  refine RunH.gives (ho := rfl) (hw := rfl) (hd := rfl) (hf := rfl) (hes := rfl) (hc := Tryz.call107) (e := atV l p) (hC := fun u hu => r07_At u A c l hu.fact.2 p) ?_
  intro m1 hm1
  have hpl := posOf_le l p
  have htk : (l.take (posOf l p)).length = posOf l p := by rw [List.length_take]; omega
  refine RunH.adv tb_ok [] rfl rfl (by simp <;> omega) ?_
  refine RunH.pure (fun u h => h.2.cap) fun hcap => ?_
  apply RunH.joinK (α := Option Addr × Nat) (fun z => [(0, slE A l.length c), (7, intE (posOf l p)), (8, boolE (isAt l p)), (9, rowS 50 z.1 (l.take (posOf l p) ++ [(⟨p, x⟩ : Entry)]).length z.2)])
    (fun z => [(50, rowE kEntry z.1 z.2 (l.take (posOf l p) ++ [⟨p, x⟩]))]) (fun _ u => K u ∧ Sl kEntry u A c l)
  · refine RunH.draw rfl [(0, some (.box m0 [.val (sumV x)] 39))] rfl 11 rfl rfl ?_
    refine RunD.adv tb_ok (by kernel_rfl) [] rfl rfl (by simp <;> omega) ?_
    refine RunD.two (i := 0) (j := 8) (by kernel_rfl) ?_ ?_
    · refine opD_step tb_ok (nx := 50) (i := 0) rfl rfl rfl rfl ?_ rfl (fun _ h => h) ⟨rfl, rfl⟩ ?_
      · first | trivial | (simp [AllOb, Ob.P, sum_len, sz_sum, one_int, u8V_one]; done)
      refine RunD.adv tb_ok (by kernel_rfl) [] rfl rfl (by simp <;> omega) ?_
      refine RunD.two (i := 4) (j := 8) (by kernel_rfl) ?_ ?_
      · refine opD_appendK (nx := 70) (i := 4) (κ := kEntry) (id := 50) (r := l.take (posOf l p)) (l := []) rfl rfl rfl rfl rfl rfl elt_entry rfl (by rw [htk]; rfl) (fun w hst => (Go.Proofs.YtagnkcdhenilbaaGreatDoor.Sl.take hst.fact.2 (posOf l p) hpl).lies) (by simp; omega) (by simp; omega) (fun _ _ => rfl) (fun _ h => h) ?_
        intro A1 c1 m4 hm4
        refine RunD.adv tb_ok (by kernel_rfl) [] rfl rfl (by simp <;> omega) ?_
        refine RunD.step tb_ok (nx := 58) (i := 8) rfl (by kernel_rfl) rfl rfl rfl ?_ rfl (fun _ h => h) ⟨rfl, rfl⟩ ?_
        · first | trivial | (simp [AllOb, Ob.P, sum_len, sz_sum, one_int, u8V_one]; done)
        refine RunD.adv tb_ok (by kernel_rfl) [] rfl rfl (by simp <;> omega) ?_
        refine RunD.appendK (nx := 70) (i := 9) (κ := kEntry) (id := 50) (r := [⟨p, x⟩]) (l := l.take (posOf l p)) rfl (by kernel_rfl) rfl rfl rfl rfl rfl elt_entry rfl rfl (fun w hst => hst.liesRow (id := 58) (κ := kEntry) (l := [⟨p, x⟩]) rfl (by simp [hl])) (by simp; omega) (by simp; omega) (fun _ _ => rfl) (fun _ h => h) ?_
        intro A2 c2 m9 hm9
        refine RunD.adv tb_ok (by kernel_rfl) [] rfl rfl (by simp <;> omega) ?_
        refine RunD.done (.inl rfl) (by kernel_rfl) ?_
        refine RunH.meetS (A2, c2) [(50, 50)] (.head _) rfl rfl rfl fun _ h => h
      · refine opD_step tb_ok (nx := 58) (i := 8) rfl rfl rfl rfl ?_ rfl (fun _ h => h) ⟨rfl, rfl⟩ ?_
        · first | trivial | (simp [AllOb, Ob.P, sum_len, sz_sum, one_int, u8V_one]; done)
        refine RunD.adv tb_ok (by kernel_rfl) [] rfl rfl (by simp <;> omega) ?_
        refine RunD.appendK (nx := 70) (i := 4) (κ := kEntry) (id := 50) (r := l.take (posOf l p)) (l := []) rfl (by kernel_rfl) rfl rfl rfl rfl rfl elt_entry rfl (by rw [htk]; rfl) (fun w hst => (Go.Proofs.YtagnkcdhenilbaaGreatDoor.Sl.take hst.fact.2 (posOf l p) hpl).lies) (by simp; omega) (by simp; omega) (fun _ _ => rfl) (fun _ h => h) ?_
        intro A1 c1 m4 hm4
        refine RunD.adv tb_ok (by kernel_rfl) [] rfl rfl (by simp <;> omega) ?_
        refine RunD.appendK (nx := 70) (i := 9) (κ := kEntry) (id := 50) (r := [⟨p, x⟩]) (l := l.take (posOf l p)) rfl (by kernel_rfl) rfl rfl rfl rfl rfl elt_entry rfl rfl (fun w hst => hst.liesRow (id := 58) (κ := kEntry) (l := [⟨p, x⟩]) rfl (by simp [hl])) (by simp; omega) (by simp; omega) (fun _ _ => rfl) (fun _ h => h) ?_
        intro A2 c2 m9 hm9
        refine RunD.adv tb_ok (by kernel_rfl) [] rfl rfl (by simp <;> omega) ?_
        refine RunD.done (.inl rfl) (by kernel_rfl) ?_
        refine RunH.meetS (A2, c2) [(50, 50)] (.head _) rfl rfl rfl fun _ h => h
    · refine opD_step tb_ok (nx := 58) (i := 8) rfl rfl rfl rfl ?_ rfl (fun _ h => h) ⟨rfl, rfl⟩ ?_
      · first | trivial | (simp [AllOb, Ob.P, sum_len, sz_sum, one_int, u8V_one]; done)
      refine RunD.adv tb_ok (by kernel_rfl) [] rfl rfl (by simp <;> omega) ?_
      refine RunD.step tb_ok (nx := 50) (i := 0) rfl (by kernel_rfl) rfl rfl rfl ?_ rfl (fun _ h => h) ⟨rfl, rfl⟩ ?_
      · first | trivial | (simp [AllOb, Ob.P, sum_len, sz_sum, one_int, u8V_one]; done)
      refine RunD.adv tb_ok (by kernel_rfl) [] rfl rfl (by simp <;> omega) ?_
      refine RunD.appendK (nx := 70) (i := 4) (κ := kEntry) (id := 50) (r := l.take (posOf l p)) (l := []) rfl (by kernel_rfl) rfl rfl rfl rfl rfl elt_entry rfl (by rw [htk]; rfl) (fun w hst => (Go.Proofs.YtagnkcdhenilbaaGreatDoor.Sl.take hst.fact.2 (posOf l p) hpl).lies) (by simp; omega) (by simp; omega) (fun _ _ => rfl) (fun _ h => h) ?_
      intro A1 c1 m4 hm4
      refine RunD.adv tb_ok (by kernel_rfl) [] rfl rfl (by simp <;> omega) ?_
      refine RunD.appendK (nx := 70) (i := 9) (κ := kEntry) (id := 50) (r := [⟨p, x⟩]) (l := l.take (posOf l p)) rfl (by kernel_rfl) rfl rfl rfl rfl rfl elt_entry rfl rfl (fun w hst => hst.liesRow (id := 58) (κ := kEntry) (l := [⟨p, x⟩]) rfl (by simp [hl])) (by simp; omega) (by simp; omega) (fun _ _ => rfl) (fun _ h => h) ?_
      intro A2 c2 m9 hm9
      refine RunD.adv tb_ok (by kernel_rfl) [] rfl rfl (by simp <;> omega) ?_
      refine RunD.done (.inl rfl) (by kernel_rfl) ?_
      refine RunH.meetS (A2, c2) [(50, 50)] (.head _) rfl rfl rfl fun _ h => h
  rintro ⟨A2, c2⟩ m2
  have hlen : (l.take (posOf l p) ++ [(⟨p, x⟩ : Entry)]).length = posOf l p + 1 := by rw [List.length_append, htk]; rfl
  by_cases ha : isAt l p = true
  · have hpos : posOf l p < l.length := by
      unfold isAt at ha
      simp only [Bool.and_eq_true, decide_eq_true_eq] at ha
      exact ha.1
    have hset : setL l ⟨p, x⟩ = (l.take (posOf l p) ++ [⟨p, x⟩]) ++ l.drop (posOf l p + 1) := by
      unfold setL; rw [if_pos ha, List.set_eq_take_append_cons_drop]; simp [hpos]
    have h1 : ((posOf l p : Int) + 1).toNat = posOf l p + 1 := by omega
    have hdl : (l.drop (posOf l p + 1)).length = l.length - (posOf l p + 1) := List.length_drop ..
    refine RunH.adv tb_ok [true] rfl rfl (by simp [ha] <;> omega) ?_
    refine RunH.appendK (κ := kEntry) (id := 50) (r := l.drop (posOf l p + 1)) (l := l.take (posOf l p) ++ [⟨p, x⟩]) (A2 := subA A (posOf l p + 1) c kEntry.sz) (c2 := c - (posOf l p + 1)) rfl rfl rfl rfl rfl rfl elt_entry rfl (by rw [hdl]; rfl) (fun u hu => (hu.fact.2.drop (posOf l p + 1) (by omega)).lies) (by rw [hlen, hdl]; omega) (by rw [hlen, hdl]; omega) ?_
    intro A3 c3 m3 hm3
    refine RunH.adv tb_ok [] rfl rfl (by simp <;> omega) ?_
    rw [← hset]
    refine RunH.ret1 Tryz.func109 rfl rfl fun w hst => ⟨(A3, c3), rfl, hst.out [(0, 50)] rfl rfl fun u h => ⟨h.1, trivial⟩⟩
  · have hset : setL l ⟨p, x⟩ = (l.take (posOf l p) ++ [⟨p, x⟩]) ++ l.drop (posOf l p) := by
      unfold setL insL; rw [if_neg ha]; simp
    have hdl : (l.drop (posOf l p)).length = l.length - posOf l p := List.length_drop ..
    refine RunH.adv tb_ok [false] rfl rfl (by simp [ha] <;> omega) ?_
    refine RunH.appendK (κ := kEntry) (id := 50) (r := l.drop (posOf l p)) (l := l.take (posOf l p) ++ [⟨p, x⟩]) (A2 := subA A (posOf l p) c kEntry.sz) (c2 := c - posOf l p) rfl rfl rfl rfl rfl rfl elt_entry rfl (by rw [hdl]; rfl) (fun u hu => (hu.fact.2.drop (posOf l p) (by omega)).lies) (by rw [hlen, hdl]; omega) (by rw [hlen, hdl]; omega) ?_
    intro A3 c3 m3 hm3
    refine RunH.adv tb_ok [] rfl rfl (by simp <;> omega) ?_
    rw [← hset]
    refine RunH.ret1 Tryz.func109 rfl rfl fun w hst => ⟨(A3, c3), rfl, hst.out [(0, 50)] rfl rfl fun u h => ⟨h.1, trivial⟩⟩
--ENDWITH
end Go.Proofs.YtagnkcdhenilbaaGreatDoor

namespace Go.Proofs.YtagnkcdhenilbaaGreatDoor
open Go V

theorem r07_Without (A : Option Addr) (c : Nat) (l : List Entry) (i : Nat) (hi : i < l.length) (hn : l.length ≤ 1000000) :
    Does Tryz.prog tb 123 [.slice A l.length c, intV i] [] (fun u => Sl kEntry u A c l) (fun z : Option Addr × Nat => .slice z.1 (l.eraseIdx i).length z.2) (fun z => [(0, rowE kEntry z.1 z.2 (l.eraseIdx i))]) (fun _ _ _ => True) := by
  have hl : lim = 140737488351232 := rfl
  refine Does.enter tb_ok [(0, slE A l.length c), (1, intE i)] Tryz.func123 rfl Tryz.ntmps123 rfl rfl 0 ?_
  intro B0 m0 K
  refine RunH.adv tb_ok [] rfl rfl (by simp <;> omega) ?_
  refine RunH.pure (fun u h => h.2.cap) fun hcap => ?_
  have htk : (l.take i).length = i := by rw [List.length_take]; omega
  have hdl : (l.drop (i + 1)).length = l.length - (i + 1) := List.length_drop ..
  refine RunH.draw rfl [] rfl 11 rfl rfl ?_
  refine RunD.adv tb_ok (by kernel_rfl) [] rfl rfl (by simp <;> omega) ?_
  refine RunD.step tb_ok (nx := 50) (i := 0) rfl (by kernel_rfl) rfl rfl rfl ?_ rfl (fun _ h => h) ⟨rfl, rfl⟩ ?_
  · first | trivial | (simp [AllOb, Ob.P]; done)
  refine RunD.adv tb_ok (by kernel_rfl) [] rfl rfl (by simp <;> omega) ?_
  refine RunD.appendK (nx := 70) (i := 4) (κ := kEntry) (id := 50) (r := l.take i) (l := []) rfl (by kernel_rfl) rfl rfl rfl rfl rfl elt_entry rfl (by rw [htk]; rfl) (fun w hst => (Go.Proofs.YtagnkcdhenilbaaGreatDoor.Sl.take hst.fact.2 i (by omega)).lies) (by simp; omega) (by simp; omega) (fun _ _ => rfl) (fun _ h => h) ?_
  intro A1 c1 m1 hm1
  refine RunD.adv tb_ok (by kernel_rfl) [] rfl rfl (by simp <;> omega) ?_
  refine RunD.appendK (nx := 70) (i := 9) (κ := kEntry) (id := 50) (r := l.drop (i + 1)) (l := l.take i) (A2 := subA A (i + 1) c kEntry.sz) (c2 := c - (i + 1)) rfl (by kernel_rfl) rfl rfl rfl rfl rfl elt_entry rfl (by rw [hdl]; rfl) (fun w hst => (hst.fact.2.drop (i + 1) (by omega)).lies) (by rw [htk, hdl]; omega) (by rw [htk, hdl]; omega) (fun _ _ => rfl) (fun _ h => h) ?_
  intro A2 c2 m2 hm2
  refine RunD.adv tb_ok (by kernel_rfl) [] rfl rfl (by simp <;> omega) ?_
  refine RunD.done (.inl rfl) (by kernel_rfl) ?_
  refine RunH.adv tb_ok [] rfl rfl (by simp <;> omega) ?_
  rw [← List.eraseIdx_eq_take_drop_succ]
  refine RunH.ret1 Tryz.func123 rfl rfl fun w hst => ⟨(A2, c2), rfl, hst.out [(0, 50)] rfl rfl fun u h => ⟨h.1, trivial⟩⟩

theorem r07_In (s : Spc) (k : Int) (A : Option Addr) (c : Nat) (l : List Entry) (h1 : s.t.l.length ≤ 1000000) (h2 : s.y.l.length ≤ 1000000) :
    Does Tryz.prog tb 108 [s.ev.v, intV k, .slice A l.length c] [(0, rowE kEntry A c l)] (fun u => s.ok u)
      (fun y : Option Addr × Nat => .agg #[.slice (kA k A y.1) (kA k l.length (kList k s.y.l s.t.l).length) (kA k c y.2), .slice (kA k y.1 A) (kA k (kList k s.y.l s.t.l).length l.length) (kA k y.2 c)])
      (fun y => [(0, rowE kEntry A c l), (1, rowE kEntry y.1 y.2 (kList k s.y.l s.t.l))]) (fun _ _ _ => True) := by
  have hl : lim = 140737488351232 := rfl
  by_cases hk : k = 1
  · simp only [kA, kList, if_pos hk]
    refine Does.enter tb_ok [(0, s.ev), (1, intE k), (2, rowS 0 A l.length c)] Tryz.func108 rfl Tryz.ntmps108 rfl rfl 1 ?_
    intro B0 m0 K
    refine RunH.adv tb_ok [] rfl rfl (by simp <;> omega) ?_
    refine RunH.doesB [] 5 (hc := Tryz.call16) (ho := rfl) (hw := rfl) (hd := rfl) (hf := rfl) (hes := rfl) (hσ := rfl) (hn := rfl) (hV := fun _ => rfl) (hG := fun _ => rfl) (e := fun y => spV s y) (hC := r07_Own s h1 h2) (hp := fun u hu => hu.fact.2) ?_
    rintro ⟨⟨A1, c1⟩, ⟨B1, d1⟩⟩ m2 hm2
    refine RunH.drop ?_
    refine RunH.adv tb_ok [true] rfl rfl (by simp <;> omega) ?_
    exact RunH.retBox tb_ok (.st [.row 0 (.slice A l.length c), .val (.slice B1 s.y.l.length d1)]) Tryz.func108 rfl rfl rfl rfl fun w hst => ⟨(B1, d1), rfl, hst.out [(0, 0), (1, 4)] rfl rfl fun u h => ⟨h.1, trivial⟩⟩
  · simp only [kA, kList, if_neg hk]
    refine Does.enter tb_ok [(0, s.ev), (1, intE k), (2, rowS 0 A l.length c)] Tryz.func108 rfl Tryz.ntmps108 rfl rfl 1 ?_
    intro B0 m0 K
    refine RunH.adv tb_ok [] rfl rfl (by simp <;> omega) ?_
    refine RunH.doesB [] 5 (hc := Tryz.call16) (ho := rfl) (hw := rfl) (hd := rfl) (hf := rfl) (hes := rfl) (hσ := rfl) (hn := rfl) (hV := fun _ => rfl) (hG := fun _ => rfl) (e := fun y => spV s y) (hC := r07_Own s h1 h2) (hp := fun u hu => hu.fact.2) ?_
    rintro ⟨⟨A1, c1⟩, ⟨B1, d1⟩⟩ m2 hm2
    refine RunH.drop ?_
    refine RunH.adv tb_ok [false] rfl rfl (by simp <;> omega) ?_
    exact RunH.retBox tb_ok (.st [.val (.slice A1 s.t.l.length c1), .row 0 (.slice A l.length c)]) Tryz.func108 rfl rfl rfl rfl fun w hst => ⟨(A1, c1), rfl, hst.out [(0, 0), (1, 3)] rfl rfl fun u h => ⟨h.1, trivial⟩⟩
end Go.Proofs.YtagnkcdhenilbaaGreatDoor

namespace Go.Proofs.YtagnkcdhenilbaaGreatDoor
open Go V

end Go.Proofs.YtagnkcdhenilbaaGreatDoor
