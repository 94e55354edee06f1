/-
A part of the proofs of the laws of a seat: contracts of functions and lemmas on them; the listed package variables hold what the program's text lays. No further condition.
-/
import Derived.Test.YtagnkcdhenilbaaGreatDoorKPC3
set_option linter.unusedVariables false
set_option linter.unusedSectionVars false
set_option linter.unusedSimpArgs false
namespace Go.Proofs.YtagnkcdhenilbaaGreatDoor
open Go V RowKit

def comL (cs : List Com) (S : List Sum) (x y : Sum) : List Sum := keepL (fun s => !hasD (ancL cs S x) s || !hasD (ancL cs S y) s) S
def baseL (cs : List Com) (S : List Sum) (x y : Sum) : List Sum := keepL (fun s => (comL cs S x y).any fun t => !decide (t = s) && hasD (ancL cs S t) s) (comL cs S x y)
def bases (cs : List Com) (x y : Sum) : Int × List Sum :=
  if (hist cs).1 = 0 then (if hasD (hist cs).2 x = true then (if hasD (hist cs).2 y = true then (0, baseL cs (hist cs).2 x y) else (6, [])) else (6, [])) else ((hist cs).1, [])

theorem objExt {w : World} {B0 : Nat} {H : Heap} {I : World → Prop} {id b : Nat} {o : Obj} (hst : St tb B0 H I w) (hH : lookH H id = some (.obj b o)) : ∀ u, Ext w u → u.heap[b]? = some o := fun u hu => by
  have ho := hst.holds id _ hH
  rw [hu.block b (Array.getElem?_eq_some_iff.1 ho.2).1]
  exact ho.2

theorem keepL_mem {p : Sum → Bool} {l : List Sum} {t : Sum} (h : t ∈ keepL p l) : t ∈ l := (List.mem_filter.1 h).1
theorem hasD_mem {l : List Sum} {t : Sum} (h : t ∈ l) : hasD l t = true := by
  unfold hasD; rw [List.any_eq_true]; exact ⟨t, h, by simp⟩

set_option maxRecDepth 10000 in
theorem Bases_spec (LA : Option Addr) (lc : Nat) (cs : List Com) (x y : Sum) :
    Does Tryz.prog tb 63 [.slice LA cs.length lc, sumV x, sumV y] [] (fun u => Glob u ∧ Sl kCom u LA lc cs ∧ ∀ q ∈ cs, Sl kSum u q.ps.A q.ps.c q.ps.l) (fun z : Option Addr × Nat => .tuple #[.slice z.1 (bases cs x y).2.length z.2, intV (bases cs x y).1]) (fun z => [(0, rowE kSum z.1 z.2 (bases cs x y).2)]) (fun _ _ _ => True) := by
  have hl : lim = 140737488351232 := rfl
  refine Does.enter tb_ok [(0, slE LA cs.length lc), (1, sumE x), (2, sumE y)] Tryz.func63 rfl Tryz.ntmps63 rfl rfl 0 ?_
  intro B0 m0 K
  generalize hre : bases cs x y = e
  have hE := hre.symm
  unfold bases at hE
  refine RunH.adv tb_ok [] rfl rfl (by simp [AllOb, Ob.P, sum_len, sz_sum, one_int, u8V_one]) ?_
  refine RunH.doesB [] 4 (hc := Tryz.call58) (ho := rfl) (hw := rfl) (hd := rfl) (hf := rfl) (hes := rfl) (hσ := rfl) (hn := rfl) (hV := fun _ => rfl) (hG := fun _ => rfl) (e := fun z : Option Addr × Nat => .av (.val (.tuple #[.slice z.1 (hist cs).2.length z.2, intV (hist cs).1]))) (hC := History_spec LA lc cs) (hp := fun u hu => hu.fact.2) ?_
  rintro ⟨SA, sc⟩ ms hms
  refine RunH.drop ?_
  by_cases h0 : (hist cs).1 = 0
  · rw [if_pos h0] at hE
    have hh : hist cs = (0, (hist cs).2) := by rw [← h0]
    obtain ⟨hlen, hb60, hpar⟩ := hist_ok hh
    generalize hS : (hist cs).2 = S at *
    refine RunH.adv tb_ok [false] rfl rfl (by simp [h0] <;> omega) ?_
    refine RunH.gives (ho := rfl) (hw := rfl) (hd := rfl) (hf := rfl) (hes := rfl) (hc := Tryz.call68) (e := boolE (hasD S x)) (hC := fun u hu => conD_spec u SA sc S (Sl.own (B := B0) (hu.row (κ := kSum) (id := 3) (l := S) rfl) (by omega)) x) ?_
    intro m1 hm1
    by_cases hx : hasD S x = true
    · rw [if_pos hx] at hE
      refine RunH.adv tb_ok [false] rfl rfl (by simp [hx] <;> omega) ?_
      refine RunH.gives (ho := rfl) (hw := rfl) (hd := rfl) (hf := rfl) (hes := rfl) (hc := Tryz.call68) (e := boolE (hasD S y)) (hC := fun u hu => conD_spec u SA sc S (Sl.own (B := B0) (hu.row (κ := kSum) (id := 3) (l := S) rfl) (by omega)) y) ?_
      intro M0 hM0
      by_cases hy : hasD S y = true
      · rw [if_pos hy] at hE
        refine RunH.adv tb_ok [false] rfl rfl (by simp [hy] <;> omega) ?_
        apply RunH.joinK (α := Nat × Nat × Nat × Nat) (fun z => [(3, .av (.box 0 m0 0)), (8, .av (.box 4 ms 0)), (10, .av (.box 7 z.2.2.1 0)), (11, .av (.box 8 z.2.2.2 0))])
          (fun z => [(0, some (.box m0 [.val (.slice LA cs.length lc)] 69)), (1, some (.box (m0 + 1) [.val (sumV x)] 39)), (2, some (.box (m0 + 1 + 1) [.val (sumV y)] 39)), (3, rowE kSum SA sc S), (4, some (.box ms [.val (.slice SA S.length sc)] 71)), (5, mapE z.1 sumV (isE (ancL cs S x))), (6, mapE z.2.1 sumV (isE (ancL cs S y))), (7, some (.box z.2.2.1 [.val (.map (some z.1))] 166)), (8, some (.box z.2.2.2 [.val (.map (some z.2.1))] 166))])
          (fun _ u => K u ∧ Glob u ∧ Sl kCom u LA lc cs ∧ ∀ q ∈ cs, Sl kSum u q.ps.A q.ps.c q.ps.l)
        · refine RunH.draw rfl [(0, some (.box m0 [.val (.slice LA cs.length lc)] 69)), (1, some (.box (m0 + 1) [.val (sumV x)] 39)), (2, some (.box (m0 + 1 + 1) [.val (sumV y)] 39)), (4, some (.box ms [.val (.slice SA S.length sc)] 71))] rfl 12 rfl rfl ?_
          refine RunD.adv tb_ok (by kernel_rfl) [] rfl rfl (by simp <;> omega) ?_
          refine RunD.three (i := 3) (j := 8) (q := 9) (by kernel_rfl) ?_ ?_ ?_
          · refine opD_go (i := 3) rfl rfl (OpGo.doesB (fo := .func 131) [] 5 (fun mb : Nat => .av (.val (.map (some mb)))) rfl rfl rfl rfl Tryz.call131 (anc_spec LA lc cs SA sc S hlen hpar x hx) rfl rfl (fun u hu => ⟨hu.fact.2.2.1, hu.fact.2.2.2, Sl.own (B := B0) (hu.row (κ := kSum) (id := 3) (l := S) rfl) (by omega)⟩) (fun _ => rfl) (fun _ => rfl)) 6 (fun _ => rfl) (fun _ _ h => h.1) ?_
            rintro m3 n3 hn3
            refine RunD.adv tb_ok (by kernel_rfl) [] rfl rfl (by simp <;> omega) ?_
            refine RunD.three (i := 7) (j := 8) (q := 9) (by kernel_rfl) ?_ ?_ ?_
            · refine opD_go (i := 7) rfl rfl (OpGo.doesB (fo := .func 131) [] 6 (fun mb : Nat => .av (.val (.map (some mb)))) rfl rfl rfl rfl Tryz.call131 (anc_spec LA lc cs SA sc S hlen hpar y hy) rfl rfl (fun u hu => ⟨hu.fact.1.2.2.1, hu.fact.1.2.2.2, Sl.own (B := B0) (hu.row (κ := kSum) (id := 3) (l := S) rfl) (by omega)⟩) (fun _ => rfl) (fun _ => rfl)) 7 (fun _ => rfl) (fun _ _ h => h.1.1) ?_
              rintro m7 n7 hn7
              refine RunD.adv tb_ok (by kernel_rfl) [] rfl rfl (by simp <;> omega) ?_
              refine RunD.two (i := 8) (j := 9) (by kernel_rfl) ?_ ?_
              · refine opD_step tb_ok (nx := 7) (i := 8) rfl rfl rfl rfl ?_ rfl (fun _ h => h.1.1) ⟨rfl, rfl⟩ ?_
                · first | trivial | simp [AllOb, Ob.P] <;> rfl
                refine RunD.adv tb_ok (by kernel_rfl) [] rfl rfl (by simp <;> omega) ?_
                refine RunD.step tb_ok (i := 9) rfl (by kernel_rfl) rfl rfl rfl ?_ rfl (fun _ h => h.1.1) ⟨rfl, rfl⟩ ?_
                · first | trivial | simp [AllOb, Ob.P] <;> rfl
                refine RunD.adv tb_ok (by kernel_rfl) [] rfl rfl (by simp <;> omega) ?_
                refine RunD.step tb_ok (i := 10) rfl (by kernel_rfl) rfl rfl rfl ?_ rfl (fun _ h => h.1.1) rfl ?_
                · first | trivial | simp [AllOb, Ob.P] <;> rfl
                refine RunD.adv tb_ok (by kernel_rfl) [] rfl rfl (by simp <;> omega) ?_
                refine RunD.step tb_ok (i := 11) rfl (by kernel_rfl) rfl rfl rfl ?_ rfl (fun _ h => h.1.1) rfl ?_
                · first | trivial | simp [AllOb, Ob.P] <;> rfl
                refine RunD.done (.inl rfl) (by kernel_rfl) ?_
                refine RunH.meetS (m3, m7, n7, (n7 + 1)) [(5, 5), (6, 6), (7, 7), (8, 8)] (.head _) ?_ ?_ ?_ ?_
                · rfl
                · rfl
                · rfl
                · exact fun w h => h.1.1
              · refine opD_step tb_ok (nx := 7) (i := 9) rfl rfl rfl rfl ?_ rfl (fun _ h => h.1.1) ⟨rfl, rfl⟩ ?_
                · first | trivial | simp [AllOb, Ob.P] <;> rfl
                refine RunD.adv tb_ok (by kernel_rfl) [] rfl rfl (by simp <;> omega) ?_
                refine RunD.step tb_ok (i := 8) rfl (by kernel_rfl) rfl rfl rfl ?_ rfl (fun _ h => h.1.1) ⟨rfl, rfl⟩ ?_
                · first | trivial | simp [AllOb, Ob.P] <;> rfl
                refine RunD.adv tb_ok (by kernel_rfl) [] rfl rfl (by simp <;> omega) ?_
                refine RunD.step tb_ok (i := 10) rfl (by kernel_rfl) rfl rfl rfl ?_ rfl (fun _ h => h.1.1) rfl ?_
                · first | trivial | simp [AllOb, Ob.P] <;> rfl
                refine RunD.adv tb_ok (by kernel_rfl) [] rfl rfl (by simp <;> omega) ?_
                refine RunD.step tb_ok (i := 11) rfl (by kernel_rfl) rfl rfl rfl ?_ rfl (fun _ h => h.1.1) rfl ?_
                · first | trivial | simp [AllOb, Ob.P] <;> rfl
                refine RunD.done (.inl rfl) (by kernel_rfl) ?_
                refine RunH.meetS (m3, m7, (n7 + 1), n7) [(5, 5), (6, 6), (7, 8), (8, 7)] (.head _) ?_ ?_ ?_ ?_
                · rfl
                · rfl
                · rfl
                · exact fun w h => h.1.1
            · refine opD_step tb_ok (nx := 6) (i := 8) rfl rfl rfl rfl ?_ rfl (fun _ h => h.1) ⟨rfl, rfl⟩ ?_
              · first | trivial | simp [AllOb, Ob.P] <;> rfl
              refine RunD.adv tb_ok (by kernel_rfl) [] rfl rfl (by simp <;> omega) ?_
              refine RunD.two (i := 7) (j := 9) (by kernel_rfl) ?_ ?_
              · refine opD_go (i := 7) rfl rfl (OpGo.doesB (fo := .func 131) [] 7 (fun mb : Nat => .av (.val (.map (some mb)))) rfl rfl rfl rfl Tryz.call131 (anc_spec LA lc cs SA sc S hlen hpar y hy) rfl rfl (fun u hu => ⟨hu.fact.1.2.2.1, hu.fact.1.2.2.2, Sl.own (B := B0) (hu.row (κ := kSum) (id := 3) (l := S) rfl) (by omega)⟩) (fun _ => rfl) (fun _ => rfl)) 8 (fun _ => rfl) (fun _ _ h => h.1.1) ?_
                rintro m7 n7 hn7
                refine RunD.adv tb_ok (by kernel_rfl) [] rfl rfl (by simp <;> omega) ?_
                refine RunD.step tb_ok (i := 9) rfl (by kernel_rfl) rfl rfl rfl ?_ rfl (fun _ h => h.1.1) ⟨rfl, rfl⟩ ?_
                · first | trivial | simp [AllOb, Ob.P] <;> rfl
                refine RunD.adv tb_ok (by kernel_rfl) [] rfl rfl (by simp <;> omega) ?_
                refine RunD.step tb_ok (i := 10) rfl (by kernel_rfl) rfl rfl rfl ?_ rfl (fun _ h => h.1.1) rfl ?_
                · first | trivial | simp [AllOb, Ob.P] <;> rfl
                refine RunD.adv tb_ok (by kernel_rfl) [] rfl rfl (by simp <;> omega) ?_
                refine RunD.step tb_ok (i := 11) rfl (by kernel_rfl) rfl rfl rfl ?_ rfl (fun _ h => h.1.1) rfl ?_
                · first | trivial | simp [AllOb, Ob.P] <;> rfl
                refine RunD.done (.inl rfl) (by kernel_rfl) ?_
                refine RunH.meetS (m3, m7, n3, n7) [(5, 5), (6, 7), (7, 6), (8, 8)] (.head _) ?_ ?_ ?_ ?_
                · rfl
                · rfl
                · rfl
                · exact fun w h => h.1.1
              · refine opD_step tb_ok (nx := 7) (i := 9) rfl rfl rfl rfl ?_ rfl (fun _ h => h.1) ⟨rfl, rfl⟩ ?_
                · first | trivial | simp [AllOb, Ob.P] <;> rfl
                refine RunD.adv tb_ok (by kernel_rfl) [] rfl rfl (by simp <;> omega) ?_
                refine RunD.doesB (i := 7) [] 9 (fun mb : Nat => .av (.val (.map (some mb)))) rfl (by kernel_rfl) rfl rfl rfl rfl Tryz.call131 (anc_spec LA lc cs SA sc S hlen hpar y hy) rfl rfl (fun _ => rfl) (fun _ => rfl) (fun u hu => ⟨hu.fact.1.2.2.1, hu.fact.1.2.2.2, Sl.own (B := B0) (hu.row (κ := kSum) (id := 3) (l := S) rfl) (by omega)⟩) (fun _ => rfl) (fun _ h => h.1) ?_
                rintro m7 n7 hn7
                refine RunD.adv tb_ok (by kernel_rfl) [] rfl rfl (by simp <;> omega) ?_
                refine RunD.step tb_ok (i := 10) rfl (by kernel_rfl) rfl rfl rfl ?_ rfl (fun _ h => h.1.1) rfl ?_
                · first | trivial | simp [AllOb, Ob.P] <;> rfl
                refine RunD.adv tb_ok (by kernel_rfl) [] rfl rfl (by simp <;> omega) ?_
                refine RunD.step tb_ok (i := 11) rfl (by kernel_rfl) rfl rfl rfl ?_ rfl (fun _ h => h.1.1) rfl ?_
                · first | trivial | simp [AllOb, Ob.P] <;> rfl
                refine RunD.done (.inl rfl) (by kernel_rfl) ?_
                refine RunH.meetS (m3, m7, n3, (n3 + 1)) [(5, 5), (6, 8), (7, 6), (8, 7)] (.head _) ?_ ?_ ?_ ?_
                · rfl
                · rfl
                · rfl
                · exact fun w h => h.1.1
            · refine opD_step tb_ok (nx := 6) (i := 9) rfl rfl rfl rfl ?_ rfl (fun _ h => h.1) ⟨rfl, rfl⟩ ?_
              · first | trivial | simp [AllOb, Ob.P] <;> rfl
              refine RunD.adv tb_ok (by kernel_rfl) [] rfl rfl (by simp <;> omega) ?_
              refine RunD.two (i := 7) (j := 8) (by kernel_rfl) ?_ ?_
              · refine opD_go (i := 7) rfl rfl (OpGo.doesB (fo := .func 131) [] 7 (fun mb : Nat => .av (.val (.map (some mb)))) rfl rfl rfl rfl Tryz.call131 (anc_spec LA lc cs SA sc S hlen hpar y hy) rfl rfl (fun u hu => ⟨hu.fact.1.2.2.1, hu.fact.1.2.2.2, Sl.own (B := B0) (hu.row (κ := kSum) (id := 3) (l := S) rfl) (by omega)⟩) (fun _ => rfl) (fun _ => rfl)) 8 (fun _ => rfl) (fun _ _ h => h.1.1) ?_
                rintro m7 n7 hn7
                refine RunD.adv tb_ok (by kernel_rfl) [] rfl rfl (by simp <;> omega) ?_
                refine RunD.step tb_ok (i := 8) rfl (by kernel_rfl) rfl rfl rfl ?_ rfl (fun _ h => h.1.1) ⟨rfl, rfl⟩ ?_
                · first | trivial | simp [AllOb, Ob.P] <;> rfl
                refine RunD.adv tb_ok (by kernel_rfl) [] rfl rfl (by simp <;> omega) ?_
                refine RunD.step tb_ok (i := 10) rfl (by kernel_rfl) rfl rfl rfl ?_ rfl (fun _ h => h.1.1) rfl ?_
                · first | trivial | simp [AllOb, Ob.P] <;> rfl
                refine RunD.adv tb_ok (by kernel_rfl) [] rfl rfl (by simp <;> omega) ?_
                refine RunD.step tb_ok (i := 11) rfl (by kernel_rfl) rfl rfl rfl ?_ rfl (fun _ h => h.1.1) rfl ?_
                · first | trivial | simp [AllOb, Ob.P] <;> rfl
                refine RunD.done (.inl rfl) (by kernel_rfl) ?_
                refine RunH.meetS (m3, m7, n7, n3) [(5, 5), (6, 7), (7, 8), (8, 6)] (.head _) ?_ ?_ ?_ ?_
                · rfl
                · rfl
                · rfl
                · exact fun w h => h.1.1
              · refine opD_step tb_ok (nx := 7) (i := 8) rfl rfl rfl rfl ?_ rfl (fun _ h => h.1) ⟨rfl, rfl⟩ ?_
                · first | trivial | simp [AllOb, Ob.P] <;> rfl
                refine RunD.adv tb_ok (by kernel_rfl) [] rfl rfl (by simp <;> omega) ?_
                refine RunD.doesB (i := 7) [] 9 (fun mb : Nat => .av (.val (.map (some mb)))) rfl (by kernel_rfl) rfl rfl rfl rfl Tryz.call131 (anc_spec LA lc cs SA sc S hlen hpar y hy) rfl rfl (fun _ => rfl) (fun _ => rfl) (fun u hu => ⟨hu.fact.1.2.2.1, hu.fact.1.2.2.2, Sl.own (B := B0) (hu.row (κ := kSum) (id := 3) (l := S) rfl) (by omega)⟩) (fun _ => rfl) (fun _ h => h.1) ?_
                rintro m7 n7 hn7
                refine RunD.adv tb_ok (by kernel_rfl) [] rfl rfl (by simp <;> omega) ?_
                refine RunD.step tb_ok (i := 10) rfl (by kernel_rfl) rfl rfl rfl ?_ rfl (fun _ h => h.1.1) rfl ?_
                · first | trivial | simp [AllOb, Ob.P] <;> rfl
                refine RunD.adv tb_ok (by kernel_rfl) [] rfl rfl (by simp <;> omega) ?_
                refine RunD.step tb_ok (i := 11) rfl (by kernel_rfl) rfl rfl rfl ?_ rfl (fun _ h => h.1.1) rfl ?_
                · first | trivial | simp [AllOb, Ob.P] <;> rfl
                refine RunD.done (.inl rfl) (by kernel_rfl) ?_
                refine RunH.meetS (m3, m7, (n3 + 1), n3) [(5, 5), (6, 8), (7, 7), (8, 6)] (.head _) ?_ ?_ ?_ ?_
                · rfl
                · rfl
                · rfl
                · exact fun w h => h.1.1
          · refine opD_step tb_ok (nx := 5) (i := 8) rfl rfl rfl rfl ?_ rfl (fun _ h => h) ⟨rfl, rfl⟩ ?_
            · first | trivial | simp [AllOb, Ob.P] <;> rfl
            refine RunD.adv tb_ok (by kernel_rfl) [] rfl rfl (by simp <;> omega) ?_
            refine RunD.two (i := 3) (j := 9) (by kernel_rfl) ?_ ?_
            · refine opD_go (i := 3) rfl rfl (OpGo.doesB (fo := .func 131) [] 6 (fun mb : Nat => .av (.val (.map (some mb)))) rfl rfl rfl rfl Tryz.call131 (anc_spec LA lc cs SA sc S hlen hpar x hx) rfl rfl (fun u hu => ⟨hu.fact.2.2.1, hu.fact.2.2.2, Sl.own (B := B0) (hu.row (κ := kSum) (id := 3) (l := S) rfl) (by omega)⟩) (fun _ => rfl) (fun _ => rfl)) 7 (fun _ => rfl) (fun _ _ h => h.1) ?_
              rintro m3 n3 hn3
              refine RunD.adv tb_ok (by kernel_rfl) [] rfl rfl (by simp <;> omega) ?_
              refine RunD.two (i := 7) (j := 9) (by kernel_rfl) ?_ ?_
              · refine opD_go (i := 7) rfl rfl (OpGo.doesB (fo := .func 131) [] 7 (fun mb : Nat => .av (.val (.map (some mb)))) rfl rfl rfl rfl Tryz.call131 (anc_spec LA lc cs SA sc S hlen hpar y hy) rfl rfl (fun u hu => ⟨hu.fact.1.2.2.1, hu.fact.1.2.2.2, Sl.own (B := B0) (hu.row (κ := kSum) (id := 3) (l := S) rfl) (by omega)⟩) (fun _ => rfl) (fun _ => rfl)) 8 (fun _ => rfl) (fun _ _ h => h.1.1) ?_
                rintro m7 n7 hn7
                refine RunD.adv tb_ok (by kernel_rfl) [] rfl rfl (by simp <;> omega) ?_
                refine RunD.step tb_ok (i := 9) rfl (by kernel_rfl) rfl rfl rfl ?_ rfl (fun _ h => h.1.1) ⟨rfl, rfl⟩ ?_
                · first | trivial | simp [AllOb, Ob.P] <;> rfl
                refine RunD.adv tb_ok (by kernel_rfl) [] rfl rfl (by simp <;> omega) ?_
                refine RunD.step tb_ok (i := 10) rfl (by kernel_rfl) rfl rfl rfl ?_ rfl (fun _ h => h.1.1) rfl ?_
                · first | trivial | simp [AllOb, Ob.P] <;> rfl
                refine RunD.adv tb_ok (by kernel_rfl) [] rfl rfl (by simp <;> omega) ?_
                refine RunD.step tb_ok (i := 11) rfl (by kernel_rfl) rfl rfl rfl ?_ rfl (fun _ h => h.1.1) rfl ?_
                · first | trivial | simp [AllOb, Ob.P] <;> rfl
                refine RunD.done (.inl rfl) (by kernel_rfl) ?_
                refine RunH.meetS (m3, m7, M0, n7) [(5, 6), (6, 7), (7, 5), (8, 8)] (.head _) ?_ ?_ ?_ ?_
                · rfl
                · rfl
                · rfl
                · exact fun w h => h.1.1
              · refine opD_step tb_ok (nx := 7) (i := 9) rfl rfl rfl rfl ?_ rfl (fun _ h => h.1) ⟨rfl, rfl⟩ ?_
                · first | trivial | simp [AllOb, Ob.P] <;> rfl
                refine RunD.adv tb_ok (by kernel_rfl) [] rfl rfl (by simp <;> omega) ?_
                refine RunD.doesB (i := 7) [] 9 (fun mb : Nat => .av (.val (.map (some mb)))) rfl (by kernel_rfl) rfl rfl rfl rfl Tryz.call131 (anc_spec LA lc cs SA sc S hlen hpar y hy) rfl rfl (fun _ => rfl) (fun _ => rfl) (fun u hu => ⟨hu.fact.1.2.2.1, hu.fact.1.2.2.2, Sl.own (B := B0) (hu.row (κ := kSum) (id := 3) (l := S) rfl) (by omega)⟩) (fun _ => rfl) (fun _ h => h.1) ?_
                rintro m7 n7 hn7
                refine RunD.adv tb_ok (by kernel_rfl) [] rfl rfl (by simp <;> omega) ?_
                refine RunD.step tb_ok (i := 10) rfl (by kernel_rfl) rfl rfl rfl ?_ rfl (fun _ h => h.1.1) rfl ?_
                · first | trivial | simp [AllOb, Ob.P] <;> rfl
                refine RunD.adv tb_ok (by kernel_rfl) [] rfl rfl (by simp <;> omega) ?_
                refine RunD.step tb_ok (i := 11) rfl (by kernel_rfl) rfl rfl rfl ?_ rfl (fun _ h => h.1.1) rfl ?_
                · first | trivial | simp [AllOb, Ob.P] <;> rfl
                refine RunD.done (.inl rfl) (by kernel_rfl) ?_
                refine RunH.meetS (m3, m7, M0, n3) [(5, 6), (6, 8), (7, 5), (8, 7)] (.head _) ?_ ?_ ?_ ?_
                · rfl
                · rfl
                · rfl
                · exact fun w h => h.1.1
            · refine opD_step tb_ok (nx := 6) (i := 9) rfl rfl rfl rfl ?_ rfl (fun _ h => h) ⟨rfl, rfl⟩ ?_
              · first | trivial | simp [AllOb, Ob.P] <;> rfl
              refine RunD.adv tb_ok (by kernel_rfl) [] rfl rfl (by simp <;> omega) ?_
              refine RunD.doesB (i := 3) [] 8 (fun mb : Nat => .av (.val (.map (some mb)))) rfl (by kernel_rfl) rfl rfl rfl rfl Tryz.call131 (anc_spec LA lc cs SA sc S hlen hpar x hx) rfl rfl (fun _ => rfl) (fun _ => rfl) (fun u hu => ⟨hu.fact.2.2.1, hu.fact.2.2.2, Sl.own (B := B0) (hu.row (κ := kSum) (id := 3) (l := S) rfl) (by omega)⟩) (fun _ => rfl) (fun _ h => h) ?_
              rintro m3 n3 hn3
              refine RunD.adv tb_ok (by kernel_rfl) [] rfl rfl (by simp <;> omega) ?_
              refine RunD.doesB (i := 7) [] 9 (fun mb : Nat => .av (.val (.map (some mb)))) rfl (by kernel_rfl) rfl rfl rfl rfl Tryz.call131 (anc_spec LA lc cs SA sc S hlen hpar y hy) rfl rfl (fun _ => rfl) (fun _ => rfl) (fun u hu => ⟨hu.fact.1.2.2.1, hu.fact.1.2.2.2, Sl.own (B := B0) (hu.row (κ := kSum) (id := 3) (l := S) rfl) (by omega)⟩) (fun _ => rfl) (fun _ h => h.1) ?_
              rintro m7 n7 hn7
              refine RunD.adv tb_ok (by kernel_rfl) [] rfl rfl (by simp <;> omega) ?_
              refine RunD.step tb_ok (i := 10) rfl (by kernel_rfl) rfl rfl rfl ?_ rfl (fun _ h => h.1.1) rfl ?_
              · first | trivial | simp [AllOb, Ob.P] <;> rfl
              refine RunD.adv tb_ok (by kernel_rfl) [] rfl rfl (by simp <;> omega) ?_
              refine RunD.step tb_ok (i := 11) rfl (by kernel_rfl) rfl rfl rfl ?_ rfl (fun _ h => h.1.1) rfl ?_
              · first | trivial | simp [AllOb, Ob.P] <;> rfl
              refine RunD.done (.inl rfl) (by kernel_rfl) ?_
              refine RunH.meetS (m3, m7, M0, (M0 + 1)) [(5, 7), (6, 8), (7, 5), (8, 6)] (.head _) ?_ ?_ ?_ ?_
              · rfl
              · rfl
              · rfl
              · exact fun w h => h.1.1
          · refine opD_step tb_ok (nx := 5) (i := 9) rfl rfl rfl rfl ?_ rfl (fun _ h => h) ⟨rfl, rfl⟩ ?_
            · first | trivial | simp [AllOb, Ob.P] <;> rfl
            refine RunD.adv tb_ok (by kernel_rfl) [] rfl rfl (by simp <;> omega) ?_
            refine RunD.two (i := 3) (j := 8) (by kernel_rfl) ?_ ?_
            · refine opD_go (i := 3) rfl rfl (OpGo.doesB (fo := .func 131) [] 6 (fun mb : Nat => .av (.val (.map (some mb)))) rfl rfl rfl rfl Tryz.call131 (anc_spec LA lc cs SA sc S hlen hpar x hx) rfl rfl (fun u hu => ⟨hu.fact.2.2.1, hu.fact.2.2.2, Sl.own (B := B0) (hu.row (κ := kSum) (id := 3) (l := S) rfl) (by omega)⟩) (fun _ => rfl) (fun _ => rfl)) 7 (fun _ => rfl) (fun _ _ h => h.1) ?_
              rintro m3 n3 hn3
              refine RunD.adv tb_ok (by kernel_rfl) [] rfl rfl (by simp <;> omega) ?_
              refine RunD.two (i := 7) (j := 8) (by kernel_rfl) ?_ ?_
              · refine opD_go (i := 7) rfl rfl (OpGo.doesB (fo := .func 131) [] 7 (fun mb : Nat => .av (.val (.map (some mb)))) rfl rfl rfl rfl Tryz.call131 (anc_spec LA lc cs SA sc S hlen hpar y hy) rfl rfl (fun u hu => ⟨hu.fact.1.2.2.1, hu.fact.1.2.2.2, Sl.own (B := B0) (hu.row (κ := kSum) (id := 3) (l := S) rfl) (by omega)⟩) (fun _ => rfl) (fun _ => rfl)) 8 (fun _ => rfl) (fun _ _ h => h.1.1) ?_
                rintro m7 n7 hn7
                refine RunD.adv tb_ok (by kernel_rfl) [] rfl rfl (by simp <;> omega) ?_
                refine RunD.step tb_ok (i := 8) rfl (by kernel_rfl) rfl rfl rfl ?_ rfl (fun _ h => h.1.1) ⟨rfl, rfl⟩ ?_
                · first | trivial | simp [AllOb, Ob.P] <;> rfl
                refine RunD.adv tb_ok (by kernel_rfl) [] rfl rfl (by simp <;> omega) ?_
                refine RunD.step tb_ok (i := 10) rfl (by kernel_rfl) rfl rfl rfl ?_ rfl (fun _ h => h.1.1) rfl ?_
                · first | trivial | simp [AllOb, Ob.P] <;> rfl
                refine RunD.adv tb_ok (by kernel_rfl) [] rfl rfl (by simp <;> omega) ?_
                refine RunD.step tb_ok (i := 11) rfl (by kernel_rfl) rfl rfl rfl ?_ rfl (fun _ h => h.1.1) rfl ?_
                · first | trivial | simp [AllOb, Ob.P] <;> rfl
                refine RunD.done (.inl rfl) (by kernel_rfl) ?_
                refine RunH.meetS (m3, m7, n7, M0) [(5, 6), (6, 7), (7, 8), (8, 5)] (.head _) ?_ ?_ ?_ ?_
                · rfl
                · rfl
                · rfl
                · exact fun w h => h.1.1
              · refine opD_step tb_ok (nx := 7) (i := 8) rfl rfl rfl rfl ?_ rfl (fun _ h => h.1) ⟨rfl, rfl⟩ ?_
                · first | trivial | simp [AllOb, Ob.P] <;> rfl
                refine RunD.adv tb_ok (by kernel_rfl) [] rfl rfl (by simp <;> omega) ?_
                refine RunD.doesB (i := 7) [] 9 (fun mb : Nat => .av (.val (.map (some mb)))) rfl (by kernel_rfl) rfl rfl rfl rfl Tryz.call131 (anc_spec LA lc cs SA sc S hlen hpar y hy) rfl rfl (fun _ => rfl) (fun _ => rfl) (fun u hu => ⟨hu.fact.1.2.2.1, hu.fact.1.2.2.2, Sl.own (B := B0) (hu.row (κ := kSum) (id := 3) (l := S) rfl) (by omega)⟩) (fun _ => rfl) (fun _ h => h.1) ?_
                rintro m7 n7 hn7
                refine RunD.adv tb_ok (by kernel_rfl) [] rfl rfl (by simp <;> omega) ?_
                refine RunD.step tb_ok (i := 10) rfl (by kernel_rfl) rfl rfl rfl ?_ rfl (fun _ h => h.1.1) rfl ?_
                · first | trivial | simp [AllOb, Ob.P] <;> rfl
                refine RunD.adv tb_ok (by kernel_rfl) [] rfl rfl (by simp <;> omega) ?_
                refine RunD.step tb_ok (i := 11) rfl (by kernel_rfl) rfl rfl rfl ?_ rfl (fun _ h => h.1.1) rfl ?_
                · first | trivial | simp [AllOb, Ob.P] <;> rfl
                refine RunD.done (.inl rfl) (by kernel_rfl) ?_
                refine RunH.meetS (m3, m7, n3, M0) [(5, 6), (6, 8), (7, 7), (8, 5)] (.head _) ?_ ?_ ?_ ?_
                · rfl
                · rfl
                · rfl
                · exact fun w h => h.1.1
            · refine opD_step tb_ok (nx := 6) (i := 8) rfl rfl rfl rfl ?_ rfl (fun _ h => h) ⟨rfl, rfl⟩ ?_
              · first | trivial | simp [AllOb, Ob.P] <;> rfl
              refine RunD.adv tb_ok (by kernel_rfl) [] rfl rfl (by simp <;> omega) ?_
              refine RunD.doesB (i := 3) [] 8 (fun mb : Nat => .av (.val (.map (some mb)))) rfl (by kernel_rfl) rfl rfl rfl rfl Tryz.call131 (anc_spec LA lc cs SA sc S hlen hpar x hx) rfl rfl (fun _ => rfl) (fun _ => rfl) (fun u hu => ⟨hu.fact.2.2.1, hu.fact.2.2.2, Sl.own (B := B0) (hu.row (κ := kSum) (id := 3) (l := S) rfl) (by omega)⟩) (fun _ => rfl) (fun _ h => h) ?_
              rintro m3 n3 hn3
              refine RunD.adv tb_ok (by kernel_rfl) [] rfl rfl (by simp <;> omega) ?_
              refine RunD.doesB (i := 7) [] 9 (fun mb : Nat => .av (.val (.map (some mb)))) rfl (by kernel_rfl) rfl rfl rfl rfl Tryz.call131 (anc_spec LA lc cs SA sc S hlen hpar y hy) rfl rfl (fun _ => rfl) (fun _ => rfl) (fun u hu => ⟨hu.fact.1.2.2.1, hu.fact.1.2.2.2, Sl.own (B := B0) (hu.row (κ := kSum) (id := 3) (l := S) rfl) (by omega)⟩) (fun _ => rfl) (fun _ h => h.1) ?_
              rintro m7 n7 hn7
              refine RunD.adv tb_ok (by kernel_rfl) [] rfl rfl (by simp <;> omega) ?_
              refine RunD.step tb_ok (i := 10) rfl (by kernel_rfl) rfl rfl rfl ?_ rfl (fun _ h => h.1.1) rfl ?_
              · first | trivial | simp [AllOb, Ob.P] <;> rfl
              refine RunD.adv tb_ok (by kernel_rfl) [] rfl rfl (by simp <;> omega) ?_
              refine RunD.step tb_ok (i := 11) rfl (by kernel_rfl) rfl rfl rfl ?_ rfl (fun _ h => h.1.1) rfl ?_
              · first | trivial | simp [AllOb, Ob.P] <;> rfl
              refine RunD.done (.inl rfl) (by kernel_rfl) ?_
              refine RunH.meetS (m3, m7, (M0 + 1), M0) [(5, 7), (6, 8), (7, 6), (8, 5)] (.head _) ?_ ?_ ?_ ?_
              · rfl
              · rfl
              · rfl
              · exact fun w h => h.1.1
        rintro ⟨ma, mb, a10, a11⟩ m2
        refine RunH.toNx 9 ?_
        have hS60 : S.length ≤ 60 := by omega
        refine RunH.adv tb_ok [] rfl rfl (by simp [AllOb, Ob.P]) ?_
        refine RunH.doesB [] 10 (hc := Tryz.call55) (ho := rfl) (hw := rfl) (hd := rfl) (hf := rfl) (hes := rfl) (hσ := rfl) (hn := rfl) (hV := fun _ => rfl) (hG := fun _ => rfl) (e := fun z : Option Addr × Nat => rowS 9 z.1 S.length z.2) (hC := cloneD SA sc S (by omega)) (hp := fun u hu => Sl.own (B := B0) (hu.row (κ := kSum) (id := 3) (l := S) rfl) (by omega)) ?_
        rintro ⟨CA, cc⟩ m3 hm3
        refine RunH.drop ?_
        refine RunH.adv tb_ok [] rfl rfl (by simp <;> omega) ?_
        refine RunH.doesB [(0, 9)] 10 (hc := Tryz.call132) (ho := rfl) (hw := rfl) (hd := rfl) (hf := rfl) (hes := rfl) (hσ := rfl) (hn := rfl) (hV := fun _ => rfl) (hG := fun _ => rfl) (e := fun _ : Unit => rowS 9 CA (comL cs S x y).length cc) (hC := delF_spec CA cc S 136 [] [.pointer (some ⟨a10, 0, none⟩), .pointer (some ⟨a11, 0, none⟩)] (fun s => !hasD (ancL cs S x) s || !hasD (ancL cs S y) s) (by omega))
          (hp := fun u hu => ⟨Tryz.call136, fun s _ v hv => bases1_spec v a10 a11 ma mb (ancL cs S x) (ancL cs S y) s (fun u' hu' => hu.loadBox (id := 7) (e := .av (.val (.map (some ma)))) tb_ok rfl rfl u' (hv.trans' hu')) (fun u' hu' => hu.loadBox (id := 8) (e := .av (.val (.map (some mb)))) tb_ok rfl rfl u' (hv.trans' hu'))
            (fun u' hu' => objExt hu (id := 5) rfl u' (hv.trans' hu')) (fun u' hu' => objExt hu (id := 6) rfl u' (hv.trans' hu'))⟩) ?_
        rintro ⟨⟩ m4 hm4
        refine RunH.drop ?_
        have hCl : keepL (fun s => !hasD (ancL cs S x) s || !hasD (ancL cs S y) s) S = comL cs S x y := rfl
        rw [hCl]
        have hcl60 : (comL cs S x y).length ≤ 60 := by have := keepL_len (fun s => !hasD (ancL cs S x) s || !hasD (ancL cs S y) s) S; rw [hCl] at this; omega
        have hbl : baseL cs S x y = keepL (fun s => (comL cs S x y).any fun t => !decide (t = s) && hasD (ancL cs S t) s) (comL cs S x y) := rfl
        have hcm : ∀ t ∈ comL cs S x y, hasD S t = true := fun t ht => hasD_mem (keepL_mem ht)
        rw [hbl] at hE
        generalize comL cs S x y = com at *
        refine RunH.adv tb_ok [] rfl rfl (by simp [AllOb, Ob.P]) ?_
        refine RunH.doesB [] 12 (hc := Tryz.call55) (ho := rfl) (hw := rfl) (hd := rfl) (hf := rfl) (hes := rfl) (hσ := rfl) (hn := rfl) (hV := fun _ => rfl) (hG := fun _ => rfl) (e := fun z : Option Addr × Nat => rowS 11 z.1 com.length z.2) (hC := cloneD CA cc com (by omega)) (hp := fun u hu => Sl.own (B := B0) (hu.row (κ := kSum) (id := 9) (l := com) rfl) (by omega)) ?_
        rintro ⟨DA, dc⟩ m5 hm5
        refine RunH.drop ?_
        refine RunH.adv tb_ok [] rfl rfl (by simp <;> omega) ?_
        refine RunH.doesB [(0, 11)] 12 (hc := Tryz.call132) (ho := rfl) (hw := rfl) (hd := rfl) (hf := rfl) (hes := rfl) (hσ := rfl) (hn := rfl) (hV := fun _ => rfl) (hG := fun _ => rfl) (e := fun _ : Unit => rowS 11 DA (keepL (fun s => com.any fun t => !decide (t = s) && hasD (ancL cs S t) s) com).length dc) (hC := delF_spec DA dc com 137 [] [.pointer (some ⟨m4, 0, none⟩), .pointer (some ⟨m0, 0, none⟩), .pointer (some ⟨ms, 0, none⟩)] (fun s => com.any fun t => !decide (t = s) && hasD (ancL cs S t) s) (by omega))
          (hp := fun u hu => ⟨Tryz.call137, fun s _ v hv => bases2_spec v m4 m0 ms CA cc com LA lc cs SA sc S s hlen hpar hcm (fun u' hu' => hu.loadBox (id := 10) (e := rowS 9 CA com.length cc) tb_ok rfl rfl u' (hv.trans' hu')) (fun u' hu' => hu.loadBox (id := 0) (e := slE LA cs.length lc) tb_ok rfl rfl u' (hv.trans' hu')) (fun u' hu' => hu.loadBox (id := 4) (e := slE SA S.length sc) tb_ok rfl rfl u' (hv.trans' hu'))
            ((Sl.own (B := B0) (hu.row (κ := kSum) (id := 9) (l := com) rfl) (by omega)).ext hv) (hu.fact.2.2.1.ext hv) (fun q hq => (hu.fact.2.2.2 q hq).ext hv) ((Sl.own (B := B0) (hu.row (κ := kSum) (id := 3) (l := S) rfl) (by omega)).ext hv)⟩) ?_
        rintro ⟨⟩ m6 hm6
        refine RunH.drop ?_
        subst hE
        generalize keepL (fun s => com.any fun t => !decide (t = s) && hasD (ancL cs S t) s) com = out at *
        refine RunH.adv tb_ok [] rfl rfl (by simp <;> omega) ?_
        refine RunH.ret2 Tryz.func63 rfl rfl rfl fun w hst => ⟨(DA, dc), rfl, hst.out [(0, 11)] rfl rfl fun u h => ⟨h.1, trivial⟩⟩
      · rw [if_neg hy] at hE
        refine RunH.adv tb_ok [true] rfl rfl (by simp [hy] <;> omega) ?_
        refine RunH.nilrow 40 kSum.T kSum.sz 41 ?_
        refine RunH.ret2 Tryz.func63 rfl rfl rfl fun w hst => ⟨(none, 0), by rw [hE]; rfl, by rw [hE]; exact hst.out [(0, 40)] rfl rfl fun u h => ⟨h.1, trivial⟩⟩
    · rw [if_neg hx] at hE
      refine RunH.adv tb_ok [true] rfl rfl (by simp [hx] <;> omega) ?_
      refine RunH.nilrow 40 kSum.T kSum.sz 41 ?_
      refine RunH.ret2 Tryz.func63 rfl rfl rfl fun w hst => ⟨(none, 0), by rw [hE]; rfl, by rw [hE]; exact hst.out [(0, 40)] rfl rfl fun u h => ⟨h.1, trivial⟩⟩
  · rw [if_neg h0] at hE
    refine RunH.adv tb_ok [true] rfl rfl (by simp [h0] <;> omega) ?_
    refine RunH.nilrow 40 kSum.T kSum.sz 41 ?_
    refine RunH.ret2 Tryz.func63 rfl rfl rfl fun w hst => ⟨(none, 0), by rw [hE]; rfl, by rw [hE]; exact hst.out [(0, 40)] rfl rfl fun u h => ⟨h.1, trivial⟩⟩
end Go.Proofs.YtagnkcdhenilbaaGreatDoor

/-
clear of a row of the call's own; what it held is not told behind it; no condition.
-/
namespace Go.Proofs.YtagnkcdhenilbaaGreatDoor
open Go V RowKit

theorem V.St.subL {tb : TT} {B0 : Nat} {H : Heap} {I : World → Prop} {w : World} {G : Heap} (h : St tb B0 H I w) (hs : ∀ i x, lookH G i = some x → lookH H i = some x) : St tb B0 G I w where
  base := h.base
  holds i x hx := h.holds i x (hs i x hx)
  apart i j x y hij hx hy := h.apart i j x y hij (hs i x hx) (hs j y hy)
  keeps w' ha := h.keeps w' (ha.mono fun k _ => by rintro ⟨i, x, hx, hb⟩; exact ⟨i, x, hs i x hx, hb⟩)

theorem V.OpGo.clearK {α : Type} {κ : Kd α} {tb : TT} {P : Program} {B0 n : Nat} {env : SEnv} {H : Heap} {m : Nat} {I : World → Prop} {A : Option Addr} {c : Nat} {l : List α} {id : Nat} {ty : TypeId} {ps : String} {af : Array Edge} {gd : Option (Nat × Bool)}
    {x : Operand} {T : TypeId} {q : Nat} {inf : TypeInfo} {z : Value} {ex : EV} (hk : tb.Ok P) (hx : evE env x = some ex) (hxv : ex.v = .slice A q c) (hq : q = l.length)
    (hT : tb.und T = some (.slice κ.T)) (hH : lookH H id = rowE κ A c l) (hi : tb.get κ.T = some inf) (hz : inf.zero = some z) (h1 : ∀ u ∈ z.cells.toList, u.oneCell' = true) (hs : z.cells.size = κ.sz) (h0 : 0 < κ.sz) :
    OpGo P tb B0 n ⟨none, .call ⟨.builtin .clear, #[x], #[T]⟩, ty, ps, af, gd⟩ env H m I (fun _ : Unit => env) (fun _ => (id, none) :: H) (fun _ => I) := by
  subst hq
  have hdone : ∀ {w' : World} {y : Option HE}, St tb B0 ((id, y) :: H) I w' → St tb B0 ((id, none) :: H) I w' := fun {w' y} h => (h.give id).subL fun i e he => by
    rw [lookH_cons] at he ⊢
    by_cases hii : id = i
    · rw [if_pos hii] at he; cases he
    · rw [if_neg hii] at he ⊢; rw [lookH_cons, if_neg hii]; exact he
  cases l with
  | nil =>
    intro w a hm hst ha
    have hu := run_underlying (hk.und hT) w
    have hxv : a.eval x = .slice A 0 c := (ev_run ha hx).trans hxv
    have hrun : (Builtin.clear_ #[T] ty #[.slice A 0 c]).run P w = .ok (.tuple #[]) w := by
      simp only [Builtin.clear_, Sem.run_bind, List.getElem?_toArray, List.getElem?_cons_zero, hu, Result.andThen_ok]
      cases A <;> rfl
    unfold Oper.wp
    have : (execOp a.eval ⟨none, .call ⟨.builtin .clear, #[x], #[T]⟩, ty, ps, af, gd⟩).run P w = .ok (.value (.tuple #[])) w := by
      simp only [execOp, resolve, invoke, builtin, Sem.run_bind, Sem.run_pure, Result.andThen_ok, List.map_toArray, List.map_cons, List.map_nil, hxv, hrun]
    rw [this]
    exact ⟨(), ha, by omega, hst.give id⟩
  | cons y r =>
    intro w a hm hst ha
    have ho := hst.holds id _ hH
    rcases ho.2 with ⟨_, hb⟩ | ⟨g, cap, cur, hv, hg, hh, hc, hmx, hcs, ht⟩
    · simp at hb
    · injection hv with e1 e2 e3
      subst e1; subst e3
      have hst' : St tb B0 ((id, some (.obj g (.cells cur κ.T))) :: H) I w := by
        refine hst.turn id _ (.obj g (.cells cur κ.T)) hH (Agr.refl _ _) ⟨hg, hh⟩ fun k hk => .inl ?_
        exact hk
      have hzl : (Builtin.zeroCells z.cells (r.length + 1)).toList.length = (r.length + 1) * κ.sz := by simp [Builtin.zeroCells, hs]
      have hgo := OpGo.clearRaw (P := P) (tb := tb) (B0 := B0) (n := n) (I := I) (m := m) (env := env) (H := (id, some (.obj g (.cells cur κ.T))) :: H) (id := id) (g := g) (off := 0) (q := r.length) (c := c) (cur := cur) (e := κ.T) (x := x) (T := T) (ty := ty) (ps := ps) (af := af) (gd := gd) (i := inf) (z := z)
        hk hT hi hz hx hxv (by rw [lookH_cons, if_pos rfl]) (zeroCells_one _ (by omega) h1 _) (by
          have : (r.length + 1) * κ.sz ≤ c * κ.sz := Nat.mul_le_mul_right _ hc
          rw [hzl, hcs]; omega)
      refine Oper.wp_mono ?_ (hgo w a hm hst' ha)
      rintro a' w' ⟨_, ha', hm', hst''⟩
      refine ⟨(), ha', hm', ?_⟩
      refine hdone (y := some (.obj g (.cells (putC cur 0 (Builtin.zeroCells z.cells (r.length + 1)).toList) κ.T))) (hst''.subL fun i e he => ?_)
      rw [lookH_cons] at he ⊢
      by_cases hii : id = i
      · rw [if_pos hii] at he ⊢; exact he
      · rw [if_neg hii] at he ⊢; rw [lookH_cons, if_neg hii]; exact he
end Go.Proofs.YtagnkcdhenilbaaGreatDoor

namespace Go.Proofs.YtagnkcdhenilbaaGreatDoor
open Go V RowKit

/-- A path and a number. -/
def kPair : Kd (Str × UInt8) where
  T := 109
  sz := 2
  ev x := .st [.val (strV x.1), .val (u8V x.2)]
  ok x := ⟨_, Tryz.t109, rfl, rfl, rfl, by
    intro u hu
    have : u = strV x.1 ∨ u = u8V x.2 := by simpa [flat, AV.v, Value.cells, strV, u8V] using hu
    rcases this with rfl | rfl <;> rfl⟩
  size x := rfl

def sumN (n : UInt8) : Sum := ⟨n :: List.replicate 31 0, by simp⟩
def pairE (x : Str × UInt8) : Entry := ⟨x.1, sumN x.2⟩

theorem build_sum (w : World) (n : UInt8) : (Instr.build 39 #[(0, u8V n)]).run Tryz.prog w = .ok (sumV (sumN n)) w := by
  refine run_build w _ _ _ ?_
  kernel_rfl

set_option maxRecDepth 10000 in
theorem terms_spec (LA : Option Addr) (lc : Nat) (ps : List (Str × UInt8)) (hn : ps.length ≤ 1000) :
    Does Tryz.prog tb 80 [.slice LA ps.length lc] [] (fun u => Sl kPair u LA lc ps) (fun z : Option Addr × Nat => .agg #[.slice z.1 (ps.map pairE).length z.2, .slice none 0 0]) (fun z => [(0, rowE kEntry z.1 z.2 (ps.map pairE))]) (fun _ _ _ => True) := by
  have hl : lim = 140737488351232 := rfl
  refine Does.enter tb_ok [(0, slE LA ps.length lc)] Tryz.func80 rfl Tryz.ntmps80 rfl rfl 0 ?_
  intro B0 m0 K
  refine RunH.adv tb_ok [] rfl rfl (by simp <;> omega) ?_
  refine RunH.objBoxV (id := 1) [.row 2 (.slice none 0 0), .val (.slice none 0 0)] rfl rfl ⟨⟨rfl, ⟨rfl, Tryz.t22, rfl, rfl⟩, rfl, ⟨rfl, Tryz.t22, rfl, rfl⟩, trivial⟩, Tryz.t24, rfl, rfl⟩ ?_
  refine RunH.nilrow 2 kEntry.T kEntry.sz 3 ?_
  refine RunH.loop (α := Nat × (Option Addr × Nat)) (fun y => [(2, .av (.box 0 m0 0)), (3, .av (.box 1 (m0 + 1) 0)), (6, slE LA ps.length lc), (7, intE ps.length), (8, intE y.1)])
    (fun y => [(0, some (.box m0 [.val (.slice none 0 0), .val (.slice none 0 0)] 24)), (1, some (.box (m0 + 1) [.row 2 (.slice y.2.1 ((ps.take y.1).map pairE).length y.2.2), .val (.slice none 0 0)] 24)), (2, rowE kEntry y.2.1 y.2.2 ((ps.take y.1).map pairE))])
    (fun y u => (K u ∧ Sl kPair u LA lc ps) ∧ y.1 ≤ ps.length) (fun y => ps.length - y.1) (0, (none, 0)) rfl rfl (fun u hu => ⟨hu, Nat.zero_le _⟩) ?_
  rintro ⟨i, A, c⟩ m1
  refine RunH.pure (fun u hu => hu.2) fun hi => ?_
  dsimp only at hi ⊢
  by_cases hlt : i < ps.length
  · have hts : ps.take (i + 1) = ps.take i ++ [ps[i]] := List.take_succ_eq_append_getElem hlt
    have hms : (ps.take (i + 1)).map pairE = (ps.take i).map pairE ++ [pairE ps[i]] := by rw [hts, List.map_append]; rfl
    have hml : ((ps.take i).map pairE).length = i := by rw [List.length_map, List.length_take]; omega
    refine RunH.pure (fun u hu => hu.1.2.ptr hlt) fun hptr => ?_
    refine RunH.adv tb_ok [true] rfl rfl (by simp [hptr] <;> omega) ?_
    refine RunH.loadS (.st [.val (strV ps[i].1), .val (u8V ps[i].2)]) rfl rfl rfl rfl (fun u hu => hu.fact.1.2.load hlt) ?_
    generalize hx : ps[i] = x at *
    refine RunH.adv tb_ok [] rfl rfl (by simp <;> omega) ?_
    refine RunH.read (sumE (sumN x.2)) rfl rfl rfl rfl (fun u a _ hag => ?_) ?_
    · have e1 : a.eval (.tmp 17) = u8V x.2 := ev_run (e := .av (.val (u8V x.2))) hag rfl
      simp only [execOp, List.map_toArray, List.map_cons, List.map_nil, e1, build_sum, Sem.run_bind, Result.andThen_ok, Sem.run_pure]
      rfl
    refine RunH.adv tb_ok [] rfl rfl (by simp [AllOb, Ob.P, sum_len, sz_sum, one_int, u8V_one]) ?_
    refine RunH.appendK (κ := kEntry) (id := 2) (l := (ps.take i).map pairE) (r := [pairE x]) rfl rfl rfl rfl rfl rfl elt_entry rfl rfl (fun u hu => hu.liesRow (κ := kEntry) (l := [pairE x]) (id := 4) rfl (by simp [hl])) (by rw [hml, List.length_singleton]; omega) (by rw [hml, List.length_singleton]; omega) ?_
    intro A2 c2 m2 hm2
    rw [← hms]
    refine RunH.adv tb_ok [] rfl rfl (by simp <;> omega) ?_
    exact RunH.again (i + 1, (A2, c2)) (.head _) rfl rfl (by show ps.length - (i + 1) < ps.length - i; omega) fun u hu => ⟨hu.1, hlt⟩
  · have hi' : i = ps.length := by omega
    subst hi'
    rw [List.take_length]
    refine RunH.adv tb_ok [false] rfl rfl (by simp <;> omega) ?_
    exact RunH.retBox tb_ok (.st [.row 2 (.slice A (ps.map pairE).length c), .val (.slice none 0 0)]) Tryz.func80 rfl rfl rfl rfl fun w hst => ⟨(A, c), rfl, hst.out [(0, 2)] rfl rfl fun u h => ⟨h.1.1, trivial⟩⟩
end Go.Proofs.YtagnkcdhenilbaaGreatDoor

namespace Go.Proofs.YtagnkcdhenilbaaGreatDoor
open Go V

def q1 : List (Str × UInt8) := [([97, 46, 109, 97, 112], 1), ([98, 46, 109, 97, 112], 1), ([99, 46, 109, 97, 112], 2), ([109, 97, 112, 46, 105, 100], 2)]
def q2 : List (Str × UInt8) := [([108, 105, 115, 116, 46, 109, 97, 112], 2), ([109, 97, 112], 1)]
def q3 : List (Str × UInt8) := [([97, 46, 98], 1), ([97, 46, 98, 46, 99], 2), ([97, 98], 3)]
def q4 : List (Str × UInt8) := [([98], 1), ([98, 46, 99], 2)]
def t1 : List Entry := q1.map pairE
def t2 : List Entry := q2.map pairE
def t3 : List Entry := q3.map pairE
def t4 : List Entry := q4.map pairE

theorem f1 : findE t1 [] 1 [109, 97, 112] = 0 := by kernel_rfl
theorem f1l : (findL t1 [] 1 [109, 97, 112]).length = 3 := by kernel_rfl
theorem f2 : plainE t1 [] 1 [109, 97, 112] = 7 := by kernel_rfl
theorem f3 : plainE t1 [] 1 [97, 46, 109, 97, 112] = 0 := by kernel_rfl
theorem f3s : (plainS t1 [] 1 [97, 46, 109, 97, 112]).l = (sumN 1).l := by kernel_rfl
theorem f4 : namesE t1 [] 1 (sumN 2) = 0 := by kernel_rfl
theorem f4s : nameS t1 [] 1 (sumN 2) = [105, 100] := by kernel_rfl
theorem f5 : namesE t1 [] 1 (sumN 1) = 0 := by kernel_rfl
theorem f5s : nameS t1 [] 1 (sumN 1) = [97, 46, 109, 97, 112] := by kernel_rfl
theorem f6 : plainE t2 [] 1 [109, 97, 112] = 0 := by kernel_rfl
theorem f6s : (plainS t2 [] 1 [109, 97, 112]).l = (sumN 1).l := by kernel_rfl
theorem f7 : namesE t2 [] 1 (sumN 2) = 0 := by kernel_rfl
theorem f7s : nameS t2 [] 1 (sumN 2) = [108, 105, 115, 116, 46, 109, 97, 112] := by kernel_rfl
theorem f8 : undE t3 [] [97] = 0 := by kernel_rfl
theorem f8l : decide (underL [97] t3 = t4) = true := by kernel_rfl
theorem f8n : underL [97] [] = [] := by kernel_rfl
theorem f9 : intoE t3 [] t4 [] [100] = 0 := by kernel_rfl
theorem f9l : (putL [100] t3 t4).length = 5 := by kernel_rfl
theorem f10 : intoE t3 [] t4 [] [97] = 5 := by kernel_rfl
theorem f11a : addE t3 [] 1 [65] = 4 := by kernel_rfl
theorem f11b : addE t3 [] 1 [97, 46, 98, 46, 99, 46, 100, 46, 101, 46, 102] = 4 := by kernel_rfl
theorem f11c : MoveE t3 [] 1 [97, 98] [97, 98] = 5 := by kernel_rfl
theorem f11d : DropE t3 [] 3 [97, 98] = 3 := by kernel_rfl
end Go.Proofs.YtagnkcdhenilbaaGreatDoor

namespace Go.Proofs.YtagnkcdhenilbaaGreatDoor
open Go V

def sA : Sum := ⟨[186, 15, 11, 134, 203, 67, 253, 82, 130, 71, 196, 239, 186, 12, 98, 183, 56, 213, 121, 44, 36, 150, 83, 146, 142, 193, 11, 21, 75, 149, 26, 226], rfl⟩
def sB : Sum := ⟨[38, 240, 161, 158, 224, 94, 252, 222, 104, 221, 87, 61, 158, 216, 149, 167, 50, 181, 222, 217, 164, 37, 248, 234, 174, 91, 154, 30, 212, 198, 168, 99], rfl⟩
def sC : Sum := ⟨[125, 254, 7, 251, 140, 118, 9, 54, 117, 102, 60, 80, 73, 141, 42, 24, 76, 231, 131, 66, 31, 97, 215, 124, 221, 152, 246, 159, 21, 113, 179, 11], rfl⟩
def sD : Sum := ⟨[159, 204, 255, 15, 144, 85, 186, 254, 81, 183, 126, 198, 24, 170, 5, 255, 4, 45, 75, 100, 51, 232, 67, 200, 135, 112, 233, 132, 127, 170, 177, 46], rfl⟩

theorem sum_ext {x y : Sum} (h : x.l = y.l) : x = y := by
  cases x; cases y; cases h; rfl

theorem comA : comS Sum.zero [] [49] = sA := sum_ext (by kernel_rfl)
theorem comBe : comS Sum.zero [sA] [50] = sB := sum_ext (by kernel_rfl)
theorem comCe : comS Sum.zero [sA] [51] = sC := sum_ext (by kernel_rfl)
theorem comDe : comS Sum.zero [sB, sC] [52] = sD := sum_ext (by kernel_rfl)
theorem ceA : comE [] [49] = 0 := by kernel_rfl
theorem ceB : comE [sA] [50] = 0 := by kernel_rfl
theorem ceC : comE [sA] [51] = 0 := by kernel_rfl
theorem ceD : comE [sB, sC] [52] = 0 := by kernel_rfl
theorem ceT : comE [sA, sA] [] = 5 := by kernel_rfl

def cs4 (A1 A2 A3 A4 : Option Addr) (n1 n2 n3 n4 : Nat) : List Com := [⟨Sum.zero, ⟨A1, n1, []⟩, [49]⟩, ⟨Sum.zero, ⟨A2, n2, [sA]⟩, [50]⟩, ⟨Sum.zero, ⟨A3, n3, [sA]⟩, [51]⟩, ⟨Sum.zero, ⟨A4, n4, [sB, sC]⟩, [52]⟩]

theorem hist4 (A1 A2 A3 A4 : Option Addr) (n1 n2 n3 n4 : Nat) : hist (cs4 A1 A2 A3 A4 n1 n2 n3 n4) = (0, [sA, sB, sC, sD]) := by
  have hb : ¬ 60 < (cs4 A1 A2 A3 A4 n1 n2 n3 n4).length := by show ¬ 60 < 4; decide
  unfold hist
  rw [if_neg hb]
  unfold cs4
  rw [hist_step, if_pos ceA]
  dsimp only
  rw [comA, if_neg (by simp), if_neg (by simp [hasD])]
  rw [hist_step, if_pos ceB]
  dsimp only
  rw [comBe, if_neg (by decide), if_neg (by decide)]
  rw [hist_step, if_pos ceC]
  dsimp only
  rw [comCe, if_neg (by decide), if_neg (by decide)]
  rw [hist_step, if_pos ceD]
  dsimp only
  rw [comDe, if_neg (by decide), if_neg (by decide)]
  rfl

theorem base1 (A1 A2 A3 A4 : Option Addr) (n1 n2 n3 n4 : Nat) : bases (cs4 A1 A2 A3 A4 n1 n2 n3 n4) sB sC = (0, [sA]) := by
  unfold bases
  rw [hist4]
  kernel_rfl
theorem base2 (A1 A2 A3 A4 : Option Addr) (n1 n2 n3 n4 : Nat) : bases (cs4 A1 A2 A3 A4 n1 n2 n3 n4) sB sD = (0, [sB]) := by
  unfold bases
  rw [hist4]
  kernel_rfl
end Go.Proofs.YtagnkcdhenilbaaGreatDoor

namespace Go.Proofs.YtagnkcdhenilbaaGreatDoor
open Go V RowKit

abbrev spcOf (z : Option Addr × Nat) (l : List Entry) : Spc := ⟨⟨z.1, z.2, l⟩, ⟨none, 0, []⟩⟩
abbrev spc2 (z : (Option Addr × Nat) × (Option Addr × Nat)) (l : List Entry) : Spc := ⟨⟨z.1.1, z.1.2, l⟩, ⟨z.2.1, z.2.2, []⟩⟩
theorem nil_ok (w : World) : Sl kEntry w none 0 [] := ⟨Nat.le_refl _, Nat.zero_le _, fun h => absurd rfl h, fun j v h => by simp at h, fun _ => ⟨rfl, rfl⟩⟩

theorem Does_none {P : Program} {tb : TT} {g : FuncId} {xs : List Value} {Gi : Heap} {pre : World → Prop} {α : Type} {V : α → Value} {G' : α → Heap} {J : α → Nat → World → Prop} (h : Does P tb g xs Gi pre V G' J) : Does P tb g xs Gi pre V (fun _ => []) J := by
  intro B0 w K hst hp
  refine (h B0 w K hst hp).mono ?_
  rintro e w' ⟨x, rfl, hx⟩
  exact ⟨x, rfl, hx.congr fun k y hy => by cases hy⟩

theorem wFind (z : Option Addr × Nat) : Does Tryz.prog tb 24 [(spcOf z t1).ev.v, intV 1, strV [109, 97, 112]] [] (fun u => MaxLen u ∧ (spcOf z t1).ok u) (fun y : Option Addr × Nat => .tuple #[.slice y.1 3 y.2, intV 0]) (fun _ => []) (fun _ _ _ => True) := by
  have h := Does_none (Find_spec (spcOf z t1) 1 [109, 97, 112] (by show 4 ≤ _; decide) (by show 0 ≤ _; decide))
  dsimp only [spcOf] at h
  rw [f1, f1l] at h
  exact h

theorem wPlain1 (w : World) (z : Option Addr × Nat) (hM : MaxLen w) (hs : (spcOf z t1).ok w) : Gives Tryz.prog 26 [(spcOf z t1).ev.v, intV 1, strV [109, 97, 112]] w (.av (.val (.tuple #[sumV (plainS t1 [] 1 [109, 97, 112]), intV 7]))) := by
  have h := Plain_spec w (spcOf z t1) 1 [109, 97, 112] hM hs (by show t1.length ≤ _; decide) (by show 0 ≤ _; decide)
  dsimp only [spcOf] at h
  rw [f2] at h
  exact h

theorem wPlain2 (w : World) (z : Option Addr × Nat) (hM : MaxLen w) (hs : (spcOf z t1).ok w) : Gives Tryz.prog 26 [(spcOf z t1).ev.v, intV 1, strV [97, 46, 109, 97, 112]] w (.av (.val (.tuple #[sumV (sumN 1), intV 0]))) := by
  have h := Plain_spec w (spcOf z t1) 1 [97, 46, 109, 97, 112] hM hs (by show t1.length ≤ _; decide) (by show 0 ≤ _; decide)
  dsimp only [spcOf] at h
  rw [f3, sum_ext f3s] at h
  exact h

theorem wPlain3 (w : World) (z : Option Addr × Nat) (hM : MaxLen w) (hs : (spcOf z t2).ok w) : Gives Tryz.prog 26 [(spcOf z t2).ev.v, intV 1, strV [109, 97, 112]] w (.av (.val (.tuple #[sumV (sumN 1), intV 0]))) := by
  have h := Plain_spec w (spcOf z t2) 1 [109, 97, 112] hM hs (by show t2.length ≤ _; decide) (by show 0 ≤ _; decide)
  dsimp only [spcOf] at h
  rw [f6, sum_ext f6s] at h
  exact h

theorem wName1 (w : World) (z : Option Addr × Nat) (hM : MaxLen w) (hs : (spcOf z t1).ok w) : Gives Tryz.prog 31 [(spcOf z t1).ev.v, intV 1, sumV (sumN 2)] w (.av (.val (.tuple #[strV [105, 100], intV 0]))) := by
  have h := Name_spec w (spcOf z t1) 1 (sumN 2) hM hs (by show t1.length ≤ _; decide) (by show 0 ≤ _; decide)
  dsimp only [spcOf] at h
  rw [f4, f4s] at h
  exact h

theorem wName2 (w : World) (z : Option Addr × Nat) (hM : MaxLen w) (hs : (spcOf z t1).ok w) : Gives Tryz.prog 31 [(spcOf z t1).ev.v, intV 1, sumV (sumN 1)] w (.av (.val (.tuple #[strV [97, 46, 109, 97, 112], intV 0]))) := by
  have h := Name_spec w (spcOf z t1) 1 (sumN 1) hM hs (by show t1.length ≤ _; decide) (by show 0 ≤ _; decide)
  dsimp only [spcOf] at h
  rw [f5, f5s] at h
  exact h

theorem wName3 (w : World) (z : Option Addr × Nat) (hM : MaxLen w) (hs : (spcOf z t2).ok w) : Gives Tryz.prog 31 [(spcOf z t2).ev.v, intV 1, sumV (sumN 2)] w (.av (.val (.tuple #[strV [108, 105, 115, 116, 46, 109, 97, 112], intV 0]))) := by
  have h := Name_spec w (spcOf z t2) 1 (sumN 2) hM hs (by show t2.length ≤ _; decide) (by show 0 ≤ _; decide)
  dsimp only [spcOf] at h
  rw [f7, f7s] at h
  exact h

theorem f8t : underL [97] t3 = t4 := of_decide_eq_true f8l

theorem wUnder (z : Option Addr × Nat) : Does Tryz.prog tb 33 [(spcOf z t3).ev.v, strV [97]] [] (fun u => MaxLen u ∧ (spcOf z t3).ok u) (fun y : (Option Addr × Nat) × (Option Addr × Nat) => .tuple #[.agg #[.slice y.1.1 t4.length y.1.2, .slice y.2.1 0 y.2.2], intV 0])
    (fun y => [(0, rowE kEntry y.1.1 y.1.2 t4), (1, rowE kEntry y.2.1 y.2.2 [])]) (fun _ _ _ => True) := by
  have h := Under_ok (spcOf z t3) [97] f8 (by show t3.length ≤ _; decide) (by show 0 ≤ _; decide) (by decide)
  dsimp only [spcOf] at h
  rw [f8t, f8n] at h
  exact h

theorem wInto1 (z : Option Addr × Nat) (y : (Option Addr × Nat) × (Option Addr × Nat)) : Does Tryz.prog tb 35 [(spcOf z t3).ev.v, strV [100], (spc2 y t4).ev.v] [] (fun u => MaxLen u ∧ (spcOf z t3).ok u ∧ (spc2 y t4).ok u) (fun q : (Option Addr × Nat) × (Option Addr × Nat) => .tuple #[.agg #[.slice q.1.1 5 q.1.2, .slice q.2.1 (putL [100] [] []).length q.2.2], intV 0]) (fun _ => []) (fun _ _ _ => True) := by
  have h := Does_none (Into_spec (spcOf z t3) (spc2 y t4) [100] (by show t3.length ≤ _; decide) (by show 0 ≤ _; decide) (by show t4.length ≤ _; decide) (by show 0 ≤ _; decide))
  dsimp only [spcOf, spc2] at h
  rw [f9] at h
  unfold inT at h
  rw [if_pos rfl, if_pos rfl, f9l] at h
  exact h

theorem wInto2 (z : Option Addr × Nat) (y : (Option Addr × Nat) × (Option Addr × Nat)) : Does Tryz.prog tb 35 [(spcOf z t3).ev.v, strV [97], (spc2 y t4).ev.v] [] (fun u => MaxLen u ∧ (spcOf z t3).ok u ∧ (spc2 y t4).ok u) (fun q : (Option Addr × Nat) × (Option Addr × Nat) => .tuple #[.agg #[.slice q.1.1 0 q.1.2, .slice q.2.1 0 q.2.2], intV 5]) (fun _ => []) (fun _ _ _ => True) := by
  have h := Does_none (Into_spec (spcOf z t3) (spc2 y t4) [97] (by show t3.length ≤ _; decide) (by show 0 ≤ _; decide) (by show t4.length ≤ _; decide) (by show 0 ≤ _; decide))
  dsimp only [spcOf, spc2] at h
  rw [f10] at h
  unfold inT at h
  rw [if_neg (by decide), if_neg (by decide)] at h
  exact h

theorem wAdd1 (z : Option Addr × Nat) (x : Sum) : Does Tryz.prog tb 46 [(spcOf z t3).ev.v, intV 1, strV [65], sumV x] [] (fun u => MaxLen u ∧ (spcOf z t3).ok u) (fun q : (Option Addr × Nat) × (Option Addr × Nat) => .tuple #[.agg #[.slice q.1.1 0 q.1.2, .slice q.2.1 0 q.2.2], intV 4]) (fun _ => []) (fun _ _ _ => True) := by
  have h := Does_none (Add_spec (spcOf z t3) 1 [65] x (by show t3.length ≤ _; decide) (by show 0 ≤ _; decide))
  dsimp only [spcOf] at h
  rw [f11a] at h
  unfold edT edY at h
  rw [if_neg (by decide), if_neg (by decide)] at h
  exact h

theorem wAdd2 (z : Option Addr × Nat) (x : Sum) : Does Tryz.prog tb 46 [(spcOf z t3).ev.v, intV 1, strV [97, 46, 98, 46, 99, 46, 100, 46, 101, 46, 102], sumV x] [] (fun u => MaxLen u ∧ (spcOf z t3).ok u) (fun q : (Option Addr × Nat) × (Option Addr × Nat) => .tuple #[.agg #[.slice q.1.1 0 q.1.2, .slice q.2.1 0 q.2.2], intV 4]) (fun _ => []) (fun _ _ _ => True) := by
  have h := Does_none (Add_spec (spcOf z t3) 1 [97, 46, 98, 46, 99, 46, 100, 46, 101, 46, 102] x (by show t3.length ≤ _; decide) (by show 0 ≤ _; decide))
  dsimp only [spcOf] at h
  rw [f11b] at h
  unfold edT edY at h
  rw [if_neg (by decide), if_neg (by decide)] at h
  exact h

theorem wMove (z : Option Addr × Nat) : Does Tryz.prog tb 51 [(spcOf z t3).ev.v, intV 1, strV [97, 98], strV [97, 98]] [] (fun u => MaxLen u ∧ (spcOf z t3).ok u) (fun q : (Option Addr × Nat) × (Option Addr × Nat) => .tuple #[.agg #[.slice q.1.1 0 q.1.2, .slice q.2.1 0 q.2.2], intV 5]) (fun _ => []) (fun _ _ _ => True) := by
  have h := Does_none (Move_all (spcOf z t3) 1 [97, 98] [97, 98] (by show t3.length ≤ _; decide) (by show 0 ≤ _; decide))
  dsimp only [spcOf] at h
  rw [f11c] at h
  unfold edT edY at h
  rw [if_neg (by decide), if_neg (by decide)] at h
  exact h

theorem wDrop (z : Option Addr × Nat) : Does Tryz.prog tb 45 [(spcOf z t3).ev.v, intV 3, strV [97, 98]] [] (fun u => MaxLen u ∧ (spcOf z t3).ok u) (fun q : (Option Addr × Nat) × (Option Addr × Nat) => .tuple #[.agg #[.slice q.1.1 0 q.1.2, .slice q.2.1 0 q.2.2], intV 3]) (fun _ => []) (fun _ _ _ => True) := by
  have h := Does_none (Drop_all (spcOf z t3) 3 [97, 98] (by show t3.length ≤ _; decide) (by show 0 ≤ _; decide))
  dsimp only [spcOf] at h
  rw [f11d] at h
  unfold edT edY at h
  rw [if_neg (by decide), if_neg (by decide)] at h
  exact h
end Go.Proofs.YtagnkcdhenilbaaGreatDoor
