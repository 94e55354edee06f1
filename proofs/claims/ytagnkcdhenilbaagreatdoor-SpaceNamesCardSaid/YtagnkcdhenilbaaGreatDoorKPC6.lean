/-
A part of the proofs of the laws of a seat: contracts of functions and lemmas on them; the listed package variables hold what the program's text lays. No further condition.
-/
import Derived.Test.YtagnkcdhenilbaaGreatDoorKPC2
set_option linter.unusedVariables false
set_option linter.unusedSectionVars false
set_option linter.unusedSimpArgs false
namespace Go.Proofs.YtagnkcdhenilbaaGreatDoor
open Go V RowKit

/-- What a history that is right says of its commits. -/
theorem histGo_ok : ∀ (r : List Com) (out S : List Sum), histGo r out = (0, S) → (∃ T, S = out ++ T ∧ T.length = r.length) ∧ ∀ i (h : i < r.length), ∀ p ∈ r[i].ps.l, hasD (S.take (out.length + i)) p = true
  | [], out, S, h => by
    have h : (0, out) = ((0 : Int), S) := h
    injection h with _ h
    subst h
    exact ⟨⟨[], by simp⟩, fun i h => by cases h⟩
  | x :: r, out, S, h => by
    rw [hist_step] at h
    split at h
    · split at h
      · cases h
      · rename_i hp
        split at h
        · cases h
        · obtain ⟨⟨T, hT, hTl⟩, ih⟩ := histGo_ok r _ S h
          refine ⟨⟨comS x.root x.ps.l x.note :: T, by rw [hT]; simp, by simp [hTl]⟩, ?_⟩
          intro i hi p hpm
          cases i with
          | zero =>
            have hpm : p ∈ x.ps.l := hpm
            have : S.take (out.length + 0) = out := by rw [hT, Nat.add_zero, List.append_assoc, List.take_left]
            rw [this]
            have h2 : (x.ps.l.any fun p => !hasD out p) = false := by simpa using hp
            rw [List.any_eq_false] at h2
            simpa using h2 p hpm
          | succ i =>
            have := ih i (by simpa using hi) p (by simpa using hpm)
            rw [List.length_append, List.length_singleton, Nat.add_assoc, Nat.add_comm 1 i] at this
            exact this
    · rename_i hc
      injection h with h1 h2
      exact absurd h1 hc

theorem hist_ok {cs : List Com} {S : List Sum} (h : hist cs = (0, S)) : S.length = cs.length ∧ cs.length ≤ 60 ∧ ∀ i (h : i < cs.length), ∀ p ∈ cs[i].ps.l, hasD (S.take i) p = true := by
  unfold hist at h
  split at h
  · cases h
  · rename_i hb
    obtain ⟨⟨T, hT, hTl⟩, h2⟩ := histGo_ok cs [] S h
    refine ⟨by rw [hT]; simpa using hTl, by omega, fun i hi p hp => ?_⟩
    have := h2 i hi p hp
    simpa using this

set_option maxRecDepth 10000 in
theorem bases1_spec (w : World) (b1 b2 ma mb : Nat) (A B : List Sum) (s : Sum)
    (h1 : ∀ u, Ext w u → (loadVar 166 ⟨b1, 0, none⟩).run Tryz.prog u = .ok (.map (some ma)) u) (h2 : ∀ u, Ext w u → (loadVar 166 ⟨b2, 0, none⟩).run Tryz.prog u = .ok (.map (some mb)) u)
    (hA : ∀ u, Ext w u → u.heap[ma]? = some (mapO sumV (isE A))) (hB : ∀ u, Ext w u → u.heap[mb]? = some (mapO sumV (isE B))) :
    Gives Tryz.prog 136 [sumV s, .pointer (some ⟨b1, 0, none⟩), .pointer (some ⟨b2, 0, none⟩)] w (boolE (!hasD A s || !hasD B s)) := by
  refine enterH tb_ok [(0, sumE s), (1, .av (.val (.pointer (some ⟨b1, 0, none⟩)))), (2, .av (.val (.pointer (some ⟨b2, 0, none⟩))))] Tryz.func136 rfl Tryz.ntmps136 rfl rfl ?_
  refine RunH.adv tb_ok [] rfl rfl (by simp [AllOb, Ob.P, sum_len, sz_sum, one_int, u8V_one]) ?_
  refine RunH.load (.av (.val (.map (some ma)))) rfl rfl rfl rfl (fun u hu => h1 u hu) ?_
  refine RunH.adv tb_ok [] rfl rfl (by simp [AllOb, Ob.P, sum_len, sz_sum, one_int, u8V_one] <;> omega) ?_
  refine RunH.go rfl rfl (OpGo.lookupV (es := isE A) (k := s) (.bool (hasD A s)) key_sum und_is zero_bool rfl rfl rfl rfl rfl (fun u hu => hA u hu.fact) (getM_is A s)) 1 ?_
  rintro ⟨⟩ m1 hm1
  by_cases ha : hasD A s = true
  · refine RunH.adv tb_ok [false] rfl rfl (by simp [AllOb, Ob.P, sum_len, sz_sum, one_int, u8V_one, ha] <;> omega) ?_
    refine RunH.load (.av (.val (.map (some mb)))) rfl rfl rfl rfl (fun u hu => h2 u hu) ?_
    refine RunH.adv tb_ok [] rfl rfl (by simp [AllOb, Ob.P, sum_len, sz_sum, one_int, u8V_one] <;> omega) ?_
    refine RunH.go rfl rfl (OpGo.lookupV (es := isE B) (k := s) (.bool (hasD B s)) key_sum und_is zero_bool rfl rfl rfl rfl rfl (fun u hu => hB u hu.fact) (getM_is B s)) 1 ?_
    rintro ⟨⟩ m2 hm2
    refine RunH.adv tb_ok [] rfl rfl (by simp [AllOb, Ob.P, sum_len, sz_sum, one_int, u8V_one] <;> omega) ?_
    refine RunH.ret1 Tryz.func136 rfl rfl fun u hu => ⟨by simp [ha] <;> rfl, hu.fact⟩
  · refine RunH.adv tb_ok [true] rfl rfl (by simp [AllOb, Ob.P, sum_len, sz_sum, one_int, u8V_one, ha] <;> omega) ?_
    refine RunH.ret1 Tryz.func136 rfl rfl fun u hu => ⟨by simp [ha] <;> rfl, hu.fact⟩

/-- What a call of ancestors sees. -/
abbrev ancL (cs : List Com) (sums : List Sum) (t : Sum) : List Sum := upL (parL cs sums) cs.length [] t

set_option maxRecDepth 10000 in
theorem bases21_spec (w : World) (b1 bl bm : Nat) (LA : Option Addr) (lc : Nat) (cs : List Com) (SA : Option Addr) (sc : Nat) (sums : List Sum) (s t : Sum) (hlen : sums.length = cs.length)
    (hpar : ∀ i (h : i < cs.length), ∀ p ∈ cs[i].ps.l, hasD (sums.take i) p = true) (ht : hasD sums t = true)
    (h1 : ∀ u, Ext w u → (loadVar 39 ⟨b1, 0, none⟩).run Tryz.prog u = .ok (sumV s) u) (h2 : ∀ u, Ext w u → (loadVar 69 ⟨bl, 0, none⟩).run Tryz.prog u = .ok (.slice LA cs.length lc) u) (h3 : ∀ u, Ext w u → (loadVar 71 ⟨bm, 0, none⟩).run Tryz.prog u = .ok (.slice SA sums.length sc) u)
    (hcs : Sl kCom w LA lc cs) (hps : ∀ q ∈ cs, Sl kSum w q.ps.A q.ps.c q.ps.l) (hsm : Sl kSum w SA sc sums) :
    Gives Tryz.prog 138 [sumV t, .pointer (some ⟨b1, 0, none⟩), .pointer (some ⟨bl, 0, none⟩), .pointer (some ⟨bm, 0, none⟩)] w (boolE (!decide (t = s) && hasD (ancL cs sums t) s)) := by
  refine enterH tb_ok [(0, sumE t), (1, .av (.val (.pointer (some ⟨b1, 0, none⟩)))), (2, .av (.val (.pointer (some ⟨bl, 0, none⟩)))), (3, .av (.val (.pointer (some ⟨bm, 0, none⟩))))] Tryz.func138 rfl Tryz.ntmps138 rfl rfl ?_
  refine RunH.adv tb_ok [] rfl rfl (by simp [AllOb, Ob.P, sum_len, sz_sum, one_int, u8V_one]) ?_
  refine RunH.draw rfl [(0, some (.box w.heap.size [.val (sumV t)] 39))] rfl 12 rfl rfl ?_
  refine RunD.adv tb_ok (by kernel_rfl) [] rfl rfl (by simp [AllOb, Ob.P, sum_len, sz_sum, one_int, u8V_one] <;> omega) ?_
  refine RunD.load (by kernel_rfl) (i := 1) (sumE s) rfl rfl rfl rfl rfl rfl (fun u hu => h1 u hu) ?_
  by_cases hts : t = s
  · refine RunD.read (by kernel_rfl) (i := 2) .ff rfl rfl rfl rfl rfl rfl (fun u a h hag => by
      have e : EV.ff.v = (EV.av (.val (.bool (!decide (t = s))))).v := by simp [hts, EV.v, AV.v]
      rw [e]
      exact op_neq hag rfl rfl rfl rfl rfl (by kernel_rfl) (eq_sum u 9998 _ _)) ?_
    refine RunD.adv tb_ok (by kernel_rfl) [] rfl rfl (by simp [AllOb, Ob.P, sum_len, sz_sum, one_int, u8V_one] <;> omega) ?_
    refine RunD.done (.inl rfl) (by kernel_rfl) ?_
    refine RunH.adv tb_ok [] rfl rfl (by simp [AllOb, Ob.P, sum_len, sz_sum, one_int, u8V_one] <;> omega) ?_
    refine RunH.ret1 Tryz.func138 rfl rfl fun u hu => ⟨by simp [hts] <;> rfl, hu.fact⟩
  · refine RunD.read (by kernel_rfl) (i := 2) .tt rfl rfl rfl rfl rfl rfl (fun u a h hag => by
      have e : EV.tt.v = (EV.av (.val (.bool (!decide (t = s))))).v := by simp [hts, EV.v, AV.v]
      rw [e]
      exact op_neq hag rfl rfl rfl rfl rfl (by kernel_rfl) (eq_sum u 9998 _ _)) ?_
    refine RunD.adv tb_ok (by kernel_rfl) [] rfl rfl (by simp [AllOb, Ob.P, sum_len, sz_sum, one_int, u8V_one] <;> omega) ?_
    refine RunD.load (by kernel_rfl) (i := 4) (slE LA cs.length lc) rfl rfl rfl rfl rfl rfl (fun u hu => h2 u hu) ?_
    refine RunD.load (by kernel_rfl) (i := 5) (slE SA sums.length sc) rfl rfl rfl rfl rfl rfl (fun u hu => h3 u hu) ?_
    refine RunD.load (by kernel_rfl) (i := 8) (sumE s) rfl rfl rfl rfl rfl rfl (fun u hu => h1 u hu) ?_
    refine RunD.adv tb_ok (by kernel_rfl) [] rfl rfl (by simp [AllOb, Ob.P, sum_len, sz_sum, one_int, u8V_one] <;> omega) ?_
    refine RunD.doesB (i := 7) [] 2 (fun mb : Nat => .av (.val (.map (some mb)))) rfl (by kernel_rfl) rfl rfl rfl rfl Tryz.call131 (anc_spec LA lc cs SA sc sums hlen hpar t ht) rfl rfl (fun _ => rfl) (fun _ => rfl) (fun u hu => ⟨hcs.ext hu.fact, fun q hq => (hps q hq).ext hu.fact, hsm.ext hu.fact⟩) (fun _ => rfl) (fun _ h => h) ?_
    rintro mb m1 hm1
    refine RunD.adv tb_ok (by kernel_rfl) [] rfl rfl (by simp [AllOb, Ob.P, sum_len, sz_sum, one_int, u8V_one] <;> omega) ?_
    refine RunD.go (i := 9) rfl (by kernel_rfl) rfl (OpGo.lookupV (es := isE (ancL cs sums t)) (k := s) (.bool (hasD (ancL cs sums t) s)) key_sum und_is zero_bool rfl rfl rfl rfl rfl (fun u hu => (hu.holds 1 _ rfl).2) (getM_is _ s)) 2 (fun _ => rfl) (fun _ _ h => h.1) ?_
    rintro ⟨⟩ m2 hm2
    refine RunD.adv tb_ok (by kernel_rfl) [] rfl rfl (by simp [AllOb, Ob.P, sum_len, sz_sum, one_int, u8V_one] <;> omega) ?_
    refine RunD.done (.inl rfl) (by kernel_rfl) ?_
    refine RunH.adv tb_ok [] rfl rfl (by simp [AllOb, Ob.P, sum_len, sz_sum, one_int, u8V_one] <;> omega) ?_
    refine RunH.ret1 Tryz.func138 rfl rfl fun u hu => ⟨by simp [hts] <;> rfl, hu.fact.1⟩

set_option maxRecDepth 10000 in
theorem bases2_spec (w : World) (bc bl bm : Nat) (CA : Option Addr) (cc : Nat) (com : List Sum) (LA : Option Addr) (lc : Nat) (cs : List Com) (SA : Option Addr) (sc : Nat) (sums : List Sum) (s : Sum) (hlen : sums.length = cs.length)
    (hpar : ∀ i (h : i < cs.length), ∀ p ∈ cs[i].ps.l, hasD (sums.take i) p = true) (hcom : ∀ t ∈ com, hasD sums t = true)
    (h1 : ∀ u, Ext w u → (loadVar 71 ⟨bc, 0, none⟩).run Tryz.prog u = .ok (.slice CA com.length cc) u) (h2 : ∀ u, Ext w u → (loadVar 69 ⟨bl, 0, none⟩).run Tryz.prog u = .ok (.slice LA cs.length lc) u) (h3 : ∀ u, Ext w u → (loadVar 71 ⟨bm, 0, none⟩).run Tryz.prog u = .ok (.slice SA sums.length sc) u)
    (hC : Sl kSum w CA cc com) (hcs : Sl kCom w LA lc cs) (hps : ∀ q ∈ cs, Sl kSum w q.ps.A q.ps.c q.ps.l) (hsm : Sl kSum w SA sc sums) :
    Gives Tryz.prog 137 [sumV s, .pointer (some ⟨bc, 0, none⟩), .pointer (some ⟨bl, 0, none⟩), .pointer (some ⟨bm, 0, none⟩)] w (boolE (com.any fun t => !decide (t = s) && hasD (ancL cs sums t) s)) := by
  refine enterH tb_ok [(0, sumE s), (1, .av (.val (.pointer (some ⟨bc, 0, none⟩)))), (2, .av (.val (.pointer (some ⟨bl, 0, none⟩)))), (3, .av (.val (.pointer (some ⟨bm, 0, none⟩))))] Tryz.func137 rfl Tryz.ntmps137 rfl rfl ?_
  refine RunH.adv tb_ok [] rfl rfl (by simp [AllOb, Ob.P, sum_len, sz_sum, one_int, u8V_one]) ?_
  refine RunH.load (slE CA com.length cc) rfl rfl rfl rfl (fun u hu => h1 u hu) ?_
  refine RunH.adv tb_ok [] rfl rfl (by simp [AllOb, Ob.P, sum_len, sz_sum, one_int, u8V_one] <;> omega) ?_
  refine RunH.gives (ho := rfl) (hw := rfl) (hd := rfl) (hf := rfl) (hes := rfl) (hc := Tryz.call129) (e := boolE (com.any fun t => !decide (t = s) && hasD (ancL cs sums t) s)) (hC := fun u hu => containsFuncD u CA cc com (hC.ext hu.fact) 138 [] [.pointer (some ⟨w.heap.size, 0, none⟩), .pointer (some ⟨bl, 0, none⟩), .pointer (some ⟨bm, 0, none⟩)] _
    ⟨Tryz.call138, fun t ht v hv => bases21_spec v w.heap.size bl bm LA lc cs SA sc sums s t hlen hpar (hcom t ht) (fun u' hu' => hu.loadBox (id := 0) (e := sumE s) tb_ok rfl rfl u' (hv.trans' hu')) (fun u' hu' => h2 u' ((hu.fact.trans' hv).trans' hu')) (fun u' hu' => h3 u' ((hu.fact.trans' hv).trans' hu')) (hcs.ext (hu.fact.trans' hv)) (fun q hq => (hps q hq).ext (hu.fact.trans' hv)) (hsm.ext (hu.fact.trans' hv))⟩) ?_
  intro m1 hm1
  refine RunH.adv tb_ok [] rfl rfl (by simp [AllOb, Ob.P, sum_len, sz_sum, one_int, u8V_one] <;> omega) ?_
  refine RunH.ret1 Tryz.func137 rfl rfl fun u hu => ⟨rfl, hu.fact⟩
end Go.Proofs.YtagnkcdhenilbaaGreatDoor

namespace Go.Proofs.YtagnkcdhenilbaaGreatDoor
open Go V RowKit

def comL (cs : List Com) (S : List Sum) (x y : Sum) : List Sum := keepL (fun s => !hasD (ancL cs S x) s || !hasD (ancL cs S y) s) S
def baseL (cs : List Com) (S : List Sum) (x y : Sum) : List Sum := keepL (fun s => (comL cs S x y).any fun t => !decide (t = s) && hasD (ancL cs S t) s) (comL cs S x y)
def bases (cs : List Com) (x y : Sum) : Int × List Sum :=
  if (hist cs).1 = 0 then (if hasD (hist cs).2 x = true then (if hasD (hist cs).2 y = true then (0, baseL cs (hist cs).2 x y) else (6, [])) else (6, [])) else ((hist cs).1, [])

theorem objExt {w : World} {B0 : Nat} {H : Heap} {I : World → Prop} {id b : Nat} {o : Obj} (hst : St tb B0 H I w) (hH : lookH H id = some (.obj b o)) : ∀ u, Ext w u → u.heap[b]? = some o := fun u hu => by
  have ho := hst.holds id _ hH
  rw [hu.block b (Array.getElem?_eq_some_iff.1 ho.2).1]
  exact ho.2

theorem keepL_mem {p : Sum → Bool} {l : List Sum} {t : Sum} (h : t ∈ keepL p l) : t ∈ l := (List.mem_filter.1 h).1
theorem hasD_mem {l : List Sum} {t : Sum} (h : t ∈ l) : hasD l t = true := by
  unfold hasD; rw [List.any_eq_true]; exact ⟨t, h, by simp⟩

set_option maxRecDepth 10000 in
theorem Bases_spec (LA : Option Addr) (lc : Nat) (cs : List Com) (x y : Sum) :
    Does Tryz.prog tb 63 [.slice LA cs.length lc, sumV x, sumV y] [] (fun u => Glob u ∧ Sl kCom u LA lc cs ∧ ∀ q ∈ cs, Sl kSum u q.ps.A q.ps.c q.ps.l) (fun z : Option Addr × Nat => .tuple #[.slice z.1 (bases cs x y).2.length z.2, intV (bases cs x y).1]) (fun z => [(0, rowE kSum z.1 z.2 (bases cs x y).2)]) (fun _ _ _ => True) := by
  have hl : lim = 140737488351232 := rfl
  refine Does.enter tb_ok [(0, slE LA cs.length lc), (1, sumE x), (2, sumE y)] Tryz.func63 rfl Tryz.ntmps63 rfl rfl 0 ?_
  intro B0 m0 K
  generalize hre : bases cs x y = e
  have hE := hre.symm
  unfold bases at hE
  refine RunH.adv tb_ok [] rfl rfl (by simp [AllOb, Ob.P, sum_len, sz_sum, one_int, u8V_one]) ?_
  refine RunH.doesB [] 4 (hc := Tryz.call58) (ho := rfl) (hw := rfl) (hd := rfl) (hf := rfl) (hes := rfl) (hσ := rfl) (hn := rfl) (hV := fun _ => rfl) (hG := fun _ => rfl) (e := fun z : Option Addr × Nat => .av (.val (.tuple #[.slice z.1 (hist cs).2.length z.2, intV (hist cs).1]))) (hC := History_spec LA lc cs) (hp := fun u hu => hu.fact.2) ?_
  rintro ⟨SA, sc⟩ ms hms
  refine RunH.drop ?_
  by_cases h0 : (hist cs).1 = 0
  · rw [if_pos h0] at hE
    have hh : hist cs = (0, (hist cs).2) := by rw [← h0]
    obtain ⟨hlen, hb60, hpar⟩ := hist_ok hh
    generalize hS : (hist cs).2 = S at *
    refine RunH.adv tb_ok [false] rfl rfl (by simp [AllOb, Ob.P, sum_len, sz_sum, one_int, u8V_one, h0] <;> omega) ?_
    refine RunH.gives (ho := rfl) (hw := rfl) (hd := rfl) (hf := rfl) (hes := rfl) (hc := Tryz.call68) (e := boolE (hasD S x)) (hC := fun u hu => conD_spec u SA sc S (Sl.own (B := B0) (hu.row (κ := kSum) (id := 3) (l := S) rfl) (by omega)) x) ?_
    intro m1 hm1
    by_cases hx : hasD S x = true
    · rw [if_pos hx] at hE
      refine RunH.adv tb_ok [false] rfl rfl (by simp [AllOb, Ob.P, sum_len, sz_sum, one_int, u8V_one, hx] <;> omega) ?_
      refine RunH.gives (ho := rfl) (hw := rfl) (hd := rfl) (hf := rfl) (hes := rfl) (hc := Tryz.call68) (e := boolE (hasD S y)) (hC := fun u hu => conD_spec u SA sc S (Sl.own (B := B0) (hu.row (κ := kSum) (id := 3) (l := S) rfl) (by omega)) y) ?_
      intro M0 hM0
      by_cases hy : hasD S y = true
      · rw [if_pos hy] at hE
        refine RunH.adv tb_ok [false] rfl rfl (by simp [AllOb, Ob.P, sum_len, sz_sum, one_int, u8V_one, hy] <;> omega) ?_
        apply RunH.joinK (α := Nat × Nat × Nat × Nat) (fun z => [(3, .av (.box 0 m0 0)), (8, .av (.box 4 ms 0)), (10, .av (.box 7 z.2.2.1 0)), (11, .av (.box 8 z.2.2.2 0))])
          (fun z => [(0, some (.box m0 [.val (.slice LA cs.length lc)] 69)), (1, some (.box (m0 + 1) [.val (sumV x)] 39)), (2, some (.box (m0 + 1 + 1) [.val (sumV y)] 39)), (3, rowE kSum SA sc S), (4, some (.box ms [.val (.slice SA S.length sc)] 71)), (5, mapE z.1 sumV (isE (ancL cs S x))), (6, mapE z.2.1 sumV (isE (ancL cs S y))), (7, some (.box z.2.2.1 [.val (.map (some z.1))] 166)), (8, some (.box z.2.2.2 [.val (.map (some z.2.1))] 166))])
          (fun _ u => K u ∧ Glob u ∧ Sl kCom u LA lc cs ∧ ∀ q ∈ cs, Sl kSum u q.ps.A q.ps.c q.ps.l)
        · refine RunH.draw rfl [(0, some (.box m0 [.val (.slice LA cs.length lc)] 69)), (1, some (.box (m0 + 1) [.val (sumV x)] 39)), (2, some (.box (m0 + 1 + 1) [.val (sumV y)] 39)), (4, some (.box ms [.val (.slice SA S.length sc)] 71))] rfl 12 rfl rfl ?_
          refine RunD.adv tb_ok (by kernel_rfl) [] rfl rfl (by simp [AllOb, Ob.P, sum_len, sz_sum, one_int, u8V_one] <;> omega) ?_
          refine RunD.three (i := 3) (j := 8) (q := 9) (by kernel_rfl) ?_ ?_ ?_
          · refine opD_go (i := 3) rfl rfl (OpGo.doesB (fo := .func 131) [] 5 (fun mb : Nat => .av (.val (.map (some mb)))) rfl rfl rfl rfl Tryz.call131 (anc_spec LA lc cs SA sc S hlen hpar x hx) rfl rfl (fun u hu => ⟨hu.fact.2.2.1, hu.fact.2.2.2, Sl.own (B := B0) (hu.row (κ := kSum) (id := 3) (l := S) rfl) (by omega)⟩) (fun _ => rfl) (fun _ => rfl)) 6 (fun _ => rfl) (fun _ _ h => h.1) ?_
            rintro m3 n3 hn3
            refine RunD.adv tb_ok (by kernel_rfl) [] rfl rfl (by simp [AllOb, Ob.P, sum_len, sz_sum, one_int, u8V_one] <;> omega) ?_
            refine RunD.three (i := 7) (j := 8) (q := 9) (by kernel_rfl) ?_ ?_ ?_
            · refine opD_go (i := 7) rfl rfl (OpGo.doesB (fo := .func 131) [] 6 (fun mb : Nat => .av (.val (.map (some mb)))) rfl rfl rfl rfl Tryz.call131 (anc_spec LA lc cs SA sc S hlen hpar y hy) rfl rfl (fun u hu => ⟨hu.fact.1.2.2.1, hu.fact.1.2.2.2, Sl.own (B := B0) (hu.row (κ := kSum) (id := 3) (l := S) rfl) (by omega)⟩) (fun _ => rfl) (fun _ => rfl)) 7 (fun _ => rfl) (fun _ _ h => h.1.1) ?_
              rintro m7 n7 hn7
              refine RunD.adv tb_ok (by kernel_rfl) [] rfl rfl (by simp [AllOb, Ob.P, sum_len, sz_sum, one_int, u8V_one] <;> omega) ?_
              refine RunD.two (i := 8) (j := 9) (by kernel_rfl) ?_ ?_
              · refine opD_step tb_ok (nx := 7) (i := 8) rfl rfl rfl rfl ?_ rfl (fun _ h => h.1.1) ⟨rfl, rfl⟩ ?_
                · first | trivial | simp [AllOb, Ob.P] <;> rfl
                refine RunD.adv tb_ok (by kernel_rfl) [] rfl rfl (by simp [AllOb, Ob.P, sum_len, sz_sum, one_int, u8V_one] <;> omega) ?_
                refine RunD.step tb_ok (i := 9) rfl (by kernel_rfl) rfl rfl rfl ?_ rfl (fun _ h => h.1.1) ⟨rfl, rfl⟩ ?_
                · first | trivial | simp [AllOb, Ob.P] <;> rfl
                refine RunD.adv tb_ok (by kernel_rfl) [] rfl rfl (by simp [AllOb, Ob.P, sum_len, sz_sum, one_int, u8V_one] <;> omega) ?_
                refine RunD.step tb_ok (i := 10) rfl (by kernel_rfl) rfl rfl rfl ?_ rfl (fun _ h => h.1.1) rfl ?_
                · first | trivial | simp [AllOb, Ob.P] <;> rfl
                refine RunD.adv tb_ok (by kernel_rfl) [] rfl rfl (by simp [AllOb, Ob.P, sum_len, sz_sum, one_int, u8V_one] <;> omega) ?_
                refine RunD.step tb_ok (i := 11) rfl (by kernel_rfl) rfl rfl rfl ?_ rfl (fun _ h => h.1.1) rfl ?_
                · first | trivial | simp [AllOb, Ob.P] <;> rfl
                refine RunD.done (.inl rfl) (by kernel_rfl) ?_
                refine RunH.meetS (m3, m7, n7, (n7 + 1)) [(5, 5), (6, 6), (7, 7), (8, 8)] (.head _) ?_ ?_ ?_ ?_
                · rfl
                · rfl
                · rfl
                · exact fun w h => h.1.1
              · refine opD_step tb_ok (nx := 7) (i := 9) rfl rfl rfl rfl ?_ rfl (fun _ h => h.1.1) ⟨rfl, rfl⟩ ?_
                · first | trivial | simp [AllOb, Ob.P] <;> rfl
                refine RunD.adv tb_ok (by kernel_rfl) [] rfl rfl (by simp [AllOb, Ob.P, sum_len, sz_sum, one_int, u8V_one] <;> omega) ?_
                refine RunD.step tb_ok (i := 8) rfl (by kernel_rfl) rfl rfl rfl ?_ rfl (fun _ h => h.1.1) ⟨rfl, rfl⟩ ?_
                · first | trivial | simp [AllOb, Ob.P] <;> rfl
                refine RunD.adv tb_ok (by kernel_rfl) [] rfl rfl (by simp [AllOb, Ob.P, sum_len, sz_sum, one_int, u8V_one] <;> omega) ?_
                refine RunD.step tb_ok (i := 10) rfl (by kernel_rfl) rfl rfl rfl ?_ rfl (fun _ h => h.1.1) rfl ?_
                · first | trivial | simp [AllOb, Ob.P] <;> rfl
                refine RunD.adv tb_ok (by kernel_rfl) [] rfl rfl (by simp [AllOb, Ob.P, sum_len, sz_sum, one_int, u8V_one] <;> omega) ?_
                refine RunD.step tb_ok (i := 11) rfl (by kernel_rfl) rfl rfl rfl ?_ rfl (fun _ h => h.1.1) rfl ?_
                · first | trivial | simp [AllOb, Ob.P] <;> rfl
                refine RunD.done (.inl rfl) (by kernel_rfl) ?_
                refine RunH.meetS (m3, m7, (n7 + 1), n7) [(5, 5), (6, 6), (7, 8), (8, 7)] (.head _) ?_ ?_ ?_ ?_
                · rfl
                · rfl
                · rfl
                · exact fun w h => h.1.1
            · refine opD_step tb_ok (nx := 6) (i := 8) rfl rfl rfl rfl ?_ rfl (fun _ h => h.1) ⟨rfl, rfl⟩ ?_
              · first | trivial | simp [AllOb, Ob.P] <;> rfl
              refine RunD.adv tb_ok (by kernel_rfl) [] rfl rfl (by simp [AllOb, Ob.P, sum_len, sz_sum, one_int, u8V_one] <;> omega) ?_
              refine RunD.two (i := 7) (j := 9) (by kernel_rfl) ?_ ?_
              · refine opD_go (i := 7) rfl rfl (OpGo.doesB (fo := .func 131) [] 7 (fun mb : Nat => .av (.val (.map (some mb)))) rfl rfl rfl rfl Tryz.call131 (anc_spec LA lc cs SA sc S hlen hpar y hy) rfl rfl (fun u hu => ⟨hu.fact.1.2.2.1, hu.fact.1.2.2.2, Sl.own (B := B0) (hu.row (κ := kSum) (id := 3) (l := S) rfl) (by omega)⟩) (fun _ => rfl) (fun _ => rfl)) 8 (fun _ => rfl) (fun _ _ h => h.1.1) ?_
                rintro m7 n7 hn7
                refine RunD.adv tb_ok (by kernel_rfl) [] rfl rfl (by simp [AllOb, Ob.P, sum_len, sz_sum, one_int, u8V_one] <;> omega) ?_
                refine RunD.step tb_ok (i := 9) rfl (by kernel_rfl) rfl rfl rfl ?_ rfl (fun _ h => h.1.1) ⟨rfl, rfl⟩ ?_
                · first | trivial | simp [AllOb, Ob.P] <;> rfl
                refine RunD.adv tb_ok (by kernel_rfl) [] rfl rfl (by simp [AllOb, Ob.P, sum_len, sz_sum, one_int, u8V_one] <;> omega) ?_
                refine RunD.step tb_ok (i := 10) rfl (by kernel_rfl) rfl rfl rfl ?_ rfl (fun _ h => h.1.1) rfl ?_
                · first | trivial | simp [AllOb, Ob.P] <;> rfl
                refine RunD.adv tb_ok (by kernel_rfl) [] rfl rfl (by simp [AllOb, Ob.P, sum_len, sz_sum, one_int, u8V_one] <;> omega) ?_
                refine RunD.step tb_ok (i := 11) rfl (by kernel_rfl) rfl rfl rfl ?_ rfl (fun _ h => h.1.1) rfl ?_
                · first | trivial | simp [AllOb, Ob.P] <;> rfl
                refine RunD.done (.inl rfl) (by kernel_rfl) ?_
                refine RunH.meetS (m3, m7, n3, n7) [(5, 5), (6, 7), (7, 6), (8, 8)] (.head _) ?_ ?_ ?_ ?_
                · rfl
                · rfl
                · rfl
                · exact fun w h => h.1.1
              · refine opD_step tb_ok (nx := 7) (i := 9) rfl rfl rfl rfl ?_ rfl (fun _ h => h.1) ⟨rfl, rfl⟩ ?_
                · first | trivial | simp [AllOb, Ob.P] <;> rfl
                refine RunD.adv tb_ok (by kernel_rfl) [] rfl rfl (by simp [AllOb, Ob.P, sum_len, sz_sum, one_int, u8V_one] <;> omega) ?_
                refine RunD.doesB (i := 7) [] 9 (fun mb : Nat => .av (.val (.map (some mb)))) rfl (by kernel_rfl) rfl rfl rfl rfl Tryz.call131 (anc_spec LA lc cs SA sc S hlen hpar y hy) rfl rfl (fun _ => rfl) (fun _ => rfl) (fun u hu => ⟨hu.fact.1.2.2.1, hu.fact.1.2.2.2, Sl.own (B := B0) (hu.row (κ := kSum) (id := 3) (l := S) rfl) (by omega)⟩) (fun _ => rfl) (fun _ h => h.1) ?_
                rintro m7 n7 hn7
                refine RunD.adv tb_ok (by kernel_rfl) [] rfl rfl (by simp [AllOb, Ob.P, sum_len, sz_sum, one_int, u8V_one] <;> omega) ?_
                refine RunD.step tb_ok (i := 10) rfl (by kernel_rfl) rfl rfl rfl ?_ rfl (fun _ h => h.1.1) rfl ?_
                · first | trivial | simp [AllOb, Ob.P] <;> rfl
                refine RunD.adv tb_ok (by kernel_rfl) [] rfl rfl (by simp [AllOb, Ob.P, sum_len, sz_sum, one_int, u8V_one] <;> omega) ?_
                refine RunD.step tb_ok (i := 11) rfl (by kernel_rfl) rfl rfl rfl ?_ rfl (fun _ h => h.1.1) rfl ?_
                · first | trivial | simp [AllOb, Ob.P] <;> rfl
                refine RunD.done (.inl rfl) (by kernel_rfl) ?_
                refine RunH.meetS (m3, m7, n3, (n3 + 1)) [(5, 5), (6, 8), (7, 6), (8, 7)] (.head _) ?_ ?_ ?_ ?_
                · rfl
                · rfl
                · rfl
                · exact fun w h => h.1.1
            · refine opD_step tb_ok (nx := 6) (i := 9) rfl rfl rfl rfl ?_ rfl (fun _ h => h.1) ⟨rfl, rfl⟩ ?_
              · first | trivial | simp [AllOb, Ob.P] <;> rfl
              refine RunD.adv tb_ok (by kernel_rfl) [] rfl rfl (by simp [AllOb, Ob.P, sum_len, sz_sum, one_int, u8V_one] <;> omega) ?_
              refine RunD.two (i := 7) (j := 8) (by kernel_rfl) ?_ ?_
              · refine opD_go (i := 7) rfl rfl (OpGo.doesB (fo := .func 131) [] 7 (fun mb : Nat => .av (.val (.map (some mb)))) rfl rfl rfl rfl Tryz.call131 (anc_spec LA lc cs SA sc S hlen hpar y hy) rfl rfl (fun u hu => ⟨hu.fact.1.2.2.1, hu.fact.1.2.2.2, Sl.own (B := B0) (hu.row (κ := kSum) (id := 3) (l := S) rfl) (by omega)⟩) (fun _ => rfl) (fun _ => rfl)) 8 (fun _ => rfl) (fun _ _ h => h.1.1) ?_
                rintro m7 n7 hn7
                refine RunD.adv tb_ok (by kernel_rfl) [] rfl rfl (by simp [AllOb, Ob.P, sum_len, sz_sum, one_int, u8V_one] <;> omega) ?_
                refine RunD.step tb_ok (i := 8) rfl (by kernel_rfl) rfl rfl rfl ?_ rfl (fun _ h => h.1.1) ⟨rfl, rfl⟩ ?_
                · first | trivial | simp [AllOb, Ob.P] <;> rfl
                refine RunD.adv tb_ok (by kernel_rfl) [] rfl rfl (by simp [AllOb, Ob.P, sum_len, sz_sum, one_int, u8V_one] <;> omega) ?_
                refine RunD.step tb_ok (i := 10) rfl (by kernel_rfl) rfl rfl rfl ?_ rfl (fun _ h => h.1.1) rfl ?_
                · first | trivial | simp [AllOb, Ob.P] <;> rfl
                refine RunD.adv tb_ok (by kernel_rfl) [] rfl rfl (by simp [AllOb, Ob.P, sum_len, sz_sum, one_int, u8V_one] <;> omega) ?_
                refine RunD.step tb_ok (i := 11) rfl (by kernel_rfl) rfl rfl rfl ?_ rfl (fun _ h => h.1.1) rfl ?_
                · first | trivial | simp [AllOb, Ob.P] <;> rfl
                refine RunD.done (.inl rfl) (by kernel_rfl) ?_
                refine RunH.meetS (m3, m7, n7, n3) [(5, 5), (6, 7), (7, 8), (8, 6)] (.head _) ?_ ?_ ?_ ?_
                · rfl
                · rfl
                · rfl
                · exact fun w h => h.1.1
              · refine opD_step tb_ok (nx := 7) (i := 8) rfl rfl rfl rfl ?_ rfl (fun _ h => h.1) ⟨rfl, rfl⟩ ?_
                · first | trivial | simp [AllOb, Ob.P] <;> rfl
                refine RunD.adv tb_ok (by kernel_rfl) [] rfl rfl (by simp [AllOb, Ob.P, sum_len, sz_sum, one_int, u8V_one] <;> omega) ?_
                refine RunD.doesB (i := 7) [] 9 (fun mb : Nat => .av (.val (.map (some mb)))) rfl (by kernel_rfl) rfl rfl rfl rfl Tryz.call131 (anc_spec LA lc cs SA sc S hlen hpar y hy) rfl rfl (fun _ => rfl) (fun _ => rfl) (fun u hu => ⟨hu.fact.1.2.2.1, hu.fact.1.2.2.2, Sl.own (B := B0) (hu.row (κ := kSum) (id := 3) (l := S) rfl) (by omega)⟩) (fun _ => rfl) (fun _ h => h.1) ?_
                rintro m7 n7 hn7
                refine RunD.adv tb_ok (by kernel_rfl) [] rfl rfl (by simp [AllOb, Ob.P, sum_len, sz_sum, one_int, u8V_one] <;> omega) ?_
                refine RunD.step tb_ok (i := 10) rfl (by kernel_rfl) rfl rfl rfl ?_ rfl (fun _ h => h.1.1) rfl ?_
                · first | trivial | simp [AllOb, Ob.P] <;> rfl
                refine RunD.adv tb_ok (by kernel_rfl) [] rfl rfl (by simp [AllOb, Ob.P, sum_len, sz_sum, one_int, u8V_one] <;> omega) ?_
                refine RunD.step tb_ok (i := 11) rfl (by kernel_rfl) rfl rfl rfl ?_ rfl (fun _ h => h.1.1) rfl ?_
                · first | trivial | simp [AllOb, Ob.P] <;> rfl
                refine RunD.done (.inl rfl) (by kernel_rfl) ?_
                refine RunH.meetS (m3, m7, (n3 + 1), n3) [(5, 5), (6, 8), (7, 7), (8, 6)] (.head _) ?_ ?_ ?_ ?_
                · rfl
                · rfl
                · rfl
                · exact fun w h => h.1.1
          · refine opD_step tb_ok (nx := 5) (i := 8) rfl rfl rfl rfl ?_ rfl (fun _ h => h) ⟨rfl, rfl⟩ ?_
            · first | trivial | simp [AllOb, Ob.P] <;> rfl
            refine RunD.adv tb_ok (by kernel_rfl) [] rfl rfl (by simp [AllOb, Ob.P, sum_len, sz_sum, one_int, u8V_one] <;> omega) ?_
            refine RunD.two (i := 3) (j := 9) (by kernel_rfl) ?_ ?_
            · refine opD_go (i := 3) rfl rfl (OpGo.doesB (fo := .func 131) [] 6 (fun mb : Nat => .av (.val (.map (some mb)))) rfl rfl rfl rfl Tryz.call131 (anc_spec LA lc cs SA sc S hlen hpar x hx) rfl rfl (fun u hu => ⟨hu.fact.2.2.1, hu.fact.2.2.2, Sl.own (B := B0) (hu.row (κ := kSum) (id := 3) (l := S) rfl) (by omega)⟩) (fun _ => rfl) (fun _ => rfl)) 7 (fun _ => rfl) (fun _ _ h => h.1) ?_
              rintro m3 n3 hn3
              refine RunD.adv tb_ok (by kernel_rfl) [] rfl rfl (by simp [AllOb, Ob.P, sum_len, sz_sum, one_int, u8V_one] <;> omega) ?_
              refine RunD.two (i := 7) (j := 9) (by kernel_rfl) ?_ ?_
              · refine opD_go (i := 7) rfl rfl (OpGo.doesB (fo := .func 131) [] 7 (fun mb : Nat => .av (.val (.map (some mb)))) rfl rfl rfl rfl Tryz.call131 (anc_spec LA lc cs SA sc S hlen hpar y hy) rfl rfl (fun u hu => ⟨hu.fact.1.2.2.1, hu.fact.1.2.2.2, Sl.own (B := B0) (hu.row (κ := kSum) (id := 3) (l := S) rfl) (by omega)⟩) (fun _ => rfl) (fun _ => rfl)) 8 (fun _ => rfl) (fun _ _ h => h.1.1) ?_
                rintro m7 n7 hn7
                refine RunD.adv tb_ok (by kernel_rfl) [] rfl rfl (by simp [AllOb, Ob.P, sum_len, sz_sum, one_int, u8V_one] <;> omega) ?_
                refine RunD.step tb_ok (i := 9) rfl (by kernel_rfl) rfl rfl rfl ?_ rfl (fun _ h => h.1.1) ⟨rfl, rfl⟩ ?_
                · first | trivial | simp [AllOb, Ob.P] <;> rfl
                refine RunD.adv tb_ok (by kernel_rfl) [] rfl rfl (by simp [AllOb, Ob.P, sum_len, sz_sum, one_int, u8V_one] <;> omega) ?_
                refine RunD.step tb_ok (i := 10) rfl (by kernel_rfl) rfl rfl rfl ?_ rfl (fun _ h => h.1.1) rfl ?_
                · first | trivial | simp [AllOb, Ob.P] <;> rfl
                refine RunD.adv tb_ok (by kernel_rfl) [] rfl rfl (by simp [AllOb, Ob.P, sum_len, sz_sum, one_int, u8V_one] <;> omega) ?_
                refine RunD.step tb_ok (i := 11) rfl (by kernel_rfl) rfl rfl rfl ?_ rfl (fun _ h => h.1.1) rfl ?_
                · first | trivial | simp [AllOb, Ob.P] <;> rfl
                refine RunD.done (.inl rfl) (by kernel_rfl) ?_
                refine RunH.meetS (m3, m7, M0, n7) [(5, 6), (6, 7), (7, 5), (8, 8)] (.head _) ?_ ?_ ?_ ?_
                · rfl
                · rfl
                · rfl
                · exact fun w h => h.1.1
              · refine opD_step tb_ok (nx := 7) (i := 9) rfl rfl rfl rfl ?_ rfl (fun _ h => h.1) ⟨rfl, rfl⟩ ?_
                · first | trivial | simp [AllOb, Ob.P] <;> rfl
                refine RunD.adv tb_ok (by kernel_rfl) [] rfl rfl (by simp [AllOb, Ob.P, sum_len, sz_sum, one_int, u8V_one] <;> omega) ?_
                refine RunD.doesB (i := 7) [] 9 (fun mb : Nat => .av (.val (.map (some mb)))) rfl (by kernel_rfl) rfl rfl rfl rfl Tryz.call131 (anc_spec LA lc cs SA sc S hlen hpar y hy) rfl rfl (fun _ => rfl) (fun _ => rfl) (fun u hu => ⟨hu.fact.1.2.2.1, hu.fact.1.2.2.2, Sl.own (B := B0) (hu.row (κ := kSum) (id := 3) (l := S) rfl) (by omega)⟩) (fun _ => rfl) (fun _ h => h.1) ?_
                rintro m7 n7 hn7
                refine RunD.adv tb_ok (by kernel_rfl) [] rfl rfl (by simp [AllOb, Ob.P, sum_len, sz_sum, one_int, u8V_one] <;> omega) ?_
                refine RunD.step tb_ok (i := 10) rfl (by kernel_rfl) rfl rfl rfl ?_ rfl (fun _ h => h.1.1) rfl ?_
                · first | trivial | simp [AllOb, Ob.P] <;> rfl
                refine RunD.adv tb_ok (by kernel_rfl) [] rfl rfl (by simp [AllOb, Ob.P, sum_len, sz_sum, one_int, u8V_one] <;> omega) ?_
                refine RunD.step tb_ok (i := 11) rfl (by kernel_rfl) rfl rfl rfl ?_ rfl (fun _ h => h.1.1) rfl ?_
                · first | trivial | simp [AllOb, Ob.P] <;> rfl
                refine RunD.done (.inl rfl) (by kernel_rfl) ?_
                refine RunH.meetS (m3, m7, M0, n3) [(5, 6), (6, 8), (7, 5), (8, 7)] (.head _) ?_ ?_ ?_ ?_
                · rfl
                · rfl
                · rfl
                · exact fun w h => h.1.1
            · refine opD_step tb_ok (nx := 6) (i := 9) rfl rfl rfl rfl ?_ rfl (fun _ h => h) ⟨rfl, rfl⟩ ?_
              · first | trivial | simp [AllOb, Ob.P] <;> rfl
              refine RunD.adv tb_ok (by kernel_rfl) [] rfl rfl (by simp [AllOb, Ob.P, sum_len, sz_sum, one_int, u8V_one] <;> omega) ?_
              refine RunD.doesB (i := 3) [] 8 (fun mb : Nat => .av (.val (.map (some mb)))) rfl (by kernel_rfl) rfl rfl rfl rfl Tryz.call131 (anc_spec LA lc cs SA sc S hlen hpar x hx) rfl rfl (fun _ => rfl) (fun _ => rfl) (fun u hu => ⟨hu.fact.2.2.1, hu.fact.2.2.2, Sl.own (B := B0) (hu.row (κ := kSum) (id := 3) (l := S) rfl) (by omega)⟩) (fun _ => rfl) (fun _ h => h) ?_
              rintro m3 n3 hn3
              refine RunD.adv tb_ok (by kernel_rfl) [] rfl rfl (by simp [AllOb, Ob.P, sum_len, sz_sum, one_int, u8V_one] <;> omega) ?_
              refine RunD.doesB (i := 7) [] 9 (fun mb : Nat => .av (.val (.map (some mb)))) rfl (by kernel_rfl) rfl rfl rfl rfl Tryz.call131 (anc_spec LA lc cs SA sc S hlen hpar y hy) rfl rfl (fun _ => rfl) (fun _ => rfl) (fun u hu => ⟨hu.fact.1.2.2.1, hu.fact.1.2.2.2, Sl.own (B := B0) (hu.row (κ := kSum) (id := 3) (l := S) rfl) (by omega)⟩) (fun _ => rfl) (fun _ h => h.1) ?_
              rintro m7 n7 hn7
              refine RunD.adv tb_ok (by kernel_rfl) [] rfl rfl (by simp [AllOb, Ob.P, sum_len, sz_sum, one_int, u8V_one] <;> omega) ?_
              refine RunD.step tb_ok (i := 10) rfl (by kernel_rfl) rfl rfl rfl ?_ rfl (fun _ h => h.1.1) rfl ?_
              · first | trivial | simp [AllOb, Ob.P] <;> rfl
              refine RunD.adv tb_ok (by kernel_rfl) [] rfl rfl (by simp [AllOb, Ob.P, sum_len, sz_sum, one_int, u8V_one] <;> omega) ?_
              refine RunD.step tb_ok (i := 11) rfl (by kernel_rfl) rfl rfl rfl ?_ rfl (fun _ h => h.1.1) rfl ?_
              · first | trivial | simp [AllOb, Ob.P] <;> rfl
              refine RunD.done (.inl rfl) (by kernel_rfl) ?_
              refine RunH.meetS (m3, m7, M0, (M0 + 1)) [(5, 7), (6, 8), (7, 5), (8, 6)] (.head _) ?_ ?_ ?_ ?_
              · rfl
              · rfl
              · rfl
              · exact fun w h => h.1.1
          · refine opD_step tb_ok (nx := 5) (i := 9) rfl rfl rfl rfl ?_ rfl (fun _ h => h) ⟨rfl, rfl⟩ ?_
            · first | trivial | simp [AllOb, Ob.P] <;> rfl
            refine RunD.adv tb_ok (by kernel_rfl) [] rfl rfl (by simp [AllOb, Ob.P, sum_len, sz_sum, one_int, u8V_one] <;> omega) ?_
            refine RunD.two (i := 3) (j := 8) (by kernel_rfl) ?_ ?_
            · refine opD_go (i := 3) rfl rfl (OpGo.doesB (fo := .func 131) [] 6 (fun mb : Nat => .av (.val (.map (some mb)))) rfl rfl rfl rfl Tryz.call131 (anc_spec LA lc cs SA sc S hlen hpar x hx) rfl rfl (fun u hu => ⟨hu.fact.2.2.1, hu.fact.2.2.2, Sl.own (B := B0) (hu.row (κ := kSum) (id := 3) (l := S) rfl) (by omega)⟩) (fun _ => rfl) (fun _ => rfl)) 7 (fun _ => rfl) (fun _ _ h => h.1) ?_
              rintro m3 n3 hn3
              refine RunD.adv tb_ok (by kernel_rfl) [] rfl rfl (by simp [AllOb, Ob.P, sum_len, sz_sum, one_int, u8V_one] <;> omega) ?_
              refine RunD.two (i := 7) (j := 8) (by kernel_rfl) ?_ ?_
              · refine opD_go (i := 7) rfl rfl (OpGo.doesB (fo := .func 131) [] 7 (fun mb : Nat => .av (.val (.map (some mb)))) rfl rfl rfl rfl Tryz.call131 (anc_spec LA lc cs SA sc S hlen hpar y hy) rfl rfl (fun u hu => ⟨hu.fact.1.2.2.1, hu.fact.1.2.2.2, Sl.own (B := B0) (hu.row (κ := kSum) (id := 3) (l := S) rfl) (by omega)⟩) (fun _ => rfl) (fun _ => rfl)) 8 (fun _ => rfl) (fun _ _ h => h.1.1) ?_
                rintro m7 n7 hn7
                refine RunD.adv tb_ok (by kernel_rfl) [] rfl rfl (by simp [AllOb, Ob.P, sum_len, sz_sum, one_int, u8V_one] <;> omega) ?_
                refine RunD.step tb_ok (i := 8) rfl (by kernel_rfl) rfl rfl rfl ?_ rfl (fun _ h => h.1.1) ⟨rfl, rfl⟩ ?_
                · first | trivial | simp [AllOb, Ob.P] <;> rfl
                refine RunD.adv tb_ok (by kernel_rfl) [] rfl rfl (by simp [AllOb, Ob.P, sum_len, sz_sum, one_int, u8V_one] <;> omega) ?_
                refine RunD.step tb_ok (i := 10) rfl (by kernel_rfl) rfl rfl rfl ?_ rfl (fun _ h => h.1.1) rfl ?_
                · first | trivial | simp [AllOb, Ob.P] <;> rfl
                refine RunD.adv tb_ok (by kernel_rfl) [] rfl rfl (by simp [AllOb, Ob.P, sum_len, sz_sum, one_int, u8V_one] <;> omega) ?_
                refine RunD.step tb_ok (i := 11) rfl (by kernel_rfl) rfl rfl rfl ?_ rfl (fun _ h => h.1.1) rfl ?_
                · first | trivial | simp [AllOb, Ob.P] <;> rfl
                refine RunD.done (.inl rfl) (by kernel_rfl) ?_
                refine RunH.meetS (m3, m7, n7, M0) [(5, 6), (6, 7), (7, 8), (8, 5)] (.head _) ?_ ?_ ?_ ?_
                · rfl
                · rfl
                · rfl
                · exact fun w h => h.1.1
              · refine opD_step tb_ok (nx := 7) (i := 8) rfl rfl rfl rfl ?_ rfl (fun _ h => h.1) ⟨rfl, rfl⟩ ?_
                · first | trivial | simp [AllOb, Ob.P] <;> rfl
                refine RunD.adv tb_ok (by kernel_rfl) [] rfl rfl (by simp [AllOb, Ob.P, sum_len, sz_sum, one_int, u8V_one] <;> omega) ?_
                refine RunD.doesB (i := 7) [] 9 (fun mb : Nat => .av (.val (.map (some mb)))) rfl (by kernel_rfl) rfl rfl rfl rfl Tryz.call131 (anc_spec LA lc cs SA sc S hlen hpar y hy) rfl rfl (fun _ => rfl) (fun _ => rfl) (fun u hu => ⟨hu.fact.1.2.2.1, hu.fact.1.2.2.2, Sl.own (B := B0) (hu.row (κ := kSum) (id := 3) (l := S) rfl) (by omega)⟩) (fun _ => rfl) (fun _ h => h.1) ?_
                rintro m7 n7 hn7
                refine RunD.adv tb_ok (by kernel_rfl) [] rfl rfl (by simp [AllOb, Ob.P, sum_len, sz_sum, one_int, u8V_one] <;> omega) ?_
                refine RunD.step tb_ok (i := 10) rfl (by kernel_rfl) rfl rfl rfl ?_ rfl (fun _ h => h.1.1) rfl ?_
                · first | trivial | simp [AllOb, Ob.P] <;> rfl
                refine RunD.adv tb_ok (by kernel_rfl) [] rfl rfl (by simp [AllOb, Ob.P, sum_len, sz_sum, one_int, u8V_one] <;> omega) ?_
                refine RunD.step tb_ok (i := 11) rfl (by kernel_rfl) rfl rfl rfl ?_ rfl (fun _ h => h.1.1) rfl ?_
                · first | trivial | simp [AllOb, Ob.P] <;> rfl
                refine RunD.done (.inl rfl) (by kernel_rfl) ?_
                refine RunH.meetS (m3, m7, n3, M0) [(5, 6), (6, 8), (7, 7), (8, 5)] (.head _) ?_ ?_ ?_ ?_
                · rfl
                · rfl
                · rfl
                · exact fun w h => h.1.1
            · refine opD_step tb_ok (nx := 6) (i := 8) rfl rfl rfl rfl ?_ rfl (fun _ h => h) ⟨rfl, rfl⟩ ?_
              · first | trivial | simp [AllOb, Ob.P] <;> rfl
              refine RunD.adv tb_ok (by kernel_rfl) [] rfl rfl (by simp [AllOb, Ob.P, sum_len, sz_sum, one_int, u8V_one] <;> omega) ?_
              refine RunD.doesB (i := 3) [] 8 (fun mb : Nat => .av (.val (.map (some mb)))) rfl (by kernel_rfl) rfl rfl rfl rfl Tryz.call131 (anc_spec LA lc cs SA sc S hlen hpar x hx) rfl rfl (fun _ => rfl) (fun _ => rfl) (fun u hu => ⟨hu.fact.2.2.1, hu.fact.2.2.2, Sl.own (B := B0) (hu.row (κ := kSum) (id := 3) (l := S) rfl) (by omega)⟩) (fun _ => rfl) (fun _ h => h) ?_
              rintro m3 n3 hn3
              refine RunD.adv tb_ok (by kernel_rfl) [] rfl rfl (by simp [AllOb, Ob.P, sum_len, sz_sum, one_int, u8V_one] <;> omega) ?_
              refine RunD.doesB (i := 7) [] 9 (fun mb : Nat => .av (.val (.map (some mb)))) rfl (by kernel_rfl) rfl rfl rfl rfl Tryz.call131 (anc_spec LA lc cs SA sc S hlen hpar y hy) rfl rfl (fun _ => rfl) (fun _ => rfl) (fun u hu => ⟨hu.fact.1.2.2.1, hu.fact.1.2.2.2, Sl.own (B := B0) (hu.row (κ := kSum) (id := 3) (l := S) rfl) (by omega)⟩) (fun _ => rfl) (fun _ h => h.1) ?_
              rintro m7 n7 hn7
              refine RunD.adv tb_ok (by kernel_rfl) [] rfl rfl (by simp [AllOb, Ob.P, sum_len, sz_sum, one_int, u8V_one] <;> omega) ?_
              refine RunD.step tb_ok (i := 10) rfl (by kernel_rfl) rfl rfl rfl ?_ rfl (fun _ h => h.1.1) rfl ?_
              · first | trivial | simp [AllOb, Ob.P] <;> rfl
              refine RunD.adv tb_ok (by kernel_rfl) [] rfl rfl (by simp [AllOb, Ob.P, sum_len, sz_sum, one_int, u8V_one] <;> omega) ?_
              refine RunD.step tb_ok (i := 11) rfl (by kernel_rfl) rfl rfl rfl ?_ rfl (fun _ h => h.1.1) rfl ?_
              · first | trivial | simp [AllOb, Ob.P] <;> rfl
              refine RunD.done (.inl rfl) (by kernel_rfl) ?_
              refine RunH.meetS (m3, m7, (M0 + 1), M0) [(5, 7), (6, 8), (7, 6), (8, 5)] (.head _) ?_ ?_ ?_ ?_
              · rfl
              · rfl
              · rfl
              · exact fun w h => h.1.1
        rintro ⟨ma, mb, a10, a11⟩ m2
        refine RunH.toNx 9 ?_
        have hS60 : S.length ≤ 60 := by omega
        refine RunH.adv tb_ok [] rfl rfl (by simp [AllOb, Ob.P]) ?_
        refine RunH.doesB [] 10 (hc := Tryz.call55) (ho := rfl) (hw := rfl) (hd := rfl) (hf := rfl) (hes := rfl) (hσ := rfl) (hn := rfl) (hV := fun _ => rfl) (hG := fun _ => rfl) (e := fun z : Option Addr × Nat => rowS 9 z.1 S.length z.2) (hC := cloneD SA sc S (by omega)) (hp := fun u hu => Sl.own (B := B0) (hu.row (κ := kSum) (id := 3) (l := S) rfl) (by omega)) ?_
        rintro ⟨CA, cc⟩ m3 hm3
        refine RunH.drop ?_
        refine RunH.adv tb_ok [] rfl rfl (by simp [AllOb, Ob.P, sum_len, sz_sum, one_int, u8V_one] <;> omega) ?_
        refine RunH.doesB [(0, 9)] 10 (hc := Tryz.call132) (ho := rfl) (hw := rfl) (hd := rfl) (hf := rfl) (hes := rfl) (hσ := rfl) (hn := rfl) (hV := fun _ => rfl) (hG := fun _ => rfl) (e := fun _ : Unit => rowS 9 CA (comL cs S x y).length cc) (hC := delF_spec CA cc S 136 [] [.pointer (some ⟨a10, 0, none⟩), .pointer (some ⟨a11, 0, none⟩)] (fun s => !hasD (ancL cs S x) s || !hasD (ancL cs S y) s) (by omega))
          (hp := fun u hu => ⟨Tryz.call136, fun s _ v hv => bases1_spec v a10 a11 ma mb (ancL cs S x) (ancL cs S y) s (fun u' hu' => hu.loadBox (id := 7) (e := .av (.val (.map (some ma)))) tb_ok rfl rfl u' (hv.trans' hu')) (fun u' hu' => hu.loadBox (id := 8) (e := .av (.val (.map (some mb)))) tb_ok rfl rfl u' (hv.trans' hu'))
            (fun u' hu' => objExt hu (id := 5) rfl u' (hv.trans' hu')) (fun u' hu' => objExt hu (id := 6) rfl u' (hv.trans' hu'))⟩) ?_
        rintro ⟨⟩ m4 hm4
        refine RunH.drop ?_
        have hCl : keepL (fun s => !hasD (ancL cs S x) s || !hasD (ancL cs S y) s) S = comL cs S x y := rfl
        rw [hCl]
        have hcl60 : (comL cs S x y).length ≤ 60 := by have := keepL_len (fun s => !hasD (ancL cs S x) s || !hasD (ancL cs S y) s) S; rw [hCl] at this; omega
        have hbl : baseL cs S x y = keepL (fun s => (comL cs S x y).any fun t => !decide (t = s) && hasD (ancL cs S t) s) (comL cs S x y) := rfl
        have hcm : ∀ t ∈ comL cs S x y, hasD S t = true := fun t ht => hasD_mem (keepL_mem ht)
        rw [hbl] at hE
        generalize comL cs S x y = com at *
        refine RunH.adv tb_ok [] rfl rfl (by simp [AllOb, Ob.P]) ?_
        refine RunH.doesB [] 12 (hc := Tryz.call55) (ho := rfl) (hw := rfl) (hd := rfl) (hf := rfl) (hes := rfl) (hσ := rfl) (hn := rfl) (hV := fun _ => rfl) (hG := fun _ => rfl) (e := fun z : Option Addr × Nat => rowS 11 z.1 com.length z.2) (hC := cloneD CA cc com (by omega)) (hp := fun u hu => Sl.own (B := B0) (hu.row (κ := kSum) (id := 9) (l := com) rfl) (by omega)) ?_
        rintro ⟨DA, dc⟩ m5 hm5
        refine RunH.drop ?_
        refine RunH.adv tb_ok [] rfl rfl (by simp [AllOb, Ob.P, sum_len, sz_sum, one_int, u8V_one] <;> omega) ?_
        refine RunH.doesB [(0, 11)] 12 (hc := Tryz.call132) (ho := rfl) (hw := rfl) (hd := rfl) (hf := rfl) (hes := rfl) (hσ := rfl) (hn := rfl) (hV := fun _ => rfl) (hG := fun _ => rfl) (e := fun _ : Unit => rowS 11 DA (keepL (fun s => com.any fun t => !decide (t = s) && hasD (ancL cs S t) s) com).length dc) (hC := delF_spec DA dc com 137 [] [.pointer (some ⟨m4, 0, none⟩), .pointer (some ⟨m0, 0, none⟩), .pointer (some ⟨ms, 0, none⟩)] (fun s => com.any fun t => !decide (t = s) && hasD (ancL cs S t) s) (by omega))
          (hp := fun u hu => ⟨Tryz.call137, fun s _ v hv => bases2_spec v m4 m0 ms CA cc com LA lc cs SA sc S s hlen hpar hcm (fun u' hu' => hu.loadBox (id := 10) (e := rowS 9 CA com.length cc) tb_ok rfl rfl u' (hv.trans' hu')) (fun u' hu' => hu.loadBox (id := 0) (e := slE LA cs.length lc) tb_ok rfl rfl u' (hv.trans' hu')) (fun u' hu' => hu.loadBox (id := 4) (e := slE SA S.length sc) tb_ok rfl rfl u' (hv.trans' hu'))
            ((Sl.own (B := B0) (hu.row (κ := kSum) (id := 9) (l := com) rfl) (by omega)).ext hv) (hu.fact.2.2.1.ext hv) (fun q hq => (hu.fact.2.2.2 q hq).ext hv) ((Sl.own (B := B0) (hu.row (κ := kSum) (id := 3) (l := S) rfl) (by omega)).ext hv)⟩) ?_
        rintro ⟨⟩ m6 hm6
        refine RunH.drop ?_
        subst hE
        generalize keepL (fun s => com.any fun t => !decide (t = s) && hasD (ancL cs S t) s) com = out at *
        refine RunH.adv tb_ok [] rfl rfl (by simp [AllOb, Ob.P, sum_len, sz_sum, one_int, u8V_one] <;> omega) ?_
        refine RunH.ret2 Tryz.func63 rfl rfl rfl fun w hst => ⟨(DA, dc), rfl, hst.out [(0, 11)] rfl rfl fun u h => ⟨h.1, trivial⟩⟩
      · rw [if_neg hy] at hE
        refine RunH.adv tb_ok [true] rfl rfl (by simp [AllOb, Ob.P, sum_len, sz_sum, one_int, u8V_one, hy] <;> omega) ?_
        refine RunH.nilrow 40 kSum.T kSum.sz 41 ?_
        refine RunH.ret2 Tryz.func63 rfl rfl rfl fun w hst => ⟨(none, 0), by rw [hE]; rfl, by rw [hE]; exact hst.out [(0, 40)] rfl rfl fun u h => ⟨h.1, trivial⟩⟩
    · rw [if_neg hx] at hE
      refine RunH.adv tb_ok [true] rfl rfl (by simp [AllOb, Ob.P, sum_len, sz_sum, one_int, u8V_one, hx] <;> omega) ?_
      refine RunH.nilrow 40 kSum.T kSum.sz 41 ?_
      refine RunH.ret2 Tryz.func63 rfl rfl rfl fun w hst => ⟨(none, 0), by rw [hE]; rfl, by rw [hE]; exact hst.out [(0, 40)] rfl rfl fun u h => ⟨h.1, trivial⟩⟩
  · rw [if_neg h0] at hE
    refine RunH.adv tb_ok [true] rfl rfl (by simp [AllOb, Ob.P, sum_len, sz_sum, one_int, u8V_one, h0] <;> omega) ?_
    refine RunH.nilrow 40 kSum.T kSum.sz 41 ?_
    refine RunH.ret2 Tryz.func63 rfl rfl rfl fun w hst => ⟨(none, 0), by rw [hE]; rfl, by rw [hE]; exact hst.out [(0, 40)] rfl rfl fun u h => ⟨h.1, trivial⟩⟩
end Go.Proofs.YtagnkcdhenilbaaGreatDoor

/-
clear of a row of the call's own; what it held is not told behind it; no condition.
-/
namespace Go.Proofs.YtagnkcdhenilbaaGreatDoor
open Go V RowKit

theorem V.St.subL {tb : TT} {B0 : Nat} {H : Heap} {I : World → Prop} {w : World} {G : Heap} (h : St tb B0 H I w) (hs : ∀ i x, lookH G i = some x → lookH H i = some x) : St tb B0 G I w where
  base := h.base
  holds i x hx := h.holds i x (hs i x hx)
  apart i j x y hij hx hy := h.apart i j x y hij (hs i x hx) (hs j y hy)
  keeps w' ha := h.keeps w' (ha.mono fun k _ => by rintro ⟨i, x, hx, hb⟩; exact ⟨i, x, hs i x hx, hb⟩)

theorem V.OpGo.clearK {α : Type} {κ : Kd α} {tb : TT} {P : Program} {B0 n : Nat} {env : SEnv} {H : Heap} {m : Nat} {I : World → Prop} {A : Option Addr} {c : Nat} {l : List α} {id : Nat} {ty : TypeId} {ps : String} {af : Array Edge} {gd : Option (Nat × Bool)}
    {x : Operand} {T : TypeId} {q : Nat} {inf : TypeInfo} {z : Value} {ex : EV} (hk : tb.Ok P) (hx : evE env x = some ex) (hxv : ex.v = .slice A q c) (hq : q = l.length)
    (hT : tb.und T = some (.slice κ.T)) (hH : lookH H id = rowE κ A c l) (hi : tb.get κ.T = some inf) (hz : inf.zero = some z) (h1 : ∀ u ∈ z.cells.toList, u.oneCell' = true) (hs : z.cells.size = κ.sz) (h0 : 0 < κ.sz) :
    OpGo P tb B0 n ⟨none, .call ⟨.builtin .clear, #[x], #[T]⟩, ty, ps, af, gd⟩ env H m I (fun _ : Unit => env) (fun _ => (id, none) :: H) (fun _ => I) := by
  subst hq
  have hdone : ∀ {w' : World} {y : Option HE}, St tb B0 ((id, y) :: H) I w' → St tb B0 ((id, none) :: H) I w' := fun {w' y} h => (h.give id).subL fun i e he => by
    rw [lookH_cons] at he ⊢
    by_cases hii : id = i
    · rw [if_pos hii] at he; cases he
    · rw [if_neg hii] at he ⊢; rw [lookH_cons, if_neg hii]; exact he
  cases l with
  | nil =>
    intro w a hm hst ha
    have hu := run_underlying (hk.und hT) w
    have hxv : a.eval x = .slice A 0 c := (ev_run ha hx).trans hxv
    have hrun : (Builtin.clear_ #[T] ty #[.slice A 0 c]).run P w = .ok (.tuple #[]) w := by
      simp only [Builtin.clear_, Sem.run_bind, List.getElem?_toArray, List.getElem?_cons_zero, hu, Result.andThen_ok]
      cases A <;> rfl
    unfold Oper.wp
    have : (execOp a.eval ⟨none, .call ⟨.builtin .clear, #[x], #[T]⟩, ty, ps, af, gd⟩).run P w = .ok (.value (.tuple #[])) w := by
      simp only [execOp, resolve, invoke, builtin, Sem.run_bind, Sem.run_pure, Result.andThen_ok, List.map_toArray, List.map_cons, List.map_nil, hxv, hrun]
    rw [this]
    exact ⟨(), ha, by omega, hst.give id⟩
  | cons y r =>
    intro w a hm hst ha
    have ho := hst.holds id _ hH
    rcases ho.2 with ⟨_, hb⟩ | ⟨g, cap, cur, hv, hg, hh, hc, hmx, hcs, ht⟩
    · simp at hb
    · injection hv with e1 e2 e3
      subst e1; subst e3
      have hst' : St tb B0 ((id, some (.obj g (.cells cur κ.T))) :: H) I w := by
        refine hst.turn id _ (.obj g (.cells cur κ.T)) hH (Agr.refl _ _) ⟨hg, hh⟩ fun k hk => .inl ?_
        exact hk
      have hzl : (Builtin.zeroCells z.cells (r.length + 1)).toList.length = (r.length + 1) * κ.sz := by simp [Builtin.zeroCells, hs]
      have hgo := OpGo.clearRaw (P := P) (tb := tb) (B0 := B0) (n := n) (I := I) (m := m) (env := env) (H := (id, some (.obj g (.cells cur κ.T))) :: H) (id := id) (g := g) (off := 0) (q := r.length) (c := c) (cur := cur) (e := κ.T) (x := x) (T := T) (ty := ty) (ps := ps) (af := af) (gd := gd) (i := inf) (z := z)
        hk hT hi hz hx hxv (by rw [lookH_cons, if_pos rfl]) (zeroCells_one _ (by omega) h1 _) (by
          have : (r.length + 1) * κ.sz ≤ c * κ.sz := Nat.mul_le_mul_right _ hc
          rw [hzl, hcs]; omega)
      refine Oper.wp_mono ?_ (hgo w a hm hst' ha)
      rintro a' w' ⟨_, ha', hm', hst''⟩
      refine ⟨(), ha', hm', ?_⟩
      refine hdone (y := some (.obj g (.cells (putC cur 0 (Builtin.zeroCells z.cells (r.length + 1)).toList) κ.T))) (hst''.subL fun i e he => ?_)
      rw [lookH_cons] at he ⊢
      by_cases hii : id = i
      · rw [if_pos hii] at he ⊢; exact he
      · rw [if_neg hii] at he ⊢; rw [lookH_cons, if_neg hii]; exact he
end Go.Proofs.YtagnkcdhenilbaaGreatDoor

/-
The law's spoil: what is passed in is let go; no condition.
-/
namespace Go.Proofs.YtagnkcdhenilbaaGreatDoor
open Go V RowKit

theorem spoil_spec (A B : Option Addr) (c d : Nat) (t y : List Entry) :
    Does Tryz.prog tb 37 [.agg #[.slice A t.length c, .slice B y.length d]] [(0, rowE kEntry A c t), (1, rowE kEntry B d y)] (fun _ => True) (fun _ : Unit => .tuple #[]) (fun _ => []) (fun _ _ _ => True) := by
  refine Does.enter tb_ok [(0, .st [.row 0 (.slice A t.length c), .row 1 (.slice B y.length d)])] Tryz.func37 rfl Tryz.ntmps37 rfl rfl 2 ?_
  intro B0 m0 K
  refine RunH.adv tb_ok [] rfl rfl (by simp [AllOb, Ob.P, sum_len, sz_sum, one_int, u8V_one] <;> omega) ?_
  refine RunH.go rfl rfl (OpGo.clearK (κ := kEntry) (A := A) (c := c) (l := t) (id := 0) tb_ok rfl rfl rfl rfl rfl rfl rfl (List.all_eq_true.1 (by kernel_rfl)) rfl (by decide)) 8 ?_
  rintro ⟨⟩ m8 hm8
  refine RunH.adv tb_ok [] rfl rfl (by simp [AllOb, Ob.P, sum_len, sz_sum, one_int, u8V_one] <;> omega) ?_
  refine RunH.go rfl rfl (OpGo.clearK (κ := kEntry) (A := B) (c := d) (l := y) (id := 1) tb_ok rfl rfl rfl rfl rfl rfl rfl (List.all_eq_true.1 (by kernel_rfl)) rfl (by decide)) 8 ?_
  rintro ⟨⟩ m9 hm9
  refine RunH.adv tb_ok [] rfl rfl (by simp [AllOb, Ob.P, sum_len, sz_sum, one_int, u8V_one] <;> omega) ?_
  refine RunH.fin0 Tryz.func37 rfl fun w hst => ⟨(), rfl, hst.out [] rfl rfl fun u h => ⟨h.1, trivial⟩⟩
end Go.Proofs.YtagnkcdhenilbaaGreatDoor

namespace Go.Proofs.YtagnkcdhenilbaaGreatDoor
open Go V RowKit

/-- A path and a number. -/
def kPair : Kd (Str × UInt8) where
  T := 109
  sz := 2
  ev x := .st [.val (strV x.1), .val (u8V x.2)]
  ok x := ⟨_, Tryz.t109, rfl, rfl, rfl, by
    intro u hu
    have : u = strV x.1 ∨ u = u8V x.2 := by simpa [flat, AV.v, Value.cells, strV, u8V] using hu
    rcases this with rfl | rfl <;> rfl⟩
  size x := rfl

def sumN (n : UInt8) : Sum := ⟨n :: List.replicate 31 0, by simp⟩
def pairE (x : Str × UInt8) : Entry := ⟨x.1, sumN x.2⟩

theorem build_sum (w : World) (n : UInt8) : (Instr.build 39 #[(0, u8V n)]).run Tryz.prog w = .ok (sumV (sumN n)) w := by
  refine run_build w _ _ _ ?_
  kernel_rfl

set_option maxRecDepth 10000 in
theorem terms_spec (LA : Option Addr) (lc : Nat) (ps : List (Str × UInt8)) (hn : ps.length ≤ 1000) :
    Does Tryz.prog tb 80 [.slice LA ps.length lc] [] (fun u => Sl kPair u LA lc ps) (fun z : Option Addr × Nat => .agg #[.slice z.1 (ps.map pairE).length z.2, .slice none 0 0]) (fun z => [(0, rowE kEntry z.1 z.2 (ps.map pairE))]) (fun _ _ _ => True) := by
  have hl : lim = 140737488351232 := rfl
  refine Does.enter tb_ok [(0, slE LA ps.length lc)] Tryz.func80 rfl Tryz.ntmps80 rfl rfl 0 ?_
  intro B0 m0 K
  refine RunH.adv tb_ok [] rfl rfl (by simp [AllOb, Ob.P, sum_len, sz_sum, one_int, u8V_one] <;> omega) ?_
  refine RunH.objBoxV (id := 1) [.row 2 (.slice none 0 0), .val (.slice none 0 0)] rfl rfl ⟨⟨rfl, ⟨rfl, Tryz.t22, rfl, rfl⟩, rfl, ⟨rfl, Tryz.t22, rfl, rfl⟩, trivial⟩, Tryz.t24, rfl, rfl⟩ ?_
  refine RunH.nilrow 2 kEntry.T kEntry.sz 3 ?_
  refine RunH.loop (α := Nat × (Option Addr × Nat)) (fun y => [(2, .av (.box 0 m0 0)), (3, .av (.box 1 (m0 + 1) 0)), (6, slE LA ps.length lc), (7, intE ps.length), (8, intE y.1)])
    (fun y => [(0, some (.box m0 [.val (.slice none 0 0), .val (.slice none 0 0)] 24)), (1, some (.box (m0 + 1) [.row 2 (.slice y.2.1 ((ps.take y.1).map pairE).length y.2.2), .val (.slice none 0 0)] 24)), (2, rowE kEntry y.2.1 y.2.2 ((ps.take y.1).map pairE))])
    (fun y u => (K u ∧ Sl kPair u LA lc ps) ∧ y.1 ≤ ps.length) (fun y => ps.length - y.1) (0, (none, 0)) rfl rfl (fun u hu => ⟨hu, Nat.zero_le _⟩) ?_
  rintro ⟨i, A, c⟩ m1
  refine RunH.pure (fun u hu => hu.2) fun hi => ?_
  dsimp only at hi ⊢
  by_cases hlt : i < ps.length
  · have hts : ps.take (i + 1) = ps.take i ++ [ps[i]] := List.take_succ_eq_append_getElem hlt
    have hms : (ps.take (i + 1)).map pairE = (ps.take i).map pairE ++ [pairE ps[i]] := by rw [hts, List.map_append]; rfl
    have hml : ((ps.take i).map pairE).length = i := by rw [List.length_map, List.length_take]; omega
    refine RunH.pure (fun u hu => hu.1.2.ptr hlt) fun hptr => ?_
    refine RunH.adv tb_ok [true] rfl rfl (by simp [AllOb, Ob.P, sum_len, sz_sum, one_int, u8V_one, hptr] <;> omega) ?_
    refine RunH.loadS (.st [.val (strV ps[i].1), .val (u8V ps[i].2)]) rfl rfl rfl rfl (fun u hu => hu.fact.1.2.load hlt) ?_
    generalize hx : ps[i] = x at *
    refine RunH.adv tb_ok [] rfl rfl (by simp [AllOb, Ob.P, sum_len, sz_sum, one_int, u8V_one] <;> omega) ?_
    refine RunH.read (sumE (sumN x.2)) rfl rfl rfl rfl (fun u a _ hag => ?_) ?_
    · have e1 : a.eval (.tmp 17) = u8V x.2 := ev_run (e := .av (.val (u8V x.2))) hag rfl
      simp only [execOp, List.map_toArray, List.map_cons, List.map_nil, e1, build_sum, Sem.run_bind, Result.andThen_ok, Sem.run_pure]
      rfl
    refine RunH.adv tb_ok [] rfl rfl (by simp [AllOb, Ob.P, sum_len, sz_sum, one_int, u8V_one]) ?_
    refine RunH.appendK (κ := kEntry) (id := 2) (l := (ps.take i).map pairE) (r := [pairE x]) rfl rfl rfl rfl rfl rfl elt_entry rfl rfl (fun u hu => hu.liesRow (κ := kEntry) (l := [pairE x]) (id := 4) rfl (by simp [hl])) (by rw [hml, List.length_singleton]; omega) (by rw [hml, List.length_singleton]; omega) ?_
    intro A2 c2 m2 hm2
    rw [← hms]
    refine RunH.adv tb_ok [] rfl rfl (by simp [AllOb, Ob.P, sum_len, sz_sum, one_int, u8V_one] <;> omega) ?_
    exact RunH.again (i + 1, (A2, c2)) (.head _) rfl rfl (by show ps.length - (i + 1) < ps.length - i; omega) fun u hu => ⟨hu.1, hlt⟩
  · have hi' : i = ps.length := by omega
    subst hi'
    rw [List.take_length]
    refine RunH.adv tb_ok [false] rfl rfl (by simp [AllOb, Ob.P, sum_len, sz_sum, one_int, u8V_one] <;> omega) ?_
    exact RunH.retBox tb_ok (.st [.row 2 (.slice A (ps.map pairE).length c), .val (.slice none 0 0)]) Tryz.func80 rfl rfl rfl rfl fun w hst => ⟨(A, c), rfl, hst.out [(0, 2)] rfl rfl fun u h => ⟨h.1.1, trivial⟩⟩
end Go.Proofs.YtagnkcdhenilbaaGreatDoor

namespace Go.Proofs.YtagnkcdhenilbaaGreatDoor
open Go V

def q1 : List (Str × UInt8) := [([97, 46, 109, 97, 112], 1), ([98, 46, 109, 97, 112], 1), ([99, 46, 109, 97, 112], 2), ([109, 97, 112, 46, 105, 100], 2)]
def q2 : List (Str × UInt8) := [([108, 105, 115, 116, 46, 109, 97, 112], 2), ([109, 97, 112], 1)]
def q3 : List (Str × UInt8) := [([97, 46, 98], 1), ([97, 46, 98, 46, 99], 2), ([97, 98], 3)]
def q4 : List (Str × UInt8) := [([98], 1), ([98, 46, 99], 2)]
def t1 : List Entry := q1.map pairE
def t2 : List Entry := q2.map pairE
def t3 : List Entry := q3.map pairE
def t4 : List Entry := q4.map pairE

theorem f1 : findE t1 [] 1 [109, 97, 112] = 0 := by kernel_rfl
theorem f1l : (findL t1 [] 1 [109, 97, 112]).length = 3 := by kernel_rfl
theorem f2 : plainE t1 [] 1 [109, 97, 112] = 7 := by kernel_rfl
theorem f3 : plainE t1 [] 1 [97, 46, 109, 97, 112] = 0 := by kernel_rfl
theorem f3s : (plainS t1 [] 1 [97, 46, 109, 97, 112]).l = (sumN 1).l := by kernel_rfl
theorem f4 : namesE t1 [] 1 (sumN 2) = 0 := by kernel_rfl
theorem f4s : nameS t1 [] 1 (sumN 2) = [105, 100] := by kernel_rfl
theorem f5 : namesE t1 [] 1 (sumN 1) = 0 := by kernel_rfl
theorem f5s : nameS t1 [] 1 (sumN 1) = [97, 46, 109, 97, 112] := by kernel_rfl
theorem f6 : plainE t2 [] 1 [109, 97, 112] = 0 := by kernel_rfl
theorem f6s : (plainS t2 [] 1 [109, 97, 112]).l = (sumN 1).l := by kernel_rfl
theorem f7 : namesE t2 [] 1 (sumN 2) = 0 := by kernel_rfl
theorem f7s : nameS t2 [] 1 (sumN 2) = [108, 105, 115, 116, 46, 109, 97, 112] := by kernel_rfl
theorem f8 : undE t3 [] [97] = 0 := by kernel_rfl
theorem f8l : decide (underL [97] t3 = t4) = true := by kernel_rfl
theorem f8n : underL [97] [] = [] := by kernel_rfl
theorem f9 : intoE t3 [] t4 [] [100] = 0 := by kernel_rfl
theorem f9l : (putL [100] t3 t4).length = 5 := by kernel_rfl
theorem f10 : intoE t3 [] t4 [] [97] = 5 := by kernel_rfl
theorem f11a : addE t3 [] 1 [65] = 4 := by kernel_rfl
theorem f11b : addE t3 [] 1 [97, 46, 98, 46, 99, 46, 100, 46, 101, 46, 102] = 4 := by kernel_rfl
theorem f11c : MoveE t3 [] 1 [97, 98] [97, 98] = 5 := by kernel_rfl
theorem f11d : DropE t3 [] 3 [97, 98] = 3 := by kernel_rfl
end Go.Proofs.YtagnkcdhenilbaaGreatDoor
