/-
A part of the proof of SpaceCommits: for every input the law returns true, and what was passed in reads as before; the listed package variables hold what the program's text lays. No further condition.
-/
import Derived.Test.YtagnkcdhenilbaaGreatDoorRows
import Derived.Test.YtagnkcdhenilbaaGreatDoorCards
import Derived.KernelRfl
import Derived.Test.YtagnkcdhenilbaaGreatDoorTie
import Derived.SevenTiedAt
import Derived.Test.YtagnkcdhenilbaaGreatDoorKPA2
import Derived.Test.YtagnkcdhenilbaaGreatDoorKPB2
import Derived.Test.YtagnkcdhenilbaaGreatDoorKPC7
import Derived.Test.YtagnkcdhenilbaaGreatDoorKR6
import Derived.Test.YtagnkcdhenilbaaGreatDoorKR1
set_option linter.unusedVariables false
set_option linter.unusedSectionVars false
set_option linter.unusedSimpArgs false
namespace Go.Proofs.YtagnkcdhenilbaaGreatDoor
open Go V RowKit
set_option maxRecDepth 10000 in
set_option maxHeartbeats 2000000 in
theorem commits_walk (w : World) (hG : Glob w) (LA : Option Addr) (lc : Nat) (cs : List Com) (hcs : Sl kCom w LA lc cs) (hps : ∀ q ∈ cs, Sl kSum w q.ps.A q.ps.c q.ps.l) (x y : Sum) :
    Gives Tryz.prog 10 [.slice LA cs.length lc, sumV x, sumV y] w .tt := by
  have hl : lim = 140737488351232 := rfl
  have hcsm := hcs.small
  have hPS := fun (u : World) (hu : Ext w u) => (fun q hq => (hps q hq).ext hu : ∀ q ∈ cs, Sl kSum u q.ps.A q.ps.c q.ps.l)
  refine enterH tb_ok [(0, slE LA cs.length lc), (1, sumE x), (2, sumE y)] Tryz.func10 rfl Tryz.ntmps10 rfl rfl ?_
  refine RunH.adv tb_ok [] rfl rfl (by simp [AllOb, Ob.P, sum_len, sz_sum, one_int, u8V_one] <;> omega) ?_
  by_cases hbig : 65 < cs.length
  · refine RunH.adv tb_ok [true] rfl rfl (by simp [AllOb, Ob.P, sum_len, sz_sum, one_int, u8V_one, hbig] <;> omega) ?_
    refine RunH.gives (ho := rfl) (hw := rfl) (hd := rfl) (hf := rfl) (hes := rfl) (hc := Tryz.call15) (e := .tt) (hC := fun u hu => awake_spec u (hG.ext hu.fact)) ?_
    intro mA hmA
    refine RunH.adv tb_ok [] rfl rfl (by simp <;> omega) ?_
    refine RunH.ret1 Tryz.func10 rfl rfl fun u hu => ⟨rfl, hu.fact⟩
  · refine RunH.adv tb_ok [false] rfl rfl (by simp [AllOb, Ob.P, sum_len, sz_sum, one_int, u8V_one, hbig] <;> omega) ?_
    refine RunH.gives (ho := rfl) (hw := rfl) (hd := rfl) (hf := rfl) (hes := rfl) (hc := Tryz.call53) (e := boolE (cs.any bigC)) (hC := fun u hu => containsFuncC u LA lc cs (hcs.ext hu.fact) 54 [] [] bigC ⟨Tryz.call54, fun q hq v hv => by
      have := Com1_spec v q (hps q hq).small
      rw [List.nil_append, List.append_nil]
      exact this⟩) ?_
    intro m0 hm0
    by_cases hany : cs.any bigC = true
    · refine RunH.adv tb_ok [true] rfl rfl (by simp [AllOb, Ob.P, sum_len, sz_sum, one_int, u8V_one, hany] <;> omega) ?_
      refine RunH.gives (ho := rfl) (hw := rfl) (hd := rfl) (hf := rfl) (hes := rfl) (hc := Tryz.call15) (e := .tt) (hC := fun u hu => awake_spec u (hG.ext hu.fact)) ?_
      intro mA hmA
      refine RunH.adv tb_ok [] rfl rfl (by simp <;> omega) ?_
      refine RunH.ret1 Tryz.func10 rfl rfl fun u hu => ⟨rfl, hu.fact⟩
    · have h8 : ∀ q ∈ cs, q.ps.l.length ≤ 8 := fun q hq => by
        have : cs.any bigC = false := by simpa using hany
        rw [List.any_eq_false] at this
        have := this q hq
        unfold bigC at this
        simp only [Bool.or_eq_true, decide_eq_true_eq, not_or] at this
        omega
      refine RunH.adv tb_ok [false] rfl rfl (by simp [AllOb, Ob.P, sum_len, sz_sum, one_int, u8V_one, hany] <;> omega) ?_
      refine RunH.nilrow 2 kCom.T kCom.sz 3 ?_
      refine RunH.loop (α := Nat × List Com × (Option Addr × Nat)) (fun z => [(0, slE LA cs.length lc), (4, .av (.box 0 w.heap.size 0)), (5, .av (.box 1 (w.heap.size + 1) 0)), (35, slE LA cs.length lc), (36, intE cs.length), (37, intE z.1), (7, rowS 2 z.2.2.1 z.2.1.length z.2.2.2)]) (fun z => [(0, some (.box w.heap.size [.val (sumV x)] 39)), (1, some (.box (w.heap.size + 1) [.val (sumV y)] 39)), (2, rowE kCom z.2.2.1 z.2.2.2 z.2.1)])
        (fun z u => Ext w u ∧ z.1 ≤ cs.length ∧ z.2.1.map Com.core = (cs.take z.1).map Com.core ∧ ∀ q ∈ z.2.1, Sl kSum u q.ps.A q.ps.c q.ps.l) (fun z => cs.length - z.1) (0, [], (none, 0)) rfl rfl (fun u h => ⟨h, Nat.zero_le _, rfl, fun q hq => by cases hq⟩) ?_
      rintro ⟨i, own, OA, oc⟩ m1
      refine RunH.pure (fun u h => ⟨h.2.1, h.2.2.1⟩) fun (⟨hi, hcore⟩ : i ≤ cs.length ∧ own.map Com.core = (cs.take i).map Com.core) => ?_
      dsimp only
      have hol : own.length = i := by
        have := core_len hcore
        rw [List.length_take] at this
        omega
      by_cases hlt : i < cs.length
      · have hts : cs.take (i + 1) = cs.take i ++ [cs[i]] := List.take_succ_eq_append_getElem hlt
        have hmem := List.getElem_mem hlt
        have hptr := hcs.ptr hlt
        refine RunH.adv tb_ok [true] rfl rfl (by simp [AllOb, Ob.P, sum_len, sz_sum, one_int, u8V_one, hptr] <;> omega) ?_
        refine RunH.loadS (.st (comF cs[i])) rfl rfl rfl rfl (fun u hu => (hcs.ext hu.fact.1).load hlt) ?_
        generalize cs[i] = X at *
        have hX8 := h8 X hmem
        refine RunH.adv tb_ok [] rfl rfl (by simp [AllOb, Ob.P, sum_len, sz_sum, one_int, u8V_one] <;> omega) ?_
        refine RunH.doesB [] 6 (hc := Tryz.call55) (ho := rfl) (hw := rfl) (hd := rfl) (hf := rfl) (hes := rfl) (hσ := rfl) (hn := rfl) (hV := fun _ => rfl) (hG := fun _ => rfl) (e := fun z : Option Addr × Nat => rowS 5 z.1 X.ps.l.length z.2) (hC := cloneD X.ps.A X.ps.c X.ps.l (by omega)) (hp := fun u hu => hPS u hu.fact.1 X hmem) ?_
        rintro ⟨CA, cc⟩ m2 hm2
        refine RunH.drop ?_
        refine RunH.adv tb_ok [] rfl rfl (by simp [AllOb, Ob.P, sum_len, sz_sum, one_int, u8V_one] <;> omega) ?_
        refine RunH.appendK (κ := kCom) (id := 2) (l := own) (r := [(⟨X.root, ⟨CA, cc, X.ps.l⟩, X.note⟩ : Com)]) rfl rfl rfl rfl rfl rfl elt_com rfl rfl (fun u hu => hu.liesRow (κ := kCom) (l := [(⟨X.root, ⟨CA, cc, X.ps.l⟩, X.note⟩ : Com)]) (id := 6) rfl (by simp [hl])) (by rw [List.length_singleton]; omega) (by rw [List.length_singleton]; omega) ?_
        intro OA2 oc2 m3 hm3
        refine RunH.adv tb_ok [] rfl rfl (by simp [AllOb, Ob.P, sum_len, sz_sum, one_int, u8V_one] <;> omega) ?_
        refine RunH.gives (ho := rfl) (hw := rfl) (hd := rfl) (hf := rfl) (hes := rfl) (hc := Tryz.call56) (e := .av (.val (.tuple #[sumV (comS X.root X.ps.l X.note), intV (comE X.ps.l X.note)]))) (hC := fun u hu => Commit_spec u (hG.ext hu.fact.1) ⟨X.root, ⟨CA, cc, X.ps.l⟩, X.note⟩ (Sl.own (B := w.heap.size) (hu.row (κ := kSum) (l := X.ps.l) (id := 5) rfl) (by show X.ps.l.length ≤ lim; omega))) ?_
        intro m4 hm4
        refine RunH.adv tb_ok [] rfl rfl (by simp [AllOb, Ob.P, sum_len, sz_sum, one_int, u8V_one] <;> omega) ?_
        refine RunH.gives (ho := rfl) (hw := rfl) (hd := rfl) (hf := rfl) (hes := rfl) (hc := Tryz.call57) (e := .av (.val (.tuple #[sumV (comS X.root X.ps.l X.note), intV (comE X.ps.l X.note)]))) (hC := fun u hu => CommitR_spec u X (hPS u hu.fact.1 X hmem)) ?_
        intro m5 hm5
        generalize comS X.root X.ps.l X.note = sm at *
        generalize comE X.ps.l X.note = ce at *
        refine RunH.adv tb_ok [] rfl rfl (by simp [AllOb, Ob.P, sum_len, sz_sum, one_int, u8V_one] <;> omega) ?_
        refine RunH.read (boolE (!decide (sm = sm))) rfl rfl rfl rfl (fun w' a _ ha => op_neq ha rfl rfl rfl rfl rfl (by kernel_rfl) (eq_sum w' 9998 _ _)) ?_
        refine RunH.adv tb_ok [false, false] rfl rfl (by simp [AllOb, Ob.P, sum_len, sz_sum, one_int, u8V_one] <;> omega) ?_
        refine RunH.free (i := 5) (x := .row (.slice CA X.ps.l.length cc) kSum.T kSum.sz X.ps.l.length (X.ps.l.flatMap kSum.cs)) rfl ?_
        refine RunH.again (i + 1, own ++ [(⟨X.root, ⟨CA, cc, X.ps.l⟩, X.note⟩ : Com)], (OA2, oc2)) (.head _) rfl rfl (by dsimp only; omega) fun u h => ⟨h.1.1, by dsimp only; omega, ?_, ?_⟩
        · dsimp only
          rw [List.map_append, hcore, hts, List.map_append]; rfl
        · intro q hq
          rcases List.mem_append.1 hq with hq | hq
          · exact h.1.2.2.2 q hq
          · have : q = ⟨X.root, ⟨CA, cc, X.ps.l⟩, X.note⟩ := by simpa using hq
            subst this
            exact Sl.own h.2 (by show X.ps.l.length ≤ lim; omega)
      · rw [List.take_of_length_le (by omega)] at hcore
        have hi' : i = cs.length := by omega
        clear hlt
        subst hi'
        have hH1 := History_spec OA oc own
        have hH2 := HistoryR_spec LA lc cs
        have hA1 := Ancestors_spec OA oc own x
        have hA2 := AncestorsR_spec LA lc cs x
        have hB1 := Bases_spec OA oc own x y
        have hB2 := BasesR_spec LA lc cs x y
        rw [hist_core hcore] at hH1
        rw [ancs_core hcore] at hA1
        rw [bases_core hcore] at hB1
        have n1 : (hist cs).2.length ≤ 60 := by
          by_cases h0 : (hist cs).1 = 0
          · have hh : hist cs = (0, (hist cs).2) := by rw [← h0]
            have := Hist.of hh
            have := this.len
            have := (Hist.of hh).small
            omega
          · unfold hist at h0 ⊢
            split
            · simp
            · rename_i h1
              rw [if_neg h1] at h0
              have key : ∀ (r : List Com) (out : List Sum), (histGo r out).1 ≠ 0 → (histGo r out).2 = [] := by
                intro r
                induction r with
                | nil => intro out h; exact absurd rfl h
                | cons q r ih =>
                  intro out h
                  rw [hist_step] at h ⊢
                  split
                  · rename_i c0
                    rw [if_pos c0] at h
                    split
                    · rfl
                    · rename_i c1
                      rw [if_neg c1] at h
                      split
                      · rfl
                      · rename_i c2
                        rw [if_neg c2] at h
                        exact ih _ h
                  · rfl
              rw [key cs [] h0]; simp
        have n2 : (ancs cs x).2.length ≤ 60 := by
          unfold ancs
          split
          · split
            · have := keepL_len (fun s => !hasD (ancL cs (hist cs).2 x) s) (hist cs).2
              show (ancsL cs (hist cs).2 x).length ≤ 60
              unfold ancsL
              omega
            · simp
          · simp
        have n3 : (bases cs x y).2.length ≤ 60 := by
          unfold bases
          split
          · split
            · split
              · have h1 := keepL_len (fun s => (comL cs (hist cs).2 x y).any fun t => !decide (t = s) && hasD (ancL cs (hist cs).2 t) s) (comL cs (hist cs).2 x y)
                have h2 := keepL_len (fun s => !hasD (ancL cs (hist cs).2 x) s || !hasD (ancL cs (hist cs).2 y) s) (hist cs).2
                show (baseL cs (hist cs).2 x y).length ≤ 60
                unfold baseL
                have h3 : (comL cs (hist cs).2 x y).length ≤ (hist cs).2.length := h2
                omega
              · simp
            · simp
          · simp
        refine RunH.adv tb_ok [false] rfl rfl (by simp [AllOb, Ob.P, sum_len, sz_sum, one_int, u8V_one] <;> omega) ?_
        refine RunH.doesB [] 4 (hc := Tryz.call58) (ho := rfl) (hw := rfl) (hd := rfl) (hf := rfl) (hes := rfl) (hσ := rfl) (hn := rfl) (hV := fun _ => rfl) (hG := fun _ => rfl) (e := fun z : Option Addr × Nat => .av (.val (.tuple #[.slice z.1 (hist cs).2.length z.2, intV (hist cs).1]))) (hC := hH1) (hp := fun u hu => ⟨hG.ext hu.fact.1, Sl.own (B := w.heap.size) (hu.row (κ := kCom) (l := own) (id := 2) rfl) (by omega), hu.fact.2.2.2⟩) ?_
        rintro ⟨A3, c3⟩ m3 hm3
        refine RunH.drop ?_
        refine RunH.adv tb_ok [] rfl rfl (by simp <;> omega) ?_
        refine RunH.doesB [] 5 (hc := Tryz.call59) (ho := rfl) (hw := rfl) (hd := rfl) (hf := rfl) (hes := rfl) (hσ := rfl) (hn := rfl) (hV := fun _ => rfl) (hG := fun _ => rfl) (e := fun z : Option Addr × Nat => .av (.val (.tuple #[.slice z.1 (hist cs).2.length z.2, intV (hist cs).1]))) (hC := hH2) (hp := fun u hu => ⟨hcs.ext hu.fact.1, hPS u hu.fact.1⟩) ?_
        rintro ⟨A4, c4⟩ m4 hm4
        refine RunH.drop ?_
        refine RunH.adv tb_ok [] rfl rfl (by simp <;> omega) ?_
        refine RunH.doesB [] 6 (hc := Tryz.call60) (ho := rfl) (hw := rfl) (hd := rfl) (hf := rfl) (hes := rfl) (hσ := rfl) (hn := rfl) (hV := fun _ => rfl) (hG := fun _ => rfl) (e := fun z : Option Addr × Nat => .av (.val (.tuple #[.slice z.1 (ancs cs x).2.length z.2, intV (ancs cs x).1]))) (hC := hA1) (hp := fun u hu => ⟨hG.ext hu.fact.1, Sl.own (B := w.heap.size) (hu.row (κ := kCom) (l := own) (id := 2) rfl) (by omega), hu.fact.2.2.2⟩) ?_
        rintro ⟨A5, c5⟩ m5 hm5
        refine RunH.drop ?_
        refine RunH.adv tb_ok [] rfl rfl (by simp <;> omega) ?_
        refine RunH.doesB [] 7 (hc := Tryz.call61) (ho := rfl) (hw := rfl) (hd := rfl) (hf := rfl) (hes := rfl) (hσ := rfl) (hn := rfl) (hV := fun _ => rfl) (hG := fun _ => rfl) (e := fun z : Option Addr × Nat => .av (.val (.tuple #[.slice z.1 (ancs cs x).2.length z.2, intV (ancs cs x).1]))) (hC := hA2) (hp := fun u hu => ⟨hcs.ext hu.fact.1, hPS u hu.fact.1⟩) ?_
        rintro ⟨A6, c6⟩ m6 hm6
        refine RunH.drop ?_
        generalize (hist cs).2 = S at *
        generalize (hist cs).1 = se at *
        generalize (ancs cs x).2 = N at *
        generalize (ancs cs x).1 = ne at *
        refine RunH.adv tb_ok [] rfl rfl (by simp <;> omega) ?_
        refine RunH.gives (ho := rfl) (hw := rfl) (hd := rfl) (hf := rfl) (hes := rfl) (hc := Tryz.call62) (e := boolE (decide (S = S))) (hC := fun u hu => equalD_spec u A3 A4 c3 c4 S S (Sl.own (B := w.heap.size) (hu.row (κ := kSum) (l := S) (id := 3) rfl) (by omega)) (Sl.own (B := w.heap.size) (hu.row (κ := kSum) (l := S) (id := 4) rfl) (by omega))) ?_
        intro m7 hm7
        refine RunH.adv tb_ok [false, false] rfl rfl (by simp <;> omega) ?_
        refine RunH.gives (ho := rfl) (hw := rfl) (hd := rfl) (hf := rfl) (hes := rfl) (hc := Tryz.call62) (e := boolE (decide (N = N))) (hC := fun u hu => equalD_spec u A5 A6 c5 c6 N N (Sl.own (B := w.heap.size) (hu.row (κ := kSum) (l := N) (id := 5) rfl) (by omega)) (Sl.own (B := w.heap.size) (hu.row (κ := kSum) (l := N) (id := 6) rfl) (by omega))) ?_
        intro m8 hm8
        refine RunH.adv tb_ok [false, false] rfl rfl (by simp <;> omega) ?_
        refine RunH.go rfl rfl (OpGo.clearK (κ := kSum) (A := A3) (c := c3) (l := S) (id := 3) tb_ok rfl rfl rfl rfl rfl rfl rfl (List.all_eq_true.1 (by kernel_rfl)) rfl (by decide)) 7 ?_
        rintro ⟨⟩ m9 hm9
        refine RunH.adv tb_ok [] rfl rfl (by simp <;> omega) ?_
        refine RunH.go rfl rfl (OpGo.clearK (κ := kSum) (A := A5) (c := c5) (l := N) (id := 5) tb_ok rfl rfl rfl rfl rfl rfl rfl (List.all_eq_true.1 (by kernel_rfl)) rfl (by decide)) 7 ?_
        rintro ⟨⟩ m10 hm10
        refine RunH.adv tb_ok [] rfl rfl (by simp <;> omega) ?_
        refine RunH.doesB [] 8 (hc := Tryz.call63) (ho := rfl) (hw := rfl) (hd := rfl) (hf := rfl) (hes := rfl) (hσ := rfl) (hn := rfl) (hV := fun _ => rfl) (hG := fun _ => rfl) (e := fun z : Option Addr × Nat => .av (.val (.tuple #[.slice z.1 (bases cs x y).2.length z.2, intV (bases cs x y).1]))) (hC := hB1) (hp := fun u hu => ⟨hG.ext hu.fact.1, Sl.own (B := w.heap.size) (hu.row (κ := kCom) (l := own) (id := 2) rfl) (by omega), hu.fact.2.2.2⟩) ?_
        rintro ⟨PA1, pc1⟩ m11 hm11
        refine RunH.drop ?_
        refine RunH.adv tb_ok [] rfl rfl (by simp <;> omega) ?_
        refine RunH.doesB [] 9 (hc := Tryz.call64) (ho := rfl) (hw := rfl) (hd := rfl) (hf := rfl) (hes := rfl) (hσ := rfl) (hn := rfl) (hV := fun _ => rfl) (hG := fun _ => rfl) (e := fun z : Option Addr × Nat => .av (.val (.tuple #[.slice z.1 (bases cs x y).2.length z.2, intV (bases cs x y).1]))) (hC := hB2) (hp := fun u hu => ⟨hcs.ext hu.fact.1, hPS u hu.fact.1⟩) ?_
        rintro ⟨PA2, pc2⟩ m12 hm12
        refine RunH.drop ?_
        generalize (bases cs x y).2 = P at *
        generalize (bases cs x y).1 = pe at *
        clear hH1 hH2 hA1 hA2 hB1 hB2
        refine RunH.adv tb_ok [] rfl rfl (by simp <;> omega) ?_
        refine RunH.loop (α := Nat) (fun i => [(0, slE LA cs.length lc), (7, rowS 2 OA own.length oc), (127, slE LA cs.length lc), (128, intE cs.length), (23, rowS 7 PA1 P.length pc1), (24, rowS 8 PA2 P.length pc2), (16, intE pe), (18, intE pe), (129, intE i)]) (fun _ => [(2, rowE kCom OA oc own), (7, rowE kSum PA1 pc1 P), (8, rowE kSum PA2 pc2 P)]) (fun i u => (Ext w u ∧ ∀ q ∈ own, Sl kSum u q.ps.A q.ps.c q.ps.l) ∧ i ≤ cs.length) (fun i => cs.length - i) 0 rfl rfl (fun u h => ⟨⟨h.1, h.2.2.2⟩, Nat.zero_le _⟩) ?_
        intro i m13
        refine RunH.pure (fun u h => h.2) fun hi2 => ?_
        by_cases hlt : i < cs.length
        · have hptr := hcs.ptr hlt
          have hlt2 : i < own.length := by omega
          refine RunH.pureS (fun u hu => (Sl.own (B := w.heap.size) (hu.row (κ := kCom) (l := own) (id := 2) rfl) (by omega)).ptr hlt2) fun hptr2 => ?_
          have hcq : own[i].core = cs[i].core := by
            have h1 : (own.map Com.core)[i]? = (cs.map Com.core)[i]? := by rw [hcore]
            rw [List.getElem?_map, List.getElem?_map, List.getElem?_eq_getElem hlt2, List.getElem?_eq_getElem hlt] at h1
            simpa using h1
          have hmq := List.getElem_mem hlt2
          have hmx := List.getElem_mem hlt
          unfold Com.core at hcq
          simp only [Prod.mk.injEq] at hcq
          obtain ⟨q1, q2, q3⟩ := hcq
          obtain ⟨q, hq⟩ : ∃ q, q = own[i] := ⟨_, rfl⟩
          obtain ⟨X, hX⟩ : ∃ X, X = cs[i] := ⟨_, rfl⟩
          rw [← hq, ← hX] at q1 q2 q3
          rw [← hq] at hmq
          rw [← hX] at hmx
          refine RunH.adv tb_ok [true] rfl rfl (by simp [AllOb, Ob.P, sum_len, sz_sum, one_int, u8V_one, hptr] <;> omega) ?_
          refine RunH.loadS (.st (comF X)) rfl rfl rfl rfl (fun u hu => by rw [hX]; exact (hcs.ext hu.fact.1.1).load hlt) ?_
          refine RunH.adv tb_ok [] rfl rfl (by simp [AllOb, Ob.P, sum_len, sz_sum, one_int, u8V_one] <;> omega) ?_
          refine RunH.draw rfl [(2, rowE kCom OA oc own), (9, some (.box m13 (comF X) 73))] rfl 29 rfl rfl ?_
          refine RunD.adv tb_ok (by kernel_rfl) [] rfl rfl (by simp [hptr2] <;> omega) ?_
          refine RunD.loadG (by kernel_rfl) (i := 4) (sumE q.root) rfl rfl rfl rfl rfl rfl (fun u hu => by rw [hq]; exact Sl.roots (Sl.own (B := w.heap.size) (hu.row (κ := kCom) (l := own) (id := 2) rfl) (by omega)) hlt2) ?_
          refine RunD.adv tb_ok (by kernel_rfl) [] rfl rfl (by simp [hptr2] <;> omega) ?_
          refine RunD.read (by kernel_rfl) (i := 7) (boolE (!decide (q.root = X.root))) rfl rfl rfl rfl rfl rfl (fun w' a h hag => op_neq hag rfl rfl rfl rfl rfl (by kernel_rfl) (eq_sum w' 9998 _ _)) ?_
          refine RunD.adv tb_ok (by kernel_rfl) [false] rfl rfl (by simp [q1, hptr2] <;> omega) ?_
          refine RunD.loadG (by kernel_rfl) (i := 13) (slE q.ps.A q.ps.l.length q.ps.c) rfl rfl rfl rfl rfl rfl (fun u hu => by rw [hq]; exact Sl.parents (Sl.own (B := w.heap.size) (hu.row (κ := kCom) (l := own) (id := 2) rfl) (by omega)) hlt2) ?_
          refine RunD.adv tb_ok (by kernel_rfl) [] rfl rfl (by simp [hptr2] <;> omega) ?_
          refine RunD.gives (i := 16) (boolE (decide (q.ps.l = X.ps.l))) rfl (by kernel_rfl) rfl rfl rfl rfl Tryz.call62 (fun u hu => equalD_spec u q.ps.A X.ps.A q.ps.c X.ps.c q.ps.l X.ps.l (hu.fact.1.2 q hmq) (hPS u hu.fact.1.1 X hmx)) rfl (fun _ h => h) ?_
          intro m14 hm14
          refine RunD.adv tb_ok (by kernel_rfl) [false] rfl rfl (by simp [q2, hptr2] <;> omega) ?_
          refine RunD.loadG (by kernel_rfl) (i := 24) (strE q.note) rfl rfl rfl rfl rfl rfl (fun u hu => by rw [hq]; exact Sl.notes (Sl.own (B := w.heap.size) (hu.row (κ := kCom) (l := own) (id := 2) rfl) (by omega)) hlt2) ?_
          refine RunD.adv tb_ok (by kernel_rfl) [] rfl rfl (by simp <;> omega) ?_
          refine RunD.done (.inl rfl) (by kernel_rfl) ?_
          refine RunH.adv tb_ok [false] rfl rfl (by simp [AllOb, Ob.P, sum_len, sz_sum, one_int, u8V_one, q3] <;> omega) ?_
          exact RunH.again (i + 1) (.head _) rfl rfl (by show cs.length - (i + 1) < cs.length - i; omega) fun u h => ⟨h.1, hlt⟩
        · refine RunH.adv tb_ok [false, true] rfl rfl (by simp <;> omega) ?_
          refine RunH.gives (ho := rfl) (hw := rfl) (hd := rfl) (hf := rfl) (hes := rfl) (hc := Tryz.call62) (e := boolE (decide (P = P))) (hC := fun u hu => equalD_spec u PA1 PA2 pc1 pc2 P P (Sl.own (B := w.heap.size) (hu.row (κ := kSum) (l := P) (id := 7) rfl) (by omega)) (Sl.own (B := w.heap.size) (hu.row (κ := kSum) (l := P) (id := 8) rfl) (by omega))) ?_
          intro m14 hm14
          refine RunH.adv tb_ok [true, true] rfl rfl (by simp <;> omega) ?_
          refine RunH.gives (ho := rfl) (hw := rfl) (hd := rfl) (hf := rfl) (hes := rfl) (hc := Tryz.call15) (e := .tt) (hC := fun u hu => awake_spec u (hG.ext hu.fact.1.1)) ?_
          intro mA hmA
          refine RunH.adv tb_ok [] rfl rfl (by simp <;> omega) ?_
          refine RunH.ret1 Tryz.func10 rfl rfl fun u hu => ⟨rfl, hu.fact.1.1⟩
end Go.Proofs.YtagnkcdhenilbaaGreatDoor

/-
SpaceCommits: the law is true for every input; the listed variables hold what the program's text lays.
-/
namespace Go.Proofs.YtagnkcdhenilbaaGreatDoor
open Go V RowKit Go.ChangeShapes Go.WideShapes Go.ChangeAt

set_option maxRecDepth 100000 in
theorem spaceCommits_lifted (os : Os) (started : os.Started) (H : Type) (enc : TypeId × Value → H) :
    ReturnsInHanded {} Tryz.checked os 10 .any (fun w args => (Rows.spaceCommitsSpec.pre enc Tryz.prog Tryz.f10 [] false w args ∧ laidMetH Tryz.prog Rows.spaceCommitsRow.laid w) ∧ sizedMet enc Tryz.prog Tryz.f10 (OpenSpec.ofChange Rows.spaceCommitsSpec) false w args)
      (Rows.spaceCommitsSpec.post enc Tryz.prog Tryz.f10 false true false false) := by
  refine wrap (C := Tryz.checked) (X := fun w _ => laidMetH Tryz.prog Rows.spaceCommitsRow.laid w) (fun _ _ _ hh h => h.of_heap hh) ownKnobs started (by kernel_rfl) Tryz.func10
    (ChangeSpec.witness_shaped (enc := enc) (C := Tryz.checked) (os := os) (X := fun w _ => laidMetH Tryz.prog Rows.spaceCommitsRow.laid w) false (World.laidAll Tryz.prog os Rows.spaceCommitsRow.laid)
      #[.slice none 0 0, sumV Sum.zero, sumV Sum.zero] 8 (World.laidAll_os _ _ _)
      (World.shaped_of_ZipB (by kernel_rfl) (by kernel_rfl)) (by kernel_rfl) (by kernel_rfl) (by kernel_rfl)
      (by rw [MakeChecks.laidMetH_plain _ _ _ (by kernel_rfl)]; exact laidMet_laidAll _ (by kernel_rfl) (by kernel_rfl))) ?_
  intro W base args ds gs before hval0 hW hsz0 hL hS
  have hval : ∀ (j : Nat) t v, Tryz.f10.params[j]? = some t → args[j]? = some v → Value.okWide Tryz.prog W .any base t v := hval0
  have hsz : (DataW.weightsEach Tryz.prog (Tryz.f10.params.toList ++ Rows.spaceCommitsSpec.plain.varTypes Tryz.prog) (ds ++ gs)).all (· ≤ reachBytes) = true := hsz0
  have hW' := hW
  obtain ⟨p, q, hA0, hV, rfl, _, _⟩ := hW
  have hA : DataW.TrodAll enc Tryz.prog W 0 (fun _ => true) true Tryz.f10.params.toList args.toList ds p := hA0
  rw [Tryz.params10] at hA hval hsz
  obtain ⟨v0, v1, v2, d0, d1, d2, p0, p1, p2, rfl, rfl, rfl, h0, h1, h2⟩ := trodAll_three hA
  obtain ⟨rfl, rfl⟩ := trodVars_none hV
  have wt : ∀ {j : Nat} {t : TypeId} {d : DataW H}, [69, 39, 39][j]? = some t → [d0, d1, d2][j]? = some d → ∀ n ∈ d.weights Tryz.prog t, n ≤ reachBytes := by
    intro j t d ht hd n hn
    exact of_decide_eq_true (List.all_eq_true.1 hsz _ (DataW.weights_mem_each ht hd n hn))
  obtain ⟨x0, rfl, hx0⟩ := open_coms h0 (wt (j := 0) rfl rfl) (hval 0 _ v0 rfl rfl)
  obtain ⟨x1, rfl⟩ := open_sumA h1 (hval 1 _ v1 rfl rfl)
  obtain ⟨x2, rfl⟩ := open_sumA h2 (hval 2 _ v2 rfl rfl)
  refine (commits_walk W (glob_of hS (show laidMetH Tryz.prog Rows.spaceChecksRow.laid W from hL)) x0.A x0.c x0.l hx0.1 hx0.2 x1 x2).mono fun e W' ⟨he, hb⟩ => ?_
  subst he
  exact ⟨_, rfl, _, _, _, [], _, [], hW', trodAll_mk1 (shut_bool Tryz.underlying4 _),
    trodAll_mk3 (Below.trod laidOuts (by kernel_rfl) (of_decide_eq_true (by kernel_rfl)) h0 hb (fun y hy => hW'.lt y (by simp [hy]))) (Below.trod laidOuts (by kernel_rfl) (of_decide_eq_true (by kernel_rfl)) h1 hb (fun y hy => hW'.lt y (by simp [hy]))) (Below.trod laidOuts (by kernel_rfl) (of_decide_eq_true (by kernel_rfl)) h2 hb (fun y hy => hW'.lt y (by simp [hy]))), rfl, hb.frame _, fun h => by cases h⟩

end Go.Proofs.YtagnkcdhenilbaaGreatDoor

/-
The closed facts of spaceCommits's row and card, one by one; no condition.
-/
namespace Go.Proofs.YtagnkcdhenilbaaGreatDoor
open Go
theorem spaceCommits_c0 : (Rows.spaceCommitsRow.wf (OpenSpec.ofChange Rows.spaceCommitsSpec) : Bool) = true := by kernel_rfl
theorem spaceCommits_c1 : (laidOutB Tryz.prog : Bool) = true := by kernel_rfl
theorem spaceCommits_c2 : (mapsRowed Tryz.prog : Bool) = true := by kernel_rfl
theorem spaceCommits_c3 : (Tryz.f10.params.all (Tryz.prog.readableRec ·) : Bool) = true := by kernel_rfl
theorem spaceCommits_c4 : (namedTie Tryz.prog Rows.spaceCommitsRow.named Rows.spaceCommitsSpec.vars : Bool) = true := by kernel_rfl
theorem spaceCommits_c5 : (Rows.spaceCommitsRow.stops == [] : Bool) = true := by kernel_rfl
theorem spaceCommits_c6 : (Tryz.prog.stops == [] : Bool) = true := by kernel_rfl
theorem spaceCommits_c7 : (Rows.spaceCommitsRow.knobs == [] : Bool) = true := by kernel_rfl
theorem spaceCommits_c8 : (Tryz.prog.stopKnobs == [] : Bool) = true := by kernel_rfl
theorem spaceCommits_c9 : (Rows.spaceCommitsRow.inPlace == Tryz.prog.inPlace 10 : Bool) = true := by kernel_rfl
theorem spaceCommits_c10 : (Rows.spaceCommitsRow.unfollowed == Tryz.prog.unfollowed 10 : Bool) = true := by kernel_rfl
theorem spaceCommits_c11 : (Rows.spaceCommitsRow.recurses == Tryz.prog.recurses 10 : Bool) = true := by kernel_rfl
theorem spaceCommits_c12 : (Rows.spaceCommitsRow.named == Tryz.prog.varsNamed 10 : Bool) = true := by kernel_rfl
theorem spaceCommits_c13 : (Rows.spaceCommitsRow.maps == (Tryz.f10.params.toList ++ Rows.spaceCommitsSpec.plain.varTypes Tryz.prog).any (Tryz.prog.mapsRec ·) : Bool) = true := by kernel_rfl
theorem spaceCommits_c14 : (Rows.spaceCommitsRow.ifaces == (Tryz.f10.params.toList ++ Rows.spaceCommitsSpec.plain.varTypes Tryz.prog).any (Tryz.prog.ifacesRec ·) : Bool) = true := by kernel_rfl
theorem spaceCommits_c15 : (Rows.spaceCommitsRow.mapsOut == Tryz.prog.mapsAmong Tryz.f10.resultTypes.toList : Bool) = true := by kernel_rfl
theorem spaceCommits_c16 : (Rows.spaceCommitsRow.loops == (Tryz.f10.params.toList ++ Rows.spaceCommitsSpec.plain.varTypes Tryz.prog).any (Tryz.prog.loopsFrom ·) : Bool) = true := by kernel_rfl
theorem spaceCommits_c17 : (Rows.spaceCommitsRow.wideKeys == (Tryz.f10.params.toList ++ Rows.spaceCommitsSpec.plain.varTypes Tryz.prog ++ Tryz.f10.resultTypes.toList).any (Tryz.prog.wideKeysFrom ·) : Bool) = true := by kernel_rfl
theorem spaceCommits_c18 : (Rows.spaceCommitsSpec.vars.all (Tryz.prog.varReadable ·) : Bool) = true := by kernel_rfl
theorem spaceCommits_c19 : (Tryz.f10.resultTypes.all (fun t => Tryz.prog.readableRec t && decide (t < Tryz.prog.types.size)) : Bool) = true := by kernel_rfl
theorem spaceCommits_c20 : (Rows.spaceCommitsRow.ifacesOut == Tryz.f10.resultTypes.toList.any (Tryz.prog.ifacesRec ·) : Bool) = true := by kernel_rfl
theorem spaceCommits_c21 : (Rows.spaceCommitsRow.loopsOut == Tryz.f10.resultTypes.toList.any (Tryz.prog.loopsFrom ·) : Bool) = true := by kernel_rfl
theorem spaceCommits_c22 : (Rows.spaceCommitsRow.plainKeys == Tryz.prog.plainKeys : Bool) = true := by kernel_rfl
theorem spaceCommits_c23 : (Rows.spaceCommitsRow.shortTexts.isNone : Bool) = true := by kernel_rfl
theorem spaceCommits_c24 : (Tryz.prog.stopsHeard : Bool) = true := by kernel_rfl
theorem spaceCommits_c25 : (Tryz.prog.mayEnter : Bool) = true := by kernel_rfl
theorem spaceCommits_c26 : (Rows.spaceCommitsRow.lifted == Tryz.prog.liftsFinal : Bool) = true := by kernel_rfl
theorem spaceCommits_c27 : (Tryz.prog.make == some Rows.spaceCommitsRow.make : Bool) = true := by kernel_rfl
theorem spaceCommits_c28 : (Rows.spaceCommitsRow.kinds == (if Rows.spaceCommitsRow.domain.isEmpty then [] else Tryz.f10.params.toList.map fun t => match Tryz.prog.underlying t with | some (.int k) => some k | _ => none) : Bool) = true := by kernel_rfl
theorem spaceCommits_c29 : (Rows.spaceCommitsRow.pinned == Rows.spaceCommitsRow.pinnedBy : Bool) = true := by kernel_rfl
theorem spaceCommits_c30 : (Rows.spaceCommitsRow.veiled == (Tryz.f10.params.toList ++ Rows.spaceCommitsSpec.plain.varTypes Tryz.prog ++ Tryz.f10.resultTypes.toList).any (Tryz.prog.veiledRec ·) : Bool) = true := by kernel_rfl
theorem spaceCommits_c31 : (Rows.spaceCommitsRow.veiledFits Tryz.prog Tryz.f10.params.toList (Tryz.f10.params.toList ++ Rows.spaceCommitsSpec.plain.varTypes Tryz.prog ++ Tryz.f10.resultTypes.toList) : Bool) = true := by kernel_rfl
set_option maxRecDepth 100000 in
theorem spaceCommits_joined : joinedFacts Tryz.prog 10 Tryz.f10 Rows.spaceCommitsSpec Rows.spaceCommitsRow = true :=
  joined_of spaceCommits_c0 spaceCommits_c1 spaceCommits_c2 spaceCommits_c3 spaceCommits_c4 spaceCommits_c5 spaceCommits_c6 spaceCommits_c7 spaceCommits_c8 spaceCommits_c9 spaceCommits_c10 spaceCommits_c11 spaceCommits_c12 spaceCommits_c13 spaceCommits_c14 spaceCommits_c15 spaceCommits_c16 spaceCommits_c17 spaceCommits_c18 spaceCommits_c19 spaceCommits_c20 spaceCommits_c21 spaceCommits_c22 spaceCommits_c23 spaceCommits_c24 spaceCommits_c25 spaceCommits_c26 spaceCommits_c27 spaceCommits_c28 spaceCommits_c29 spaceCommits_c30 spaceCommits_c31
theorem spaceCommits_named : Tryz.prog.funcNamed "hoarstone/hoarstonelaw07.SpaceCommits" = some 10 := by kernel_rfl
theorem spaceCommits_inst : decide (Tryz.f10.isInstance Tryz.prog Rows.spaceCommitsRow.origin Rows.spaceCommitsRow.targs) = true := by kernel_rfl
theorem spaceCommits_wfText : Rows.spaceCommitsRow.wfByText (OpenSpec.ofChange Rows.spaceCommitsSpec) = true := by kernel_rfl
theorem spaceCommits_goes : (false = Rows.spaceCommitsRow.goesBy Tryz.prog) := by kernel_rfl
end Go.Proofs.YtagnkcdhenilbaaGreatDoor

/-
SpaceCommits: the law is true for every input; its listed package variables hold what the program's text lays (the card ties them). No condition.
-/
namespace Go.Proofs.YtagnkcdhenilbaaGreatDoor
open Go
theorem spaceCommits_wrapped : Tryz.f10.isWrapper Tryz.prog Rows.spaceCommitsRow.wrapper Rows.spaceCommitsRow.mainSum := by
  unfold Func.isWrapper; first | (rw [if_pos (by decide +kernel)]; kernel_rfl) | (rw [if_neg (by decide +kernel)]; exact ⟨rfl, rfl⟩)
theorem spaceCommits_prog : Rows.spaceCommitsRow.program = Tryz.pinned.name := by kernel_rfl
theorem spaceCommits_sum : Rows.spaceCommitsRow.sum = Tryz.pinned.sum := by kernel_rfl
theorem spaceCommits_spec : Rows.spaceCommitsRow.spec = Rows.spaceCommitsSpec.name := by kernel_rfl
theorem spaceCommits_holds : Rows.SpaceCommitsSaid :=
  OpenClaim.holds_of_wide 10 Tryz.f10 spaceCommits_prog spaceCommits_sum spaceCommits_spec rfl rfl rfl rfl ⟨rfl, rfl, rfl, rfl, rfl⟩ rfl rfl rfl rfl rfl spaceCommits_named Tryz.func10 spaceCommits_joined
    (of_decide_eq_true spaceCommits_inst) spaceCommits_wrapped (fun os started H enc _ => spaceCommits_lifted os started H enc)
theorem spaceCommits_main : Tryz.prog.mainIs = some (Rows.spaceCommitsCard.stood.harness.1, Rows.spaceCommitsCard.stood.harness.2.toList) := by kernel_rfl
theorem spaceCommits_har : (!Rows.spaceCommitsCard.stood.harness.1 && Rows.spaceCommitsCard.stood.harness.2.isEmpty && !false) = false := by kernel_rfl
theorem spaceCommits_looks : false = Tryz.prog.looks [] := by kernel_rfl
theorem spaceCommits_plain : ([69, 39, 39].all fun u => !Tryz.prog.wantsStandIn u) = true := by kernel_rfl
theorem spaceCommits_card_holds : Rows.SpaceCommitsCardSaid :=
  Claim7.holds_tied_plain_at .later [] [.data, .data, .data, .pinned] true Rows.spaceCommitsCard.stood.harness false
    spaceCommits_holds (fun _ h => by cases h) spaceCommits_wfText (fun _ h => by cases h) spaceCommits_row_tie rfl ⟨rfl, rfl⟩ spaceCommits_main spaceCommits_har
    (fun f fn hf hfn => by
      obtain rfl : f = 10 := (Option.some.inj (spaceCommits_named.symm.trans hf)).symm
      obtain rfl : fn = Tryz.f10 := (Option.some.inj (Tryz.func10.symm.trans hfn)).symm
      exact ⟨spaceCommits_looks, fun j t ht => by
        rw [Tryz.params10] at ht
        have hm : t ∈ [69, 39, 39] := by simpa using Array.mem_of_getElem? ht
        exact (show Tryz.prog.wantsStandIn t = false by simpa using List.all_eq_true.1 spaceCommits_plain t hm)⟩)
    spaceCommits_goes
#print axioms spaceCommits_card_holds
end Go.Proofs.YtagnkcdhenilbaaGreatDoor
