/-
A part of the proof of SpaceShortest: for every input the law returns true, and what was passed in reads as before; the listed package variables hold what the program's text lays. No further condition.
-/
import Derived.Test.YtagnkcdhenilbaaGreatDoorRows
import Derived.Test.YtagnkcdhenilbaaGreatDoorCards
import Derived.KernelRfl
import Derived.Test.YtagnkcdhenilbaaGreatDoorTie
import Derived.SevenTiedAt
import Derived.Test.YtagnkcdhenilbaaGreatDoorKPA2
import Derived.Test.YtagnkcdhenilbaaGreatDoorKPK1
import Derived.Test.YtagnkcdhenilbaaGreatDoorKSMoves
import Derived.Test.YtagnkcdhenilbaaGreatDoorKR1
set_option linter.unusedVariables false
set_option linter.unusedSectionVars false
set_option linter.unusedSimpArgs false
namespace Go.Proofs.YtagnkcdhenilbaaGreatDoor
open Go V RowKit
theorem hasT_iff {l : List Str} {n : Str} : hasT l n = true ↔ n ∈ l := by
  unfold hasT; simp
set_option maxRecDepth 10000 in
set_option maxHeartbeats 2000000 in
theorem shortest_walk (w : World) (hG : Glob w) (NA : Option Addr) (nc : Nat) (nl : List UInt8) (hnl : Sl kByte w NA nc nl) (which : UInt8) :
    Gives Tryz.prog 7 [.slice NA nl.length nc, u8V which] w .tt := by
  have hl : lim = 140737488351232 := rfl
  refine enterH tb_ok [(0, slE NA nl.length nc), (1, .av (.val (u8V which)))] Tryz.func7 rfl Tryz.ntmps7 rfl rfl ?_
  refine RunH.adv tb_ok [] rfl rfl (by simp <;> omega) ?_
  refine RunH.doesB [] 2 (hc := Tryz.call39) (ho := rfl) (hw := rfl) (hd := rfl) (hf := rfl) (hes := rfl) (hσ := rfl) (hn := rfl) (hV := fun _ => rfl) (hG := fun _ => rfl) (e := fun y : Nat × Option Addr × Nat => .av (.box 0 y.1 0)) (hC := OfK_spec NA nc nl) (hp := fun u hu => hnl.ext hu.fact) ?_
  rintro ⟨b, SA, sc⟩ m1 hm1
  refine RunH.drop ?_
  refine RunH.adv tb_ok [] rfl rfl (by simp <;> omega) ?_
  refine RunH.doesB [(0, 0)] 5 (hc := Tryz.call38) (ho := rfl) (hw := rfl) (hd := rfl) (hf := rfl) (hes := rfl) (hσ := rfl) (hn := rfl) (hV := fun _ => rfl) (hG := fun _ => rfl) (e := fun y : (Nat × Int) × (Option Addr × Nat) × (Option Addr × Nat) × List Entry × List Entry => .st [.val (.slice y.2.1.1 y.2.2.2.1.length y.2.1.2), .val (.slice y.2.2.1.1 y.2.2.2.2.length y.2.2.1.2)]) (hC := Named_spec b ⟨SA, sc, nl.take 300, 0, 88172645463325252⟩ (by rw [List.length_take]; omega) (Nat.zero_le _) 12 (by decide)) (hp := fun u hu => Sl.own (B := w.heap.size) (hu.row (κ := kByte) (l := nl.take 300) (id := 1) rfl) (by rw [List.length_take]; omega)) ?_
  rintro ⟨z1, ⟨A1, c1⟩, ⟨B1, d1⟩, T, Y⟩ m2 hm2
  refine RunH.pure (fun u h => h.2) fun ⟨hT, hY, _⟩ => ?_
  dsimp only at hT hY
  refine RunH.drop ?_
  have oT : okL 100 T := gooL_okL hT.1 (by omega)
  have oY : okL 100 Y := gooL_okL hY.1 (by omega)
  have lT := oT.len
  have lY := oY.len
  clear hT hY
  refine RunH.adv tb_ok [] rfl rfl (by simp <;> omega) ?_
  refine RunH.gives (ho := rfl) (hw := rfl) (hd := rfl) (hf := rfl) (hes := rfl) (hc := Tryz.call40) (e := intE (kindU which)) (hC := fun u _ => kind_spec u which) ?_
  intro m3 hm3
  have hk := kindU_or which
  generalize kindU which = k at *
  have hslk : ∀ u, Sl kEntry u A1 c1 T → Sl kEntry u B1 d1 Y → Sl kEntry u (kA k A1 B1) (kA k c1 d1) (kList k T Y) := fun u h1 h2 => by
    unfold kA kList; split <;> assumption
  refine RunH.adv tb_ok [] rfl rfl (by simp <;> omega) ?_
  refine RunH.gives (ho := rfl) (hw := rfl) (hd := rfl) (hf := rfl) (hes := rfl) (hc := Tryz.call41) (e := .av (.val (.slice (kA k A1 B1) (kList k T Y).length (kA k c1 d1)))) (hC := fun u _ => listK_spec u ⟨⟨A1, c1, T⟩, ⟨B1, d1, Y⟩⟩ k) ?_
  intro m4 hm4
  have oL := (okL_k (k := k) oT oY).1
  have lL := oL.len
  have hSF := fun (x : Entry) (hx : x ∈ kList k T Y) (NL : List Str) (n : Str) => short_facts (NL := NL) (n := n) oT oY hk hx
  generalize hLe : kList k T Y = L at *
  refine RunH.adv tb_ok [] rfl rfl (by simp <;> omega) ?_
  refine RunH.loop (α := Nat) (fun i => [(5, .av (.box 5 m2 0)), (6, intE k), (31, .av (.val (.slice (kA k A1 B1) L.length (kA k c1 d1)))), (32, intE L.length), (33, intE i)]) (fun _ => [(3, rowE kEntry A1 c1 T), (4, rowE kEntry B1 d1 Y), (5, some (.box m2 [.val (.slice A1 T.length c1), .val (.slice B1 Y.length d1)] 24))]) (fun i u => Ext w u ∧ i ≤ L.length) (fun i => L.length - i) 0 rfl rfl (fun u h => ⟨h, Nat.zero_le _⟩) ?_
  intro i m5
  refine RunH.pure (fun u h => h.2) fun hi => ?_
  by_cases hlt : i < L.length
  · refine RunH.pureS (fun u hu => (hslk u (Sl.own (B := w.heap.size) (hu.row (κ := kEntry) (l := T) (id := 3) rfl) (by show T.length ≤ lim; omega)) (Sl.own (B := w.heap.size) (hu.row (κ := kEntry) (l := Y) (id := 4) rfl) (by show Y.length ≤ lim; omega))).ptr hlt) fun hptr => ?_
    obtain ⟨x, hx⟩ : ∃ x, x = L[i] := ⟨_, rfl⟩
    have hxm : x ∈ L := by rw [hx]; exact List.getElem_mem hlt
    obtain ⟨s1, s2, ⟨s3, s4⟩, s5, s6, s7, s8, s9⟩ := hSF x hxm _ _ rfl rfl
    have hNs := Names_spec ⟨⟨A1, c1, T⟩, ⟨B1, d1, Y⟩⟩ k x.sum (by show T.length ≤ _; omega) (by show Y.length ≤ _; omega)
    have hNa := fun (u : World) (hM : MaxLen u) (hs : Spc.ok u ⟨⟨A1, c1, T⟩, ⟨B1, d1, Y⟩⟩) => Name_spec u ⟨⟨A1, c1, T⟩, ⟨B1, d1, Y⟩⟩ k x.sum hM hs (by show T.length ≤ _; omega) (by show Y.length ≤ _; omega)
    dsimp only at hNs hNa
    rw [s1] at hNs hNa
    refine RunH.adv tb_ok [true] rfl rfl (by simp [hptr] <;> omega) ?_
    refine RunH.loadS (.st (entryF x)) rfl rfl rfl rfl (fun u hu => by rw [hx]; exact (hslk u (Sl.own (B := w.heap.size) (hu.row (κ := kEntry) (l := T) (id := 3) rfl) (by show T.length ≤ lim; omega)) (Sl.own (B := w.heap.size) (hu.row (κ := kEntry) (l := Y) (id := 4) rfl) (by show Y.length ≤ lim; omega))).load hlt) ?_
    refine RunH.adv tb_ok [] rfl rfl (by simp <;> omega) ?_
    refine RunH.gives (ho := rfl) (hw := rfl) (hd := rfl) (hf := rfl) (hes := rfl) (hc := Tryz.call31) (e := .av (.val (.tuple #[strV (nameS T Y k x.sum), intV 0]))) (hC := fun u hu => hNa u (hG.ext hu.fact.1).max ⟨Sl.own (B := w.heap.size) (hu.row (κ := kEntry) (l := T) (id := 3) rfl) (by show T.length ≤ lim; omega), Sl.own (B := w.heap.size) (hu.row (κ := kEntry) (l := Y) (id := 4) rfl) (by show Y.length ≤ lim; omega)⟩) ?_
    intro m6 hm6
    refine RunH.adv tb_ok [] rfl rfl (by simp <;> omega) ?_
    refine RunH.doesB [] 8 (hc := Tryz.call29) (ho := rfl) (hw := rfl) (hd := rfl) (hf := rfl) (hes := rfl) (hσ := rfl) (hn := rfl) (hV := fun _ => rfl) (hG := fun _ => rfl) (e := fun z : Option Addr × Nat => .av (.val (.tuple #[.slice z.1 (namesL T Y k x.sum).length z.2, intV 0]))) (hC := hNs) (hp := fun u hu => ⟨(hG.ext hu.fact.1).max, ⟨Sl.own (B := w.heap.size) (hu.row (κ := kEntry) (l := T) (id := 3) rfl) (by show T.length ≤ lim; omega), Sl.own (B := w.heap.size) (hu.row (κ := kEntry) (l := Y) (id := 4) rfl) (by show Y.length ≤ lim; omega)⟩⟩) ?_
    rintro ⟨NA2, nc2⟩ m7 hm7
    refine RunH.drop ?_
    generalize namesL T Y k x.sum = NL at *
    generalize nameS T Y k x.sum = n at *
    have hnl2 := pathOk_len s8
    refine RunH.adv tb_ok [] rfl rfl (by simp <;> omega) ?_
    refine RunH.gives (ho := rfl) (hw := rfl) (hd := rfl) (hf := rfl) (hes := rfl) (hc := Tryz.call26) (e := .av (.val (.tuple #[sumV x.sum, intV 0]))) (hC := fun u hu => by
      have := Plain_spec u ⟨⟨A1, c1, T⟩, ⟨B1, d1, Y⟩⟩ k n (hG.ext hu.fact.1).max ⟨Sl.own (B := w.heap.size) (hu.row (κ := kEntry) (l := T) (id := 3) rfl) (by show T.length ≤ lim; omega), Sl.own (B := w.heap.size) (hu.row (κ := kEntry) (l := Y) (id := 4) rfl) (by show Y.length ≤ lim; omega)⟩ (by show T.length ≤ _; omega) (by show Y.length ≤ _; omega)
      dsimp only at this
      rw [s3, s4] at this
      exact this) ?_
    intro m8 hm8
    refine RunH.adv tb_ok [false, false, false] rfl rfl (by simp <;> omega) ?_
    refine RunH.read (boolE (!decide (x.sum = x.sum))) rfl rfl rfl rfl (fun w' a _ ha => op_neq ha rfl rfl rfl rfl rfl (by kernel_rfl) (eq_sum w' 9998 _ _)) ?_
    refine RunH.adv tb_ok [false] rfl rfl (by simp <;> omega) ?_
    refine RunH.gives (ho := rfl) (hw := rfl) (hd := rfl) (hf := rfl) (hes := rfl) (hc := Tryz.call42) (e := boolE true) (hC := fun u hu => by
      have := conS_spec u NA2 nc2 NL (Sl.own (B := w.heap.size) (hu.row (κ := kStr) (l := NL) (id := 7) rfl) (by omega)) x.path
      rw [hasT_iff.2 s2] at this
      exact this) ?_
    intro m9 hm9
    refine RunH.adv tb_ok [false] rfl rfl (by simp <;> omega) ?_
    refine RunH.loop (α := Nat × Bool) (fun z => [(33, intE i), (8, .av (.box 6 m5 0)), (9, strE n), (83, rowS 7 NA2 NL.length nc2), (84, intE NL.length), (5, .av (.box 5 m2 0)), (6, intE k), (31, .av (.val (.slice (kA k A1 B1) L.length (kA k c1 d1)))), (32, intE L.length), (85, intE z.1), (15, boolE z.2)]) (fun _ => [(6, some (.box m5 (entryF x) 44)), (7, rowE kStr NA2 nc2 NL), (3, rowE kEntry A1 c1 T), (4, rowE kEntry B1 d1 Y), (5, some (.box m2 [.val (.slice A1 T.length c1), .val (.slice B1 Y.length d1)] 24))]) (fun z u => (Ext w u ∧ i ≤ L.length) ∧ z.1 ≤ NL.length ∧ (z.2 = true ∨ ∀ p ∈ NL.take z.1, n ∉ endsOf p)) (fun z => NL.length - z.1) (0, false) rfl rfl (fun u h => ⟨h, Nat.zero_le _, .inr (by simp)⟩) ?_
    rintro ⟨j, own⟩ m10
    refine RunH.pure (fun u h => h.2) fun ⟨hj, hown⟩ => ?_
    dsimp only at hj hown ⊢
    by_cases hjt : j < NL.length
    · have hts : NL.take (j + 1) = NL.take j ++ [NL[j]] := List.take_succ_eq_append_getElem hjt
      refine RunH.pureS (fun u hu => (Sl.own (B := w.heap.size) (hu.row (κ := kStr) (l := NL) (id := 7) rfl) (by show NL.length ≤ lim; omega)).ptr hjt) fun hptr2 => ?_
      obtain ⟨p, hp⟩ : ∃ p, p = NL[j] := ⟨_, rfl⟩
      have hpm : p ∈ NL := by rw [hp]; exact List.getElem_mem hjt
      rw [← hp] at hts
      have hpl := pathOk_len (s6 p hpm)
      refine RunH.adv tb_ok [true] rfl rfl (by simp [hptr2] <;> omega) ?_
      refine RunH.loadS (strE p) rfl rfl rfl rfl (fun u hu => by rw [hp]; exact hu.loadRow (κ := kStr) (l := NL) (id := 7) rfl (by show NL.length ≤ lim; omega) hjt) ?_
      refine RunH.adv tb_ok [] rfl rfl (by simp <;> omega) ?_
      refine RunH.doesB [] 10 (hc := Tryz.call43) (ho := rfl) (hw := rfl) (hd := rfl) (hf := rfl) (hes := rfl) (hσ := rfl) (hn := rfl) (hV := fun _ => rfl) (hG := fun _ => rfl) (e := fun y : Option Addr × Nat => rowS 9 y.1 (endsOf p).length y.2) (hC := tails_spec p (by omega)) (hp := fun u hu => (hG.ext hu.fact.1.1).max) ?_
      rintro ⟨TA, tc⟩ m11 hm11
      refine RunH.drop ?_
      have hTl : (endsOf p).length ≤ 100 := by rw [endsOf_len]; have := words_len p; omega
      have hTm := s9 p hpm
      generalize hTL : endsOf p = TL at *
      refine RunH.adv tb_ok [] rfl rfl (by simp <;> omega) ?_
      refine RunH.loop (α := Nat × Bool) (fun z => [(85, intE j), (90, rowS 9 TA TL.length tc), (91, intE TL.length), (33, intE i), (8, .av (.box 6 m5 0)), (9, strE n), (83, rowS 7 NA2 NL.length nc2), (84, intE NL.length), (5, .av (.box 5 m2 0)), (6, intE k), (31, .av (.val (.slice (kA k A1 B1) L.length (kA k c1 d1)))), (32, intE L.length), (92, intE z.1), (15, boolE z.2)]) (fun _ => [(9, rowE kStr TA tc TL), (6, some (.box m5 (entryF x) 44)), (7, rowE kStr NA2 nc2 NL), (3, rowE kEntry A1 c1 T), (4, rowE kEntry B1 d1 Y), (5, some (.box m2 [.val (.slice A1 T.length c1), .val (.slice B1 Y.length d1)] 24))]) (fun z u => ((Ext w u ∧ i ≤ L.length) ∧ j ≤ NL.length) ∧ z.1 ≤ TL.length ∧ (z.2 = true ∨ (∀ p ∈ NL.take j, n ∉ endsOf p) ∧ n ∉ TL.take z.1)) (fun z => TL.length - z.1) (0, own) rfl rfl (fun u h => ⟨⟨h.1, h.2.1⟩, Nat.zero_le _, hown.imp id fun h => ⟨h, by simp⟩⟩) ?_
      rintro ⟨q, o2⟩ m12
      refine RunH.pure (fun u h => h.2) fun ⟨hq, ho2⟩ => ?_
      dsimp only at hq ho2 ⊢
      by_cases hqt : q < TL.length
      · have htq : TL.take (q + 1) = TL.take q ++ [TL[q]] := List.take_succ_eq_append_getElem hqt
        refine RunH.pureS (fun u hu => (Sl.own (B := w.heap.size) (hu.row (κ := kStr) (l := TL) (id := 9) rfl) (by show TL.length ≤ lim; omega)).ptr hqt) fun hptr3 => ?_
        obtain ⟨t, ht⟩ : ∃ t, t = TL[q] := ⟨_, rfl⟩
        obtain ⟨t1, t2⟩ := hTm t (by rw [ht]; exact List.getElem_mem hqt)
        rw [← ht] at htq
        have htl := pathOk_len t1
        refine RunH.adv tb_ok [true] rfl rfl (by simp [hptr3] <;> omega) ?_
        refine RunH.loadS (strE t) rfl rfl rfl rfl (fun u hu => by rw [ht]; exact hu.loadRow (κ := kStr) (l := TL) (id := 9) rfl (by show TL.length ≤ lim; omega) hqt) ?_
        have ho3 : (o2 || decide (t = n)) = true ∨ (∀ p ∈ NL.take j, n ∉ endsOf p) ∧ n ∉ TL.take (q + 1) := by
          by_cases e : t = n
          · left; simp [e]
          · rcases ho2 with h | ⟨h1, h2⟩
            · left; simp [h]
            · right
              refine ⟨h1, ?_⟩
              rw [htq, List.mem_append, List.mem_singleton]
              rintro (h | h)
              · exact h2 h
              · exact e h.symm
        generalize ho4 : (o2 || decide (t = n)) = o4 at *
        apply RunH.joinK (α := Unit) (fun _ => [(85, intE j), (90, rowS 9 TA TL.length tc), (91, intE TL.length), (33, intE i), (8, .av (.box 6 m5 0)), (9, strE n), (83, rowS 7 NA2 NL.length nc2), (84, intE NL.length), (5, .av (.box 5 m2 0)), (6, intE k), (31, .av (.val (.slice (kA k A1 B1) L.length (kA k c1 d1)))), (32, intE L.length), (92, intE q), (19, strE t), (15, boolE o4), (103, .st [.val (.slice A1 T.length c1), .val (.slice B1 Y.length d1)]), (104, intE k), (105, strE t)]) (fun _ => [(9, rowE kStr TA tc TL), (6, some (.box m5 (entryF x) 44)), (7, rowE kStr NA2 nc2 NL), (3, rowE kEntry A1 c1 T), (4, rowE kEntry B1 d1 Y), (5, some (.box m2 [.val (.slice A1 T.length c1), .val (.slice B1 Y.length d1)] 24))]) (fun _ u => (Ext w u ∧ i ≤ L.length) ∧ j ≤ NL.length)
        · cases o2 with
          | true =>
            have : o4 = true := by rw [← ho4]; rfl
            subst this
            refine RunH.adv tb_ok [true] rfl rfl (by simp <;> omega) ?_
            exact RunH.meetS () [] (.head _) rfl rfl rfl fun u h => h.1
          | false =>
            have : o4 = decide (t = n) := by rw [← ho4]; rfl
            subst this
            refine RunH.adv tb_ok [false] rfl rfl (by simp <;> omega) ?_
            exact RunH.meetS () [] (.head _) rfl rfl rfl fun u h => h.1
        · rintro ⟨⟩ m13
          refine RunH.toNx 10 ?_
          refine RunH.gives (ho := rfl) (hw := rfl) (hd := rfl) (hf := rfl) (hes := rfl) (hc := Tryz.call26) (e := .av (.val (.tuple #[sumV (plainS T Y k t), intV (plainE T Y k t)]))) (hC := fun u hu => Plain_spec u ⟨⟨A1, c1, T⟩, ⟨B1, d1, Y⟩⟩ k t (hG.ext hu.fact.1.1).max ⟨Sl.own (B := w.heap.size) (hu.row (κ := kEntry) (l := T) (id := 3) rfl) (by show T.length ≤ lim; omega), Sl.own (B := w.heap.size) (hu.row (κ := kEntry) (l := Y) (id := 4) rfl) (by show Y.length ≤ lim; omega)⟩ (by show T.length ≤ _; omega) (by show Y.length ≤ _; omega)) ?_
          intro m14 hm14
          generalize plainS T Y k t = ps at *
          generalize plainE T Y k t = pe at *
          by_cases he : pe = 0
          · refine RunH.adv tb_ok [false] rfl rfl (by simp [he] <;> omega) ?_
            refine RunH.read (boolE (!decide (ps = x.sum))) rfl rfl rfl rfl (fun w' a _ ha => op_neq ha rfl rfl rfl rfl rfl (by kernel_rfl) (eq_sum w' 9998 _ _)) ?_
            by_cases hs : ps = x.sum
            · have hwn := t2 he hs
              refine RunH.adv tb_ok [false] rfl rfl (by simp [hs] <;> omega) ?_
              refine RunH.gives (ho := rfl) (hw := rfl) (hd := rfl) (hf := rfl) (hes := rfl) (hc := Tryz.call44) (e := intE (t.count 46)) (hC := fun u _ => count_spec u t) ?_
              intro m15 hm15
              refine RunH.adv tb_ok [] rfl rfl (by simp <;> omega) ?_
              refine RunH.gives (ho := rfl) (hw := rfl) (hd := rfl) (hf := rfl) (hes := rfl) (hc := Tryz.call44) (e := intE (n.count 46)) (hC := fun u _ => count_spec u n) ?_
              intro m16 hm16
              unfold worseB lessN at hwn
              generalize t.count 46 = ca at *
              generalize n.count 46 = cb at *
              by_cases q1 : ca < cb
              · simp [q1] at hwn
              · by_cases q2 : ca = cb
                · by_cases q3 : t.length < n.length
                  · simp [q2, q3] at hwn
                  · by_cases q4 : t.length = n.length
                    · have q5 : Op.bytesLess t n = false := by simpa [q2, q4] using hwn
                      refine RunH.adv tb_ok [false, true, false, true, false] rfl rfl (by simp [q1, q2, q3, q4, q5] <;> omega) ?_
                      refine RunH.again (q + 1, o4) (.head _) rfl rfl (by dsimp only; omega) fun u h => ⟨h, by dsimp only; omega, ho3⟩
                    · refine RunH.adv tb_ok [false, true, false, false] rfl rfl (by simp [q1, q2, q3, q4] <;> omega) ?_
                      refine RunH.again (q + 1, o4) (.head _) rfl rfl (by dsimp only; omega) fun u h => ⟨h, by dsimp only; omega, ho3⟩
                · refine RunH.adv tb_ok [false, false] rfl rfl (by simp [q1, q2] <;> omega) ?_
                  refine RunH.again (q + 1, o4) (.head _) rfl rfl (by dsimp only; omega) fun u h => ⟨h, by dsimp only; omega, ho3⟩
            · refine RunH.adv tb_ok [true] rfl rfl (by simp [hs] <;> omega) ?_
              refine RunH.again (q + 1, o4) (.head _) rfl rfl (by dsimp only; omega) fun u h => ⟨h, by dsimp only; omega, ho3⟩
          · refine RunH.adv tb_ok [true] rfl rfl (by simp [he] <;> omega) ?_
            refine RunH.again (q + 1, o4) (.head _) rfl rfl (by dsimp only; omega) fun u h => ⟨h, by dsimp only; omega, ho3⟩
      · have hqe : TL.take q = TL := List.take_of_length_le (by omega)
        refine RunH.adv tb_ok [false] rfl rfl (by simp <;> omega) ?_
        refine RunH.again (j + 1, o2) (.tail _ (.head _)) rfl rfl (by dsimp only; omega) fun u h => ⟨h.1.1, by dsimp only; omega, ?_⟩
        dsimp only
        rw [hqe] at ho2
        refine ho2.imp id fun h => ?_
        intro p' hp'
        rw [hts, List.mem_append, List.mem_singleton] at hp'
        rcases hp' with hp' | rfl
        · exact h.1 p' hp'
        · rw [hTL]; exact h.2
    · have hje : NL.take j = NL := List.take_of_length_le (by omega)
      have ho : own = true := by
        rcases hown with h | h
        · exact h
        · obtain ⟨p, hp, hn⟩ := s5
          exact absurd hn (h p (by rw [hje]; exact hp))
      subst ho
      refine RunH.adv tb_ok [false, false] rfl rfl (by simp <;> omega) ?_
      refine RunH.again (i + 1) (.tail _ (.head _)) rfl rfl (by show L.length - (i + 1) < L.length - i; omega) fun u h => ⟨h.1.1, by omega⟩
  · refine RunH.adv tb_ok [false] rfl rfl (by simp <;> omega) ?_
    refine RunH.gives (ho := rfl) (hw := rfl) (hd := rfl) (hf := rfl) (hes := rfl) (hc := Tryz.call15) (e := .tt) (hC := fun u hu => awake_spec u (hG.ext hu.fact.1)) ?_
    intro mA hmA
    refine RunH.adv tb_ok [] rfl rfl (by simp <;> omega) ?_
    refine RunH.ret1 Tryz.func7 rfl rfl fun u hu => ⟨rfl, hu.fact.1⟩
end Go.Proofs.YtagnkcdhenilbaaGreatDoor

/-
SpaceShortest: the law is true for every input; the listed variables hold what the program's text lays.
-/
namespace Go.Proofs.YtagnkcdhenilbaaGreatDoor
open Go V RowKit Go.ChangeShapes Go.WideShapes Go.ChangeAt

set_option maxRecDepth 100000 in
theorem spaceShortest_lifted (os : Os) (started : os.Started) (H : Type) (enc : TypeId × Value → H) :
    ReturnsInHanded {} Tryz.checked os 7 .any (fun w args => (Rows.spaceShortestSpec.pre enc Tryz.prog Tryz.f7 [] false w args ∧ laidMetH Tryz.prog Rows.spaceShortestRow.laid w) ∧ sizedMet enc Tryz.prog Tryz.f7 (OpenSpec.ofChange Rows.spaceShortestSpec) false w args)
      (Rows.spaceShortestSpec.post enc Tryz.prog Tryz.f7 false true false false) := by
  refine wrap (C := Tryz.checked) (X := fun w _ => laidMetH Tryz.prog Rows.spaceShortestRow.laid w) (fun _ _ _ hh h => h.of_heap hh) ownKnobs started (by kernel_rfl) Tryz.func7
    (ChangeSpec.witness_shaped (enc := enc) (C := Tryz.checked) (os := os) (X := fun w _ => laidMetH Tryz.prog Rows.spaceShortestRow.laid w) false (World.laidAll Tryz.prog os Rows.spaceShortestRow.laid)
      #[.slice none 0 0, .int .u8 0] 8 (World.laidAll_os _ _ _)
      (World.shaped_of_ZipB (by kernel_rfl) (by kernel_rfl)) (by kernel_rfl) (by kernel_rfl) (by kernel_rfl)
      (by rw [MakeChecks.laidMetH_plain _ _ _ (by kernel_rfl)]; exact laidMet_laidAll _ (by kernel_rfl) (by kernel_rfl))) ?_
  intro W base args ds gs before hval0 hW hsz0 hL hS
  have hval : ∀ (j : Nat) t v, Tryz.f7.params[j]? = some t → args[j]? = some v → Value.okWide Tryz.prog W .any base t v := hval0
  have hsz : (DataW.weightsEach Tryz.prog (Tryz.f7.params.toList ++ Rows.spaceShortestSpec.plain.varTypes Tryz.prog) (ds ++ gs)).all (· ≤ reachBytes) = true := hsz0
  have hW' := hW
  obtain ⟨p, q, hA0, hV, rfl, _, _⟩ := hW
  have hA : DataW.TrodAll enc Tryz.prog W 0 (fun _ => true) true Tryz.f7.params.toList args.toList ds p := hA0
  rw [Tryz.params7] at hA hval hsz
  obtain ⟨v0, v1, d0, d1, p0, p1, rfl, rfl, rfl, h0, h1⟩ := trodAll_two hA
  obtain ⟨rfl, rfl⟩ := trodVars_none hV
  have wt : ∀ {j : Nat} {t : TypeId} {d : DataW H}, [54, 5][j]? = some t → [d0, d1][j]? = some d → ∀ n ∈ d.weights Tryz.prog t, n ≤ reachBytes := by
    intro j t d ht hd n hn
    exact of_decide_eq_true (List.all_eq_true.1 hsz _ (DataW.weights_mem_each ht hd n hn))
  obtain ⟨x0, rfl, hx0⟩ := open_bytes h0 (wt (j := 0) rfl rfl) (hval 0 _ v0 rfl rfl)
  obtain ⟨x1, rfl⟩ := open_u8 (hval 1 _ v1 rfl rfl) h1
  refine (shortest_walk W (glob_of hS (show laidMetH Tryz.prog Rows.spaceChecksRow.laid W from hL)) x0.A x0.c x0.l hx0 x1).mono fun e W' ⟨he, hb⟩ => ?_
  subst he
  exact ⟨_, rfl, _, _, _, [], _, [], hW', trodAll_mk1 (shut_bool Tryz.underlying4 _),
    trodAll_mk2 (Below.trod laidOuts (by kernel_rfl) (of_decide_eq_true (by kernel_rfl)) h0 hb (fun y hy => hW'.lt y (by simp [hy]))) (Below.trod laidOuts (by kernel_rfl) (of_decide_eq_true (by kernel_rfl)) h1 hb (fun y hy => hW'.lt y (by simp [hy]))), rfl, hb.frame _, fun h => by cases h⟩

end Go.Proofs.YtagnkcdhenilbaaGreatDoor

/-
The closed facts of spaceShortest's row and card, one by one; no condition.
-/
namespace Go.Proofs.YtagnkcdhenilbaaGreatDoor
open Go
theorem spaceShortest_c0 : (Rows.spaceShortestRow.wf (OpenSpec.ofChange Rows.spaceShortestSpec) : Bool) = true := by kernel_rfl
theorem spaceShortest_c1 : (laidOutB Tryz.prog : Bool) = true := by kernel_rfl
theorem spaceShortest_c2 : (mapsRowed Tryz.prog : Bool) = true := by kernel_rfl
theorem spaceShortest_c3 : (Tryz.f7.params.all (Tryz.prog.readableRec ·) : Bool) = true := by kernel_rfl
theorem spaceShortest_c4 : (namedTie Tryz.prog Rows.spaceShortestRow.named Rows.spaceShortestSpec.vars : Bool) = true := by kernel_rfl
theorem spaceShortest_c5 : (Rows.spaceShortestRow.stops == [] : Bool) = true := by kernel_rfl
theorem spaceShortest_c6 : (Tryz.prog.stops == [] : Bool) = true := by kernel_rfl
theorem spaceShortest_c7 : (Rows.spaceShortestRow.knobs == [] : Bool) = true := by kernel_rfl
theorem spaceShortest_c8 : (Tryz.prog.stopKnobs == [] : Bool) = true := by kernel_rfl
theorem spaceShortest_c9 : (Rows.spaceShortestRow.inPlace == Tryz.prog.inPlace 7 : Bool) = true := by kernel_rfl
theorem spaceShortest_c10 : (Rows.spaceShortestRow.unfollowed == Tryz.prog.unfollowed 7 : Bool) = true := by kernel_rfl
theorem spaceShortest_c11 : (Rows.spaceShortestRow.recurses == Tryz.prog.recurses 7 : Bool) = true := by kernel_rfl
theorem spaceShortest_c12 : (Rows.spaceShortestRow.named == Tryz.prog.varsNamed 7 : Bool) = true := by kernel_rfl
theorem spaceShortest_c13 : (Rows.spaceShortestRow.maps == (Tryz.f7.params.toList ++ Rows.spaceShortestSpec.plain.varTypes Tryz.prog).any (Tryz.prog.mapsRec ·) : Bool) = true := by kernel_rfl
theorem spaceShortest_c14 : (Rows.spaceShortestRow.ifaces == (Tryz.f7.params.toList ++ Rows.spaceShortestSpec.plain.varTypes Tryz.prog).any (Tryz.prog.ifacesRec ·) : Bool) = true := by kernel_rfl
theorem spaceShortest_c15 : (Rows.spaceShortestRow.mapsOut == Tryz.prog.mapsAmong Tryz.f7.resultTypes.toList : Bool) = true := by kernel_rfl
theorem spaceShortest_c16 : (Rows.spaceShortestRow.loops == (Tryz.f7.params.toList ++ Rows.spaceShortestSpec.plain.varTypes Tryz.prog).any (Tryz.prog.loopsFrom ·) : Bool) = true := by kernel_rfl
theorem spaceShortest_c17 : (Rows.spaceShortestRow.wideKeys == (Tryz.f7.params.toList ++ Rows.spaceShortestSpec.plain.varTypes Tryz.prog ++ Tryz.f7.resultTypes.toList).any (Tryz.prog.wideKeysFrom ·) : Bool) = true := by kernel_rfl
theorem spaceShortest_c18 : (Rows.spaceShortestSpec.vars.all (Tryz.prog.varReadable ·) : Bool) = true := by kernel_rfl
theorem spaceShortest_c19 : (Tryz.f7.resultTypes.all (fun t => Tryz.prog.readableRec t && decide (t < Tryz.prog.types.size)) : Bool) = true := by kernel_rfl
theorem spaceShortest_c20 : (Rows.spaceShortestRow.ifacesOut == Tryz.f7.resultTypes.toList.any (Tryz.prog.ifacesRec ·) : Bool) = true := by kernel_rfl
theorem spaceShortest_c21 : (Rows.spaceShortestRow.loopsOut == Tryz.f7.resultTypes.toList.any (Tryz.prog.loopsFrom ·) : Bool) = true := by kernel_rfl
theorem spaceShortest_c22 : (Rows.spaceShortestRow.plainKeys == Tryz.prog.plainKeys : Bool) = true := by kernel_rfl
theorem spaceShortest_c23 : (Rows.spaceShortestRow.shortTexts.isNone : Bool) = true := by kernel_rfl
theorem spaceShortest_c24 : (Tryz.prog.stopsHeard : Bool) = true := by kernel_rfl
theorem spaceShortest_c25 : (Tryz.prog.mayEnter : Bool) = true := by kernel_rfl
theorem spaceShortest_c26 : (Rows.spaceShortestRow.lifted == Tryz.prog.liftsFinal : Bool) = true := by kernel_rfl
theorem spaceShortest_c27 : (Tryz.prog.make == some Rows.spaceShortestRow.make : Bool) = true := by kernel_rfl
theorem spaceShortest_c28 : (Rows.spaceShortestRow.kinds == (if Rows.spaceShortestRow.domain.isEmpty then [] else Tryz.f7.params.toList.map fun t => match Tryz.prog.underlying t with | some (.int k) => some k | _ => none) : Bool) = true := by kernel_rfl
theorem spaceShortest_c29 : (Rows.spaceShortestRow.pinned == Rows.spaceShortestRow.pinnedBy : Bool) = true := by kernel_rfl
theorem spaceShortest_c30 : (Rows.spaceShortestRow.veiled == (Tryz.f7.params.toList ++ Rows.spaceShortestSpec.plain.varTypes Tryz.prog ++ Tryz.f7.resultTypes.toList).any (Tryz.prog.veiledRec ·) : Bool) = true := by kernel_rfl
theorem spaceShortest_c31 : (Rows.spaceShortestRow.veiledFits Tryz.prog Tryz.f7.params.toList (Tryz.f7.params.toList ++ Rows.spaceShortestSpec.plain.varTypes Tryz.prog ++ Tryz.f7.resultTypes.toList) : Bool) = true := by kernel_rfl
set_option maxRecDepth 100000 in
theorem spaceShortest_joined : joinedFacts Tryz.prog 7 Tryz.f7 Rows.spaceShortestSpec Rows.spaceShortestRow = true :=
  joined_of spaceShortest_c0 spaceShortest_c1 spaceShortest_c2 spaceShortest_c3 spaceShortest_c4 spaceShortest_c5 spaceShortest_c6 spaceShortest_c7 spaceShortest_c8 spaceShortest_c9 spaceShortest_c10 spaceShortest_c11 spaceShortest_c12 spaceShortest_c13 spaceShortest_c14 spaceShortest_c15 spaceShortest_c16 spaceShortest_c17 spaceShortest_c18 spaceShortest_c19 spaceShortest_c20 spaceShortest_c21 spaceShortest_c22 spaceShortest_c23 spaceShortest_c24 spaceShortest_c25 spaceShortest_c26 spaceShortest_c27 spaceShortest_c28 spaceShortest_c29 spaceShortest_c30 spaceShortest_c31
theorem spaceShortest_named : Tryz.prog.funcNamed "hoarstone/hoarstonelaw07.SpaceShortest" = some 7 := by kernel_rfl
theorem spaceShortest_inst : decide (Tryz.f7.isInstance Tryz.prog Rows.spaceShortestRow.origin Rows.spaceShortestRow.targs) = true := by kernel_rfl
theorem spaceShortest_wfText : Rows.spaceShortestRow.wfByText (OpenSpec.ofChange Rows.spaceShortestSpec) = true := by kernel_rfl
theorem spaceShortest_goes : (false = Rows.spaceShortestRow.goesBy Tryz.prog) := by kernel_rfl
end Go.Proofs.YtagnkcdhenilbaaGreatDoor

/-
SpaceShortest: the law is true for every input; its listed package variables hold what the program's text lays (the card ties them). No condition.
-/
namespace Go.Proofs.YtagnkcdhenilbaaGreatDoor
open Go
theorem spaceShortest_wrapped : Tryz.f7.isWrapper Tryz.prog Rows.spaceShortestRow.wrapper Rows.spaceShortestRow.mainSum := by
  unfold Func.isWrapper; first | (rw [if_pos (by decide +kernel)]; kernel_rfl) | (rw [if_neg (by decide +kernel)]; exact ⟨rfl, rfl⟩)
theorem spaceShortest_prog : Rows.spaceShortestRow.program = Tryz.pinned.name := by kernel_rfl
theorem spaceShortest_sum : Rows.spaceShortestRow.sum = Tryz.pinned.sum := by kernel_rfl
theorem spaceShortest_spec : Rows.spaceShortestRow.spec = Rows.spaceShortestSpec.name := by kernel_rfl
theorem spaceShortest_holds : Rows.SpaceShortestSaid :=
  OpenClaim.holds_of_wide 7 Tryz.f7 spaceShortest_prog spaceShortest_sum spaceShortest_spec rfl rfl rfl rfl ⟨rfl, rfl, rfl, rfl, rfl⟩ rfl rfl rfl rfl rfl spaceShortest_named Tryz.func7 spaceShortest_joined
    (of_decide_eq_true spaceShortest_inst) spaceShortest_wrapped (fun os started H enc _ => spaceShortest_lifted os started H enc)
theorem spaceShortest_main : Tryz.prog.mainIs = some (Rows.spaceShortestCard.stood.harness.1, Rows.spaceShortestCard.stood.harness.2.toList) := by kernel_rfl
theorem spaceShortest_har : (!Rows.spaceShortestCard.stood.harness.1 && Rows.spaceShortestCard.stood.harness.2.isEmpty && !false) = false := by kernel_rfl
theorem spaceShortest_looks : false = Tryz.prog.looks [] := by kernel_rfl
theorem spaceShortest_plain : ([54, 5].all fun u => !Tryz.prog.wantsStandIn u) = true := by kernel_rfl
theorem spaceShortest_card_holds : Rows.SpaceShortestCardSaid :=
  Claim7.holds_tied_plain_at .later [] [.data, .data, .data, .pinned] true Rows.spaceShortestCard.stood.harness false
    spaceShortest_holds (fun _ h => by cases h) spaceShortest_wfText (fun _ h => by cases h) spaceShortest_row_tie rfl ⟨rfl, rfl⟩ spaceShortest_main spaceShortest_har
    (fun f fn hf hfn => by
      obtain rfl : f = 7 := (Option.some.inj (spaceShortest_named.symm.trans hf)).symm
      obtain rfl : fn = Tryz.f7 := (Option.some.inj (Tryz.func7.symm.trans hfn)).symm
      exact ⟨spaceShortest_looks, fun j t ht => by
        rw [Tryz.params7] at ht
        have hm : t ∈ [54, 5] := by simpa using Array.mem_of_getElem? ht
        exact (show Tryz.prog.wantsStandIn t = false by simpa using List.all_eq_true.1 spaceShortest_plain t hm)⟩)
    spaceShortest_goes
#print axioms spaceShortest_card_holds
end Go.Proofs.YtagnkcdhenilbaaGreatDoor
