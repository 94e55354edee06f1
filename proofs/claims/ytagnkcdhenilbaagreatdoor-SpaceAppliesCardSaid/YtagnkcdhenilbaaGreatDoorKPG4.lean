/-
A part of the proofs of the laws of a seat: contracts of functions and lemmas on them; the listed package variables hold what the program's text lays. No further condition.
-/
import Derived.Test.YtagnkcdhenilbaaGreatDoorKPG1
import Derived.Test.YtagnkcdhenilbaaGreatDoorKP07i
import Derived.Test.YtagnkcdhenilbaaGreatDoorKR1
set_option linter.unusedVariables false
set_option linter.unusedSectionVars false
set_option linter.unusedSimpArgs false
namespace Go.Proofs.YtagnkcdhenilbaaGreatDoor
open Go V

set_option maxRecDepth 10000 in
set_option maxHeartbeats 4000000 in
theorem r07_Apply (s : Spc) (LA : Option Addr) (lc : Nat) (l : List Chg) (h1 : s.t.l.length ≤ 1000000) (h2 : s.y.l.length ≤ 1000000) (h3 : ∀ e ∈ s.t.l, e.path.length ≤ 1000000) (h4 : ∀ e ∈ s.y.l, e.path.length ≤ 1000000) (hln : l.length ≤ 1000) (hlp : ∀ g ∈ l, g.path.length ≤ 1000000) :
    Does Tryz.prog tb 77 [s.ev.v, .slice LA l.length lc] [] (fun u => s.ok u ∧ Sl kRChg u LA lc l)
      (fun z : (Option Addr × Nat) × (Option Addr × Nat) => .tuple #[.agg #[.slice z.1.1 (appC s.t.l s.y.l l).2.1.length z.1.2, .slice z.2.1 (appC s.t.l s.y.l l).2.2.length z.2.2], intV (appC s.t.l s.y.l l).1])
      (fun z => [(0, rowE kEntry z.1.1 z.1.2 (appC s.t.l s.y.l l).2.1), (1, rowE kEntry z.2.1 z.2.2 (appC s.t.l s.y.l l).2.2)]) (fun _ _ _ => True) := by
  have hl : lim = 140737488351232 := rfl
  refine Does.enter tb_ok [(0, s.ev), (1, slE LA l.length lc)] Tryz.func77 rfl Tryz.ntmps77 rfl rfl 0 ?_
  intro B0 m0 K
  refine RunH.adv tb_ok [] rfl rfl (by simp <;> omega) ?_
  refine RunH.gives (ho := rfl) (hw := rfl) (hd := rfl) (hf := rfl) (hes := rfl) (hc := Tryz.call20) (e := intE (checkE s.t.l s.y.l)) (hC := fun u hu => r07_Check u s hu.fact.2.1 h3 h4) ?_
  intro m1 hm1
  by_cases hc : checkE s.t.l s.y.l = 0
  · have hS1 := listE_ok (checkE_ok hc).1
    have hS2 := listE_ok (checkE_ok hc).2
    refine RunH.adv tb_ok [false] rfl rfl (by simp [hc] <;> omega) ?_
    refine RunH.doesB [] 4 (hc := Tryz.call16) (ho := rfl) (hw := rfl) (hd := rfl) (hf := rfl) (hes := rfl) (hσ := rfl) (hn := rfl) (hV := fun _ => rfl) (hG := fun _ => rfl) (e := fun y => spV s y) (hC := r07_Own s h1 h2) (hp := fun u hu => hu.fact.2.1) ?_
    rintro ⟨⟨A1, c1⟩, ⟨B1, d1⟩⟩ m2 hm2
    refine RunH.drop ?_
    refine RunH.adv tb_ok [] rfl rfl (by simp <;> omega) ?_
    refine RunH.loop (α := Nat × (Option Addr × Nat) × (Option Addr × Nat) × List Entry × List Entry) (fun z => [(2, .av (.box 0 m0 0)), (4, .av (.box 1 (m0 + 1) 0)), (20, slE LA l.length lc), (21, intE l.length), (22, intE z.1)]) (fun z => [(0, some (.box m0 [.val (.slice z.2.1.1 z.2.2.2.1.length z.2.1.2), .val (.slice z.2.2.1.1 z.2.2.2.2.length z.2.2.1.2)] 24)), (1, some (.box (m0 + 1) [.val (.slice none 0 0), .val (.slice none 0 0)] 24)), (2, rowE kEntry z.2.1.1 z.2.1.2 z.2.2.2.1), (3, rowE kEntry z.2.2.1.1 z.2.2.1.2 z.2.2.2.2)])
      (fun z u => (K u ∧ s.ok u ∧ Sl kRChg u LA lc l) ∧ z.1 ≤ l.length ∧ appL l s.t.l s.y.l = appL (l.drop z.1) z.2.2.2.1 z.2.2.2.2 ∧ rises z.2.2.2.1 = true ∧ rises z.2.2.2.2 = true ∧ z.2.2.2.1.length ≤ 300 ∧ z.2.2.2.2.length ≤ 300) (fun z => l.length - z.1) (0, (A1, c1), (B1, d1), s.t.l, s.y.l) rfl rfl
      (fun u h => ⟨h, Nat.zero_le _, rfl, hS1.2.1, hS2.2.1, hS1.2.2, hS2.2.2⟩) ?_
    rintro ⟨i, ⟨A, c⟩, ⟨B, d⟩, T, Y⟩ m3
    refine RunH.pure (fun u h => h.2) fun ⟨hi, hinv, hrT, hrY, hTn, hYn⟩ => ?_
    dsimp only at hi hinv hrT hrY hTn hYn ⊢
    by_cases hlt : i < l.length
    · have hdr : l.drop i = l[i] :: l.drop (i + 1) := List.drop_eq_getElem_cons hlt
      have hpl := hlp _ (List.getElem_mem hlt)
      refine RunH.pure (fun u h => h.1.2.2.ptr hlt) fun hptr => ?_
      refine RunH.adv tb_ok [true] rfl rfl (by simp [hptr] <;> omega) ?_
      refine RunH.loadS (.st (chgF l[i])) rfl rfl rfl rfl (fun u hu => hu.fact.1.2.2.load hlt) ?_
      generalize l[i] = g at *
      obtain ⟨kind, path, had, has, old, new⟩ := g
      dsimp only at hpl
      have hpe : pathsE [path] = if pathOk path = true then 0 else 4 := by simp [pathsE]
      by_cases hk : kind = 1
      · subst hk
        refine RunH.adv tb_ok [false] rfl rfl (by simp <;> omega) ?_
        apply RunH.joinK (α := Unit) (fun _ => [(2, .av (.box 0 m0 0)), (4, .av (.box 1 (m0 + 1) 0)), (20, slE LA l.length lc), (21, intE l.length), (8, .av (.box 4 m3 0)), (22, intE i), (73, .st [.val (.slice A T.length c), .val (.slice B Y.length d)]), (75, intE 1)]) (fun _ => [(0, some (.box m0 [.val (.slice A T.length c), .val (.slice B Y.length d)] 24)), (1, some (.box (m0 + 1) [.val (.slice none 0 0), .val (.slice none 0 0)] 24)), (2, rowE kEntry A c T), (3, rowE kEntry B d Y), (4, some (.box m3 (chgF ⟨1, path, had, has, old, new⟩) 101))]) (fun _ u => (K u ∧ s.ok u ∧ Sl kRChg u LA lc l) ∧ badC ⟨1, path, had, has, old, new⟩ = false)
        · refine RunH.gives (ho := rfl) (hw := rfl) (hd := rfl) (hf := rfl) (hes := rfl) (hc := Tryz.call101) (e := intE (pathsE [path])) (hC := fun u hu => r07_paths u _ _ [path] (Sl.own (B := B0) (hu.row (κ := kStr) (l := [path]) (id := 5) rfl) (by simp [hl])) (by simpa using hpl)) ?_
          intro m4 hm4
          rw [hpe]
          by_cases hok : pathOk path = true
          · rw [if_pos hok]
            cases had
            · cases has
              · have hw : wrongE T Y ⟨1, path, false, false, old, new⟩ = 4 := by simp [wrongE, badC]
                have hR : appC s.t.l s.y.l l = (4, [], []) := by unfold appC; rw [if_pos hc, hinv, hdr, appL, if_neg (by rw [hw]; decide), hw]
                refine RunH.adv tb_ok [false, true, true] rfl rfl (by simp <;> omega) ?_
                refine RunH.nilrow 20 kEntry.T kEntry.sz 21 ?_
                refine RunH.nilrow 21 kEntry.T kEntry.sz 22 ?_
                refine RunH.retBoxT tb_ok nilSp Tryz.func77 rfl rfl rfl rfl rfl fun w hst => ⟨((none, 0), (none, 0)), by rw [hR]; rfl, by rw [hR]; exact hst.out [(0, 20), (1, 21)] rfl rfl fun u h => ⟨h.1.1, trivial⟩⟩
              · refine RunH.adv tb_ok [false, true, false, true] rfl rfl (by simp <;> omega) ?_
                refine RunH.read (sumE Sum.zero) rfl rfl rfl rfl (fun w' a _ ha => ?_) ?_
                · simp only [execOp, List.map_toArray, List.map_nil, build_zero, Sem.run_bind, Result.andThen_ok, Sem.run_pure]
                  rfl
                refine RunH.read (boolE (!decide (old = Sum.zero))) rfl rfl rfl rfl (fun u q h hag => op_neq hag rfl rfl rfl rfl rfl (by kernel_rfl) (eq_sum u 9998 _ _)) ?_
                by_cases hz : old = Sum.zero
                · have hb : badC ⟨1, path, false, true, old, new⟩ = false := by simp [badC, hok, hz]
                  refine RunH.adv tb_ok [false, false] rfl rfl (by simp [hz] <;> omega) ?_
                  refine RunH.meetS () [] (.head _) rfl rfl rfl fun u h => ⟨h.1, hb⟩
                · have hw : wrongE T Y ⟨1, path, false, true, old, new⟩ = 4 := by simp [wrongE, badC, hz]
                  have hR : appC s.t.l s.y.l l = (4, [], []) := by unfold appC; rw [if_pos hc, hinv, hdr, appL, if_neg (by rw [hw]; decide), hw]
                  refine RunH.adv tb_ok [true] rfl rfl (by simp [hz] <;> omega) ?_
                  refine RunH.nilrow 20 kEntry.T kEntry.sz 21 ?_
                  refine RunH.nilrow 21 kEntry.T kEntry.sz 22 ?_
                  refine RunH.retBoxT tb_ok nilSp Tryz.func77 rfl rfl rfl rfl rfl fun w hst => ⟨((none, 0), (none, 0)), by rw [hR]; rfl, by rw [hR]; exact hst.out [(0, 20), (1, 21)] rfl rfl fun u h => ⟨h.1.1, trivial⟩⟩
            · cases has
              · refine RunH.adv tb_ok [false, false, false, true] rfl rfl (by simp <;> omega) ?_
                refine RunH.read (sumE Sum.zero) rfl rfl rfl rfl (fun w' a _ ha => ?_) ?_
                · simp only [execOp, List.map_toArray, List.map_nil, build_zero, Sem.run_bind, Result.andThen_ok, Sem.run_pure]
                  rfl
                refine RunH.read (boolE (!decide (new = Sum.zero))) rfl rfl rfl rfl (fun u q h hag => op_neq hag rfl rfl rfl rfl rfl (by kernel_rfl) (eq_sum u 9998 _ _)) ?_
                by_cases hz : new = Sum.zero
                · have hb : badC ⟨1, path, true, false, old, new⟩ = false := by simp [badC, hok, hz]
                  refine RunH.adv tb_ok [false] rfl rfl (by simp [hz] <;> omega) ?_
                  refine RunH.meetS () [] (.head _) rfl rfl rfl fun u h => ⟨h.1, hb⟩
                · have hw : wrongE T Y ⟨1, path, true, false, old, new⟩ = 4 := by simp [wrongE, badC, hz]
                  have hR : appC s.t.l s.y.l l = (4, [], []) := by unfold appC; rw [if_pos hc, hinv, hdr, appL, if_neg (by rw [hw]; decide), hw]
                  refine RunH.adv tb_ok [true] rfl rfl (by simp [hz] <;> omega) ?_
                  refine RunH.nilrow 20 kEntry.T kEntry.sz 21 ?_
                  refine RunH.nilrow 21 kEntry.T kEntry.sz 22 ?_
                  refine RunH.retBoxT tb_ok nilSp Tryz.func77 rfl rfl rfl rfl rfl fun w hst => ⟨((none, 0), (none, 0)), by rw [hR]; rfl, by rw [hR]; exact hst.out [(0, 20), (1, 21)] rfl rfl fun u h => ⟨h.1.1, trivial⟩⟩
              · have hb : badC ⟨1, path, true, true, old, new⟩ = false := by simp [badC, hok]
                refine RunH.adv tb_ok [false, false, false, false] rfl rfl (by simp <;> omega) ?_
                refine RunH.meetS () [] (.head _) rfl rfl rfl fun u h => ⟨h.1, hb⟩
          · rw [if_neg hok]
            have hw : wrongE T Y ⟨1, path, had, has, old, new⟩ = 4 := by simp [wrongE, badC, hok]
            have hR : appC s.t.l s.y.l l = (4, [], []) := by unfold appC; rw [if_pos hc, hinv, hdr, appL, if_neg (by rw [hw]; decide), hw]
            refine RunH.adv tb_ok [true] rfl rfl (by simp <;> omega) ?_
            refine RunH.nilrow 20 kEntry.T kEntry.sz 21 ?_
            refine RunH.nilrow 21 kEntry.T kEntry.sz 22 ?_
            refine RunH.retBoxT tb_ok nilSp Tryz.func77 rfl rfl rfl rfl rfl fun w hst => ⟨((none, 0), (none, 0)), by rw [hR]; rfl, by rw [hR]; exact hst.out [(0, 20), (1, 21)] rfl rfl fun u h => ⟨h.1.1, trivial⟩⟩
        · rintro ⟨⟩ m5
          refine RunH.pure (fun u h => h.2) fun hbad => ?_
          refine RunH.toNx 6 ?_
          refine RunH.gives (ho := rfl) (hw := rfl) (hd := rfl) (hf := rfl) (hes := rfl) (hc := Tryz.call79) (e := .av (.val (.slice A T.length c))) (hC := fun u _ => r07_Of u ⟨⟨A, c, T⟩, ⟨B, d, Y⟩⟩ 1) ?_
          intro m6 hm6
          refine RunH.adv tb_ok [] rfl rfl (by simp <;> omega) ?_
          refine RunH.gives (ho := rfl) (hw := rfl) (hd := rfl) (hf := rfl) (hes := rfl) (hc := Tryz.call107) (e := atV T path) (hC := fun u hu => r07_At u A c T (Sl.own (B := B0) (hu.row (κ := kEntry) (l := T) (id := 2) rfl) (by omega)) path) ?_
          intro m7 hm7
          have hwr : ∀ b, clashC T ⟨1, path, had, has, old, new⟩ = b → wrongE T Y ⟨1, path, had, has, old, new⟩ = if b = true then 7 else 0 := fun b hb => by
            rw [← hb]; unfold wrongE; rw [if_pos (by simp), if_neg (by rw [hbad]; simp)]; rfl
          refine RunH.adv tb_ok [] rfl rfl (by simp <;> omega) ?_
          apply RunH.joinK (α := Unit) (fun _ => [(2, .av (.box 0 m0 0)), (4, .av (.box 1 (m0 + 1) 0)), (20, slE LA l.length lc), (21, intE l.length), (8, .av (.box 4 m3 0)), (9, .av (.val (.slice A T.length c))), (10, intE (posOf T path)), (11, boolE (isAt T path)), (22, intE i), (104, boolE (!isAt T path))]) (fun _ => [(0, some (.box m0 [.val (.slice A T.length c), .val (.slice B Y.length d)] 24)), (1, some (.box (m0 + 1) [.val (.slice none 0 0), .val (.slice none 0 0)] 24)), (2, rowE kEntry A c T), (3, rowE kEntry B d Y), (4, some (.box m3 (chgF ⟨1, path, had, has, old, new⟩) 101))]) (fun _ u => (K u ∧ s.ok u ∧ Sl kRChg u LA lc l) ∧ clashC T ⟨1, path, had, has, old, new⟩ = false)
          · refine RunH.draw rfl [(4, some (.box m3 (chgF ⟨1, path, had, has, old, new⟩) 101)), (2, rowE kEntry A c T)] rfl 17 rfl rfl ?_
            by_cases h1 : isAt T path = had
            · by_cases h2 : isAt T path = true
              · have hpos : posOf T path < T.length := by
                  unfold isAt at h2
                  simp only [Bool.and_eq_true, decide_eq_true_eq] at h2
                  exact h2.1
                have hgd : (T.getD (posOf T path) zeroE) = T[posOf T path] := by rw [List.getD_eq_getElem?_getD, List.getElem?_eq_getElem hpos]; rfl
                subst h1
                refine RunD.pureS (fun u hu => hu.ptr (id := 2) (κ := kEntry) (l := T) rfl (by intro e; rw [e] at hpos; cases hpos)) fun hptr => ?_
                refine RunD.adv tb_ok (by kernel_rfl) [false, true] rfl rfl (by simp [h2, hptr] <;> omega) ?_
                refine RunD.loadS (i := 11) (sumE T[posOf T path].sum) rfl (by kernel_rfl) rfl rfl rfl (fun u hu => (Sl.own (B := B0) (hu.row (κ := kEntry) (l := T) (id := 2) rfl) (by omega) : Sl kEntry u A c T).sum hpos) rfl (fun _ h => h) ?_
                intro m8 hm8
                refine RunD.adv tb_ok (by kernel_rfl) [] rfl rfl (by simp <;> omega) ?_
                refine RunD.read (by kernel_rfl) (i := 14) (boolE (!decide (T[posOf T path].sum = old))) rfl rfl rfl rfl rfl rfl (fun w' a h hag => op_neq hag rfl rfl rfl rfl rfl (by kernel_rfl) (eq_sum w' 9998 _ _)) ?_
                refine RunD.adv tb_ok (by kernel_rfl) [] rfl rfl (by simp <;> omega) ?_
                refine RunD.done (.inl rfl) (by kernel_rfl) ?_
                by_cases h3 : T[posOf T path].sum = old
                · have hcl : clashC T ⟨1, path, isAt T path, has, old, new⟩ = false := by simp only [clashC]; rw [hgd, h3]; simp
                  refine RunH.adv tb_ok [false] rfl rfl (by simp [h3] <;> omega) ?_
                  exact RunH.meetS () [] (.head _) rfl rfl rfl fun u h => ⟨h.1, hcl⟩
                · have hw := hwr true (by simp only [clashC]; rw [hgd]; simp [h2, h3])
                  have hR : appC s.t.l s.y.l l = (7, [], []) := by unfold appC; rw [if_pos hc, hinv, hdr, appL, if_neg (by rw [hw]; decide), hw]; rfl
                  refine RunH.adv tb_ok [true] rfl rfl (by simp [h3] <;> omega) ?_
                  refine RunH.nilrow 20 kEntry.T kEntry.sz 21 ?_
                  refine RunH.nilrow 21 kEntry.T kEntry.sz 22 ?_
                  refine RunH.retBoxT tb_ok nilSp Tryz.func77 rfl rfl rfl rfl rfl fun w hst => ⟨((none, 0), (none, 0)), by rw [hR]; rfl, by rw [hR]; exact hst.out [(0, 20), (1, 21)] rfl rfl fun u h => ⟨h.1.1, trivial⟩⟩
              · have h2 : isAt T path = false := by simpa using h2
                have hcl : clashC T ⟨1, path, had, has, old, new⟩ = false := by simp only [clashC]; rw [h1, ← h1, h2]; simp
                subst h1
                refine RunD.adv tb_ok (by kernel_rfl) [false, false] rfl rfl (by simp [h2] <;> omega) ?_
                refine RunD.done (.inl rfl) (by kernel_rfl) ?_
                refine RunH.adv tb_ok [] rfl rfl (by simp <;> omega) ?_
                exact RunH.meetS () [] (.head _) rfl rfl rfl fun u h => ⟨h.1, hcl⟩
            · have hw := hwr true (by simp only [clashC]; rw [decide_eq_false h1]; rfl)
              have hR : appC s.t.l s.y.l l = (7, [], []) := by unfold appC; rw [if_pos hc, hinv, hdr, appL, if_neg (by rw [hw]; decide), hw]; rfl
              refine RunD.adv tb_ok (by kernel_rfl) [true] rfl rfl (by simp [h1] <;> omega) ?_
              refine RunD.done (.inl rfl) (by kernel_rfl) ?_
              refine RunH.adv tb_ok [] rfl rfl (by simp <;> omega) ?_
              refine RunH.nilrow 20 kEntry.T kEntry.sz 21 ?_
              refine RunH.nilrow 21 kEntry.T kEntry.sz 22 ?_
              refine RunH.retBoxT tb_ok nilSp Tryz.func77 rfl rfl rfl rfl rfl fun w hst => ⟨((none, 0), (none, 0)), by rw [hR]; rfl, by rw [hR]; exact hst.out [(0, 20), (1, 21)] rfl rfl fun u h => ⟨h.1.1, trivial⟩⟩
          · rintro ⟨⟩ m9
            refine RunH.pure (fun u h => h.2) fun hcl => ?_
            have he : wrongE T Y ⟨1, path, had, has, old, new⟩ = 0 := hwr false hcl
            have hhad : isAt T path = had := by simp [clashC] at hcl; exact hcl.1
            have hwat : has = false → isAt T path = true := fun hh => by
              subst hh
              rw [hhad]
              cases had
              · simp [badC] at hbad
              · rfl
            refine RunH.facts (fun u => (K u ∧ s.ok u ∧ Sl kRChg u LA lc l)) (fun u h => h.1) ?_
            refine RunH.toNx 6 ?_
            cases has
            · have h2 : isAt T path = true := hwat rfl
              have hpos : posOf T path < T.length := by
                unfold isAt at h2
                simp only [Bool.and_eq_true, decide_eq_true_eq] at h2
                exact h2.1
              have hst : appL l s.t.l s.y.l = appL (l.drop (i + 1)) (T.eraseIdx (posOf T path)) Y := by rw [hinv, hdr]; exact appL_drop 1 path had old new _ T Y he
              have hel := List.length_eraseIdx_le T (posOf T path)
              refine RunH.adv tb_ok [false, false] rfl rfl (by simp [h2] <;> omega) ?_
              refine RunH.draw rfl [(0, some (.box m0 [.val (.slice A T.length c), .val (.slice B Y.length d)] 24)), (4, some (.box m3 (chgF ⟨1, path, had, false, old, new⟩) 101))] rfl 8 rfl rfl ?_
              refine RunD.adv tb_ok (by kernel_rfl) [] rfl rfl (by simp <;> omega) ?_
              refine RunD.doesB (i := 5) [] 7 (fun z : Option Addr × Nat => rowS 6 z.1 (T.eraseIdx (posOf T path)).length z.2) rfl (by kernel_rfl) rfl rfl rfl rfl Tryz.call123 (r07_Without A c T _ hpos (by omega)) rfl rfl (fun _ => rfl) (fun _ => rfl) (fun u hu => Sl.own (B := B0) (hu.row (κ := kEntry) (l := T) (id := 2) rfl) (by omega)) (fun _ => rfl) (fun _ h => h) ?_
              rintro ⟨A2, c2⟩ m10 hm10
              refine RunD.adv tb_ok (by kernel_rfl) [] rfl rfl (by simp <;> omega) ?_
              refine RunD.doesB (i := 6) [(0, 6)] 9 (fun y : Option Addr × Nat => .st [.val (.slice A2 (T.eraseIdx (posOf T path)).length c2), .val (.slice y.1 Y.length y.2)]) rfl (by kernel_rfl) rfl rfl rfl rfl Tryz.call108 (r07_In ⟨⟨A, c, T⟩, ⟨B, d, Y⟩⟩ 1 A2 c2 (T.eraseIdx (posOf T path)) (by show T.length ≤ 1000000; omega) (by show Y.length ≤ 1000000; omega)) rfl rfl (fun _ => rfl) (fun _ => rfl) (fun u hu => ⟨Sl.own (B := B0) (hu.row (κ := kEntry) (l := T) (id := 2) rfl) (by show T.length ≤ lim; omega), Sl.own (B := B0) (hu.row (κ := kEntry) (l := Y) (id := 3) rfl) (by show Y.length ≤ lim; omega)⟩) (fun _ => rfl) (fun _ h => h.1) ?_
              rintro ⟨B3, d3⟩ m11 hm11
              refine RunD.adv tb_ok (by kernel_rfl) [] rfl rfl (by simp <;> omega) ?_
              refine RunD.lastStep (i := 7) tb_ok rfl (by kernel_rfl) rfl (by kernel_rfl) (by kernel_rfl) rfl rfl ?_ (Nat.le_refl _) rfl ?_
              · first | trivial | (simp [AllOb, Ob.P, sum_len, sz_sum, one_int, u8V_one]; done)
              intro m12 hm12
              refine RunH.adv tb_ok [] rfl rfl (by simp <;> omega) ?_
              refine RunH.tell [(2, .av (.box 0 m0 0)), (4, .av (.box 1 (m0 + 1) 0)), (20, slE LA l.length lc), (21, intE l.length), (22, intE ((i + 1 : Nat) : Int))] [(0, some (.box m0 [.val (.slice A2 (T.eraseIdx (posOf T path)).length c2), .val (.slice B3 Y.length d3)] 24)), (1, some (.box (m0 + 1) [.val (.slice none 0 0), .val (.slice none 0 0)] 24)), (2, rowE kEntry A2 c2 (T.eraseIdx (posOf T path))), (3, rowE kEntry B3 d3 Y)] [(2, 6), (3, 8)] rfl rfl rfl 4 ?_
              refine RunH.again (i + 1, (A2, c2), (B3, d3), (T.eraseIdx (posOf T path)), Y) (.head _) rfl rfl (by dsimp only; omega) fun u h => ⟨h.1.1, by dsimp only; omega, hst, rises_erase hrT, hrY, by dsimp only; omega, by dsimp only; omega⟩
            · by_cases hf : fullE had T = 0
              · have hst : appL l s.t.l s.y.l = appL (l.drop (i + 1)) (setL T ⟨path, new⟩) Y := by rw [hinv, hdr]; exact appL_set 1 path had old new _ T Y he hf
                have hsl : (setL T ⟨path, new⟩).length ≤ 300 := by
                  by_cases h2 : isAt T path = true
                  · unfold setL; rw [if_pos h2, List.length_set]; omega
                  · have h3 := setL_le T ⟨path, new⟩
                    have h4 : had = false := by rw [← hhad]; simpa using h2
                    unfold fullE at hf
                    rw [h4] at hf
                    simp at hf; omega
                have hdec : ¬ (isAt T path = false ∧ (T.length : Int) = 300) := by
                  rintro ⟨h2, h3⟩
                  unfold fullE at hf
                  rw [← hhad, h2, if_pos ⟨rfl, by omega⟩] at hf
                  cases hf
                apply RunH.joinK (α := Unit) (fun _ => [(2, .av (.box 0 m0 0)), (4, .av (.box 1 (m0 + 1) 0)), (20, slE LA l.length lc), (21, intE l.length), (8, .av (.box 4 m3 0)), (9, .av (.val (.slice A T.length c))), (10, intE (posOf T path)), (22, intE i)]) (fun _ => [(0, some (.box m0 [.val (.slice A T.length c), .val (.slice B Y.length d)] 24)), (1, some (.box (m0 + 1) [.val (.slice none 0 0), .val (.slice none 0 0)] 24)), (2, rowE kEntry A c T), (3, rowE kEntry B d Y), (4, some (.box m3 (chgF ⟨1, path, had, true, old, new⟩) 101))]) (fun _ u => (K u ∧ s.ok u ∧ Sl kRChg u LA lc l))
                · by_cases h2 : isAt T path = true
                  · refine RunH.adv tb_ok [false, true] rfl rfl (by simp [h2] <;> omega) ?_
                    exact RunH.meetS () [] (.head _) rfl rfl rfl fun u h => h
                  · have h2 : isAt T path = false := by simpa using h2
                    have h3 : ¬ T.length = 300 := fun h => hdec ⟨h2, by omega⟩
                    refine RunH.adv tb_ok [true, false, true] rfl rfl (by simp [h2] <;> omega) ?_
                    exact RunH.meetS () [] (.head _) rfl rfl rfl fun u h => h
                · rintro ⟨⟩ m9
                  refine RunH.toNx 6 ?_
                  refine RunH.draw rfl [(0, some (.box m0 [.val (.slice A T.length c), .val (.slice B Y.length d)] 24)), (4, some (.box m3 (chgF ⟨1, path, had, true, old, new⟩) 101))] rfl 11 rfl rfl ?_
                  refine RunD.adv tb_ok (by kernel_rfl) [] rfl rfl (by simp <;> omega) ?_
                  refine RunD.doesB (i := 8) [] 7 (fun z : Option Addr × Nat => rowS 6 z.1 (setL T ⟨path, new⟩).length z.2) rfl (by kernel_rfl) rfl rfl rfl rfl Tryz.call109 (r07_With A c T path new (by omega)) rfl rfl (fun _ => rfl) (fun _ => rfl) (fun u hu => Sl.own (B := B0) (hu.row (κ := kEntry) (l := T) (id := 2) rfl) (by omega)) (fun _ => rfl) (fun _ h => h) ?_
                  rintro ⟨A2, c2⟩ m10 hm10
                  refine RunD.adv tb_ok (by kernel_rfl) [] rfl rfl (by simp <;> omega) ?_
                  refine RunD.doesB (i := 9) [(0, 6)] 9 (fun y : Option Addr × Nat => .st [.val (.slice A2 (setL T ⟨path, new⟩).length c2), .val (.slice y.1 Y.length y.2)]) rfl (by kernel_rfl) rfl rfl rfl rfl Tryz.call108 (r07_In ⟨⟨A, c, T⟩, ⟨B, d, Y⟩⟩ 1 A2 c2 (setL T ⟨path, new⟩) (by show T.length ≤ 1000000; omega) (by show Y.length ≤ 1000000; omega)) rfl rfl (fun _ => rfl) (fun _ => rfl) (fun u hu => ⟨Sl.own (B := B0) (hu.row (κ := kEntry) (l := T) (id := 2) rfl) (by show T.length ≤ lim; omega), Sl.own (B := B0) (hu.row (κ := kEntry) (l := Y) (id := 3) rfl) (by show Y.length ≤ lim; omega)⟩) (fun _ => rfl) (fun _ h => h.1) ?_
                  rintro ⟨B3, d3⟩ m11 hm11
                  refine RunD.adv tb_ok (by kernel_rfl) [] rfl rfl (by simp <;> omega) ?_
                  refine RunD.lastStep (i := 10) tb_ok rfl (by kernel_rfl) rfl (by kernel_rfl) (by kernel_rfl) rfl rfl ?_ (Nat.le_refl _) rfl ?_
                  · first | trivial | (simp [AllOb, Ob.P, sum_len, sz_sum, one_int, u8V_one]; done)
                  intro m12 hm12
                  refine RunH.adv tb_ok [] rfl rfl (by simp <;> omega) ?_
                  refine RunH.tell [(2, .av (.box 0 m0 0)), (4, .av (.box 1 (m0 + 1) 0)), (20, slE LA l.length lc), (21, intE l.length), (22, intE ((i + 1 : Nat) : Int))] [(0, some (.box m0 [.val (.slice A2 (setL T ⟨path, new⟩).length c2), .val (.slice B3 Y.length d3)] 24)), (1, some (.box (m0 + 1) [.val (.slice none 0 0), .val (.slice none 0 0)] 24)), (2, rowE kEntry A2 c2 (setL T ⟨path, new⟩)), (3, rowE kEntry B3 d3 Y)] [(2, 6), (3, 8)] rfl rfl rfl 4 ?_
                  refine RunH.again (i + 1, (A2, c2), (B3, d3), (setL T ⟨path, new⟩), Y) (.head _) rfl rfl (by dsimp only; omega) fun u h => ⟨h.1.1, by dsimp only; omega, hst, rises_setL hrT, hrY, by dsimp only; omega, by dsimp only; omega⟩
              · have hR : appC s.t.l s.y.l l = (fullE had T, [], []) := by unfold appC; rw [if_pos hc, hinv, hdr]; exact appL_full 1 path had old new _ T Y he hf
                have hfe : fullE had T = 12 := by unfold fullE at hf ⊢; split at hf; rw [if_pos ‹_›]; exact absurd rfl hf
                have hcond : had = false ∧ 300 ≤ T.length := by unfold fullE at hf; split at hf; assumption; exact absurd rfl hf
                have h2 : isAt T path = false := by rw [hhad]; exact hcond.1
                have h3 : T.length = 300 := by omega
                rw [hfe] at hR
                refine RunH.adv tb_ok [true, true] rfl rfl (by simp [h2, h3] <;> omega) ?_
                refine RunH.nilrow 20 kEntry.T kEntry.sz 21 ?_
                refine RunH.nilrow 21 kEntry.T kEntry.sz 22 ?_
                refine RunH.retBoxT tb_ok nilSp Tryz.func77 rfl rfl rfl rfl rfl fun w hst => ⟨((none, 0), (none, 0)), by rw [hR]; rfl, by rw [hR]; exact hst.out [(0, 20), (1, 21)] rfl rfl fun u h => ⟨h.1, trivial⟩⟩
      · by_cases hk2 : kind = 2
        · subst hk2
          refine RunH.adv tb_ok [true, false] rfl rfl (by simp <;> omega) ?_
          apply RunH.joinK (α := Unit) (fun _ => [(2, .av (.box 0 m0 0)), (4, .av (.box 1 (m0 + 1) 0)), (20, slE LA l.length lc), (21, intE l.length), (8, .av (.box 4 m3 0)), (22, intE i), (73, .st [.val (.slice A T.length c), .val (.slice B Y.length d)]), (75, intE 2)]) (fun _ => [(0, some (.box m0 [.val (.slice A T.length c), .val (.slice B Y.length d)] 24)), (1, some (.box (m0 + 1) [.val (.slice none 0 0), .val (.slice none 0 0)] 24)), (2, rowE kEntry A c T), (3, rowE kEntry B d Y), (4, some (.box m3 (chgF ⟨2, path, had, has, old, new⟩) 101))]) (fun _ u => (K u ∧ s.ok u ∧ Sl kRChg u LA lc l) ∧ badC ⟨2, path, had, has, old, new⟩ = false)
          · refine RunH.gives (ho := rfl) (hw := rfl) (hd := rfl) (hf := rfl) (hes := rfl) (hc := Tryz.call101) (e := intE (pathsE [path])) (hC := fun u hu => r07_paths u _ _ [path] (Sl.own (B := B0) (hu.row (κ := kStr) (l := [path]) (id := 5) rfl) (by simp [hl])) (by simpa using hpl)) ?_
            intro m4 hm4
            rw [hpe]
            by_cases hok : pathOk path = true
            · rw [if_pos hok]
              cases had
              · cases has
                · have hw : wrongE T Y ⟨2, path, false, false, old, new⟩ = 4 := by simp [wrongE, badC]
                  have hR : appC s.t.l s.y.l l = (4, [], []) := by unfold appC; rw [if_pos hc, hinv, hdr, appL, if_neg (by rw [hw]; decide), hw]
                  refine RunH.adv tb_ok [false, true, true] rfl rfl (by simp <;> omega) ?_
                  refine RunH.nilrow 20 kEntry.T kEntry.sz 21 ?_
                  refine RunH.nilrow 21 kEntry.T kEntry.sz 22 ?_
                  refine RunH.retBoxT tb_ok nilSp Tryz.func77 rfl rfl rfl rfl rfl fun w hst => ⟨((none, 0), (none, 0)), by rw [hR]; rfl, by rw [hR]; exact hst.out [(0, 20), (1, 21)] rfl rfl fun u h => ⟨h.1.1, trivial⟩⟩
                · refine RunH.adv tb_ok [false, true, false, true] rfl rfl (by simp <;> omega) ?_
                  refine RunH.read (sumE Sum.zero) rfl rfl rfl rfl (fun w' a _ ha => ?_) ?_
                  · simp only [execOp, List.map_toArray, List.map_nil, build_zero, Sem.run_bind, Result.andThen_ok, Sem.run_pure]
                    rfl
                  refine RunH.read (boolE (!decide (old = Sum.zero))) rfl rfl rfl rfl (fun u q h hag => op_neq hag rfl rfl rfl rfl rfl (by kernel_rfl) (eq_sum u 9998 _ _)) ?_
                  by_cases hz : old = Sum.zero
                  · have hb : badC ⟨2, path, false, true, old, new⟩ = false := by simp [badC, hok, hz]
                    refine RunH.adv tb_ok [false, false] rfl rfl (by simp [hz] <;> omega) ?_
                    refine RunH.meetS () [] (.head _) rfl rfl rfl fun u h => ⟨h.1, hb⟩
                  · have hw : wrongE T Y ⟨2, path, false, true, old, new⟩ = 4 := by simp [wrongE, badC, hz]
                    have hR : appC s.t.l s.y.l l = (4, [], []) := by unfold appC; rw [if_pos hc, hinv, hdr, appL, if_neg (by rw [hw]; decide), hw]
                    refine RunH.adv tb_ok [true] rfl rfl (by simp [hz] <;> omega) ?_
                    refine RunH.nilrow 20 kEntry.T kEntry.sz 21 ?_
                    refine RunH.nilrow 21 kEntry.T kEntry.sz 22 ?_
                    refine RunH.retBoxT tb_ok nilSp Tryz.func77 rfl rfl rfl rfl rfl fun w hst => ⟨((none, 0), (none, 0)), by rw [hR]; rfl, by rw [hR]; exact hst.out [(0, 20), (1, 21)] rfl rfl fun u h => ⟨h.1.1, trivial⟩⟩
              · cases has
                · refine RunH.adv tb_ok [false, false, false, true] rfl rfl (by simp <;> omega) ?_
                  refine RunH.read (sumE Sum.zero) rfl rfl rfl rfl (fun w' a _ ha => ?_) ?_
                  · simp only [execOp, List.map_toArray, List.map_nil, build_zero, Sem.run_bind, Result.andThen_ok, Sem.run_pure]
                    rfl
                  refine RunH.read (boolE (!decide (new = Sum.zero))) rfl rfl rfl rfl (fun u q h hag => op_neq hag rfl rfl rfl rfl rfl (by kernel_rfl) (eq_sum u 9998 _ _)) ?_
                  by_cases hz : new = Sum.zero
                  · have hb : badC ⟨2, path, true, false, old, new⟩ = false := by simp [badC, hok, hz]
                    refine RunH.adv tb_ok [false] rfl rfl (by simp [hz] <;> omega) ?_
                    refine RunH.meetS () [] (.head _) rfl rfl rfl fun u h => ⟨h.1, hb⟩
                  · have hw : wrongE T Y ⟨2, path, true, false, old, new⟩ = 4 := by simp [wrongE, badC, hz]
                    have hR : appC s.t.l s.y.l l = (4, [], []) := by unfold appC; rw [if_pos hc, hinv, hdr, appL, if_neg (by rw [hw]; decide), hw]
                    refine RunH.adv tb_ok [true] rfl rfl (by simp [hz] <;> omega) ?_
                    refine RunH.nilrow 20 kEntry.T kEntry.sz 21 ?_
                    refine RunH.nilrow 21 kEntry.T kEntry.sz 22 ?_
                    refine RunH.retBoxT tb_ok nilSp Tryz.func77 rfl rfl rfl rfl rfl fun w hst => ⟨((none, 0), (none, 0)), by rw [hR]; rfl, by rw [hR]; exact hst.out [(0, 20), (1, 21)] rfl rfl fun u h => ⟨h.1.1, trivial⟩⟩
                · have hb : badC ⟨2, path, true, true, old, new⟩ = false := by simp [badC, hok]
                  refine RunH.adv tb_ok [false, false, false, false] rfl rfl (by simp <;> omega) ?_
                  refine RunH.meetS () [] (.head _) rfl rfl rfl fun u h => ⟨h.1, hb⟩
            · rw [if_neg hok]
              have hw : wrongE T Y ⟨2, path, had, has, old, new⟩ = 4 := by simp [wrongE, badC, hok]
              have hR : appC s.t.l s.y.l l = (4, [], []) := by unfold appC; rw [if_pos hc, hinv, hdr, appL, if_neg (by rw [hw]; decide), hw]
              refine RunH.adv tb_ok [true] rfl rfl (by simp <;> omega) ?_
              refine RunH.nilrow 20 kEntry.T kEntry.sz 21 ?_
              refine RunH.nilrow 21 kEntry.T kEntry.sz 22 ?_
              refine RunH.retBoxT tb_ok nilSp Tryz.func77 rfl rfl rfl rfl rfl fun w hst => ⟨((none, 0), (none, 0)), by rw [hR]; rfl, by rw [hR]; exact hst.out [(0, 20), (1, 21)] rfl rfl fun u h => ⟨h.1.1, trivial⟩⟩
          · rintro ⟨⟩ m5
            refine RunH.pure (fun u h => h.2) fun hbad => ?_
            refine RunH.toNx 6 ?_
            refine RunH.gives (ho := rfl) (hw := rfl) (hd := rfl) (hf := rfl) (hes := rfl) (hc := Tryz.call79) (e := .av (.val (.slice B Y.length d))) (hC := fun u _ => r07_Of u ⟨⟨A, c, T⟩, ⟨B, d, Y⟩⟩ 2) ?_
            intro m6 hm6
            refine RunH.adv tb_ok [] rfl rfl (by simp <;> omega) ?_
            refine RunH.gives (ho := rfl) (hw := rfl) (hd := rfl) (hf := rfl) (hes := rfl) (hc := Tryz.call107) (e := atV Y path) (hC := fun u hu => r07_At u B d Y (Sl.own (B := B0) (hu.row (κ := kEntry) (l := Y) (id := 3) rfl) (by omega)) path) ?_
            intro m7 hm7
            have hwr : ∀ b, clashC Y ⟨2, path, had, has, old, new⟩ = b → wrongE T Y ⟨2, path, had, has, old, new⟩ = if b = true then 7 else 0 := fun b hb => by
              rw [← hb]; unfold wrongE; rw [if_pos (by simp), if_neg (by rw [hbad]; simp)]; rfl
            refine RunH.adv tb_ok [] rfl rfl (by simp <;> omega) ?_
            apply RunH.joinK (α := Unit) (fun _ => [(2, .av (.box 0 m0 0)), (4, .av (.box 1 (m0 + 1) 0)), (20, slE LA l.length lc), (21, intE l.length), (8, .av (.box 4 m3 0)), (9, .av (.val (.slice B Y.length d))), (10, intE (posOf Y path)), (11, boolE (isAt Y path)), (22, intE i), (104, boolE (!isAt Y path))]) (fun _ => [(0, some (.box m0 [.val (.slice A T.length c), .val (.slice B Y.length d)] 24)), (1, some (.box (m0 + 1) [.val (.slice none 0 0), .val (.slice none 0 0)] 24)), (2, rowE kEntry A c T), (3, rowE kEntry B d Y), (4, some (.box m3 (chgF ⟨2, path, had, has, old, new⟩) 101))]) (fun _ u => (K u ∧ s.ok u ∧ Sl kRChg u LA lc l) ∧ clashC Y ⟨2, path, had, has, old, new⟩ = false)
            · refine RunH.draw rfl [(4, some (.box m3 (chgF ⟨2, path, had, has, old, new⟩) 101)), (3, rowE kEntry B d Y)] rfl 17 rfl rfl ?_
              by_cases h1 : isAt Y path = had
              · by_cases h2 : isAt Y path = true
                · have hpos : posOf Y path < Y.length := by
                    unfold isAt at h2
                    simp only [Bool.and_eq_true, decide_eq_true_eq] at h2
                    exact h2.1
                  have hgd : (Y.getD (posOf Y path) zeroE) = Y[posOf Y path] := by rw [List.getD_eq_getElem?_getD, List.getElem?_eq_getElem hpos]; rfl
                  subst h1
                  refine RunD.pureS (fun u hu => hu.ptr (id := 3) (κ := kEntry) (l := Y) rfl (by intro e; rw [e] at hpos; cases hpos)) fun hptr => ?_
                  refine RunD.adv tb_ok (by kernel_rfl) [false, true] rfl rfl (by simp [h2, hptr] <;> omega) ?_
                  refine RunD.loadS (i := 11) (sumE Y[posOf Y path].sum) rfl (by kernel_rfl) rfl rfl rfl (fun u hu => (Sl.own (B := B0) (hu.row (κ := kEntry) (l := Y) (id := 3) rfl) (by omega) : Sl kEntry u B d Y).sum hpos) rfl (fun _ h => h) ?_
                  intro m8 hm8
                  refine RunD.adv tb_ok (by kernel_rfl) [] rfl rfl (by simp <;> omega) ?_
                  refine RunD.read (by kernel_rfl) (i := 14) (boolE (!decide (Y[posOf Y path].sum = old))) rfl rfl rfl rfl rfl rfl (fun w' a h hag => op_neq hag rfl rfl rfl rfl rfl (by kernel_rfl) (eq_sum w' 9998 _ _)) ?_
                  refine RunD.adv tb_ok (by kernel_rfl) [] rfl rfl (by simp <;> omega) ?_
                  refine RunD.done (.inl rfl) (by kernel_rfl) ?_
                  by_cases h3 : Y[posOf Y path].sum = old
                  · have hcl : clashC Y ⟨2, path, isAt Y path, has, old, new⟩ = false := by simp only [clashC]; rw [hgd, h3]; simp
                    refine RunH.adv tb_ok [false] rfl rfl (by simp [h3] <;> omega) ?_
                    exact RunH.meetS () [] (.head _) rfl rfl rfl fun u h => ⟨h.1, hcl⟩
                  · have hw := hwr true (by simp only [clashC]; rw [hgd]; simp [h2, h3])
                    have hR : appC s.t.l s.y.l l = (7, [], []) := by unfold appC; rw [if_pos hc, hinv, hdr, appL, if_neg (by rw [hw]; decide), hw]; rfl
                    refine RunH.adv tb_ok [true] rfl rfl (by simp [h3] <;> omega) ?_
                    refine RunH.nilrow 20 kEntry.T kEntry.sz 21 ?_
                    refine RunH.nilrow 21 kEntry.T kEntry.sz 22 ?_
                    refine RunH.retBoxT tb_ok nilSp Tryz.func77 rfl rfl rfl rfl rfl fun w hst => ⟨((none, 0), (none, 0)), by rw [hR]; rfl, by rw [hR]; exact hst.out [(0, 20), (1, 21)] rfl rfl fun u h => ⟨h.1.1, trivial⟩⟩
                · have h2 : isAt Y path = false := by simpa using h2
                  have hcl : clashC Y ⟨2, path, had, has, old, new⟩ = false := by simp only [clashC]; rw [h1, ← h1, h2]; simp
                  subst h1
                  refine RunD.adv tb_ok (by kernel_rfl) [false, false] rfl rfl (by simp [h2] <;> omega) ?_
                  refine RunD.done (.inl rfl) (by kernel_rfl) ?_
                  refine RunH.adv tb_ok [] rfl rfl (by simp <;> omega) ?_
                  exact RunH.meetS () [] (.head _) rfl rfl rfl fun u h => ⟨h.1, hcl⟩
              · have hw := hwr true (by simp only [clashC]; rw [decide_eq_false h1]; rfl)
                have hR : appC s.t.l s.y.l l = (7, [], []) := by unfold appC; rw [if_pos hc, hinv, hdr, appL, if_neg (by rw [hw]; decide), hw]; rfl
                refine RunD.adv tb_ok (by kernel_rfl) [true] rfl rfl (by simp [h1] <;> omega) ?_
                refine RunD.done (.inl rfl) (by kernel_rfl) ?_
                refine RunH.adv tb_ok [] rfl rfl (by simp <;> omega) ?_
                refine RunH.nilrow 20 kEntry.T kEntry.sz 21 ?_
                refine RunH.nilrow 21 kEntry.T kEntry.sz 22 ?_
                refine RunH.retBoxT tb_ok nilSp Tryz.func77 rfl rfl rfl rfl rfl fun w hst => ⟨((none, 0), (none, 0)), by rw [hR]; rfl, by rw [hR]; exact hst.out [(0, 20), (1, 21)] rfl rfl fun u h => ⟨h.1.1, trivial⟩⟩
            · rintro ⟨⟩ m9
              refine RunH.pure (fun u h => h.2) fun hcl => ?_
              have he : wrongE T Y ⟨2, path, had, has, old, new⟩ = 0 := hwr false hcl
              have hhad : isAt Y path = had := by simp [clashC] at hcl; exact hcl.1
              have hwat : has = false → isAt Y path = true := fun hh => by
                subst hh
                rw [hhad]
                cases had
                · simp [badC] at hbad
                · rfl
              refine RunH.facts (fun u => (K u ∧ s.ok u ∧ Sl kRChg u LA lc l)) (fun u h => h.1) ?_
              refine RunH.toNx 6 ?_
              cases has
              · have h2 : isAt Y path = true := hwat rfl
                have hpos : posOf Y path < Y.length := by
                  unfold isAt at h2
                  simp only [Bool.and_eq_true, decide_eq_true_eq] at h2
                  exact h2.1
                have hst : appL l s.t.l s.y.l = appL (l.drop (i + 1)) T (Y.eraseIdx (posOf Y path)) := by rw [hinv, hdr]; exact appL_drop 2 path had old new _ T Y he
                have hel := List.length_eraseIdx_le Y (posOf Y path)
                refine RunH.adv tb_ok [false, false] rfl rfl (by simp [h2] <;> omega) ?_
                refine RunH.draw rfl [(0, some (.box m0 [.val (.slice A T.length c), .val (.slice B Y.length d)] 24)), (4, some (.box m3 (chgF ⟨2, path, had, false, old, new⟩) 101))] rfl 8 rfl rfl ?_
                refine RunD.adv tb_ok (by kernel_rfl) [] rfl rfl (by simp <;> omega) ?_
                refine RunD.doesB (i := 5) [] 7 (fun z : Option Addr × Nat => rowS 6 z.1 (Y.eraseIdx (posOf Y path)).length z.2) rfl (by kernel_rfl) rfl rfl rfl rfl Tryz.call123 (r07_Without B d Y _ hpos (by omega)) rfl rfl (fun _ => rfl) (fun _ => rfl) (fun u hu => Sl.own (B := B0) (hu.row (κ := kEntry) (l := Y) (id := 3) rfl) (by omega)) (fun _ => rfl) (fun _ h => h) ?_
                rintro ⟨A2, c2⟩ m10 hm10
                refine RunD.adv tb_ok (by kernel_rfl) [] rfl rfl (by simp <;> omega) ?_
                refine RunD.doesB (i := 6) [(0, 6)] 9 (fun y : Option Addr × Nat => .st [.val (.slice y.1 T.length y.2), .val (.slice A2 (Y.eraseIdx (posOf Y path)).length c2)]) rfl (by kernel_rfl) rfl rfl rfl rfl Tryz.call108 (r07_In ⟨⟨A, c, T⟩, ⟨B, d, Y⟩⟩ 2 A2 c2 (Y.eraseIdx (posOf Y path)) (by show T.length ≤ 1000000; omega) (by show Y.length ≤ 1000000; omega)) rfl rfl (fun _ => rfl) (fun _ => rfl) (fun u hu => ⟨Sl.own (B := B0) (hu.row (κ := kEntry) (l := T) (id := 2) rfl) (by show T.length ≤ lim; omega), Sl.own (B := B0) (hu.row (κ := kEntry) (l := Y) (id := 3) rfl) (by show Y.length ≤ lim; omega)⟩) (fun _ => rfl) (fun _ h => h.1) ?_
                rintro ⟨B3, d3⟩ m11 hm11
                refine RunD.adv tb_ok (by kernel_rfl) [] rfl rfl (by simp <;> omega) ?_
                refine RunD.lastStep (i := 7) tb_ok rfl (by kernel_rfl) rfl (by kernel_rfl) (by kernel_rfl) rfl rfl ?_ (Nat.le_refl _) rfl ?_
                · first | trivial | (simp [AllOb, Ob.P, sum_len, sz_sum, one_int, u8V_one]; done)
                intro m12 hm12
                refine RunH.adv tb_ok [] rfl rfl (by simp <;> omega) ?_
                refine RunH.tell [(2, .av (.box 0 m0 0)), (4, .av (.box 1 (m0 + 1) 0)), (20, slE LA l.length lc), (21, intE l.length), (22, intE ((i + 1 : Nat) : Int))] [(0, some (.box m0 [.val (.slice B3 T.length d3), .val (.slice A2 (Y.eraseIdx (posOf Y path)).length c2)] 24)), (1, some (.box (m0 + 1) [.val (.slice none 0 0), .val (.slice none 0 0)] 24)), (2, rowE kEntry B3 d3 T), (3, rowE kEntry A2 c2 (Y.eraseIdx (posOf Y path)))] [(2, 8), (3, 6)] rfl rfl rfl 4 ?_
                refine RunH.again (i + 1, (B3, d3), (A2, c2), T, (Y.eraseIdx (posOf Y path))) (.head _) rfl rfl (by dsimp only; omega) fun u h => ⟨h.1.1, by dsimp only; omega, hst, hrT, rises_erase hrY, by dsimp only; omega, by dsimp only; omega⟩
              · by_cases hf : fullE had Y = 0
                · have hst : appL l s.t.l s.y.l = appL (l.drop (i + 1)) T (setL Y ⟨path, new⟩) := by rw [hinv, hdr]; exact appL_set 2 path had old new _ T Y he hf
                  have hsl : (setL Y ⟨path, new⟩).length ≤ 300 := by
                    by_cases h2 : isAt Y path = true
                    · unfold setL; rw [if_pos h2, List.length_set]; omega
                    · have h3 := setL_le Y ⟨path, new⟩
                      have h4 : had = false := by rw [← hhad]; simpa using h2
                      unfold fullE at hf
                      rw [h4] at hf
                      simp at hf; omega
                  have hdec : ¬ (isAt Y path = false ∧ (Y.length : Int) = 300) := by
                    rintro ⟨h2, h3⟩
                    unfold fullE at hf
                    rw [← hhad, h2, if_pos ⟨rfl, by omega⟩] at hf
                    cases hf
                  apply RunH.joinK (α := Unit) (fun _ => [(2, .av (.box 0 m0 0)), (4, .av (.box 1 (m0 + 1) 0)), (20, slE LA l.length lc), (21, intE l.length), (8, .av (.box 4 m3 0)), (9, .av (.val (.slice B Y.length d))), (10, intE (posOf Y path)), (22, intE i)]) (fun _ => [(0, some (.box m0 [.val (.slice A T.length c), .val (.slice B Y.length d)] 24)), (1, some (.box (m0 + 1) [.val (.slice none 0 0), .val (.slice none 0 0)] 24)), (2, rowE kEntry A c T), (3, rowE kEntry B d Y), (4, some (.box m3 (chgF ⟨2, path, had, true, old, new⟩) 101))]) (fun _ u => (K u ∧ s.ok u ∧ Sl kRChg u LA lc l))
                  · by_cases h2 : isAt Y path = true
                    · refine RunH.adv tb_ok [false, true] rfl rfl (by simp [h2] <;> omega) ?_
                      exact RunH.meetS () [] (.head _) rfl rfl rfl fun u h => h
                    · have h2 : isAt Y path = false := by simpa using h2
                      have h3 : ¬ Y.length = 300 := fun h => hdec ⟨h2, by omega⟩
                      refine RunH.adv tb_ok [true, false, true] rfl rfl (by simp [h2] <;> omega) ?_
                      exact RunH.meetS () [] (.head _) rfl rfl rfl fun u h => h
                  · rintro ⟨⟩ m9
                    refine RunH.toNx 6 ?_
                    refine RunH.draw rfl [(0, some (.box m0 [.val (.slice A T.length c), .val (.slice B Y.length d)] 24)), (4, some (.box m3 (chgF ⟨2, path, had, true, old, new⟩) 101))] rfl 11 rfl rfl ?_
                    refine RunD.adv tb_ok (by kernel_rfl) [] rfl rfl (by simp <;> omega) ?_
                    refine RunD.doesB (i := 8) [] 7 (fun z : Option Addr × Nat => rowS 6 z.1 (setL Y ⟨path, new⟩).length z.2) rfl (by kernel_rfl) rfl rfl rfl rfl Tryz.call109 (r07_With B d Y path new (by omega)) rfl rfl (fun _ => rfl) (fun _ => rfl) (fun u hu => Sl.own (B := B0) (hu.row (κ := kEntry) (l := Y) (id := 3) rfl) (by omega)) (fun _ => rfl) (fun _ h => h) ?_
                    rintro ⟨A2, c2⟩ m10 hm10
                    refine RunD.adv tb_ok (by kernel_rfl) [] rfl rfl (by simp <;> omega) ?_
                    refine RunD.doesB (i := 9) [(0, 6)] 9 (fun y : Option Addr × Nat => .st [.val (.slice y.1 T.length y.2), .val (.slice A2 (setL Y ⟨path, new⟩).length c2)]) rfl (by kernel_rfl) rfl rfl rfl rfl Tryz.call108 (r07_In ⟨⟨A, c, T⟩, ⟨B, d, Y⟩⟩ 2 A2 c2 (setL Y ⟨path, new⟩) (by show T.length ≤ 1000000; omega) (by show Y.length ≤ 1000000; omega)) rfl rfl (fun _ => rfl) (fun _ => rfl) (fun u hu => ⟨Sl.own (B := B0) (hu.row (κ := kEntry) (l := T) (id := 2) rfl) (by show T.length ≤ lim; omega), Sl.own (B := B0) (hu.row (κ := kEntry) (l := Y) (id := 3) rfl) (by show Y.length ≤ lim; omega)⟩) (fun _ => rfl) (fun _ h => h.1) ?_
                    rintro ⟨B3, d3⟩ m11 hm11
                    refine RunD.adv tb_ok (by kernel_rfl) [] rfl rfl (by simp <;> omega) ?_
                    refine RunD.lastStep (i := 10) tb_ok rfl (by kernel_rfl) rfl (by kernel_rfl) (by kernel_rfl) rfl rfl ?_ (Nat.le_refl _) rfl ?_
                    · first | trivial | (simp [AllOb, Ob.P, sum_len, sz_sum, one_int, u8V_one]; done)
                    intro m12 hm12
                    refine RunH.adv tb_ok [] rfl rfl (by simp <;> omega) ?_
                    refine RunH.tell [(2, .av (.box 0 m0 0)), (4, .av (.box 1 (m0 + 1) 0)), (20, slE LA l.length lc), (21, intE l.length), (22, intE ((i + 1 : Nat) : Int))] [(0, some (.box m0 [.val (.slice B3 T.length d3), .val (.slice A2 (setL Y ⟨path, new⟩).length c2)] 24)), (1, some (.box (m0 + 1) [.val (.slice none 0 0), .val (.slice none 0 0)] 24)), (2, rowE kEntry B3 d3 T), (3, rowE kEntry A2 c2 (setL Y ⟨path, new⟩))] [(2, 8), (3, 6)] rfl rfl rfl 4 ?_
                    refine RunH.again (i + 1, (B3, d3), (A2, c2), T, (setL Y ⟨path, new⟩)) (.head _) rfl rfl (by dsimp only; omega) fun u h => ⟨h.1.1, by dsimp only; omega, hst, hrT, rises_setL hrY, by dsimp only; omega, by dsimp only; omega⟩
                · have hR : appC s.t.l s.y.l l = (fullE had Y, [], []) := by unfold appC; rw [if_pos hc, hinv, hdr]; exact appL_full 2 path had old new _ T Y he hf
                  have hfe : fullE had Y = 12 := by unfold fullE at hf ⊢; split at hf; rw [if_pos ‹_›]; exact absurd rfl hf
                  have hcond : had = false ∧ 300 ≤ Y.length := by unfold fullE at hf; split at hf; assumption; exact absurd rfl hf
                  have h2 : isAt Y path = false := by rw [hhad]; exact hcond.1
                  have h3 : Y.length = 300 := by omega
                  rw [hfe] at hR
                  refine RunH.adv tb_ok [true, true] rfl rfl (by simp [h2, h3] <;> omega) ?_
                  refine RunH.nilrow 20 kEntry.T kEntry.sz 21 ?_
                  refine RunH.nilrow 21 kEntry.T kEntry.sz 22 ?_
                  refine RunH.retBoxT tb_ok nilSp Tryz.func77 rfl rfl rfl rfl rfl fun w hst => ⟨((none, 0), (none, 0)), by rw [hR]; rfl, by rw [hR]; exact hst.out [(0, 20), (1, 21)] rfl rfl fun u h => ⟨h.1, trivial⟩⟩
        · have hw : wrongE T Y ⟨kind, path, had, has, old, new⟩ = 3 := if_neg (by rintro (h | h); exact hk h; exact hk2 h)
          have hR : appC s.t.l s.y.l l = (3, [], []) := by unfold appC; rw [if_pos hc, hinv, hdr, appL, if_neg (by rw [hw]; decide), hw]
          refine RunH.adv tb_ok [true, true] rfl rfl (by simp <;> omega) ?_
          refine RunH.nilrow 20 kEntry.T kEntry.sz 21 ?_
          refine RunH.nilrow 21 kEntry.T kEntry.sz 22 ?_
          refine RunH.retBoxT tb_ok nilSp Tryz.func77 rfl rfl rfl rfl rfl fun w hst => ⟨((none, 0), (none, 0)), by rw [hR]; rfl, by rw [hR]; exact hst.out [(0, 20), (1, 21)] rfl rfl fun u h => ⟨h.1.1, trivial⟩⟩
    · have hd : l.drop i = [] := List.drop_eq_nil_of_le (by omega)
      have hR : appC s.t.l s.y.l l = (0, T, Y) := by unfold appC; rw [if_pos hc, hinv, hd]; rfl
      refine RunH.adv tb_ok [false] rfl rfl (by simp <;> omega) ?_
      rw [hR]
      refine RunH.retBoxT tb_ok (.st [.val (.slice A T.length c), .val (.slice B Y.length d)]) Tryz.func77 rfl rfl rfl rfl rfl fun w hst => ⟨((A, c), (B, d)), rfl, hst.out [(0, 2), (1, 3)] rfl rfl fun u h => ⟨h.1.1, trivial⟩⟩
  · have hR : appC s.t.l s.y.l l = (checkE s.t.l s.y.l, [], []) := if_neg hc
    refine RunH.adv tb_ok [true] rfl rfl (by simp [hc] <;> omega) ?_
    refine RunH.nilrow 20 kEntry.T kEntry.sz 21 ?_
    refine RunH.nilrow 21 kEntry.T kEntry.sz 22 ?_
    refine RunH.retBoxT tb_ok nilSp Tryz.func77 rfl rfl rfl rfl rfl fun w hst => ⟨((none, 0), (none, 0)), by rw [hR]; rfl, by rw [hR]; exact hst.out [(0, 20), (1, 21)] rfl rfl fun u h => ⟨h.1, trivial⟩⟩
end Go.Proofs.YtagnkcdhenilbaaGreatDoor

/-
What a row's claim hands over: a row of changes that came in; no condition.
-/
namespace Go.Proofs.YtagnkcdhenilbaaGreatDoor
open Go V RowKit Go.ChangeShapes Go.WideShapes Go.ChangeAt

section
variable {H : Type} {enc : TypeId × Value → H} {w : World} {base : Nat} {sp : Nat → Bool} {held : Bool}

theorem take_split {α : Type} : ∀ (n : Nat) (m : Nat) (l : List α), l.drop n = (l.drop n).take m ++ l.drop (n + m)
  | n, m, l => by rw [← List.drop_drop, List.take_append_drop]

set_option maxRecDepth 100000 in
theorem open_chg {fuel : Nat} {cs : List Value} {x : DataW H × List MemPlace} (h : DataW.trod enc Tryz.prog w base sp held fuel 97 cs = some x) : ∃ e : Chg, cs = kChg.cs e := by
  obtain ⟨xs, n, _, _, hl, hlen, hf⟩ := DataW.trod_struct Tryz.underlying97 h
  have c68 : Tryz.prog.cellsOf 97 = 68 := by kernel_rfl
  have c1 : Tryz.prog.cellsOf 9 = 1 := by kernel_rfl
  have ci : Tryz.prog.cellsOf 3 = 1 := by kernel_rfl
  have cb : Tryz.prog.cellsOf 4 = 1 := by kernel_rfl
  have c32 : Tryz.prog.cellsOf 39 = 32 := by kernel_rfl
  rw [c68] at hl
  match xs, hlen with
  | [y0, y1, y2, y3, y4, y5], _ =>
  have h0 := hf 0 (gF "Kind" 3 0 0) rfl
  have h1 := hf 1 (gF "Path" 9 1 8) rfl
  have h2 := hf 2 (gF "Had" 4 2 24) rfl
  have h3 := hf 3 (gF "Has" 4 3 25) rfl
  have h4 := hf 4 (gF "Old" 39 4 26) rfl
  have h5 := hf 5 (gF "New" 39 36 58) rfl
  dsimp only [gF] at h0 h1 h2 h3 h4 h5
  rw [ci] at h0
  rw [c1] at h1
  rw [cb] at h2 h3
  rw [c32] at h4 h5
  obtain ⟨k, e0, _, _⟩ := DataW.trod_int Tryz.underlying3 h0
  obtain ⟨s, e1, _, _⟩ := DataW.trod_string Tryz.underlying9 h1
  obtain ⟨had, e2, _⟩ := DataW.trod_bool Tryz.underlying4 h2
  obtain ⟨has, e3, _⟩ := DataW.trod_bool Tryz.underlying4 h3
  obtain ⟨old, e4⟩ := open_sum h4
  obtain ⟨new, e5⟩ := open_sum h5
  refine ⟨⟨k, s.data.toList, had, has, old, new⟩, ?_⟩
  have f0 := take_split 0 1 cs
  have f1 := take_split 1 1 cs
  have f2 := take_split 2 1 cs
  have f3 := take_split 3 1 cs
  have f4 := take_split 4 32 cs
  have f5 := take_split 36 32 cs
  rw [e0] at f0
  rw [e1] at f1
  rw [e2] at f2
  rw [e3] at f3
  rw [e4] at f4
  rw [e5] at f5
  have f6 : cs.drop (36 + 32) = [] := List.drop_eq_nil_of_le (by omega)
  have : cs = cs.drop 0 := rfl
  rw [this, f0, f1, f2, f3, f4, f5, f6]
  show _ = ((EV.st (chgF ⟨k, s.data.toList, had, has, old, new⟩)).v).cells.toList
  rw [chg_cells]
  simp [strV, intV, Value.cells]

set_option maxRecDepth 100000 in
/-- A row of changes that came in. -/
theorem open_changes {v : Value} {d : DataW H} {p : List MemPlace} {r : Reach} {b0 : Nat} (h : DataW.Trod enc Tryz.prog w base (fun _ => true) held 94 v d p)
    (hz : ∀ n ∈ d.weights Tryz.prog 94, n ≤ reachBytes) (hv : Value.okWide Tryz.prog w r b0 94 v) : ∃ x : Row Chg, v = .slice x.A x.l.length x.c ∧ x.ok kChg w := by
  obtain ⟨fuel, hf⟩ := h
  have c68 : Tryz.prog.cellsOf 97 = 68 := by kernel_rfl
  obtain ⟨x, e, ok⟩ := V.open_row kChg Tryz.underlying94 c68 (by decide) (Nat.le_of_ble_eq_true (by kernel_rfl)) (fun h => open_chg h) hf hz
  refine ⟨x, ?_, ok⟩
  have e3 : ∃ A l c, v = .slice A l c := by
    simp only [Value.okWide, Tryz.underlying94] at hv
    cases v <;> simp_all [Cell.okWide, Cell.ok, Value.cells, Tryz.underlying94]
  obtain ⟨A, l, c, rfl⟩ := e3
  simpa [Value.cells] using e
end
end Go.Proofs.YtagnkcdhenilbaaGreatDoor
