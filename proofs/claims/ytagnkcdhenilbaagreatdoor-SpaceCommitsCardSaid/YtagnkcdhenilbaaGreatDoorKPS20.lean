/-
A part of the proofs of the laws of a seat: contracts of functions and lemmas on them; the listed package variables hold what the program's text lays. No further condition.
-/
import Derived.Test.YtagnkcdhenilbaaGreatDoorKPS17
set_option linter.unusedVariables false
set_option linter.unusedSectionVars false
set_option linter.unusedSimpArgs false
namespace Go.Proofs.YtagnkcdhenilbaaGreatDoor
open Go V

theorem drop_K (k : Int) (ls lo : List Entry) (p : Str) (b : Nat) (zs zo : Option Addr × Nat) (hn : ls.length ≤ 1000000) (hr : rises ls = true) (ha : isAt ls p = true) :
    Does Tryz.prog tb 121 [.pointer (some ⟨b, 0, none⟩), intV k, strV p] (wkKG k b ls lo zs zo) (fun _ => True) (fun _ : Unit => dropV ls p) (fun _ => wkKG k b (ls.eraseIdx (posOf ls p)) lo zs zo) (fun _ _ _ => True) := by
  have hl : lim = 140737488351232 := rfl
  obtain ⟨A, c⟩ := zs
  obtain ⟨B, c2⟩ := zo
  have hp : posOf ls p < ls.length := by
    unfold isAt at ha
    simp only [Bool.and_eq_true, decide_eq_true_eq] at ha
    exact ha.1
  have hg : ls.getD (posOf ls p) zeroE = ls[posOf ls p] := by rw [List.getD_eq_getElem?_getD, List.getElem?_eq_getElem hp]; rfl
  refine Does.enter tb_ok [(0, .av (.val (.pointer (some ⟨b, 0, none⟩)))), (1, intE k), (2, strE p)] Tryz.func121 rfl Tryz.ntmps121 rfl rfl 3 ?_
  intro B0 m0 K
  refine RunH.adv tb_ok [] rfl rfl (by simp <;> omega) ?_
  refine RunH.gives (ho := rfl) (hw := rfl) (hd := rfl) (hf := rfl) (hes := rfl) (hc := Tryz.call94) (e := .av (.val (.pointer (some ⟨b, kOff k, none⟩)))) (hC := fun w' _ => list_spec w' b k) ?_
  intro m1 h1
  refine RunH.adv tb_ok [] rfl rfl (by simp <;> omega) ?_
  refine RunH.loadS (rowS 1 A ls.length c) rfl rfl rfl rfl (fun w hst => load_wkK (hst.holds 0 _ rfl).2) ?_
  refine RunH.adv tb_ok [] rfl rfl (by simp <;> omega) ?_
  refine RunH.gives (atV ls p) rfl rfl rfl rfl rfl Tryz.call149 (fun w hst => at_spec w A c ls (Sl.own (hst.row (κ := kEntry) (id := 1) rfl) (by omega)) hr p) ?_
  intro m2 h2
  refine RunH.adv tb_ok [false] rfl rfl (by simp [AllOb, Ob.P, ha]) ?_
  refine RunH.loadS (rowS 1 A ls.length c) rfl rfl rfl rfl (fun w hst => load_wkK (hst.holds 0 _ rfl).2) ?_
  refine RunH.pureS (fun w hst => hst.ptr (κ := kEntry) (id := 1) (l := ls) rfl (by rintro rfl; cases hp)) fun hptr => ?_
  refine RunH.adv tb_ok [] rfl rfl (by simp [hptr] <;> omega) ?_
  refine RunH.loadS (sumE ls[posOf ls p].sum) rfl rfl rfl rfl (fun w hst => (Sl.own (hst.row (κ := kEntry) (id := 1) (l := ls) rfl) (by omega)).sum hp) ?_
  refine RunH.adv tb_ok [] rfl rfl (by simp <;> omega) ?_
  refine RunH.loadS (rowS 1 A ls.length c) rfl rfl rfl rfl (fun w hst => load_wkK (hst.holds 0 _ rfl).2) ?_
  refine RunH.adv tb_ok [] rfl rfl (by simp <;> omega) ?_
  refine RunH.does (α := Unit) [(0, 1)] (fun _ => rowS 1 A (ls.eraseIdx (posOf ls p)).length c) (fun _ => [(0, wkK k b (slV A ls.length c) (slV B lo.length c2)), (1, rowE kEntry A c (ls.eraseIdx (posOf ls p))), (2, rowE kEntry B c2 lo), (3, some (.box m0 [.val (sumV Sum.zero)] 39)), (4, some (.box m2 [.val (sumV ls[posOf ls p].sum)] 39))]) [(1, 0), (0, 1), (2, 5), (3, 7), (4, 9)] 5 rfl rfl rfl rfl rfl Tryz.call162 (Delete_spec A c ls (posOf ls p) hp hn) rfl rfl (fun _ _ => trivial) (fun _ => rfl) (fun _ => rfl) (fun _ => rfl) ?_
  rintro ⟨⟩ m3 hm3
  refine RunH.adv tb_ok [] rfl rfl (by simp <;> omega) ?_
  refine RunH.storeS [(0, wkK k b (slV A (ls.eraseIdx (posOf ls p)).length c) (slV B lo.length c2)), (1, rowE kEntry A c (ls.eraseIdx (posOf ls p))), (2, rowE kEntry B c2 lo), (3, some (.box m0 [.val (sumV Sum.zero)] 39)), (4, some (.box m2 [.val (sumV ls[posOf ls p].sum)] 39))] rfl rfl rfl rfl (fun w _ hst => ?_) ?_
  · obtain ⟨w', q1, q2, q3⟩ := store_wkK (v := slV A (ls.eraseIdx (posOf ls p)).length c) hst (id := 0) (k := k) (b := b) (vs := slV A ls.length c) (vo := slV B lo.length c2) rfl ⟨rfl, Tryz.t22, rfl, rfl⟩ rfl rfl
    exact ⟨w', q1, q2, q3.out [] rfl rfl fun _ h => h⟩
  intro m4 hm4
  refine RunH.adv tb_ok [] rfl rfl (by simp <;> omega) ?_
  refine RunH.retBoxT tb_ok (sumE ls[posOf ls p].sum) Tryz.func121 rfl rfl rfl rfl rfl fun w hst => ⟨(), ?_, hst.out [] rfl rfl fun u h => ⟨h.1.1, trivial⟩⟩
  unfold dropV
  rw [hg]; rfl

theorem drop_noneK {w : World} {b c c2 : Nat} {A B : Option Addr} {k : Int} {ls lo : List Entry} (h : w.heap[b]? = some (.cells #[kA k (slV A ls.length c) (slV B lo.length c2), kA k (slV B lo.length c2) (slV A ls.length c)] 140))
    (hs : Sl kEntry w A c ls) (ho : Sl kEntry w B c2 lo) (hr : rises ls = true) (p : Str) (ha : isAt ls p = false) : Gives Tryz.prog 121 [.pointer (some ⟨b, 0, none⟩), intV k, strV p] w (.av (.val (.tuple #[sumV Sum.zero, .bool false]))) := by
  by_cases hk : k = 1
  · have e : kList k ls lo = ls := if_pos hk
    exact drop_none w b A B c c2 ls lo (by rw [h]; simp [kA, hk]) hs ho k (by rw [e]; exact hr) p (by rw [e]; exact ha)
  · have e : kList k lo ls = ls := if_neg hk
    exact drop_none w b B A c2 c lo ls (by rw [h]; simp [kA, hk]) ho hs k (by rw [e]; exact hr) p (by rw [e]; exact ha)


def DropE (t y : List Entry) (k : Int) (p : Str) : Int := if askE t y k [p] = 0 then (if isAt (kList k t y) p = true then 0 else 6) else askE t y k [p]

theorem Drop_all (s : Spc) (k : Int) (p : Str) (h1 : s.t.l.length ≤ 1000000) (h2 : s.y.l.length ≤ 1000000) :
    Does Tryz.prog tb 45 [s.ev.v, intV k, strV p] [] (fun u => MaxLen u ∧ s.ok u)
      (fun z : (Option Addr × Nat) × (Option Addr × Nat) => .tuple #[.agg #[.slice z.1.1 (edT (DropE s.t.l s.y.l k p) k ((kList k s.t.l s.y.l).eraseIdx (posOf (kList k s.t.l s.y.l) p)) (kList k s.y.l s.t.l)).length z.1.2, .slice z.2.1 (edY (DropE s.t.l s.y.l k p) k ((kList k s.t.l s.y.l).eraseIdx (posOf (kList k s.t.l s.y.l) p)) (kList k s.y.l s.t.l)).length z.2.2], intV (DropE s.t.l s.y.l k p)])
      (fun z => [(0, rowE kEntry z.1.1 z.1.2 (edT (DropE s.t.l s.y.l k p) k ((kList k s.t.l s.y.l).eraseIdx (posOf (kList k s.t.l s.y.l) p)) (kList k s.y.l s.t.l))), (1, rowE kEntry z.2.1 z.2.2 (edY (DropE s.t.l s.y.l k p) k ((kList k s.t.l s.y.l).eraseIdx (posOf (kList k s.t.l s.y.l) p)) (kList k s.y.l s.t.l)))]) (fun _ _ _ => True) := by
  have hl : lim = 140737488351232 := rfl
  refine Does.enter tb_ok [(0, s.ev), (1, intE k), (2, strE p)] Tryz.func45 rfl Tryz.ntmps45 rfl rfl 0 ?_
  intro B0 m0 K
  generalize hre : DropE s.t.l s.y.l k p = e
  refine RunH.adv tb_ok [] rfl rfl (by simp <;> omega) ?_
  by_cases hk : kindE s.t.l s.y.l k = 0
  · have hsub := kList_sub hk
    refine RunH.doesB [] 6 (hc := Tryz.call88) (ho := rfl) (hw := rfl) (hd := rfl) (hf := rfl) (hes := rfl) (hσ := rfl) (hn := rfl) (hV := fun _ => rfl) (hG := fun _ => rfl) (e := fun z : Nat × (Option Addr × Nat) × (Option Addr × Nat) => .av (.val (.tuple #[.pointer (some ⟨z.1, 0, none⟩), intV (pathsE [p])]))) (hC := kinded_ok s k _ _ [p] hk h1 h2) (hp := fun u hu => ⟨hu.fact.2.1, hu.fact.2.2, Sl.own (B := B0) (hu.row (κ := kStr) (l := [p]) (id := 2) rfl) (by simp [hl])⟩) ?_
    rintro ⟨b, ⟨A, c⟩, ⟨B, c2⟩⟩ m1 hm1
    refine RunH.drop ?_
    refine RunH.toK k 3 4 5 (b := b) (A := A) (c := c) (B := B) (c2 := c2) (t := s.t.l) (y := s.y.l) rfl rfl rfl (by decide) (by decide) (by decide) ?_
    have ho1 : (kList k s.y.l s.t.l).length ≤ 1000000 := by unfold kList; split <;> assumption
    generalize hLL : kList k s.t.l s.y.l = L at *
    generalize hOO : kList k s.y.l s.t.l = O at *
    have hk12 := (kindE_rises hk).2.2.1
    generalize kA k A B = As at *
    generalize kA k B A = Ao at *
    generalize kA k c c2 = cs at *
    generalize kA k c2 c = co at *
    have hT0 : ∀ e l, e ≠ 0 → edT e k l O = [] ∧ edY e k l O = [] := fun e l h => ⟨if_neg h, if_neg h⟩
    by_cases hp : pathsE [p] = 0
    · have hask : askE s.t.l s.y.l k [p] = 0 := by unfold askE; rw [if_pos hk]; exact hp
      have hE0 := hre
      unfold DropE at hE0
      rw [if_pos hask, hLL] at hE0
      have hE := hE0.symm
      refine RunH.adv tb_ok [false] rfl rfl (by simp [hp] <;> omega) ?_
      by_cases ha : isAt L p = true
      · rw [if_pos ha] at hE
        subst hE
        refine RunH.doesB [(0, 3), (1, 4), (2, 5)] 9 (hc := Tryz.call121) (ho := rfl) (hw := rfl) (hd := rfl) (hf := rfl) (hes := rfl) (hσ := rfl) (hn := rfl) (hV := fun _ => rfl) (hG := fun _ => rfl) (e := fun _ : Unit => .av (.val (dropV L p))) (hC := drop_K k L O p b (As, cs) (Ao, co) (by omega) hsub.1 ha) (hp := fun _ _ => trivial) ?_
        rintro ⟨⟩ m4 hm4
        refine RunH.drop ?_
        refine RunH.adv tb_ok [false] rfl rfl (by simp [ha] <;> omega) ?_
        generalize hL' : L.eraseIdx (posOf L p) = L' at *
        refine RunH.loadS (.st [.val (.slice (kA k As Ao) (kA k L'.length O.length) (kA k cs co)), .val (.slice (kA k Ao As) (kA k O.length L'.length) (kA k co cs))]) rfl rfl rfl rfl (fun w hst => load_spaceK (hst.holds 3 _ rfl).2) ?_
        refine RunH.adv tb_ok [] rfl rfl (by simp <;> omega) ?_
        refine RunH.retBoxT tb_ok (.st [.val (.slice (kA k As Ao) (kA k L'.length O.length) (kA k cs co)), .val (.slice (kA k Ao As) (kA k O.length L'.length) (kA k co cs))]) Tryz.func45 rfl rfl rfl rfl rfl fun w hst => ⟨((kA k As Ao, kA k cs co), (kA k Ao As, kA k co cs)), ?_, ?_⟩
        · rw [← kA_len, ← kA_len]; rfl
        · exact outK k hst (j := 4) (q := 5) rfl rfl (by decide) fun u h => ⟨h.1, trivial⟩
      · rw [if_neg ha] at hE
        subst hE
        refine RunH.gives (ho := rfl) (hw := rfl) (hd := rfl) (hf := rfl) (hes := rfl) (hc := Tryz.call121) (e := .av (.val (.tuple #[sumV Sum.zero, .bool false]))) (hC := fun w hst => drop_noneK (hst.holds 3 _ rfl).2 (Sl.own (hst.row (κ := kEntry) (id := 4) rfl) (by omega)) (Sl.own (hst.row (κ := kEntry) (id := 5) rfl) (by omega)) hsub.1 p (by simpa using ha)) ?_
        intro m2 hm2
        refine RunH.adv tb_ok [true] rfl rfl (by simp [ha] <;> omega) ?_
        refine RunH.nilrow 20 kEntry.T kEntry.sz 21 ?_
        refine RunH.nilrow 21 kEntry.T kEntry.sz 22 ?_
        refine RunH.retBoxT tb_ok nilSp Tryz.func45 rfl rfl rfl rfl rfl fun w hst => ⟨((none, 0), (none, 0)), by rw [(hT0 _ _ (by decide)).1, (hT0 _ _ (by decide)).2]; rfl, by rw [(hT0 _ _ (by decide)).1, (hT0 _ _ (by decide)).2]; exact hst.out [(0, 20), (1, 21)] rfl rfl fun u h => ⟨h.1, trivial⟩⟩
    · have hask : askE s.t.l s.y.l k [p] = pathsE [p] := if_pos hk
      have hE : e = pathsE [p] := by rw [← hre]; unfold DropE; rw [hask, if_neg hp]
      subst hE
      refine RunH.adv tb_ok [true] rfl rfl (by simp [hp] <;> omega) ?_
      refine RunH.nilrow 20 kEntry.T kEntry.sz 21 ?_
      refine RunH.nilrow 21 kEntry.T kEntry.sz 22 ?_
      refine RunH.retBoxT tb_ok nilSp Tryz.func45 rfl rfl rfl rfl rfl fun w hst => ⟨((none, 0), (none, 0)), by rw [(hT0 _ _ (hp)).1, (hT0 _ _ (hp)).2]; rfl, by rw [(hT0 _ _ (hp)).1, (hT0 _ _ (hp)).2]; exact hst.out [(0, 20), (1, 21)] rfl rfl fun u h => ⟨h.1, trivial⟩⟩
  · have hask : askE s.t.l s.y.l k [p] = kindE s.t.l s.y.l k := if_neg hk
    have hE : e = kindE s.t.l s.y.l k := by rw [← hre]; unfold DropE; rw [hask, if_neg hk]
    subst hE
    have hT0 : ∀ e l, e ≠ 0 → edT e k l (kList k s.y.l s.t.l) = [] ∧ edY e k l (kList k s.y.l s.t.l) = [] := fun e l h => ⟨if_neg h, if_neg h⟩
    refine RunH.gives (ho := rfl) (hw := rfl) (hd := rfl) (hf := rfl) (hes := rfl) (hc := Tryz.call88) (e := .av (.val (.tuple #[.pointer none, intV (kindE s.t.l s.y.l k)]))) (hC := fun w' hst => kinded_bad w' hst.fact.2.1 s hst.fact.2.2 k _ _ _ hk) ?_
    intro m1 hm1
    refine RunH.adv tb_ok [true] rfl rfl (by simp [hk] <;> omega) ?_
    refine RunH.nilrow 20 kEntry.T kEntry.sz 21 ?_
    refine RunH.nilrow 21 kEntry.T kEntry.sz 22 ?_
    refine RunH.retBoxT tb_ok nilSp Tryz.func45 rfl rfl rfl rfl rfl fun w hst => ⟨((none, 0), (none, 0)), by rw [(hT0 _ _ (hk)).1, (hT0 _ _ (hk)).2]; rfl, by rw [(hT0 _ _ (hk)).1, (hT0 _ _ (hk)).2]; exact hst.out [(0, 20), (1, 21)] rfl rfl fun u h => ⟨h.1, trivial⟩⟩

def MoveE (t y : List Entry) (k : Int) (p q : Str) : Int := if askE t y k [p, q] = 0 then (if isAt (kList k t y) p = true then (if isAt (kList k t y) q = true then 5 else 0) else 6) else askE t y k [p, q]
def moveL (l : List Entry) (p q : Str) : List Entry := setL (l.eraseIdx (posOf l p)) ⟨q, (l.getD (posOf l p) zeroE).sum⟩

theorem Move_all (s : Spc) (k : Int) (p q : Str) (h1 : s.t.l.length ≤ 1000000) (h2 : s.y.l.length ≤ 1000000) :
    Does Tryz.prog tb 51 [s.ev.v, intV k, strV p, strV q] [] (fun u => MaxLen u ∧ s.ok u)
      (fun z : (Option Addr × Nat) × (Option Addr × Nat) => .tuple #[.agg #[.slice z.1.1 (edT (MoveE s.t.l s.y.l k p q) k (moveL (kList k s.t.l s.y.l) p q) (kList k s.y.l s.t.l)).length z.1.2, .slice z.2.1 (edY (MoveE s.t.l s.y.l k p q) k (moveL (kList k s.t.l s.y.l) p q) (kList k s.y.l s.t.l)).length z.2.2], intV (MoveE s.t.l s.y.l k p q)])
      (fun z => [(0, rowE kEntry z.1.1 z.1.2 (edT (MoveE s.t.l s.y.l k p q) k (moveL (kList k s.t.l s.y.l) p q) (kList k s.y.l s.t.l))), (1, rowE kEntry z.2.1 z.2.2 (edY (MoveE s.t.l s.y.l k p q) k (moveL (kList k s.t.l s.y.l) p q) (kList k s.y.l s.t.l)))]) (fun _ _ _ => True) := by
  have hl : lim = 140737488351232 := rfl
  refine Does.enter tb_ok [(0, s.ev), (1, intE k), (2, strE p), (3, strE q)] Tryz.func51 rfl Tryz.ntmps51 rfl rfl 0 ?_
  intro B0 m0 K
  generalize hre : MoveE s.t.l s.y.l k p q = e
  refine RunH.adv tb_ok [] rfl rfl (by simp <;> omega) ?_
  by_cases hk : kindE s.t.l s.y.l k = 0
  · have hsub := kList_sub hk
    refine RunH.doesB [] 6 (hc := Tryz.call88) (ho := rfl) (hw := rfl) (hd := rfl) (hf := rfl) (hes := rfl) (hσ := rfl) (hn := rfl) (hV := fun _ => rfl) (hG := fun _ => rfl) (e := fun z : Nat × (Option Addr × Nat) × (Option Addr × Nat) => .av (.val (.tuple #[.pointer (some ⟨z.1, 0, none⟩), intV (pathsE [p, q])]))) (hC := kinded_ok s k _ _ [p, q] hk h1 h2) (hp := fun u hu => ⟨hu.fact.2.1, hu.fact.2.2, Sl.own (B := B0) (hu.row (κ := kStr) (l := [p, q]) (id := 2) rfl) (by simp [hl])⟩) ?_
    rintro ⟨b, ⟨A, c⟩, ⟨B, c2⟩⟩ m1 hm1
    refine RunH.drop ?_
    refine RunH.toK k 3 4 5 (b := b) (A := A) (c := c) (B := B) (c2 := c2) (t := s.t.l) (y := s.y.l) rfl rfl rfl (by decide) (by decide) (by decide) ?_
    have ho1 : (kList k s.y.l s.t.l).length ≤ 1000000 := by unfold kList; split <;> assumption
    generalize hLL : kList k s.t.l s.y.l = L at *
    generalize hOO : kList k s.y.l s.t.l = O at *
    have hk12 := (kindE_rises hk).2.2.1
    generalize kA k A B = As at *
    generalize kA k B A = Ao at *
    generalize kA k c c2 = cs at *
    generalize kA k c2 c = co at *
    have hT0 : ∀ e l, e ≠ 0 → edT e k l O = [] ∧ edY e k l O = [] := fun e l h => ⟨if_neg h, if_neg h⟩
    by_cases hp : pathsE [p, q] = 0
    · have hask : askE s.t.l s.y.l k [p, q] = 0 := by unfold askE; rw [if_pos hk]; exact hp
      have hE0 := hre
      unfold MoveE at hE0
      rw [if_pos hask, hLL] at hE0
      have hE := hE0.symm
      refine RunH.adv tb_ok [false] rfl rfl (by simp [hp] <;> omega) ?_
      refine RunH.gives (ho := rfl) (hw := rfl) (hd := rfl) (hf := rfl) (hes := rfl) (hc := Tryz.call105) (e := boolE (isAt L p)) (hC := fun w hst => has_K (hst.holds 3 _ rfl).2 (Sl.own (hst.row (κ := kEntry) (id := 4) rfl) (by omega)) (Sl.own (hst.row (κ := kEntry) (id := 5) rfl) (by omega)) hsub.1 p) ?_
      intro m2 hm2
      by_cases ha : isAt L p = true
      · rw [if_pos ha] at hE
        refine RunH.adv tb_ok [false] rfl rfl (by simp [ha] <;> omega) ?_
        refine RunH.gives (ho := rfl) (hw := rfl) (hd := rfl) (hf := rfl) (hes := rfl) (hc := Tryz.call105) (e := boolE (isAt L q)) (hC := fun w hst => has_K (hst.holds 3 _ rfl).2 (Sl.own (hst.row (κ := kEntry) (id := 4) rfl) (by omega)) (Sl.own (hst.row (κ := kEntry) (id := 5) rfl) (by omega)) hsub.1 q) ?_
        intro m3 hm3
        by_cases hb : isAt L q = true
        · rw [if_pos hb] at hE
          subst hE
          refine RunH.adv tb_ok [true] rfl rfl (by simp [hb] <;> omega) ?_
          refine RunH.nilrow 20 kEntry.T kEntry.sz 21 ?_
          refine RunH.nilrow 21 kEntry.T kEntry.sz 22 ?_
          refine RunH.retBoxT tb_ok nilSp Tryz.func51 rfl rfl rfl rfl rfl fun w hst => ⟨((none, 0), (none, 0)), by rw [(hT0 _ _ (by decide)).1, (hT0 _ _ (by decide)).2]; rfl, by rw [(hT0 _ _ (by decide)).1, (hT0 _ _ (by decide)).2]; exact hst.out [(0, 20), (1, 21)] rfl rfl fun u h => ⟨h.1, trivial⟩⟩
        · rw [if_neg hb] at hE
          subst hE
          refine RunH.adv tb_ok [false] rfl rfl (by simp [hb] <;> omega) ?_
          refine RunH.doesB [(0, 3), (1, 4), (2, 5)] 9 (hc := Tryz.call121) (ho := rfl) (hw := rfl) (hd := rfl) (hf := rfl) (hes := rfl) (hσ := rfl) (hn := rfl) (hV := fun _ => rfl) (hG := fun _ => rfl) (e := fun _ : Unit => .av (.val (dropV L p))) (hC := drop_K k L O p b (As, cs) (Ao, co) (by omega) hsub.1 ha) (hp := fun _ _ => trivial) ?_
          rintro ⟨⟩ m4 hm4
          refine RunH.drop ?_
          refine RunH.adv tb_ok [] rfl rfl (by simp <;> omega) ?_
          unfold moveL
          generalize hx : (L.getD (posOf L p) zeroE).sum = x at *
          refine RunH.doesB [(0, 3), (1, 4), (2, 5)] 12 (hc := Tryz.call106) (ho := rfl) (hw := rfl) (hd := rfl) (hf := rfl) (hes := rfl) (hσ := rfl) (hn := rfl) (hV := fun _ => rfl) (hG := fun _ => rfl) (e := fun _ : Option Addr × Nat => .av (.val (.tuple #[]))) (hC := set_spec k b (L.eraseIdx (posOf L p)) O (As, cs) (Ao, co) ⟨q, x⟩ (by have := List.length_eraseIdx_le L (posOf L p); omega) (rises_erase hsub.1)) (hp := fun _ _ => trivial) ?_
          rintro ⟨A', c'⟩ m5 hm5
          refine RunH.drop ?_
          refine RunH.adv tb_ok [] rfl rfl (by simp <;> omega) ?_
          generalize hL' : setL (L.eraseIdx (posOf L p)) ⟨q, x⟩ = L' at *
          refine RunH.loadS (.st [.val (.slice (kA k A' Ao) (kA k L'.length O.length) (kA k c' co)), .val (.slice (kA k Ao A') (kA k O.length L'.length) (kA k co c'))]) rfl rfl rfl rfl (fun w hst => load_spaceK (hst.holds 3 _ rfl).2) ?_
          refine RunH.adv tb_ok [] rfl rfl (by simp <;> omega) ?_
          refine RunH.retBoxT tb_ok (.st [.val (.slice (kA k A' Ao) (kA k L'.length O.length) (kA k c' co)), .val (.slice (kA k Ao A') (kA k O.length L'.length) (kA k co c'))]) Tryz.func51 rfl rfl rfl rfl rfl fun w hst => ⟨((kA k A' Ao, kA k c' co), (kA k Ao A', kA k co c')), ?_, ?_⟩
          · rw [← kA_len, ← kA_len]; rfl
          · exact outK k hst (j := 4) (q := 5) rfl rfl (by decide) fun u h => ⟨h.1, trivial⟩
      · rw [if_neg ha] at hE
        subst hE
        refine RunH.adv tb_ok [true] rfl rfl (by simp [ha] <;> omega) ?_
        refine RunH.nilrow 20 kEntry.T kEntry.sz 21 ?_
        refine RunH.nilrow 21 kEntry.T kEntry.sz 22 ?_
        refine RunH.retBoxT tb_ok nilSp Tryz.func51 rfl rfl rfl rfl rfl fun w hst => ⟨((none, 0), (none, 0)), by rw [(hT0 _ _ (by decide)).1, (hT0 _ _ (by decide)).2]; rfl, by rw [(hT0 _ _ (by decide)).1, (hT0 _ _ (by decide)).2]; exact hst.out [(0, 20), (1, 21)] rfl rfl fun u h => ⟨h.1, trivial⟩⟩
    · have hask : askE s.t.l s.y.l k [p, q] = pathsE [p, q] := if_pos hk
      have hE : e = pathsE [p, q] := by rw [← hre]; unfold MoveE; rw [hask, if_neg hp]
      subst hE
      refine RunH.adv tb_ok [true] rfl rfl (by simp [hp] <;> omega) ?_
      refine RunH.nilrow 20 kEntry.T kEntry.sz 21 ?_
      refine RunH.nilrow 21 kEntry.T kEntry.sz 22 ?_
      refine RunH.retBoxT tb_ok nilSp Tryz.func51 rfl rfl rfl rfl rfl fun w hst => ⟨((none, 0), (none, 0)), by rw [(hT0 _ _ (hp)).1, (hT0 _ _ (hp)).2]; rfl, by rw [(hT0 _ _ (hp)).1, (hT0 _ _ (hp)).2]; exact hst.out [(0, 20), (1, 21)] rfl rfl fun u h => ⟨h.1, trivial⟩⟩
  · have hask : askE s.t.l s.y.l k [p, q] = kindE s.t.l s.y.l k := if_neg hk
    have hE : e = kindE s.t.l s.y.l k := by rw [← hre]; unfold MoveE; rw [hask, if_neg hk]
    subst hE
    have hT0 : ∀ e l, e ≠ 0 → edT e k l (kList k s.y.l s.t.l) = [] ∧ edY e k l (kList k s.y.l s.t.l) = [] := fun e l h => ⟨if_neg h, if_neg h⟩
    refine RunH.gives (ho := rfl) (hw := rfl) (hd := rfl) (hf := rfl) (hes := rfl) (hc := Tryz.call88) (e := .av (.val (.tuple #[.pointer none, intV (kindE s.t.l s.y.l k)]))) (hC := fun w' hst => kinded_bad w' hst.fact.2.1 s hst.fact.2.2 k _ _ _ hk) ?_
    intro m1 hm1
    refine RunH.adv tb_ok [true] rfl rfl (by simp [hk] <;> omega) ?_
    refine RunH.nilrow 20 kEntry.T kEntry.sz 21 ?_
    refine RunH.nilrow 21 kEntry.T kEntry.sz 22 ?_
    refine RunH.retBoxT tb_ok nilSp Tryz.func51 rfl rfl rfl rfl rfl fun w hst => ⟨((none, 0), (none, 0)), by rw [(hT0 _ _ (hk)).1, (hT0 _ _ (hk)).2]; rfl, by rw [(hT0 _ _ (hk)).1, (hT0 _ _ (hk)).2]; exact hst.out [(0, 20), (1, 21)] rfl rfl fun u h => ⟨h.1, trivial⟩⟩
end Go.Proofs.YtagnkcdhenilbaaGreatDoor

namespace Go.Proofs.YtagnkcdhenilbaaGreatDoor
open Go V

/-- The path of an element is written. -/
theorem run_storePath {w : World} {B : Nat} {A : Option Addr} {c : Nat} {l : List Entry} (h : w.ownsRow B kEntry.T kEntry.sz (.slice A l.length c) l.length (l.flatMap kEntry.cs)) {i : Nat} (hi : i < l.length) (p : Str) :
    ∃ w', (storeVar 9 ⟨blkA A, offA A + i * 33, none⟩ (strV p)).run Tryz.prog w = .ok () w' ∧ w'.ownsRow B kEntry.T kEntry.sz (.slice A (l.set i ⟨p, l[i].sum⟩).length c) (l.set i ⟨p, l[i].sum⟩).length ((l.set i ⟨p, l[i].sum⟩).flatMap kEntry.cs) ∧ Agr (fun k => k = blkA A) w w' ∧ w'.heap.size = w.heap.size := by
  rcases h.2 with ⟨_, h2⟩ | ⟨g, cap, cur, hv, hg, hh, hc, hm, hcs, ht⟩
  · omega
  · injection hv with h3 h4 h5
    subst h3; subst h5
    have hsz : kEntry.sz = 33 := rfl
    have hlen := kEntry.flat_len l
    have hcs1 : ∀ x : Entry, kEntry.cs x = strV x.path :: (sumV x.sum).cells.toList := fun x => by
      show (EV.st (entryF x)).v.cells.toList = _
      rw [entry_cells]; rfl
    have hvs : VOk tb 9 (strV p) := ⟨rfl, Tryz.t9, rfl, rfl⟩
    obtain ⟨w', h1, h2, h3, h4⟩ := run_storeAt (P := Tryz.prog) tb_ok hvs (o := i * 33) hh (by show i * 33 + 1 ≤ _; rw [hcs, hsz]; omega)
    have hb : blkA (some (⟨g, 0, none⟩ : Addr)) = g := rfl
    have ho : offA (some (⟨g, 0, none⟩ : Addr)) = 0 := rfl
    rw [hb, ho, Nat.zero_add]
    have hgi := kEntry.get l i hi
    rw [hsz, hcs1] at hgi
    have hdrop : (l.flatMap kEntry.cs).drop (i * 33 + 1) = (sumV l[i].sum).cells.toList ++ (l.flatMap kEntry.cs).drop (i * 33 + 33) := by
      have h5 : (l.flatMap kEntry.cs).drop (i * 33) = strV l[i].path :: (sumV l[i].sum).cells.toList ++ (l.flatMap kEntry.cs).drop (i * 33 + 33) := by
        rw [← hgi]
        have := (List.take_append_drop 33 ((l.flatMap kEntry.cs).drop (i * 33))).symm
        rw [List.drop_drop] at this
        exact this
      have h6 := congrArg (List.drop 1) h5
      rw [List.drop_drop] at h6
      exact h6
    have hflat : (l.flatMap kEntry.cs).take (i * 33) ++ [strV p] ++ (l.flatMap kEntry.cs).drop (i * 33 + 1) = (l.set i ⟨p, l[i].sum⟩).flatMap kEntry.cs := by
      rw [← flat_setK l i ⟨p, l[i].sum⟩ hi, hdrop, hcs1, hsz]
      simp
    refine ⟨w', h1, ⟨?_, .inr ⟨g, c, _, rfl, hg, h2, ?_, hm, ?_, ?_⟩⟩, h3, h4⟩
    · rw [kEntry.flat_len]
    · simpa using hc
    · show (cur.toList.take (i * 33) ++ [strV p] ++ cur.toList.drop (i * 33 + 1)).toArray.size = _
      rw [hsz] at hcs ⊢
      simp only [List.size_toArray, List.length_append, List.length_take, List.length_drop, Array.length_toList, List.length_cons, List.length_nil]
      omega
    · show (cur.toList.take (i * 33) ++ [strV p] ++ cur.toList.drop (i * 33 + 1)).toArray.toList.take _ = _
      rw [← hflat, ← ht, List.length_set]
      rw [hsz] at hcs ⊢
      simp only [List.take_take, List.drop_take]
      rw [Nat.min_eq_left (by omega)]
      have e1 : (cur.toList.take (i * 33) ++ [strV p]).length = i * 33 + 1 := by
        rw [List.length_append, List.length_take, Array.length_toList]; simp; omega
      have e2 : l.length * 33 = (cur.toList.take (i * 33) ++ [strV p]).length + (l.length * 33 - (i * 33 + 1)) := by rw [e1]; omega
      rw [e2, List.take_length_add_append, ← e2]

theorem V.St.storePath {w : World} {B0 : Nat} {H : Heap} {I : World → Prop} {A : Option Addr} {c id : Nat} {l : List Entry} (h : St tb B0 H I w) (hH : lookH H id = rowE kEntry A c l) {i : Nat} (hi : i < l.length) (p : Str) :
    ∃ w', (storeVar 9 ⟨blkA A, offA A + i * 33, none⟩ (strV p)).run Tryz.prog w = .ok () w' ∧ w.heap.size ≤ w'.heap.size ∧ St tb B0 ((id, rowE kEntry A c (l.set i ⟨p, l[i].sum⟩)) :: H) I w' := by
  obtain ⟨w', h1, h2, h3, h4⟩ := run_storePath (h.row hH) hi p
  obtain ⟨g, rfl⟩ := own_ptr (h.row hH) (by rintro rfl; cases hi)
  have hH' : lookH H id = some (HE.row (.slice (some ⟨g, 0, none⟩) l.length c) kEntry.T kEntry.sz l.length (l.flatMap kEntry.cs)) := hH
  have ht : St tb B0 ((id, some (HE.row (.slice (some ⟨g, 0, none⟩) (l.set i ⟨p, l[i].sum⟩).length c) kEntry.T kEntry.sz (l.set i ⟨p, l[i].sum⟩).length ((l.set i ⟨p, l[i].sum⟩).flatMap kEntry.cs))) :: H) I w' := by
    refine h.turn id _ _ hH' (h3.mono fun k _ e => ?_) h2 fun k hk => .inl hk
    subst e; rfl
  exact ⟨w', h1, by rw [h4]; exact Nat.le_refl _, ht⟩

/-- An entry below a path. -/
def pj (p : Str) (x : Entry) : Entry := ⟨joinD [p, x.path], x.sum⟩
def midL (p : Str) (l : List Entry) (j : Nat) : List Entry := (l.take j).map (pj p) ++ l.drop j

theorem midL_len (p : Str) (l : List Entry) (j : Nat) : (midL p l j).length = l.length := by
  unfold midL; rw [List.length_append, List.length_map, List.length_take, List.length_drop]; omega
theorem midL_get (p : Str) (l : List Entry) (j : Nat) (h : j < l.length) : (midL p l j)[j]'(by rw [midL_len]; exact h) = l[j] := by
  unfold midL
  rw [List.getElem_append_right (by rw [List.length_map, List.length_take]; omega), List.getElem_drop]
  congr 1
  rw [List.length_map, List.length_take]; omega
theorem midL_set (p : Str) (l : List Entry) (j : Nat) (h : j < l.length) : (midL p l j).set j (pj p l[j]) = midL p l (j + 1) := by
  unfold midL
  have hl : ((l.take j).map (pj p)).length = j := by rw [List.length_map, List.length_take]; omega
  rw [List.set_append_right _ _ (by omega), hl, Nat.sub_self, List.drop_eq_getElem_cons h, List.set_cons_zero, List.take_succ_eq_append_getElem h, List.map_append, List.append_assoc]
  rfl
theorem midL_zero (p : Str) (l : List Entry) : midL p l 0 = l := by simp [midL]
theorem midL_all (p : Str) (l : List Entry) : midL p l l.length = l.map (pj p) := by simp [midL]
end Go.Proofs.YtagnkcdhenilbaaGreatDoor
