/-
A part of the proofs of the laws of a seat: contracts of functions and lemmas on them; the listed package variables hold what the program's text lays. No further condition.
-/
import Derived.Test.YtagnkcdhenilbaaGreatDoorKSEnds
set_option linter.unusedVariables false
set_option linter.unusedSectionVars false
set_option linter.unusedSimpArgs false
namespace Go.Proofs.YtagnkcdhenilbaaGreatDoor
open Go V

theorem V.RunD.pureS {P : Program} {f : Fr} {n : Nat} {tb : TT} {B0 : Nat} {S : Stops} {R : Ending → World → Prop} {k : List Item} {ops : Array Oper} {G : Heap} {I0 : World → Prop} {fuel : Nat} {l : List Bool} {env : SEnv} {H : Heap} {nx m : Nat} {I : World → Prop} {p : Prop}
    (h : ∀ w, St tb B0 H I w → p) (hr : p → RunD P f n tb B0 S R k ops G I0 fuel l env H nx m I) : RunD P f n tb B0 S R k ops G I0 fuel l env H nx m I :=
  fun w a hm hst => hr (h w hst) w a hm hst

theorem joinD_snoc : ∀ (q : List Str) (i : Nat) (h : i < q.length), joinD (q.take (i + 1)) = if i = 0 then q[i] else joinD (q.take i) ++ [46] ++ q[i]
  | [], _, h => by cases h
  | x :: r, 0, _ => by simp [joinD]
  | [x], i + 1, h => by simp at h
  | x :: y :: r, i + 1, h => by
    have ih := joinD_snoc (y :: r) i (by simpa using h)
    rw [if_neg (by omega), List.take_succ_cons, List.take_succ_cons]
    rw [List.take_succ_cons] at ih
    simp only [joinD, List.getElem_cons_succ]
    rw [ih]
    cases i with
    | zero => simp [joinD]
    | succ i => rw [if_neg (by omega), List.take_succ_cons]; simp [joinD]

theorem joinD_take_len : ∀ (l : List Str) (i : Nat), (joinD (l.take i)).length ≤ (joinD l).length
  | l, 0 => by simp [joinD]
  | [], _ + 1 => by simp
  | [x], i + 1 => by simp [joinD]
  | x :: y :: r, 1 => by simp [joinD]
  | x :: y :: r, i + 2 => by
    have ih := joinD_take_len (y :: r) (i + 1)
    rw [List.take_succ_cons]
    rw [List.take_succ_cons] at ih ⊢
    simp only [joinD, List.length_append, List.length_cons] at ih ⊢
    omega

theorem joinD_each : ∀ (l : List Str), ∀ w ∈ l, w.length ≤ (joinD l).length
  | [x], w, h => by simp at h; subst h; simp [joinD]
  | x :: y :: r, w, h => by
    have ih := joinD_each (y :: r)
    simp only [joinD, List.length_append, List.length_cons]
    rcases List.mem_cons.1 h with rfl | h
    · omega
    · have := ih w h; omega

theorem r07_end (w : World) (A : Option Addr) (c : Nat) (l : List Str) (h : Sl kStr w A c l) (n : Nat) (hn : n ≤ l.length) (hb : (joinD l).length ≤ 1000000) :
    Gives Tryz.prog 99 [.slice A l.length c, intV n] w (strE (joinD (l.drop (l.length - n)))) := by
  have hl : lim = 140737488351232 := rfl
  have hsm := h.small
  have hcap := h.cap
  have hnn : ((l.length : Int) - n).toNat = l.length - n := by omega
  have hq := h.drop (l.length - n) (by omega)
  have hql : (l.drop (l.length - n)).length = n := by rw [List.length_drop]; omega
  have hbq := joinD_drop_len l (l.length - n)
  refine enterH tb_ok [(0, slE A l.length c), (1, intE n)] Tryz.func99 rfl Tryz.ntmps99 rfl rfl ?_
  refine RunH.adv tb_ok [] rfl rfl (by simp [AllOb, Ob.P, sum_len, sz_sum, one_int, u8V_one] <;> omega) ?_
  rw [hnn]
  refine RunH.loop (α := Nat) (fun i => [(5, strE (joinD ((l.drop (l.length - n)).take i))), (13, slE (subA A (l.length - n) c kStr.sz) n (c - (l.length - n))), (14, intE n), (15, intE i)]) (fun _ => []) (fun i w' => Ext w w' ∧ i ≤ n) (fun i => n - i) 0 ?_ rfl (fun w' h => ⟨h, Nat.zero_le _⟩) ?_
  · rw [show l.length - (l.length - n) = n by omega]; rfl
  intro i m
  refine RunH.pure (fun w' h => h.2) fun hi => ?_
  by_cases hlt : i < n
  · have hlq : i < (l.drop (l.length - n)).length := by omega
    have hsn := joinD_snoc (l.drop (l.length - n)) i hlq
    have ht := joinD_take_len (l.drop (l.length - n)) i
    have ht2 := joinD_take_len (l.drop (l.length - n)) (i + 1)
    have he := joinD_each (l.drop (l.length - n)) _ (List.getElem_mem hlq)
    generalize l.drop (l.length - n) = q at *
    refine RunH.adv tb_ok [true] rfl rfl (by simp [AllOb, Ob.P, sum_len, sz_sum, one_int, u8V_one, hq.ptr hlq] <;> omega) ?_
    refine RunH.load (strE q[i]) rfl rfl rfl rfl (fun w' h' => (hq.ext h'.1).load hlq) ?_
    by_cases h0 : i = 0
    · subst h0
      rw [if_pos rfl] at hsn
      have hj0 : (joinD ([] : List Str)).length = 0 := rfl
      refine RunH.adv tb_ok [false] rfl rfl (by simp [AllOb, Ob.P, sum_len, sz_sum, one_int, u8V_one] <;> omega) ?_
      refine RunH.again 1 (.head _) ?_ rfl (by omega) fun w' h => ⟨h.1, by omega⟩
      rw [hsn]; rfl
    · rw [if_neg h0] at hsn
      refine RunH.adv tb_ok [true] rfl rfl (by simp [AllOb, Ob.P, sum_len, sz_sum, one_int, u8V_one] <;> omega) ?_
      refine RunH.again (i + 1) (.head _) ?_ rfl (by omega) fun w' h => ⟨h.1, by omega⟩
      rw [hsn]; rfl
  · have hin : i = n := by omega
    subst hin
    rw [List.take_of_length_le (by omega)]
    refine RunH.adv tb_ok [false] rfl rfl (by simp [AllOb, Ob.P, sum_len, sz_sum, one_int, u8V_one] <;> omega) ?_
    refine RunH.ret1 Tryz.func99 rfl rfl fun w' hst => ⟨rfl, hst.fact.1⟩

theorem pathsOf_take (l : List Entry) (x : Sum) (i : Nat) (h : i < l.length) : pathsOf (l.take (i + 1)) x = if l[i].sum = x then pathsOf (l.take i) x ++ [l[i].path] else pathsOf (l.take i) x := by
  rw [List.take_succ_eq_append_getElem h, pathsOf_snoc]

theorem r07_Names (s : Spc) (k : Int) (x : Sum) (h1 : s.t.l.length ≤ 1000000) (h2 : s.y.l.length ≤ 1000000) (h3 : ∀ e ∈ s.t.l, e.path.length ≤ 1000000) (h4 : ∀ e ∈ s.y.l, e.path.length ≤ 1000000) :
    Does Tryz.prog tb 30 [s.ev.v, intV k, sumV x] [] (fun u => s.ok u) (fun z : Option Addr × Nat => .tuple #[.slice z.1 (namesL s.t.l s.y.l k x).length z.2, intV (namesE s.t.l s.y.l k x)]) (fun z => [(0, rowE kStr z.1 z.2 (namesL s.t.l s.y.l k x))]) (fun _ _ _ => True) := by
  have hl : lim = 140737488351232 := rfl
  refine Does.enter tb_ok [(0, s.ev), (1, intE k), (2, sumE x)] Tryz.func30 rfl Tryz.ntmps30 rfl rfl 0 ?_
  intro B0 m0 K
  have hask : askE s.t.l s.y.l k [] = kindE s.t.l s.y.l k := by unfold askE; split <;> simp [pathsE, *]
  refine RunH.adv tb_ok [] rfl rfl (by simp [AllOb, Ob.P, sum_len, sz_sum, one_int, u8V_one] <;> omega) ?_
  refine RunH.gives (ho := rfl) (hw := rfl) (hd := rfl) (hf := rfl) (hes := rfl) (hc := Tryz.call90) (e := intE (kindE s.t.l s.y.l k)) (hC := fun u hu => by rw [← hask]; exact r07_asked u s hu.fact.2 h3 h4 k _ _ [] (Sl.void u) (fun _ h => by cases h)) ?_
  intro m1 hm1
  by_cases hk : kindE s.t.l s.y.l k = 0
  · have hL : namesL s.t.l s.y.l k x = pathsOf (Spc.row s k).l x := by unfold namesL; rw [if_pos hk, row_kList]
    have hE : namesE s.t.l s.y.l k x = if pathsOf (Spc.row s k).l x = [] then 6 else 0 := by unfold namesE; rw [if_pos hk, row_kList]
    have hb1 : (Spc.row s k).l.length ≤ 1000000 := by unfold Spc.row; split <;> assumption
    refine RunH.adv tb_ok [false] rfl rfl (by simp [AllOb, Ob.P, sum_len, sz_sum, one_int, u8V_one, hk] <;> omega) ?_
    refine RunH.gives (ho := rfl) (hw := rfl) (hd := rfl) (hf := rfl) (hes := rfl) (hc := Tryz.call79) (e := .av (Spc.row s k).av) (hC := fun u _ => r07_Of u s k) ?_
    intro m2 hm2
    refine RunH.adv tb_ok [] rfl rfl (by simp [AllOb, Ob.P, sum_len, sz_sum, one_int, u8V_one] <;> omega) ?_
    have hok := fun u (hu : s.ok u) => Spc.ok.row hu k
    generalize hR : Spc.row s k = R at *
    refine RunH.nilrow 2 kStr.T kStr.sz 3 ?_
    refine RunH.loop (α := Nat × Option Addr × Nat) (fun z => [(5, .av (.box 1 (m0 + 1) 0)), (9, rowS 2 z.2.1 (pathsOf (R.l.take z.1) x).length z.2.2), (20, .av R.av), (21, intE R.l.length), (22, intE z.1)]) (fun z => [(1, some (.box (m0 + 1) [.val (sumV x)] 39)), (2, rowE kStr z.2.1 z.2.2 (pathsOf (R.l.take z.1) x))])
      (fun z u => (K u ∧ s.ok u) ∧ z.1 ≤ R.l.length) (fun z => R.l.length - z.1) (0, none, 0) rfl rfl (fun u h => ⟨h, Nat.zero_le _⟩) ?_
    rintro ⟨i, A', c'⟩ m
    refine RunH.pure (fun u h => h.2) fun (hi : i ≤ R.l.length) => ?_
    dsimp only
    by_cases hlt : i < R.l.length
    · have hsn := pathsOf_take R.l x i hlt
      have hpl := pathsOf_len (R.l.take i) x
      rw [List.length_take] at hpl
      refine RunH.pure (fun u h => (hok u h.1.2).ptr hlt) fun hptr => ?_
      refine RunH.adv tb_ok [true] rfl rfl (by simp [AllOb, Ob.P, sum_len, sz_sum, one_int, u8V_one, hptr] <;> omega) ?_
      refine RunH.loadS (.st (entryF R.l[i])) rfl rfl rfl rfl (fun u hu => (hok u hu.fact.1.2).load hlt) ?_
      refine RunH.adv tb_ok [] rfl rfl (by simp [AllOb, Ob.P, sum_len, sz_sum, one_int, u8V_one] <;> omega) ?_
      refine RunH.read (boolE (decide (R.l[i].sum = x))) rfl rfl rfl rfl (fun u q h hag => op_eq hag rfl rfl rfl rfl rfl (by kernel_rfl) (eq_sum u 9998 _ _)) ?_
      by_cases he : R.l[i].sum = x
      · rw [if_pos he] at hsn
        refine RunH.adv tb_ok [true] rfl rfl (by simp [AllOb, Ob.P, sum_len, sz_sum, one_int, u8V_one, he] <;> omega) ?_
        refine RunH.appendK (κ := kStr) (id := 2) (r := [R.l[i].path]) (l := pathsOf (R.l.take i) x) rfl rfl rfl rfl rfl rfl elt_str rfl rfl (fun u hu => hu.liesRow (id := 4) (κ := kStr) (l := [R.l[i].path]) rfl (by simp [hl])) (by simp; omega) (by simp; omega) ?_
        intro A2 c2 m3 hm3
        refine RunH.adv tb_ok [] rfl rfl (by simp [AllOb, Ob.P, sum_len, sz_sum, one_int, u8V_one] <;> omega) ?_
        refine RunH.again (i + 1, A2, c2) (.head _) ?_ ?_ (by dsimp only; omega) fun u h => ⟨h.1, by dsimp only; omega⟩
        · dsimp only; rw [hsn]; rfl
        · dsimp only; rw [hsn]; rfl
      · rw [if_neg he] at hsn
        refine RunH.adv tb_ok [false] rfl rfl (by simp [AllOb, Ob.P, sum_len, sz_sum, one_int, u8V_one, he] <;> omega) ?_
        refine RunH.again (i + 1, A', c') (.head _) ?_ ?_ (by dsimp only; omega) fun u h => ⟨h.1, by dsimp only; omega⟩
        · dsimp only; rw [hsn]; rfl
        · dsimp only; rw [hsn]; rfl
    · have ht : R.l.take i = R.l := List.take_of_length_le (by omega)
      rw [ht]
      have hpl := pathsOf_len R.l x
      by_cases he : pathsOf R.l x = []
      · rw [he] at hL
        rw [if_pos he] at hE
        rw [he]
        refine RunH.adv tb_ok [false, true] rfl rfl (by simp [AllOb, Ob.P, sum_len, sz_sum, one_int, u8V_one] <;> omega) ?_
        refine RunH.nilrow 8 kStr.T kStr.sz 9 ?_
        refine RunH.ret2 Tryz.func30 rfl rfl rfl fun w hst => ⟨(none, 0), by rw [hL, hE]; rfl, by rw [hL]; exact hst.out [(0, 8)] rfl rfl fun u h => ⟨h.1.1, trivial⟩⟩
      · have : 0 < (pathsOf R.l x).length := List.length_pos_iff.2 he
        rw [if_neg he] at hE
        refine RunH.adv tb_ok [false, false] rfl rfl (by simp [AllOb, Ob.P, sum_len, sz_sum, one_int, u8V_one, he] <;> omega) ?_
        refine RunH.ret2 Tryz.func30 rfl rfl rfl fun w hst => ⟨(A', c'), by rw [hL, hE]; rfl, by rw [hL]; exact hst.out [(0, 2)] rfl rfl fun u h => ⟨h.1.1, trivial⟩⟩
  · have hE : namesE s.t.l s.y.l k x = kindE s.t.l s.y.l k := if_neg hk
    have hL : namesL s.t.l s.y.l k x = [] := if_neg hk
    refine RunH.adv tb_ok [true] rfl rfl (by simp [AllOb, Ob.P, sum_len, sz_sum, one_int, u8V_one, hk] <;> omega) ?_
    refine RunH.nilrow 8 kStr.T kStr.sz 9 ?_
    refine RunH.ret2 Tryz.func30 rfl rfl rfl fun w hst => ⟨(none, 0), by rw [hL, hE]; rfl, by rw [hL]; exact hst.out [(0, 8)] rfl rfl fun u h => ⟨h.1, trivial⟩⟩

theorem isAt_mem {l : List Entry} (hr : rises l = true) {e : Entry} (he : e ∈ l) : isAt l e.path = true ∧ l.getD (posOf l e.path) zeroE = e := by
  obtain ⟨i, hi, rfl⟩ := List.mem_iff_getElem.1 he
  have h1 : ¬ i < posOf l l[i].path := fun h => by
    have := (posOf_iff hr l[i].path i hi).2 h
    rw [less_irrefl] at this; cases this
  have h2 : ∀ j, j < i → j < posOf l l[i].path := fun j hj => by
    refine (posOf_iff hr l[i].path j (by omega)).1 ?_
    have := rises_lt hr hj hi
    rwa [pathAt_eq l j (by omega), pathAt_eq l i hi] at this
  have h3 : posOf l l[i].path = i := by
    rcases Nat.lt_trichotomy i (posOf l l[i].path) with h | h | h
    · exact absurd h h1
    · exact h.symm
    · have := h2 _ h; omega
  rw [h3]
  refine ⟨?_, by rw [List.getD_eq_getElem?_getD, List.getElem?_eq_getElem hi]; rfl⟩
  unfold isAt
  rw [h3, pathAt_eq l i hi]
  simp [hi]

theorem whole_good {l : List Entry} (hr : rises l = true) {e : Entry} (he : e ∈ l) : AtN l e.sum e.path (words e.path).length := by
  have hne := List.length_pos_iff.2 (words_ne e.path)
  refine ⟨hne, Nat.le_refl _, ?_⟩
  have hj : endJ e.path (words e.path).length = e.path := by unfold endJ; rw [Nat.sub_self, List.drop_zero, joinD_words]
  obtain ⟨h1, h2⟩ := isAt_mem hr he
  have hf : foundL l e.path = [e] := by rw [foundL_means, if_pos h1, h2]
  rw [hj]
  unfold goodR oneB
  rw [hf]
  simp

theorem kList_ok {t y : List Entry} {k : Int} (h : kindE t y k = 0) : ∀ x ∈ kList k t y, pathOk x.path = true := by
  have hc : checkE t y = 0 := by
    unfold kindE at h
    split at h
    · assumption
    · exact h
  have hl : ∀ l, listE l = 0 → ∀ x ∈ l, pathOk x.path = true := by
    intro l hl x hx
    unfold listE at hl
    split at hl
    · cases hl
    · split at hl
      · rename_i h1
        have := List.all_eq_true.1 h1 x hx
        exact this
      · cases hl
  unfold checkE at hc
  unfold kList
  split at hc
  · rename_i h1
    split
    · exact hl t h1
    · exact hl y hc
  · rename_i h1; exact absurd hc h1

set_option maxRecDepth 10000 in
theorem r07_Name (w : World) (s : Spc) (hs : s.ok w) (k : Int) (x : Sum) (h1 : s.t.l.length ≤ 1000000) (h2 : s.y.l.length ≤ 1000000) (h3 : ∀ e ∈ s.t.l, e.path.length ≤ 1000000) (h4 : ∀ e ∈ s.y.l, e.path.length ≤ 1000000) :
    Gives Tryz.prog 32 [s.ev.v, intV k, sumV x] w (.av (.val (.tuple #[strV (nameS s.t.l s.y.l k x), intV (namesE s.t.l s.y.l k x)]))) := by
  have hl : lim = 140737488351232 := rfl
  refine enterH tb_ok [(0, s.ev), (1, intE k), (2, sumE x)] Tryz.func32 rfl Tryz.ntmps32 rfl rfl ?_
  refine RunH.adv tb_ok [] rfl rfl (by simp [AllOb, Ob.P, sum_len, sz_sum, one_int, u8V_one] <;> omega) ?_
  refine RunH.doesB [] 3 (hc := Tryz.call30) (ho := rfl) (hw := rfl) (hd := rfl) (hf := rfl) (hes := rfl) (hσ := rfl) (hn := rfl) (hV := fun _ => rfl) (hG := fun _ => rfl) (e := fun z : Option Addr × Nat => .av (.val (.tuple #[.slice z.1 (namesL s.t.l s.y.l k x).length z.2, intV (namesE s.t.l s.y.l k x)]))) (hC := r07_Names s k x h1 h2 h3 h4) (hp := fun u hu => hs.ext hu.fact) ?_
  rintro ⟨A, c⟩ m1 hm1
  refine RunH.drop ?_
  by_cases he : namesE s.t.l s.y.l k x = 0
  · have hkd : kindE s.t.l s.y.l k = 0 := by
      unfold namesE at he
      split at he
      · assumption
      · exact absurd he ‹_›
    have hS : nameS s.t.l s.y.l k x = (nameFold (Spc.row s k).l x (namesL s.t.l s.y.l k x)).1 := by unfold nameS; rw [if_pos he, row_kList]
    have hL : namesL s.t.l s.y.l k x = pathsOf (Spc.row s k).l x := by unfold namesL; rw [if_pos hkd, row_kList]
    have hne : namesL s.t.l s.y.l k x ≠ [] := fun e => by
      unfold namesE at he
      rw [if_pos hkd, ← row_kList, ← hL, if_pos e] at he
      cases he
    have hsub := kList_sub hkd
    have hlen := kList_len hkd
    have hcok : ∀ e ∈ (Spc.row s k).l, pathOk e.path = true := by rw [row_kList]; exact kList_ok hkd
    rw [← row_kList] at hsub hlen
    have hNl := pathsOf_len (Spc.row s k).l x
    rw [← hL] at hNl
    have hb1 : (Spc.row s k).l.length ≤ 1000000 := by omega
    have hb2 : ∀ e ∈ (Spc.row s k).l, e.path.length ≤ 1000000 := fun e he => by have := hlen e he; omega
    have hmem : ∀ p ∈ namesL s.t.l s.y.l k x, ∃ e ∈ (Spc.row s k).l, e.path = p ∧ e.sum = x := fun p h => by
      rw [hL] at h
      unfold pathsOf at h
      obtain ⟨e, h1, h2⟩ := List.mem_map.1 h
      have := List.mem_filter.1 h1
      exact ⟨e, this.1, h2, of_decide_eq_true this.2⟩
    have hpok : ∀ p ∈ namesL s.t.l s.y.l k x, pathOk p = true := fun p hp => by obtain ⟨e, h1, rfl, _⟩ := hmem p hp; exact hcok e h1
    have hplen : ∀ p ∈ namesL s.t.l s.y.l k x, p.length ≤ 54 := fun p hp => by obtain ⟨e, h1, rfl, _⟩ := hmem p hp; exact hlen e h1
    obtain ⟨n1, n2, n3, n4, n5⟩ := name_found (l := (Spc.row s k).l) (x := x) hne (fun p hp => by obtain ⟨e, h1, h2, _⟩ := hmem p hp; exact ⟨e, h1, h2⟩) (fun p hp => by obtain ⟨e, h1, rfl, rfl⟩ := hmem p hp; exact ⟨_, whole_good hsub.1 h1⟩) hpok
    have hrow := fun u (hu : Ext w u) => Spc.ok.row (hs.ext hu) k
    have hof := fun u => r07_Of u s k
    rw [hS]
    refine RunH.adv tb_ok [false] rfl rfl (by simp [AllOb, Ob.P, sum_len, sz_sum, one_int, u8V_one, he] <;> omega) ?_
    generalize hNL : namesL s.t.l s.y.l k x = NL at *
    generalize hR : Spc.row s k = R at *
    refine RunH.loop (α := Nat) (fun many => [(1, intE k), (3, .av (.box 0 w.heap.size 0)), (5, .av (.box 1 (w.heap.size + 1) 0)), (8, slE A NL.length c), (10, intE many)])
      (fun _ => [(0, some (.box w.heap.size [s.t.av, s.y.av] 24)), (1, some (.box (w.heap.size + 1) [.val (sumV x)] 39)), (2, rowE kStr A c NL)])
      (fun many u => Ext w u ∧ (1 ≤ many ∧ many ≤ 6) ∧ ∀ n, 1 ≤ n → n < many → bestR R.l x n NL = []) (fun many => 6 - many) 1 rfl rfl (fun u h => ⟨h, ⟨by decide, by decide⟩, fun n h1 h2 => by omega⟩) ?_
    intro many m2
    refine RunH.pure (fun u h => h.2) fun ⟨⟨hm1, hm6⟩, hno⟩ => ?_
    have hle : many ≤ (nameFold R.l x NL).2 := by
      rcases Nat.lt_or_ge (nameFold R.l x NL).2 many with h | h
      · have := hno _ n1 h
        rw [n4] at this
        exact absurd this n5
      · exact h
    refine RunH.adv tb_ok [true] rfl rfl (by simp [AllOb, Ob.P, sum_len, sz_sum, one_int, u8V_one] <;> omega) ?_
    refine RunH.loop (α := Nat) (fun i => [(1, intE k), (3, .av (.box 0 w.heap.size 0)), (5, .av (.box 1 (w.heap.size + 1) 0)), (8, slE A NL.length c), (10, intE many), (11, strE ((NL.take i).foldl (stepR R.l x many) [])), (31, slE A NL.length c), (32, intE NL.length), (33, intE i)])
      (fun _ => [(0, some (.box w.heap.size [s.t.av, s.y.av] 24)), (1, some (.box (w.heap.size + 1) [.val (sumV x)] 39)), (2, rowE kStr A c NL)])
      (fun i u => Ext w u ∧ i ≤ NL.length) (fun i => NL.length - i) 0 rfl rfl (fun u h => ⟨h.1, Nat.zero_le _⟩) ?_
    intro i m3
    refine RunH.pure (fun u h => h.2) fun hi => ?_
    by_cases hlt : i < NL.length
    · obtain ⟨b, hb⟩ : ∃ b, b = (NL.take i).foldl (stepR R.l x many) [] := ⟨_, rfl⟩
      have hsn : (NL.take (i + 1)).foldl (stepR R.l x many) [] = stepR R.l x many b NL[i] := by rw [List.take_succ_eq_append_getElem hlt, List.foldl_append, ← hb]; rfl
      rw [← hb]
      refine RunH.pureS (fun u hu => hu.ptr (id := 2) (κ := kStr) (l := NL) rfl (by intro e; rw [e] at hlt; cases hlt)) fun hptr => ?_
      have hp1 := hplen _ (List.getElem_mem hlt)
      have hp2 := hpok _ (List.getElem_mem hlt)
      have hpl : pathL NL[i] = words NL[i] := if_pos hp2
      have hpc := r07_Path NL[i] (by omega)
      rw [hpl] at hpc
      have hwl := words_len NL[i]
      generalize hp : NL[i] = p at *
      refine RunH.adv tb_ok [true] rfl rfl (by simp [AllOb, Ob.P, sum_len, sz_sum, one_int, u8V_one, hptr] <;> omega) ?_
      refine RunH.loadS (strE p) rfl rfl rfl rfl (fun u hu => by rw [← hp]; exact hu.loadRow (id := 2) (κ := kStr) (l := NL) rfl (by omega) hlt) ?_
      refine RunH.adv tb_ok [] rfl rfl (by simp [AllOb, Ob.P, sum_len, sz_sum, one_int, u8V_one] <;> omega) ?_
      refine RunH.doesB [] 4 (hc := Tryz.call18) (ho := rfl) (hw := rfl) (hd := rfl) (hf := rfl) (hes := rfl) (hσ := rfl) (hn := rfl) (hV := fun _ => rfl) (hG := fun _ => rfl) (e := fun z : Option Addr × Nat => .av (.val (.tuple #[.slice z.1 (words p).length z.2, intV (pathE p)]))) (hC := hpc) (hp := fun _ _ => trivial) ?_
      rintro ⟨A2, c2⟩ m4 hm4
      refine RunH.drop ?_
      by_cases hw : (words p).length < many
      · have hst : stepR R.l x many b p = b := if_pos hw
        refine RunH.adv tb_ok [true] rfl rfl (by simp [AllOb, Ob.P, sum_len, sz_sum, one_int, u8V_one] <;> omega) ?_
        refine RunH.again (i + 1) (.head _) ?_ rfl (by omega) fun u h => ⟨h.1, by omega⟩
        rw [hsn, hst]; rfl
      · refine RunH.adv tb_ok [false] rfl rfl (by simp [AllOb, Ob.P, sum_len, sz_sum, one_int, u8V_one] <;> omega) ?_
        refine RunH.gives (ho := rfl) (hw := rfl) (hd := rfl) (hf := rfl) (hes := rfl) (hc := Tryz.call99) (e := strE (endJ p many)) (hC := fun u hu => r07_end u A2 c2 (words p) (Sl.own (B := w.heap.size) (hu.row (κ := kStr) (l := words p) (id := 3) rfl) (by omega)) many (by omega) (by rw [joinD_words]; omega)) ?_
        intro m5 hm5
        have htl : (endJ p many).length ≤ 54 := by
          have := joinD_drop_len (words p) ((words p).length - many)
          rw [joinD_words] at this
          unfold endJ; omega
        have hst0 : stepR R.l x many b p = if goodR R.l x (endJ p many) = true then (if b = [] then endJ p many else if lessN (endJ p many) b = true then endJ p many else b) else b := if_neg hw
        generalize endJ p many = t at *
        refine RunH.adv tb_ok [] rfl rfl (by simp [AllOb, Ob.P, sum_len, sz_sum, one_int, u8V_one] <;> omega) ?_
        refine RunH.draw rfl [(0, some (.box w.heap.size [s.t.av, s.y.av] 24)), (1, some (.box (w.heap.size + 1) [.val (sumV x)] 39)), (2, rowE kStr A c NL)] rfl 18 rfl rfl ?_
        refine RunD.adv tb_ok (by kernel_rfl) [] rfl rfl (by simp [AllOb, Ob.P, sum_len, sz_sum, one_int, u8V_one] <;> omega) ?_
        refine RunD.gives (i := 2) (.av R.av) rfl (by kernel_rfl) rfl rfl rfl rfl Tryz.call79 (fun u hu => hof u) rfl (fun _ h => h) ?_
        intro m6 hm6
        refine RunD.adv tb_ok (by kernel_rfl) [] rfl rfl (by simp [AllOb, Ob.P, sum_len, sz_sum, one_int, u8V_one] <;> omega) ?_
        refine RunD.gives (i := 4) (boolE (plainB R.l t)) rfl (by kernel_rfl) rfl rfl rfl rfl Tryz.call93 (fun u hu => r07_plain u _ _ _ (hrow u hu.fact.1) t hb1 hb2 (by omega)) rfl (fun _ h => h) ?_
        intro m7 hm7
        by_cases hpb : plainB R.l t = true
        · have hfl := foundL_le R.l t
          have hpos : 0 < (foundL R.l t).length := by
            unfold plainB at hpb
            simp only [Bool.and_eq_true, decide_eq_true_eq] at hpb
            exact hpb.1
          have h0 : (foundL R.l t).getD 0 zeroE = (foundL R.l t)[0] := by rw [List.getD_eq_getElem?_getD, List.getElem?_eq_getElem hpos]; rfl
          have hgr : goodR R.l x t = decide ((foundL R.l t)[0].sum = x) := by
            unfold plainB at hpb
            unfold goodR
            rw [hpb, h0, Bool.true_and]
          refine RunD.adv tb_ok (by kernel_rfl) [false] rfl rfl (by simp [AllOb, Ob.P, sum_len, sz_sum, one_int, u8V_one, hpb] <;> omega) ?_
          refine RunD.gives (i := 9) (.av R.av) rfl (by kernel_rfl) rfl rfl rfl rfl Tryz.call79 (fun u hu => hof u) rfl (fun _ h => h) ?_
          intro m8 hm8
          refine RunD.adv tb_ok (by kernel_rfl) [] rfl rfl (by simp [AllOb, Ob.P, sum_len, sz_sum, one_int, u8V_one] <;> omega) ?_
          refine RunD.doesB (i := 11) [] 5 (fun z : Option Addr × Nat => rowS 4 z.1 (foundL R.l t).length z.2) rfl (by kernel_rfl) rfl rfl rfl rfl Tryz.call91 (r07_means _ _ _ t hb1 hb2 (by omega)) rfl rfl (fun _ => rfl) (fun _ => rfl) (fun u hu => hrow u hu.fact.1) (fun _ => rfl) (fun _ h => h) ?_
          rintro ⟨A3, c3⟩ m9 hm9
          refine RunD.pureS (fun u hu => hu.ptr (id := 4) (κ := kEntry) (l := foundL R.l t) rfl (List.length_pos_iff.1 hpos)) fun hptr3 => ?_
          refine RunD.adv tb_ok (by kernel_rfl) [] rfl rfl (by simp [AllOb, Ob.P, sum_len, sz_sum, one_int, u8V_one, hptr3] <;> omega) ?_
          refine RunD.loadS (i := 14) (sumE (foundL R.l t)[0].sum) rfl (by kernel_rfl) rfl rfl rfl (fun u hu => (Sl.own (hu.row (id := 4) (κ := kEntry) (l := foundL R.l t) rfl) (by omega)).sum hpos) rfl (fun _ h => h.1) ?_
          intro m10 hm10
          refine RunD.adv tb_ok (by kernel_rfl) [] rfl rfl (by simp [AllOb, Ob.P, sum_len, sz_sum, one_int, u8V_one] <;> omega) ?_
          refine RunD.read (by kernel_rfl) (i := 16) (boolE (!decide ((foundL R.l t)[0].sum = x))) rfl rfl rfl rfl rfl rfl (fun w' a h hag => op_neq hag rfl rfl rfl rfl rfl (by kernel_rfl) (eq_sum w' 9998 _ _)) ?_
          refine RunD.adv tb_ok (by kernel_rfl) [] rfl rfl (by simp [AllOb, Ob.P, sum_len, sz_sum, one_int, u8V_one] <;> omega) ?_
          refine RunD.done (.inl rfl) (by kernel_rfl) ?_
          by_cases hx : (foundL R.l t)[0].sum = x
          · rw [hgr, decide_eq_true hx, if_pos rfl] at hst0
            by_cases hbe : b = []
            · rw [if_pos hbe] at hst0
              refine RunH.adv tb_ok [false, true] rfl rfl (by simp [AllOb, Ob.P, sum_len, sz_sum, one_int, u8V_one, hx, hbe] <;> omega) ?_
              refine RunH.again (i + 1) (.head _) ?_ rfl (by omega) fun u h => ⟨h.1.1, by omega⟩
              rw [hsn, hst0]; rfl
            · rw [if_neg hbe] at hst0
              by_cases hl1 : t.length < b.length
              · have : lessN t b = true := by simp [lessN, hl1]
                rw [if_pos this] at hst0
                refine RunH.adv tb_ok [false, false, true] rfl rfl (by simp [AllOb, Ob.P, sum_len, sz_sum, one_int, u8V_one, hx, hbe] <;> omega) ?_
                refine RunH.again (i + 1) (.head _) ?_ rfl (by omega) fun u h => ⟨h.1.1, by omega⟩
                rw [hsn, hst0]; rfl
              · by_cases hl2 : t.length = b.length
                · by_cases hl3 : Op.bytesLess t b = true
                  · have : lessN t b = true := by simp [lessN, hl2, hl3]
                    rw [if_pos this] at hst0
                    refine RunH.adv tb_ok [false, false, false, true, true] rfl rfl (by simp [AllOb, Ob.P, sum_len, sz_sum, one_int, u8V_one, hx, hbe, hl3] <;> omega) ?_
                    refine RunH.again (i + 1) (.head _) ?_ rfl (by omega) fun u h => ⟨h.1.1, by omega⟩
                    rw [hsn, hst0]; rfl
                  · have : ¬ lessN t b = true := by simp [lessN, hl2, hl3]
                    rw [if_neg this] at hst0
                    refine RunH.adv tb_ok [false, false, false, true, false] rfl rfl (by simp [AllOb, Ob.P, sum_len, sz_sum, one_int, u8V_one, hx, hbe, hl3] <;> omega) ?_
                    refine RunH.again (i + 1) (.head _) ?_ rfl (by omega) fun u h => ⟨h.1.1, by omega⟩
                    rw [hsn, hst0]; rfl
                · have : ¬ lessN t b = true := by simp [lessN, hl2, hl1]
                  rw [if_neg this] at hst0
                  refine RunH.adv tb_ok [false, false, false, false] rfl rfl (by simp [AllOb, Ob.P, sum_len, sz_sum, one_int, u8V_one, hx, hbe] <;> omega) ?_
                  refine RunH.again (i + 1) (.head _) ?_ rfl (by omega) fun u h => ⟨h.1.1, by omega⟩
                  rw [hsn, hst0]; rfl
          · have : ¬ goodR R.l x t = true := by rw [hgr]; simpa using hx
            rw [if_neg this] at hst0
            refine RunH.adv tb_ok [true] rfl rfl (by simp [AllOb, Ob.P, sum_len, sz_sum, one_int, u8V_one, hx] <;> omega) ?_
            refine RunH.again (i + 1) (.head _) ?_ rfl (by omega) fun u h => ⟨h.1.1, by omega⟩
            rw [hsn, hst0]; rfl
        · have : ¬ goodR R.l x t = true := by
            unfold plainB at hpb
            unfold goodR
            intro h
            simp only [Bool.and_eq_true] at h
            exact hpb (by simp only [Bool.and_eq_true]; exact h.1)
          rw [if_neg this] at hst0
          refine RunD.adv tb_ok (by kernel_rfl) [true] rfl rfl (by simp [AllOb, Ob.P, sum_len, sz_sum, one_int, u8V_one, hpb] <;> omega) ?_
          refine RunD.done (.inl rfl) (by kernel_rfl) ?_
          refine RunH.adv tb_ok [] rfl rfl (by simp [AllOb, Ob.P, sum_len, sz_sum, one_int, u8V_one] <;> omega) ?_
          refine RunH.again (i + 1) (.head _) ?_ rfl (by omega) fun u h => ⟨h.1, by omega⟩
          rw [hsn, hst0]; rfl
    · rw [List.take_of_length_le (by omega : NL.length ≤ i)]
      change RunH _ _ _ _ _ _ _ _ ((1, intE k) :: (3, .av (.box 0 w.heap.size 0)) :: (5, .av (.box 1 (w.heap.size + 1) 0)) :: (8, slE A NL.length c) :: (10, intE many) :: (11, strE (bestR R.l x many NL)) :: _) _ _ _ _
      by_cases hbe : bestR R.l x many NL = []
      · refine RunH.adv tb_ok [false, false] rfl rfl (by simp [AllOb, Ob.P, sum_len, sz_sum, one_int, u8V_one, hbe] <;> omega) ?_
        refine RunH.again (many + 1) (.tail _ (.head _)) rfl rfl (by omega) fun u h => ⟨h.1, by omega, fun n h1 h2 => ?_⟩
        by_cases e : n = many
        · rw [e]; exact hbe
        · exact hno n h1 (by omega)
      · have hM : many = (nameFold R.l x NL).2 := by
          rcases Nat.lt_or_ge many (nameFold R.l x NL).2 with h | h
          · exact absurd (n3 _ hm1 h) hbe
          · omega
        have hV : bestR R.l x many NL = (nameFold R.l x NL).1 := by rw [hM]; exact n4
        refine RunH.adv tb_ok [false, true] rfl rfl (by simp [AllOb, Ob.P, sum_len, sz_sum, one_int, u8V_one, hbe] <;> omega) ?_
        refine RunH.ret2 Tryz.func32 rfl rfl rfl fun u hu => ⟨by rw [hV, he]; rfl, hu.fact.1⟩
  · have hS : nameS s.t.l s.y.l k x = [] := by unfold nameS; rw [if_neg he]
    refine RunH.adv tb_ok [true] rfl rfl (by simp [AllOb, Ob.P, sum_len, sz_sum, one_int, u8V_one, he] <;> omega) ?_
    refine RunH.ret2 Tryz.func32 rfl rfl rfl fun w' hst => ⟨by rw [hS]; rfl, hst.fact⟩
end Go.Proofs.YtagnkcdhenilbaaGreatDoor
