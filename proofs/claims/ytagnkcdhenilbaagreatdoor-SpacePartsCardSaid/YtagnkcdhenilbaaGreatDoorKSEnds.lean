/-
A part of the proofs of the laws of a seat: contracts of functions and lemmas on them; the listed package variables hold what the program's text lays. No further condition.
-/
import Derived.Test.YtagnkcdhenilbaaGreatDoorKPS10
import Derived.Test.YtagnkcdhenilbaaGreatDoorKSPath
set_option linter.unusedVariables false
set_option linter.unusedSectionVars false
set_option linter.unusedSimpArgs false
/-
The ends of a path, held against a text; no program.
-/
namespace Go.Proofs.YtagnkcdhenilbaaGreatDoor
open V

/-- A text is a path, or what stands behind one of its dots. -/
def endsB (p t : Str) : Bool := decide (p = t) || (decide (t.length < p.length) && decide (p.drop (p.length - t.length) = t) && decide (p.getD (p.length - t.length - 1) 0 = 46))

theorem endsB_iff (p t : Str) : endsB p t = true ↔ p = t ∨ ∃ a, p = a ++ 46 :: t := by
  unfold endsB
  simp only [Bool.or_eq_true, Bool.and_eq_true, decide_eq_true_eq]
  constructor
  · rintro (h | ⟨⟨h1, h2⟩, h3⟩)
    · exact .inl h
    · right
      refine ⟨p.take (p.length - t.length - 1), ?_⟩
      have hlt : p.length - t.length - 1 < p.length := by omega
      have e := (List.take_append_drop (p.length - t.length - 1) p).symm
      rw [List.drop_eq_getElem_cons hlt, show p.length - t.length - 1 + 1 = p.length - t.length by omega, h2] at e
      have h4 : p[p.length - t.length - 1] = 46 := by
        rw [List.getD_eq_getElem?_getD, List.getElem?_eq_getElem hlt] at h3
        exact h3
      rw [h4] at e
      exact e
  · rintro (h | ⟨a, rfl⟩)
    · exact .inl h
    · right
      have e : (a ++ 46 :: t).length - t.length = a.length + 1 := by simp only [List.length_append, List.length_cons]; omega
      rw [e]
      refine ⟨⟨by simp only [List.length_append, List.length_cons]; omega, ?_⟩, ?_⟩
      · rw [← List.drop_drop, List.drop_left]; rfl
      · rw [Nat.add_sub_cancel, List.getD_eq_getElem?_getD, List.getElem?_append_right (Nat.le_refl _), Nat.sub_self]; rfl

theorem words_nodot : ∀ t : Str, ∀ w ∈ words t, (46 : UInt8) ∉ w
  | [], w, h => by simp [words] at h; subst h; simp
  | b :: r, w, h => by
    have ih := words_nodot r
    unfold words at h
    split at h
    · rcases List.mem_cons.1 h with rfl | h
      · simp
      · exact ih w h
    · rename_i hb
      split at h
      · rename_i hw; exact absurd hw (words_ne r)
      · rename_i x ws hw
        rw [hw] at ih
        rcases List.mem_cons.1 h with rfl | h
        · intro hm
          rcases List.mem_cons.1 hm with e | hm
          · exact hb e.symm
          · exact ih x (.head _) hm
        · exact ih w (.tail _ h)

def tailsJ : List Str → List Str
  | [] => []
  | w :: r => joinD (w :: r) :: tailsJ r

theorem tailsJ_len : ∀ l : List Str, (tailsJ l).length = l.length
  | [] => rfl
  | _ :: r => by simp [tailsJ, tailsJ_len r]

theorem tailsJ_get : ∀ (l : List Str) (i : Nat) (h : i < (tailsJ l).length), (tailsJ l)[i] = joinD (l.drop i)
  | [], i, h => by cases h
  | w :: r, 0, _ => rfl
  | w :: r, i + 1, h => by
    simp only [tailsJ, List.getElem_cons_succ, List.drop_succ_cons]
    exact tailsJ_get r i _

theorem endsOf_tails (p : Str) : endsOf p = (tailsJ (words p)).reverse := by
  refine List.ext_getElem (by simp [endsOf_len, tailsJ_len]) fun i h1 h2 => ?_
  rw [endsOf_get, List.getElem_reverse, tailsJ_get, tailsJ_len]

theorem endsB_step {w q t : Str} (hw : (46 : UInt8) ∉ w) : endsB (w ++ 46 :: q) t = true ↔ w ++ 46 :: q = t ∨ endsB q t = true := by
  rw [endsB_iff, endsB_iff]
  constructor
  · rintro (h | ⟨a, h⟩)
    · exact .inl h
    · right
      rcases List.append_eq_append_iff.1 h with ⟨c, rfl, h2⟩ | ⟨c, rfl, h2⟩
      · cases c with
        | nil => simp at h2; exact .inl h2
        | cons x c => simp at h2; obtain ⟨rfl, rfl⟩ := h2; exact .inr ⟨c, rfl⟩
      · cases c with
        | nil => simp at h2; exact .inl h2.symm
        | cons x c => simp at h2; obtain ⟨rfl, _⟩ := h2; exact absurd (by simp) hw
  · rintro (h | h | ⟨a, rfl⟩)
    · exact .inl h
    · subst h; exact .inr ⟨w, rfl⟩
    · exact .inr ⟨w ++ 46 :: a, by simp⟩

theorem endsB_le {q t : Str} (h : endsB q t = true) : t.length ≤ q.length := by
  rcases (endsB_iff q t).1 h with rfl | ⟨a, rfl⟩
  · exact Nat.le_refl _
  · simp only [List.length_append, List.length_cons]; omega

theorem count_tails (t : Str) : ∀ ws : List Str, ws ≠ [] → (∀ w ∈ ws, (46 : UInt8) ∉ w) → (tailsJ ws).count t = if endsB (joinD ws) t = true then 1 else 0
  | [], h, _ => absurd rfl h
  | [w], _, hw => by
    have h1 : endsB w t = true ↔ w = t := by
      rw [endsB_iff]
      constructor
      · rintro (h | ⟨a, rfl⟩)
        · exact h
        · exact absurd (by simp) (hw _ (.head _))
      · exact .inl
    have hj : joinD [w] = w := rfl
    show ([joinD [w]] : List Str).count t = _
    rw [hj, List.count_cons, List.count_nil]
    by_cases e : w = t
    · rw [if_pos (h1.2 e)]; simp [e]
    · rw [if_neg (fun h => e (h1.1 h))]; simp [e]
  | w :: x :: r, _, hw => by
    have ih := count_tails t (x :: r) (by simp) fun y hy => hw y (.tail _ hy)
    have hst := endsB_step (q := joinD (x :: r)) (t := t) (hw w (.head _))
    have hj : joinD (w :: x :: r) = w ++ 46 :: joinD (x :: r) := rfl
    show (joinD (w :: x :: r) :: tailsJ (x :: r)).count t = _
    rw [List.count_cons, ih, hj]
    by_cases e : w ++ 46 :: joinD (x :: r) = t
    · have hno : ¬ endsB (joinD (x :: r)) t = true := fun h => by
        have := endsB_le h
        rw [← e] at this
        simp only [List.length_append, List.length_cons] at this
        omega
      rw [if_neg hno, if_pos (hst.2 (.inl e))]; simp [e]
    · by_cases h2 : endsB (joinD (x :: r)) t = true
      · rw [if_pos h2, if_pos (hst.2 (.inr h2))]; simp [e]
      · rw [if_neg h2, if_neg (fun h => (hst.1 h).elim e h2)]; simp [e]

theorem count_ends (p t : Str) : (endsOf p).count t = if endsB p t = true then 1 else 0 := by
  rw [endsOf_tails, List.count_reverse, count_tails t _ (words_ne p) (words_nodot p), joinD_words]

theorem filter_const {β : Type} (t : Str) (x : β) : ∀ l : List Str, (l.filter fun e => decide (e = t)).map (fun _ => x) = List.replicate (l.count t) x
  | [] => rfl
  | a :: r => by
    have ih := filter_const t x r
    by_cases h : a = t
    · subst h
      rw [List.count_cons_self, List.replicate_succ, ← ih]; simp
    · rw [List.count_cons_of_ne h, ← ih]; simp [h]

theorem found1_ends (t : Str) (x : Entry) : found1 t x = if endsB x.path t = true then [x] else [] := by
  unfold found1
  rw [filter_const, count_ends]
  split <;> rfl

theorem foundL_means (l : List Entry) (t : Str) : foundL l t = if isAt l t = true then [l.getD (posOf l t) zeroE] else l.filter fun x => endsB x.path t := by
  unfold foundL
  split
  · rfl
  · induction l with
    | nil => rfl
    | cons x r ih => 
      rename_i h
      clear h
      have ih : List.flatMap (found1 t) r = r.filter fun x => endsB x.path t := by
        clear ih
        induction r with
        | nil => rfl
        | cons y s ih => rw [List.flatMap_cons, ih, found1_ends, List.filter_cons]; split <;> simp [*]
      rw [List.flatMap_cons, ih, found1_ends, List.filter_cons]; split <;> simp [*]
end Go.Proofs.YtagnkcdhenilbaaGreatDoor

namespace Go.Proofs.YtagnkcdhenilbaaGreatDoor
open Go V

theorem V.RunD.pureS {P : Program} {f : Fr} {n : Nat} {tb : TT} {B0 : Nat} {S : Stops} {R : Ending → World → Prop} {k : List Item} {ops : Array Oper} {G : Heap} {I0 : World → Prop} {fuel : Nat} {l : List Bool} {env : SEnv} {H : Heap} {nx m : Nat} {I : World → Prop} {p : Prop}
    (h : ∀ w, St tb B0 H I w → p) (hr : p → RunD P f n tb B0 S R k ops G I0 fuel l env H nx m I) : RunD P f n tb B0 S R k ops G I0 fuel l env H nx m I :=
  fun w a hm hst => hr (h w hst) w a hm hst


theorem r07_asked (w : World) (s : Spc) (hs : s.ok w) (h1 : ∀ x ∈ s.t.l, x.path.length ≤ 1000000) (h2 : ∀ x ∈ s.y.l, x.path.length ≤ 1000000) (k : Int) (A : Option Addr) (c : Nat) (l : List Str) (h : Sl kStr w A c l) (hp : ∀ x ∈ l, x.length ≤ 1000000) :
    Gives Tryz.prog 90 [s.ev.v, intV k, .slice A l.length c] w (intE (askE s.t.l s.y.l k l)) := by
  refine enterH tb_ok [(0, s.ev), (1, intE k), (2, slE A l.length c)] Tryz.func90 rfl Tryz.ntmps90 rfl rfl ?_
  refine RunH.adv tb_ok [] rfl rfl (by simp <;> omega) ?_
  refine RunH.gives (ho := rfl) (hw := rfl) (hd := rfl) (hf := rfl) (hes := rfl) (hc := Tryz.call20) (e := intE (checkE s.t.l s.y.l)) (hC := fun u hu => r07_Check u s (hs.ext hu.fact) h1 h2) ?_
  intro m1 hm1
  by_cases he : checkE s.t.l s.y.l = 0
  · by_cases hk : k = 1 ∨ k = 2
    · have ha : askE s.t.l s.y.l k l = pathsE l := by simp [askE, kindE, he, hk]
      rcases hk with rfl | rfl
      · refine RunH.adv tb_ok [false, false] rfl rfl (by simp [he] <;> omega) ?_
        refine RunH.gives (ho := rfl) (hw := rfl) (hd := rfl) (hf := rfl) (hes := rfl) (hc := Tryz.call101) (e := intE (pathsE l)) (hC := fun u hu => r07_paths u A c l (h.ext hu.fact) hp) ?_
        intro m2 hm2
        refine RunH.adv tb_ok [] rfl rfl (by simp <;> omega) ?_
        refine RunH.ret1 Tryz.func90 rfl rfl fun u hu => ⟨by rw [ha], hu.fact⟩
      · refine RunH.adv tb_ok [false, true, false] rfl rfl (by simp [he] <;> omega) ?_
        refine RunH.gives (ho := rfl) (hw := rfl) (hd := rfl) (hf := rfl) (hes := rfl) (hc := Tryz.call101) (e := intE (pathsE l)) (hC := fun u hu => r07_paths u A c l (h.ext hu.fact) hp) ?_
        intro m2 hm2
        refine RunH.adv tb_ok [] rfl rfl (by simp <;> omega) ?_
        refine RunH.ret1 Tryz.func90 rfl rfl fun u hu => ⟨by rw [ha], hu.fact⟩
    · refine RunH.adv tb_ok [false, true, true] rfl rfl (by simp [he] <;> omega) ?_
      refine RunH.ret1 Tryz.func90 rfl rfl fun u hu => ⟨by simp [askE, kindE, he, hk, EV.v, AV.v], hu.fact⟩
  · refine RunH.adv tb_ok [true] rfl rfl (by simp [he] <;> omega) ?_
    refine RunH.ret1 Tryz.func90 rfl rfl fun u hu => ⟨by simp [askE, kindE, he, EV.v, AV.v], hu.fact⟩

theorem r07_At (w : World) (A : Option Addr) (c : Nat) (l : List Entry) (h : Sl kEntry w A c l) (p : Str) : Gives Tryz.prog 107 [.slice A l.length c, strV p] w (atV l p) := by
  have hl : lim = 140737488351232 := rfl
  have hsm := h.small
  have hpl : posOf l p ≤ l.length := tw_le _ _
  refine enterH tb_ok [(0, slE A l.length c), (1, strE p)] Tryz.func107 rfl Tryz.ntmps107 rfl rfl ?_
  refine RunH.adv tb_ok [] rfl rfl (by simp <;> omega) ?_
  refine RunH.loop (α := Nat) (fun i => [(0, slE A l.length c), (1, strE p), (6, intE i)]) (fun _ => []) (fun i w' => Ext w w' ∧ i ≤ posOf l p) (fun i => l.length - i) 0
    rfl rfl (fun w' h => ⟨h, Nat.zero_le _⟩) ?_
  intro i m
  refine RunH.pure (fun w' h => h.2) fun hi => ?_
  by_cases hlt : i < l.length
  · refine RunH.adv tb_ok [true] rfl rfl (by simp [h.ptr hlt] <;> omega) ?_
    refine RunH.load (strE l[i].path) rfl rfl rfl rfl (fun w' h' => (h.ext h'.1).path hlt) ?_
    by_cases hb : Op.bytesLess l[i].path p = true
    · refine RunH.adv tb_ok [true] rfl rfl (by simp [hb] <;> omega) ?_
      refine RunH.again (i + 1) (.head _) rfl rfl (by omega) fun w' h => ⟨h.1, ?_⟩
      rcases Nat.lt_or_ge i (posOf l p) with h1 | h1
      · exact h1
      · have e : posOf l p = i := by omega
        have := tw_at (before p) l (by unfold posOf at e; omega)
        simp only [show (l.takeWhile (before p)).length = i from e] at this
        unfold before at this
        rw [hb] at this; cases this
    · have e : posOf l p = i := by
        rcases Nat.lt_or_ge i (posOf l p) with h1 | h1
        · exact absurd (tw_lt (before p) l i hlt h1) hb
        · omega
      have hat : isAt l p = decide (l[i].path = p) := by
        unfold isAt
        simp [e, hlt, pathAt_eq]
      refine RunH.adv tb_ok [false] rfl rfl (by simp [hb] <;> omega) ?_
      refine RunH.draw rfl [] rfl 16 rfl rfl ?_
      refine RunD.adv tb_ok (by kernel_rfl) [true] rfl rfl (by simp [h.ptr hlt] <;> omega) ?_
      refine RunD.load (by kernel_rfl) (i := 10) (strE l[i].path) rfl rfl rfl rfl rfl rfl (fun w' h' => (h.ext h'.1).path hlt) ?_
      refine RunD.adv tb_ok (by kernel_rfl) [] rfl rfl (by simp <;> omega) ?_
      refine RunD.done (.inl rfl) (by kernel_rfl) ?_
      refine RunH.adv tb_ok [] rfl rfl (by simp <;> omega) ?_
      refine RunH.ret2 Tryz.func107 rfl rfl rfl fun w' hst => ⟨by rw [atV, e, hat]; rfl, hst.fact.1⟩
  · have e : posOf l p = i := by omega
    have hat : isAt l p = false := by
      unfold isAt
      simp; omega
    refine RunH.adv tb_ok [false] rfl rfl (by simp <;> omega) ?_
    refine RunH.draw rfl [] rfl 16 rfl rfl ?_
    refine RunD.adv tb_ok (by kernel_rfl) [false] rfl rfl (by simp <;> omega) ?_
    refine RunD.done (.inl rfl) (by kernel_rfl) ?_
    refine RunH.adv tb_ok [] rfl rfl (by simp <;> omega) ?_
    refine RunH.ret2 Tryz.func107 rfl rfl rfl fun w' hst => ⟨by rw [atV, e, hat]; rfl, hst.fact.1⟩

theorem r07_ends (w : World) (p t : Str) (hp : p.length ≤ 1000000) (ht : t.length ≤ 1000000) : Gives Tryz.prog 150 [strV p, strV t] w (boolE (endsB p t)) := by
  refine enterH tb_ok [(0, strE p), (1, strE t)] Tryz.func150 rfl Tryz.ntmps150 rfl rfl ?_
  by_cases h0 : p.length = t.length
  · by_cases he : p = t
    · refine RunH.adv tb_ok [true, true] rfl rfl (by simp [he] <;> omega) ?_
      refine RunH.ret1 Tryz.func150 rfl rfl fun u hu => ⟨by simp [endsB, he, EV.v, AV.v], hu.fact⟩
    · refine RunH.adv tb_ok [true, false, false] rfl rfl (by simp [he] <;> omega) ?_
      refine RunH.ret1 Tryz.func150 rfl rfl fun u hu => ⟨by simp [endsB, he, h0, EV.v, AV.v], hu.fact⟩
  · have he : ¬ p = t := fun e => h0 (by rw [e])
    by_cases h1 : p.length < t.length
    · refine RunH.adv tb_ok [false, false] rfl rfl (by simp <;> omega) ?_
      refine RunH.ret1 Tryz.func150 rfl rfl fun u hu => ⟨by simp [endsB, he, show ¬ t.length < p.length by omega, EV.v, AV.v], hu.fact⟩
    · have hn : ((p.length : Int) - t.length).toNat = p.length - t.length := by omega
      have hn1 : ((p.length : Int) - t.length - 1).toNat = p.length - t.length - 1 := by omega
      by_cases h2 : p.drop (p.length - t.length) = t
      · refine RunH.adv tb_ok [false, true, true] rfl rfl (by simp [hn, h2] <;> omega) ?_
        refine RunH.ret1 Tryz.func150 rfl rfl fun u hu => ⟨by simp [endsB, he, h2, show t.length < p.length by omega, EV.v, AV.v]; exact u8_eq _ 46, hu.fact⟩
      · refine RunH.adv tb_ok [false, true, false] rfl rfl (by simp [hn, h2] <;> omega) ?_
        refine RunH.ret1 Tryz.func150 rfl rfl fun u hu => ⟨by simp [endsB, he, h2, EV.v, AV.v], hu.fact⟩

theorem filter_snoc {α : Type} (f : α → Bool) (l : List α) (i : Nat) (h : i < l.length) : (l.take (i + 1)).filter f = (l.take i).filter f ++ (if f l[i] = true then [l[i]] else []) := by
  rw [List.take_succ_eq_append_getElem h, List.filter_append]
  congr 1
  by_cases e : f l[i] = true <;> simp [e]

theorem r07_means (A : Option Addr) (c : Nat) (l : List Entry) (t : Str) (hn : l.length ≤ 1000000) (hp : ∀ x ∈ l, x.path.length ≤ 1000000) (ht : t.length ≤ 1000000) :
    Does Tryz.prog tb 91 [.slice A l.length c, strV t] [] (fun u => Sl kEntry u A c l) (fun z : Option Addr × Nat => .slice z.1 (foundL l t).length z.2) (fun z => [(0, rowE kEntry z.1 z.2 (foundL l t))]) (fun _ _ _ => True) := by
  have hl : lim = 140737488351232 := rfl
  refine Does.enter tb_ok [(0, slE A l.length c), (1, strE t)] Tryz.func91 rfl Tryz.ntmps91 rfl rfl 0 ?_
  intro B0 m0 K
  refine RunH.adv tb_ok [] rfl rfl (by simp <;> omega) ?_
  refine RunH.gives (ho := rfl) (hw := rfl) (hd := rfl) (hf := rfl) (hes := rfl) (hc := Tryz.call107) (e := atV l t) (hC := fun u hu => r07_At u A c l hu.fact.2 t) ?_
  intro m1 hm1
  by_cases ha : isAt l t = true
  · have hpos : posOf l t < l.length := by
      unfold isAt at ha
      simp only [Bool.and_eq_true, decide_eq_true_eq] at ha
      exact ha.1
    have hfl : foundL l t = [l[posOf l t]] := by
      unfold foundL
      rw [if_pos ha, List.getD_eq_getElem?_getD, List.getElem?_eq_getElem hpos]; rfl
    refine RunH.pure (fun u h => h.2.ptr hpos) fun hptr => ?_
    refine RunH.adv tb_ok [true] rfl rfl (by simp [ha, hptr] <;> omega) ?_
    refine RunH.loadS (.st (entryF l[posOf l t])) rfl rfl rfl rfl (fun u hu => hu.fact.2.load hpos) ?_
    refine RunH.adv tb_ok [] rfl rfl (by simp <;> omega) ?_
    refine RunH.ret1 Tryz.func91 rfl rfl fun w hst => ⟨(some ⟨m1, 0, none⟩, 1), by rw [hfl]; rfl, by rw [hfl]; exact hst.out [(0, 0)] rfl rfl fun u h => ⟨h.1, trivial⟩⟩
  · have hfl : foundL l t = l.filter fun x => endsB x.path t := by rw [foundL_means, if_neg ha]
    refine RunH.adv tb_ok [false] rfl rfl (by simp [ha] <;> omega) ?_
    refine RunH.nilrow 0 kEntry.T kEntry.sz 1 ?_
    refine RunH.loop (α := Nat × Option Addr × Nat) (fun z => [(1, strE t), (7, rowS 0 z.2.1 ((l.take z.1).filter fun x => endsB x.path t).length z.2.2), (22, slE A l.length c), (23, intE l.length), (24, intE z.1)]) (fun z => [(0, rowE kEntry z.2.1 z.2.2 ((l.take z.1).filter fun x => endsB x.path t))])
      (fun z u => (K u ∧ Sl kEntry u A c l) ∧ z.1 ≤ l.length) (fun z => l.length - z.1) (0, none, 0) rfl rfl (fun u h => ⟨h, Nat.zero_le _⟩) ?_
    rintro ⟨i, A', c'⟩ m
    refine RunH.pure (fun u h => h.2) fun (hi : i ≤ l.length) => ?_
    dsimp only
    have hfl' : ((l.take i).filter fun x => endsB x.path t).length ≤ l.length := Nat.le_trans (List.length_filter_le _ _) (by rw [List.length_take]; omega)
    by_cases hlt : i < l.length
    · have hsn := filter_snoc (fun x => endsB x.path t) l i hlt
      refine RunH.pure (fun u h => h.1.2.ptr hlt) fun hptr => ?_
      refine RunH.adv tb_ok [true] rfl rfl (by simp [hptr] <;> omega) ?_
      refine RunH.loadS (.st (entryF l[i])) rfl rfl rfl rfl (fun u hu => hu.fact.1.2.load hlt) ?_
      refine RunH.adv tb_ok [] rfl rfl (by simp <;> omega) ?_
      refine RunH.gives (ho := rfl) (hw := rfl) (hd := rfl) (hf := rfl) (hes := rfl) (hc := Tryz.call150) (e := boolE (endsB l[i].path t)) (hC := fun u _ => r07_ends u _ t (hp _ (List.getElem_mem hlt)) ht) ?_
      intro m2 hm2
      by_cases he : endsB l[i].path t = true
      · rw [if_pos he] at hsn
        refine RunH.adv tb_ok [true] rfl rfl (by simp [he] <;> omega) ?_
        refine RunH.appendK (κ := kEntry) (id := 0) (r := [l[i]]) (l := (l.take i).filter fun x => endsB x.path t) rfl rfl rfl rfl rfl rfl elt_entry rfl rfl (fun u hu => hu.liesRow (id := 2) (κ := kEntry) (l := [l[i]]) rfl (by simp [hl])) (by simp; omega) (by simp; omega) ?_
        intro A2 c2 m3 hm3
        refine RunH.adv tb_ok [] rfl rfl (by simp <;> omega) ?_
        refine RunH.again (i + 1, A2, c2) (.head _) ?_ ?_ (by dsimp only; omega) fun u h => ⟨h.1, by dsimp only; omega⟩
        · dsimp only; rw [hsn]; rfl
        · dsimp only; rw [hsn]; rfl
      · rw [if_neg he, List.append_nil] at hsn
        refine RunH.adv tb_ok [false] rfl rfl (by simp [he] <;> omega) ?_
        refine RunH.again (i + 1, A', c') (.head _) ?_ ?_ (by dsimp only; omega) fun u h => ⟨h.1, by dsimp only; omega⟩
        · dsimp only; rw [hsn]; rfl
        · dsimp only; rw [hsn]; rfl
    · have ht : l.take i = l := List.take_of_length_le (by omega)
      rw [ht]
      refine RunH.adv tb_ok [false] rfl rfl (by simp <;> omega) ?_
      refine RunH.ret1 Tryz.func91 rfl rfl fun w hst => ⟨(A', c'), by rw [hfl]; rfl, by rw [hfl]; exact hst.out [(0, 0)] rfl rfl fun u h => ⟨h.1.1, trivial⟩⟩

theorem row_kList (s : Spc) (k : Int) : (Spc.row s k).l = kList k s.t.l s.y.l := by
  unfold Spc.row kList; split <;> rfl

theorem foundL_le (l : List Entry) (t : Str) : (foundL l t).length ≤ l.length := by
  rw [foundL_means]
  split
  · rename_i ha
    unfold isAt at ha
    simp only [Bool.and_eq_true, decide_eq_true_eq] at ha
    simp only [List.length_cons, List.length_nil]
    omega
  · exact List.length_filter_le _ _

theorem r07_Find (s : Spc) (k : Int) (x : Str) (h1 : s.t.l.length ≤ 1000000) (h2 : s.y.l.length ≤ 1000000) (h3 : ∀ e ∈ s.t.l, e.path.length ≤ 1000000) (h4 : ∀ e ∈ s.y.l, e.path.length ≤ 1000000) (hx : x.length ≤ 1000000) :
    Does Tryz.prog tb 25 [s.ev.v, intV k, strV x] [] (fun u => s.ok u) (fun z : Option Addr × Nat => .tuple #[.slice z.1 (findL s.t.l s.y.l k x).length z.2, intV (findE s.t.l s.y.l k x)]) (fun z => [(0, rowE kEntry z.1 z.2 (findL s.t.l s.y.l k x))]) (fun _ _ _ => True) := by
  have hl : lim = 140737488351232 := rfl
  refine Does.enter tb_ok [(0, s.ev), (1, intE k), (2, strE x)] Tryz.func25 rfl Tryz.ntmps25 rfl rfl 0 ?_
  intro B0 m0 K
  refine RunH.adv tb_ok [] rfl rfl (by simp <;> omega) ?_
  refine RunH.gives (ho := rfl) (hw := rfl) (hd := rfl) (hf := rfl) (hes := rfl) (hc := Tryz.call90) (e := intE (askE s.t.l s.y.l k [x])) (hC := fun u hu => r07_asked u s hu.fact.2 h3 h4 k _ _ [x] (Sl.own (B := B0) (hu.row (κ := kStr) (l := [x]) (id := 1) rfl) (by simp [hl])) (by simpa using hx)) ?_
  intro m1 hm1
  by_cases ha : askE s.t.l s.y.l k [x] = 0
  · have hL : findL s.t.l s.y.l k x = foundL (kList k s.t.l s.y.l) x := if_pos ha
    have hE : findE s.t.l s.y.l k x = if foundL (kList k s.t.l s.y.l) x = [] then 6 else 0 := if_pos ha
    have hkl : (Spc.row s k).l = kList k s.t.l s.y.l := row_kList s k
    have hb1 : (Spc.row s k).l.length ≤ 1000000 := by unfold Spc.row; split <;> assumption
    have hb2 : ∀ e ∈ (Spc.row s k).l, e.path.length ≤ 1000000 := by unfold Spc.row; split <;> assumption
    have hfn := foundL_le (kList k s.t.l s.y.l) x
    rw [← hkl] at hL hE hfn
    refine RunH.adv tb_ok [false] rfl rfl (by simp [ha] <;> omega) ?_
    refine RunH.gives (ho := rfl) (hw := rfl) (hd := rfl) (hf := rfl) (hes := rfl) (hc := Tryz.call79) (e := .av (Spc.row s k).av) (hC := fun u _ => r07_Of u s k) ?_
    intro m2 hm2
    refine RunH.adv tb_ok [] rfl rfl (by simp <;> omega) ?_
    refine RunH.doesB [] 3 (hc := Tryz.call91) (ho := rfl) (hw := rfl) (hd := rfl) (hf := rfl) (hes := rfl) (hσ := rfl) (hn := rfl) (hV := fun _ => rfl) (hG := fun _ => rfl) (e := fun z : Option Addr × Nat => rowS 2 z.1 (foundL (Spc.row s k).l x).length z.2) (hC := r07_means _ _ _ x hb1 hb2 hx) (hp := fun u hu => Spc.ok.row hu.fact.2 k) ?_
    rintro ⟨A', c'⟩ m3 hm3
    refine RunH.drop ?_
    by_cases he : foundL (Spc.row s k).l x = []
    · rw [he] at hL
      rw [if_pos he] at hE
      rw [he]
      refine RunH.adv tb_ok [true] rfl rfl (by simp <;> omega) ?_
      refine RunH.nilrow 8 kEntry.T kEntry.sz 9 ?_
      refine RunH.ret2 Tryz.func25 rfl rfl rfl fun w hst => ⟨(none, 0), by rw [hL, hE]; rfl, by rw [hL]; exact hst.out [(0, 8)] rfl rfl fun u h => ⟨h.1, trivial⟩⟩
    · have : 0 < (foundL (Spc.row s k).l x).length := List.length_pos_iff.2 he
      rw [if_neg he] at hE
      refine RunH.adv tb_ok [false] rfl rfl (by simp <;> omega) ?_
      refine RunH.ret2 Tryz.func25 rfl rfl rfl fun w hst => ⟨(A', c'), by rw [hL, hE]; rfl, by rw [hL]; exact hst.out [(0, 2)] rfl rfl fun u h => ⟨h.1, trivial⟩⟩
  · have hE : findE s.t.l s.y.l k x = askE s.t.l s.y.l k [x] := if_neg ha
    have hL : findL s.t.l s.y.l k x = [] := if_neg ha
    refine RunH.adv tb_ok [true] rfl rfl (by simp [ha] <;> omega) ?_
    refine RunH.nilrow 8 kEntry.T kEntry.sz 9 ?_
    refine RunH.ret2 Tryz.func25 rfl rfl rfl fun w hst => ⟨(none, 0), by rw [hL, hE]; rfl, by rw [hL]; exact hst.out [(0, 8)] rfl rfl fun u h => ⟨h.1, trivial⟩⟩

/-- A text is plain. -/
def plainB (l : List Entry) (t : Str) : Bool := decide (0 < (foundL l t).length) && oneB (foundL l t)

theorem r07_plain (w : World) (A : Option Addr) (c : Nat) (l : List Entry) (h : Sl kEntry w A c l) (t : Str) (hn : l.length ≤ 1000000) (hp : ∀ x ∈ l, x.path.length ≤ 1000000) (ht : t.length ≤ 1000000) :
    Gives Tryz.prog 93 [.slice A l.length c, strV t] w (boolE (plainB l t)) := by
  have hl : lim = 140737488351232 := rfl
  have hfn := foundL_le l t
  refine enterH tb_ok [(0, slE A l.length c), (1, strE t)] Tryz.func93 rfl Tryz.ntmps93 rfl rfl ?_
  refine RunH.adv tb_ok [] rfl rfl (by simp <;> omega) ?_
  refine RunH.doesB [] 1 (hc := Tryz.call91) (ho := rfl) (hw := rfl) (hd := rfl) (hf := rfl) (hes := rfl) (hσ := rfl) (hn := rfl) (hV := fun _ => rfl) (hG := fun _ => rfl) (e := fun z : Option Addr × Nat => rowS 0 z.1 (foundL l t).length z.2) (hC := r07_means _ _ _ t hn hp ht) (hp := fun u hu => h.ext hu.fact) ?_
  rintro ⟨A', c'⟩ m1 hm1
  refine RunH.drop ?_
  obtain ⟨M, hM⟩ : ∃ M, M = foundL l t := ⟨_, rfl⟩
  rw [← hM] at hfn ⊢
  refine RunH.adv tb_ok [] rfl rfl (by simp <;> omega) ?_
  refine RunH.loop (α := Nat) (fun i => [(5, rowS 0 A' M.length c'), (11, rowS 0 A' M.length c'), (12, intE M.length), (13, intE i)]) (fun _ => [(0, rowE kEntry A' c' M)]) (fun i w' => Ext w w' ∧ i ≤ M.length ∧ (M.take i).all (fun x => decide (x.sum = (M.getD 0 zeroE).sum)) = true) (fun i => M.length - i) 0
    rfl rfl (fun w' h => ⟨h, Nat.zero_le _, rfl⟩) ?_
  intro i m
  refine RunH.pure (fun w' h => h.2) fun ⟨hi, hpre⟩ => ?_
  by_cases hlt : i < M.length
  · have hts : M.take (i + 1) = M.take i ++ [M[i]] := List.take_succ_eq_append_getElem hlt
    have h0 : (M.getD 0 zeroE) = M[0] := by rw [List.getD_eq_getElem?_getD, List.getElem?_eq_getElem (by omega)]; rfl
    rw [h0] at hpre ⊢
    refine RunH.pureS (fun u hu => hu.ptr (id := 0) (κ := kEntry) (l := M) rfl (by intro e; rw [e] at hlt; cases hlt)) fun hptr => ?_
    refine RunH.adv tb_ok [true] rfl rfl (by simp [hptr] <;> omega) ?_
    refine RunH.loadS (.st (entryF M[i])) rfl rfl rfl rfl (fun u hu => hu.loadRow (id := 0) (κ := kEntry) (l := M) rfl (by omega) hlt) ?_
    refine RunH.adv tb_ok [] rfl rfl (by simp <;> omega) ?_
    refine RunH.draw rfl [(0, rowE kEntry A' c' M), (1, some (.box m (entryF M[i]) 44))] rfl 7 rfl rfl ?_
    refine RunD.adv tb_ok (by kernel_rfl) [] rfl rfl (by simp [hptr] <;> omega) ?_
    refine RunD.loadS (i := 5) (sumE M[0].sum) rfl (by kernel_rfl) rfl rfl rfl (fun u hu => (Sl.own (hu.row (id := 0) (κ := kEntry) (l := M) rfl) (by omega)).sum (by omega)) rfl (fun _ h => h) ?_
    intro m2 hm2
    refine RunD.read (by kernel_rfl) (i := 6) (boolE (!decide (M[i].sum = M[0].sum))) rfl rfl rfl rfl rfl rfl (fun w' a h hag => op_neq hag rfl rfl rfl rfl rfl (by kernel_rfl) (eq_sum w' 9998 _ _)) ?_
    refine RunD.done (.inl rfl) (by kernel_rfl) ?_
    by_cases he : M[i].sum = M[0].sum
    · refine RunH.adv tb_ok [false] rfl rfl (by simp [he] <;> omega) ?_
      refine RunH.again (i + 1) (.head _) rfl rfl (by omega) fun w' h => ⟨h.1, by omega, ?_⟩
      rw [hts, List.all_append, hpre]; simp [he]
    · have hno : plainB l t = false := by
        unfold plainB oneB
        rw [← hM, h0]
        have : M.all (fun x => decide (x.sum = M[0].sum)) = false := by
          rw [List.all_eq_false]; exact ⟨_, List.getElem_mem hlt, by simpa using he⟩
        rw [this, Bool.and_false]
      refine RunH.adv tb_ok [true] rfl rfl (by simp [he] <;> omega) ?_
      refine RunH.ret1 Tryz.func93 rfl rfl fun u hu => ⟨by rw [hno]; rfl, hu.fact.1⟩
  · rw [List.take_of_length_le (by omega)] at hpre
    have hyes : plainB l t = decide (0 < M.length) := by
      unfold plainB oneB
      rw [← hM, hpre, Bool.and_true]
    refine RunH.adv tb_ok [false] rfl rfl (by simp <;> omega) ?_
    refine RunH.ret1 Tryz.func93 rfl rfl fun u hu => ⟨by rw [hyes]; simp [EV.v, AV.v], hu.fact.1⟩

theorem r07_Plain (w : World) (s : Spc) (hs : s.ok w) (k : Int) (x : Str) (h1 : s.t.l.length ≤ 1000000) (h2 : s.y.l.length ≤ 1000000) (h3 : ∀ e ∈ s.t.l, e.path.length ≤ 1000000) (h4 : ∀ e ∈ s.y.l, e.path.length ≤ 1000000) (hx : x.length ≤ 1000000) :
    Gives Tryz.prog 27 [s.ev.v, intV k, strV x] w (.av (.val (.tuple #[sumV (plainS s.t.l s.y.l k x), intV (plainE s.t.l s.y.l k x)]))) := by
  have hl : lim = 140737488351232 := rfl
  have hfl := findL_len s.t.l s.y.l k x
  have hkl : (Spc.row s k).l = kList k s.t.l s.y.l := row_kList s k
  have hb1 : (Spc.row s k).l.length ≤ 1000000 := by unfold Spc.row; split <;> assumption
  have hb2 : ∀ e ∈ (Spc.row s k).l, e.path.length ≤ 1000000 := by unfold Spc.row; split <;> assumption
  refine enterH tb_ok [(0, s.ev), (1, intE k), (2, strE x)] Tryz.func27 rfl Tryz.ntmps27 rfl rfl ?_
  refine RunH.adv tb_ok [] rfl rfl (by simp <;> omega) ?_
  refine RunH.doesB [] 5 (hc := Tryz.call25) (ho := rfl) (hw := rfl) (hd := rfl) (hf := rfl) (hes := rfl) (hσ := rfl) (hn := rfl) (hV := fun _ => rfl) (hG := fun _ => rfl) (e := fun z : Option Addr × Nat => .av (.val (.tuple #[.slice z.1 (findL s.t.l s.y.l k x).length z.2, intV (findE s.t.l s.y.l k x)]))) (hC := r07_Find s k x h1 h2 h3 h4 hx) (hp := fun u hu => hs.ext hu.fact) ?_
  rintro ⟨A, c⟩ m1 hm1
  refine RunH.drop ?_
  by_cases he : findE s.t.l s.y.l k x = 0
  · have hne := findE_ne he
    have hLe : findL s.t.l s.y.l k x = foundL (Spc.row s k).l x := by
      unfold findE at he
      unfold findL
      split at he
      · rename_i h; rw [if_pos h, hkl]
      · contradiction
    have hpb : plainB (Spc.row s k).l x = oneB (findL s.t.l s.y.l k x) := by
      unfold plainB
      rw [← hLe, decide_eq_true hne, Bool.true_and]
    refine RunH.adv tb_ok [false] rfl rfl (by simp [he] <;> omega) ?_
    refine RunH.gives (ho := rfl) (hw := rfl) (hd := rfl) (hf := rfl) (hes := rfl) (hc := Tryz.call79) (e := .av (Spc.row s k).av) (hC := fun u _ => r07_Of u s k) ?_
    intro m2 hm2
    refine RunH.adv tb_ok [] rfl rfl (by simp <;> omega) ?_
    refine RunH.gives (ho := rfl) (hw := rfl) (hd := rfl) (hf := rfl) (hes := rfl) (hc := Tryz.call93) (e := boolE (oneB (findL s.t.l s.y.l k x))) (hC := fun u hu => by rw [← hpb]; exact r07_plain u _ _ _ (Spc.ok.row (hs.ext hu.fact) k) x hb1 hb2 hx) ?_
    intro m3 hm3
    by_cases ho : oneB (findL s.t.l s.y.l k x) = true
    · have hE : plainE s.t.l s.y.l k x = 0 := by unfold plainE; rw [if_pos he, if_pos ho]
      have h0 : (findL s.t.l s.y.l k x).getD 0 zeroE = (findL s.t.l s.y.l k x)[0] := by rw [List.getD_eq_getElem?_getD, List.getElem?_eq_getElem hne]; rfl
      have hS : plainS s.t.l s.y.l k x = (findL s.t.l s.y.l k x)[0].sum := by unfold plainS; rw [if_pos hE, h0]
      refine RunH.pureS (fun u hu => hu.ptr (id := 2) (κ := kEntry) (l := findL s.t.l s.y.l k x) rfl (List.length_pos_iff.1 hne)) fun hptr => ?_
      refine RunH.adv tb_ok [false] rfl rfl (by simp [ho, hptr] <;> omega) ?_
      refine RunH.loadS (sumE (findL s.t.l s.y.l k x)[0].sum) rfl rfl rfl rfl (fun u hu => (Sl.own (hu.row (id := 2) (κ := kEntry) (l := findL s.t.l s.y.l k x) rfl) (by omega)).sum (by omega)) ?_
      refine RunH.adv tb_ok [] rfl rfl (by simp <;> omega) ?_
      refine RunH.retBoxT tb_ok (sumE (findL s.t.l s.y.l k x)[0].sum) Tryz.func27 rfl rfl rfl rfl rfl fun w' hst => ⟨by rw [hE, hS]; rfl, hst.fact⟩
    · have hE : plainE s.t.l s.y.l k x = 7 := by unfold plainE; rw [if_pos he, if_neg ho]
      have hS : plainS s.t.l s.y.l k x = Sum.zero := by unfold plainS; rw [hE]; rfl
      refine RunH.adv tb_ok [true] rfl rfl (by simp [ho] <;> omega) ?_
      refine RunH.read (sumE Sum.zero) rfl rfl rfl rfl (fun w' a _ ha => ?_) ?_
      · simp only [execOp, List.map_toArray, List.map_nil, build_zero, Sem.run_bind, Result.andThen_ok, Sem.run_pure]
        rfl
      refine RunH.adv tb_ok [] rfl rfl (by simp <;> omega) ?_
      refine RunH.retBoxT tb_ok (sumE Sum.zero) Tryz.func27 rfl rfl rfl rfl rfl fun w' hst => ⟨by rw [hE, hS]; rfl, hst.fact⟩
  · have hE : plainE s.t.l s.y.l k x = findE s.t.l s.y.l k x := if_neg he
    have hS : plainS s.t.l s.y.l k x = Sum.zero := by unfold plainS; rw [hE, if_neg he]
    refine RunH.adv tb_ok [true] rfl rfl (by simp [he] <;> omega) ?_
    refine RunH.read (sumE Sum.zero) rfl rfl rfl rfl (fun w' a _ ha => ?_) ?_
    · simp only [execOp, List.map_toArray, List.map_nil, build_zero, Sem.run_bind, Result.andThen_ok, Sem.run_pure]
      rfl
    refine RunH.adv tb_ok [] rfl rfl (by simp <;> omega) ?_
    refine RunH.retBoxT tb_ok (sumE Sum.zero) Tryz.func27 rfl rfl rfl rfl rfl fun w' hst => ⟨by rw [hE, hS]; rfl, hst.fact⟩

theorem bigL_small {l : List Entry} (h : bigL l = false) : l.length ≤ 310 ∧ ∀ x ∈ l, x.path.length ≤ 80 := by
  unfold bigL at h
  rw [Bool.or_eq_false_iff] at h
  refine ⟨by simpa using h.1, fun x hx => ?_⟩
  have h2 := h.2
  rw [List.any_eq_false] at h2
  have := h2 x hx
  unfold bigE at this
  simpa using this
end Go.Proofs.YtagnkcdhenilbaaGreatDoor
