/-
A part of the proofs of the laws of a seat: contracts of functions and lemmas on them; the listed package variables hold what the program's text lays. No further condition.
-/
import Derived.Test.YtagnkcdhenilbaaGreatDoorKPS14
set_option linter.unusedVariables false
set_option linter.unusedSectionVars false
set_option linter.unusedSimpArgs false
/-
The ends of a path, held against a text; no program.
-/
namespace Go.Proofs.YtagnkcdhenilbaaGreatDoor
open V

/-- A text is a path, or what stands behind one of its dots. -/
def endsB (p t : Str) : Bool := decide (p = t) || (decide (t.length < p.length) && decide (p.drop (p.length - t.length) = t) && decide (p.getD (p.length - t.length - 1) 0 = 46))

theorem endsB_iff (p t : Str) : endsB p t = true ↔ p = t ∨ ∃ a, p = a ++ 46 :: t := by
  unfold endsB
  simp only [Bool.or_eq_true, Bool.and_eq_true, decide_eq_true_eq]
  constructor
  · rintro (h | ⟨⟨h1, h2⟩, h3⟩)
    · exact .inl h
    · right
      refine ⟨p.take (p.length - t.length - 1), ?_⟩
      have hlt : p.length - t.length - 1 < p.length := by omega
      have e := (List.take_append_drop (p.length - t.length - 1) p).symm
      rw [List.drop_eq_getElem_cons hlt, show p.length - t.length - 1 + 1 = p.length - t.length by omega, h2] at e
      have h4 : p[p.length - t.length - 1] = 46 := by
        rw [List.getD_eq_getElem?_getD, List.getElem?_eq_getElem hlt] at h3
        exact h3
      rw [h4] at e
      exact e
  · rintro (h | ⟨a, rfl⟩)
    · exact .inl h
    · right
      have e : (a ++ 46 :: t).length - t.length = a.length + 1 := by simp only [List.length_append, List.length_cons]; omega
      rw [e]
      refine ⟨⟨by simp only [List.length_append, List.length_cons]; omega, ?_⟩, ?_⟩
      · rw [← List.drop_drop, List.drop_left]; rfl
      · rw [Nat.add_sub_cancel, List.getD_eq_getElem?_getD, List.getElem?_append_right (Nat.le_refl _), Nat.sub_self]; rfl

theorem words_nodot : ∀ t : Str, ∀ w ∈ words t, (46 : UInt8) ∉ w
  | [], w, h => by simp [words] at h; subst h; simp
  | b :: r, w, h => by
    have ih := words_nodot r
    unfold words at h
    split at h
    · rcases List.mem_cons.1 h with rfl | h
      · simp
      · exact ih w h
    · rename_i hb
      split at h
      · rename_i hw; exact absurd hw (words_ne r)
      · rename_i x ws hw
        rw [hw] at ih
        rcases List.mem_cons.1 h with rfl | h
        · intro hm
          rcases List.mem_cons.1 hm with e | hm
          · exact hb e.symm
          · exact ih x (.head _) hm
        · exact ih w (.tail _ h)

def tailsJ : List Str → List Str
  | [] => []
  | w :: r => joinD (w :: r) :: tailsJ r

theorem tailsJ_len : ∀ l : List Str, (tailsJ l).length = l.length
  | [] => rfl
  | _ :: r => by simp [tailsJ, tailsJ_len r]

theorem tailsJ_get : ∀ (l : List Str) (i : Nat) (h : i < (tailsJ l).length), (tailsJ l)[i] = joinD (l.drop i)
  | [], i, h => by cases h
  | w :: r, 0, _ => rfl
  | w :: r, i + 1, h => by
    simp only [tailsJ, List.getElem_cons_succ, List.drop_succ_cons]
    exact tailsJ_get r i _

theorem endsOf_tails (p : Str) : endsOf p = (tailsJ (words p)).reverse := by
  refine List.ext_getElem (by simp [endsOf_len, tailsJ_len]) fun i h1 h2 => ?_
  rw [endsOf_get, List.getElem_reverse, tailsJ_get, tailsJ_len]

theorem endsB_step {w q t : Str} (hw : (46 : UInt8) ∉ w) : endsB (w ++ 46 :: q) t = true ↔ w ++ 46 :: q = t ∨ endsB q t = true := by
  rw [endsB_iff, endsB_iff]
  constructor
  · rintro (h | ⟨a, h⟩)
    · exact .inl h
    · right
      rcases List.append_eq_append_iff.1 h with ⟨c, rfl, h2⟩ | ⟨c, rfl, h2⟩
      · cases c with
        | nil => simp at h2; exact .inl h2
        | cons x c => simp at h2; obtain ⟨rfl, rfl⟩ := h2; exact .inr ⟨c, rfl⟩
      · cases c with
        | nil => simp at h2; exact .inl h2.symm
        | cons x c => simp at h2; obtain ⟨rfl, _⟩ := h2; exact absurd (by simp) hw
  · rintro (h | h | ⟨a, rfl⟩)
    · exact .inl h
    · subst h; exact .inr ⟨w, rfl⟩
    · exact .inr ⟨w ++ 46 :: a, by simp⟩

theorem endsB_le {q t : Str} (h : endsB q t = true) : t.length ≤ q.length := by
  rcases (endsB_iff q t).1 h with rfl | ⟨a, rfl⟩
  · exact Nat.le_refl _
  · simp only [List.length_append, List.length_cons]; omega

theorem count_tails (t : Str) : ∀ ws : List Str, ws ≠ [] → (∀ w ∈ ws, (46 : UInt8) ∉ w) → (tailsJ ws).count t = if endsB (joinD ws) t = true then 1 else 0
  | [], h, _ => absurd rfl h
  | [w], _, hw => by
    have h1 : endsB w t = true ↔ w = t := by
      rw [endsB_iff]
      constructor
      · rintro (h | ⟨a, rfl⟩)
        · exact h
        · exact absurd (by simp) (hw _ (.head _))
      · exact .inl
    have hj : joinD [w] = w := rfl
    show ([joinD [w]] : List Str).count t = _
    rw [hj, List.count_cons, List.count_nil]
    by_cases e : w = t
    · rw [if_pos (h1.2 e)]; simp [e]
    · rw [if_neg (fun h => e (h1.1 h))]; simp [e]
  | w :: x :: r, _, hw => by
    have ih := count_tails t (x :: r) (by simp) fun y hy => hw y (.tail _ hy)
    have hst := endsB_step (q := joinD (x :: r)) (t := t) (hw w (.head _))
    have hj : joinD (w :: x :: r) = w ++ 46 :: joinD (x :: r) := rfl
    show (joinD (w :: x :: r) :: tailsJ (x :: r)).count t = _
    rw [List.count_cons, ih, hj]
    by_cases e : w ++ 46 :: joinD (x :: r) = t
    · have hno : ¬ endsB (joinD (x :: r)) t = true := fun h => by
        have := endsB_le h
        rw [← e] at this
        simp only [List.length_append, List.length_cons] at this
        omega
      rw [if_neg hno, if_pos (hst.2 (.inl e))]; simp [e]
    · by_cases h2 : endsB (joinD (x :: r)) t = true
      · rw [if_pos h2, if_pos (hst.2 (.inr h2))]; simp [e]
      · rw [if_neg h2, if_neg (fun h => (hst.1 h).elim e h2)]; simp [e]

theorem count_ends (p t : Str) : (endsOf p).count t = if endsB p t = true then 1 else 0 := by
  rw [endsOf_tails, List.count_reverse, count_tails t _ (words_ne p) (words_nodot p), joinD_words]

theorem filter_const {β : Type} (t : Str) (x : β) : ∀ l : List Str, (l.filter fun e => decide (e = t)).map (fun _ => x) = List.replicate (l.count t) x
  | [] => rfl
  | a :: r => by
    have ih := filter_const t x r
    by_cases h : a = t
    · subst h
      rw [List.count_cons_self, List.replicate_succ, ← ih]; simp
    · rw [List.count_cons_of_ne h, ← ih]; simp [h]

theorem found1_ends (t : Str) (x : Entry) : found1 t x = if endsB x.path t = true then [x] else [] := by
  unfold found1
  rw [filter_const, count_ends]
  split <;> rfl

theorem foundL_means (l : List Entry) (t : Str) : foundL l t = if isAt l t = true then [l.getD (posOf l t) zeroE] else l.filter fun x => endsB x.path t := by
  unfold foundL
  split
  · rfl
  · induction l with
    | nil => rfl
    | cons x r ih => 
      rename_i h
      clear h
      have ih : List.flatMap (found1 t) r = r.filter fun x => endsB x.path t := by
        clear ih
        induction r with
        | nil => rfl
        | cons y s ih => rw [List.flatMap_cons, ih, found1_ends, List.filter_cons]; split <;> simp [*]
      rw [List.flatMap_cons, ih, found1_ends, List.filter_cons]; split <;> simp [*]
end Go.Proofs.YtagnkcdhenilbaaGreatDoor
