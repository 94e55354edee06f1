/-
A part of the proofs of the laws of a seat: contracts of functions and lemmas on them; the listed package variables hold what the program's text lays. No further condition.
-/
import Derived.Test.YtagnkcdhenilbaaGreatDoorKSEnds
import Derived.Test.YtagnkcdhenilbaaGreatDoorKPS14
set_option linter.unusedVariables false
set_option linter.unusedSectionVars false
set_option linter.unusedSimpArgs false
/-
The name of a digest, found path by path and found by the number of words: the same; no program.
-/
namespace Go.Proofs.YtagnkcdhenilbaaGreatDoor
open V

/-- The last words of a path, joined. -/
def endJ (p : Str) (n : Nat) : Str := joinD ((words p).drop ((words p).length - n))

def lessN (a b : Str) : Bool := decide (a.length < b.length) || (decide (a.length = b.length) && Op.bytesLess a b)

theorem lessN_irrefl (a : Str) : lessN a a = false := by simp [lessN, less_irrefl]

theorem lessN_trans {a b c : Str} (h1 : lessN a b = true) (h2 : lessN b c = true) : lessN a c = true := by
  unfold lessN at *
  simp only [Bool.or_eq_true, Bool.and_eq_true, decide_eq_true_eq] at *
  rcases h1 with h1 | ⟨h1, h1'⟩ <;> rcases h2 with h2 | ⟨h2, h2'⟩
  · left; omega
  · left; omega
  · left; omega
  · right; exact ⟨by omega, less_trans h1' h2'⟩

/-- A text is plain, and means this digest. -/
def goodR (l : List Entry) (x : Sum) (t : Str) : Bool := decide (0 < (foundL l t).length) && oneB (foundL l t) && decide (((foundL l t).getD 0 zeroE).sum = x)

/-- A path's end of that many words is plain, and means the digest. -/
def AtN (l : List Entry) (x : Sum) (p : Str) (n : Nat) : Prop := 1 ≤ n ∧ n ≤ (words p).length ∧ goodR l x (endJ p n) = true

/-- The search path by path. -/
theorem better_iff (b : Str × Nat) (e : Str) (n : Nat) : better b e n = true ↔ n < b.2 ∨ n = b.2 ∧ lessN e b.1 = true := by
  unfold better lessN
  simp only [Bool.or_eq_true, Bool.and_eq_true, decide_eq_true_eq]
  have key : orI [(e.length : Int) - b.1.length, cmpS3 e b.1] < 0 ↔ e.length < b.1.length ∨ e.length = b.1.length ∧ Op.bytesLess e b.1 = true := by
    rw [← cmpS3_neg]
    unfold orI
    split
    · unfold orI
      split
      · rename_i h1 h2
        simp only [orI, h2]
        omega
      · omega
    · omega
  rw [key]

theorem endJ_get (p : Str) (j : Nat) (h : j < (endsOf p).length) : (endsOf p)[j] = endJ p (j + 1) := by
  rw [endsOf_get]
  unfold endJ
  rw [Nat.sub_sub, Nat.add_comm 1 j]

theorem goodB_R {l : List Entry} {x : Sum} {e : Entry} (he : e ∈ l) (j : Nat) (h : j < (endsOf e.path).length) : goodB l x (endsOf e.path)[j] = goodR l x (endJ e.path (j + 1)) := by
  have := foundL_ne he (t := (endsOf e.path)[j]) (List.getElem_mem h)
  rw [← endJ_get _ _ h]
  unfold goodB goodR
  rw [decide_eq_true this, Bool.true_and]

/-- The first good end. -/
theorem nameStep_first {l : List Entry} {x : Sum} {b : Str × Nat} {e : Entry} (he : e ∈ l) (hx : ∃ n, AtN l x e.path n) :
    ∃ n, AtN l x e.path n ∧ (∀ k, AtN l x e.path k → n ≤ k) ∧ nameStep l x b e.path = if better b (endJ e.path n) n = true then (endJ e.path n, n) else b := by
  classical
  obtain ⟨n, hn, hmin⟩ : ∃ n, AtN l x e.path n ∧ ∀ k, AtN l x e.path k → n ≤ k := by
    have key : ∀ N, (∃ n, n ≤ N ∧ AtN l x e.path n) → ∃ n, AtN l x e.path n ∧ ∀ k, AtN l x e.path k → n ≤ k := by
      intro N
      induction N with
      | zero => rintro ⟨n, hn, h⟩; exact absurd h.1 (by omega)
      | succ N ih =>
        rintro ⟨n, hn, h⟩
        by_cases hc : ∃ n, n ≤ N ∧ AtN l x e.path n
        · exact ih hc
        · have : n = N + 1 := by
            rcases Nat.lt_or_ge n (N + 1) with h1 | h1
            · exact absurd ⟨n, by omega, h⟩ hc
            · omega
          subst this
          refine ⟨N + 1, h, fun k hk => ?_⟩
          rcases Nat.lt_or_ge k (N + 1) with h1 | h1
          · exact absurd ⟨k, by omega, hk⟩ hc
          · exact h1
    obtain ⟨n, h⟩ := hx
    exact key n ⟨n, Nat.le_refl _, h⟩
  refine ⟨n, hn, hmin, ?_⟩
  have hlen := endsOf_len e.path
  have hj : n - 1 < (endsOf e.path).length := by have := hn.1; have := hn.2.1; omega
  have hn1 : n - 1 + 1 = n := by have := hn.1; omega
  have := nameStep_stop (l := l) (x := x) (b := b) hj (fun i h hi => by
    rw [goodB_R he i h]
    cases hg : goodR l x (endJ e.path (i + 1)) with
    | false => rfl
    | true => have := hmin (i + 1) ⟨by omega, by omega, hg⟩; omega) (by rw [goodB_R he _ hj, hn1]; exact hn.2.2)
  rw [this, endJ_get _ _ hj, hn1]

theorem nameFold_inv {l : List Entry} {x : Sum} : ∀ (ps : List Str) (b : Str × Nat) (done : List Str), (∀ p ∈ ps, ∃ e ∈ l, e.path = p) → (∀ p ∈ ps, ∃ n, AtN l x p n) → (∀ p ∈ ps, (words p).length ≤ 5) →
    (done = [] → b = ([], 6)) → (done ≠ [] → ∃ p ∈ done, AtN l x p b.2 ∧ endJ p b.2 = b.1) → (∀ p ∈ done, ∀ n, AtN l x p n → b.2 < n ∨ b.2 = n ∧ lessN (endJ p n) b.1 = false) →
    (done ++ ps ≠ [] → ∃ p ∈ done ++ ps, AtN l x p (ps.foldl (nameStep l x) b).2 ∧ endJ p (ps.foldl (nameStep l x) b).2 = (ps.foldl (nameStep l x) b).1) ∧
    (∀ p ∈ done ++ ps, ∀ n, AtN l x p n → (ps.foldl (nameStep l x) b).2 < n ∨ (ps.foldl (nameStep l x) b).2 = n ∧ lessN (endJ p n) (ps.foldl (nameStep l x) b).1 = false)
  | [], b, done, _, _, _, _, h2, h3 => by simpa using ⟨h2, h3⟩
  | p :: r, b, done, hl, hg, h5, h1, h2, h3 => by
    obtain ⟨e, he, rfl⟩ := hl _ (.head _)
    obtain ⟨n, hn, hmin, hst⟩ := nameStep_first (b := b) he (hg _ (.head _))
    have hn5 : n ≤ 5 := Nat.le_trans hn.2.1 (h5 _ (.head _))
    have ih := nameFold_inv (l := l) (x := x) r (nameStep l x b e.path) (done ++ [e.path]) (fun q hq => hl q (.tail _ hq)) (fun q hq => hg q (.tail _ hq)) (fun q hq => h5 q (.tail _ hq)) (fun h => by simp at h)
    rw [List.append_assoc, List.singleton_append] at ih
    refine ih (fun _ => ?_) ?_
    · rw [hst]
      split
      · exact ⟨e.path, by simp, hn, rfl⟩
      · rename_i hb
        have hd : done ≠ [] := fun h => hb ((better_iff _ _ _).2 (.inl (by rw [h1 h]; show n < 6; omega)))
        obtain ⟨q, hq, h⟩ := h2 hd
        exact ⟨q, List.mem_append_left _ hq, h⟩
    · intro q hq k hk
      rw [hst]
      rcases List.mem_append.1 hq with hq | hq
      · have h := h3 q hq k hk
        split
        · rename_i hb
          rcases (better_iff _ _ _).1 hb with hb | ⟨hb, hb'⟩
          · left; show n < k; omega
          · rcases h with h | ⟨h, h'⟩
            · left; show n < k; omega
            · right
              refine ⟨by show n = k; omega, ?_⟩
              cases hc : lessN (endJ q k) (endJ e.path n) with
              | false => rfl
              | true => rw [lessN_trans hc hb'] at h'; cases h'
        · exact h
      · have : q = e.path := by simpa using hq
        subst this
        have hnk := hmin k hk
        split
        · rename_i hb
          rcases Nat.lt_or_ge n k with h | h
          · exact .inl h
          · have : n = k := by omega
            subst this
            exact .inr ⟨rfl, lessN_irrefl _⟩
        · rename_i hb
          rw [better_iff] at hb
          rcases Nat.lt_or_ge b.2 k with h | h
          · exact .inl h
          · have hbk : b.2 = k := by
              rcases Nat.lt_or_ge n b.2 with h' | h'
              · exact absurd (.inl h') hb
              · omega
            refine .inr ⟨hbk, ?_⟩
            have : n = k := by omega
            subst this
            cases hc : lessN (endJ e.path n) b.1 with
            | false => rfl
            | true => exact absurd (.inr ⟨hbk.symm, hc⟩) hb

end Go.Proofs.YtagnkcdhenilbaaGreatDoor
