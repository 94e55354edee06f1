/-
A part of the proofs of the laws of a seat: contracts of functions and lemmas on them; the listed package variables hold what the program's text lays. No further condition.
-/
import Derived.Test.YtagnkcdhenilbaaGreatDoorShelf
import Derived.Lib.SplitLaws
import Derived.Test.YtagnkcdhenilbaaGreatDoorKVData
import Derived.Test.YtagnkcdhenilbaaGreatDoorKVRow
set_option linter.unusedVariables false
set_option linter.unusedSectionVars false
set_option linter.unusedSimpArgs false
/-
Paths: words between dots; no program.
-/
namespace Go.Proofs.YtagnkcdhenilbaaGreatDoor
open V

def low (b : UInt8) : Bool := decide (97 ≤ b.toNat ∧ b.toNat ≤ 122)

def words : Str → List Str
  | [] => [[]]
  | b :: r => if b = 46 then [] :: words r else match words r with
    | [] => [[b]]
    | w :: ws => (b :: w) :: ws

theorem words_ne : ∀ t, words t ≠ []
  | [] => by simp [words]
  | b :: r => by
    unfold words
    split
    · simp
    · split <;> simp

theorem words_dot : ∀ t, words (t ++ [46]) = words t ++ [[]]
  | [] => by simp [words]
  | b :: r => by
    rw [List.cons_append]
    unfold words
    rw [words_dot r]
    split
    · rfl
    · have := words_ne r
      cases h : words r with
      | nil => exact absurd h this
      | cons w ws => rfl

/-- The last one grows. -/
def grow (l : List Str) (b : UInt8) : List Str := l.set (l.length - 1) (l.getD (l.length - 1) [] ++ [b])

theorem grow_cons (w : Str) (l : List Str) (b : UInt8) (h : l ≠ []) : grow (w :: l) b = w :: grow l b := by
  unfold grow
  cases l with
  | nil => exact absurd rfl h
  | cons x r => simp

theorem words_snoc : ∀ t (b : UInt8), b ≠ 46 → words (t ++ [b]) = grow (words t) b
  | [], b, h => by simp [words, grow, h]
  | a :: r, b, h => by
    rw [List.cons_append]
    unfold words
    rw [words_snoc r b h]
    have hne := words_ne r
    split
    · rw [grow_cons _ _ _ hne]
    · cases hw : words r with
      | nil => exact absurd hw hne
      | cons w ws =>
        cases ws with
        | nil => simp [grow]
        | cons x ys =>
          rw [grow_cons w (x :: ys) b (by simp)]
          exact (grow_cons (a :: w) (x :: ys) b (by simp)).symm

def okB (b : UInt8) : Bool := decide (b = 46) || low b
def okW (w : Str) : Bool := decide (1 ≤ w.length ∧ w.length ≤ 10)
def pathOk (t : Str) : Bool := t.all okB && decide ((words t).length ≤ 5) && (words t).all okW

def pathL (t : Str) : List Str := if pathOk t = true then words t else []
def pathE (t : Str) : Int := if pathOk t = true then 0 else 4

theorem words_low : ∀ t, (words t).all (fun w => w.all low) = t.all okB
  | [] => rfl
  | b :: r => by
    have ih := words_low r
    unfold words
    by_cases hb : b = 46
    · rw [if_pos hb, List.all_cons, List.all_cons, ih]; simp [okB, hb]
    · rw [if_neg hb]
      have hne := words_ne r
      cases hw : words r with
      | nil => exact absurd hw hne
      | cons w ws =>
        rw [hw] at ih
        simp only [List.all_cons] at ih ⊢
        rw [← ih]
        simp [okB, hb, Bool.and_assoc]

theorem words_sum : ∀ t, t.length + 1 = ((words t).map (fun w => w.length + 1)).sum
  | [] => rfl
  | b :: r => by
    have ih := words_sum r
    unfold words
    by_cases hb : b = 46
    · rw [if_pos hb, List.map_cons, List.sum_cons, ← ih]; simp; omega
    · rw [if_neg hb]
      have hne := words_ne r
      cases hw : words r with
      | nil => exact absurd hw hne
      | cons w ws =>
        rw [hw] at ih
        simp only [List.map_cons, List.sum_cons, List.length_cons] at ih ⊢
        omega

def wordOk (s : Str) : Bool := s.all low && okW s

theorem all_and {α : Type} (p q : α → Bool) : ∀ l : List α, l.all (fun x => p x && q x) = (l.all p && l.all q)
  | [] => rfl
  | x :: r => by
    simp only [List.all_cons, all_and p q r]
    cases p x <;> cases q x <;> cases r.all p <;> rfl

/-- As the code looks at it. -/
theorem pathOk_words (t : Str) : pathOk t = (decide ((words t).length ≤ 5) && (words t).all wordOk) := by
  unfold pathOk
  rw [show wordOk = fun w => w.all low && okW w from rfl, all_and, words_low]
  cases t.all okB <;> cases decide ((words t).length ≤ 5) <;> simp

theorem sum_le : ∀ (l : List Str) (k : Nat), (∀ w ∈ l, w.length ≤ k) → (l.map (fun w => w.length + 1)).sum ≤ l.length * (k + 1)
  | [], _, _ => by simp
  | w :: r, k, h => by
    have ih := sum_le r k fun x hx => h x (List.mem_cons_of_mem _ hx)
    have := h w (List.mem_cons_self ..)
    simp only [List.map_cons, List.sum_cons, List.length_cons, Nat.succ_mul]
    omega

theorem pathOk_len {t : Str} (h : pathOk t = true) : t.length ≤ 54 := by
  simp only [pathOk, Bool.and_eq_true, decide_eq_true_eq, List.all_eq_true] at h
  obtain ⟨⟨_, h5⟩, hw⟩ := h
  have h1 := sum_le (words t) 10 fun w hw' => by
    have := hw w hw'
    simp only [okW, decide_eq_true_eq] at this
    exact this.2
  have h2 := words_sum t
  have : (words t).length * 11 ≤ 55 := by omega
  omega

theorem words_len : ∀ t, (words t).length ≤ t.length + 1
  | [] => by simp [words]
  | b :: r => by
    have := words_len r
    unfold words
    split
    · simp; exact this
    · split
      · simp
      · rename_i w ws hw
        rw [hw] at this
        simp at this ⊢; omega

theorem words_each : ∀ t, ∀ w ∈ words t, w.length ≤ t.length
  | [], w, h => by simp [words] at h; subst h; simp
  | b :: r, w, h => by
    have ih := words_each r
    unfold words at h
    split at h
    · rcases List.mem_cons.1 h with rfl | h
      · simp
      · have := ih w h; simp; omega
    · split at h
      · simp at h; subst h; simp
      · rename_i x xs hx
        rcases List.mem_cons.1 h with rfl | h
        · have := ih x (by rw [hx]; simp); simp; omega
        · have := ih w (by rw [hx]; simp [h]); simp; omega
end Go.Proofs.YtagnkcdhenilbaaGreatDoor

/-
Namespaces: what is right; no program.
-/
namespace Go.Proofs.YtagnkcdhenilbaaGreatDoor
open V

def pathsE (l : List Str) : Int := if l.all pathOk = true then 0 else 4

def leS (a b : Str) : Bool := Go.Op.bytesLess a b || decide (a = b)

theorem less_irrefl : ∀ a : Str, Go.Op.bytesLess a a = false
  | [] => rfl
  | x :: r => by simp [Go.Op.bytesLess, less_irrefl r]

theorem less_trans : ∀ {a b c : Str}, Go.Op.bytesLess a b = true → Go.Op.bytesLess b c = true → Go.Op.bytesLess a c = true
  | [], [], _, h, _ => by simp [Go.Op.bytesLess] at h
  | _ :: _, [], _, h, _ => by simp [Go.Op.bytesLess] at h
  | [], _ :: _, [], _, h => by simp [Go.Op.bytesLess] at h
  | [], _ :: _, _ :: _, _, _ => rfl
  | _ :: _, _ :: _, [], _, h => by simp [Go.Op.bytesLess] at h
  | x :: a, y :: b, z :: c, h1, h2 => by
    simp only [Go.Op.bytesLess, Bool.or_eq_true, decide_eq_true_eq, Bool.and_eq_true, beq_iff_eq, UInt8.lt_iff_toNat_lt] at h1 h2 ⊢
    rcases h1 with h1 | ⟨rfl, h1⟩
    · rcases h2 with h2 | ⟨rfl, h2⟩
      · exact .inl (by omega)
      · exact .inl h1
    · rcases h2 with h2 | ⟨rfl, h2⟩
      · exact .inl h2
      · exact .inr ⟨rfl, less_trans h1 h2⟩

theorem less_total : ∀ {a b : Str}, Go.Op.bytesLess a b = false → Go.Op.bytesLess b a = false → a = b
  | [], [], _, _ => rfl
  | [], _ :: _, h, _ => by simp [Go.Op.bytesLess] at h
  | _ :: _, [], _, h => by simp [Go.Op.bytesLess] at h
  | x :: a, y :: b, h1, h2 => by
    simp only [Go.Op.bytesLess, Bool.or_eq_false_iff, decide_eq_false_iff_not, Bool.and_eq_false_imp, beq_iff_eq, UInt8.lt_iff_toNat_lt] at h1 h2
    have hxy : x = y := UInt8.toNat_inj.1 (by omega)
    subst hxy
    rw [less_total (h1.2 rfl) (h2.2 rfl)]

theorem leS_false {a b : Str} (h : leS a b = false) : Go.Op.bytesLess b a = true := by
  unfold leS at h
  simp only [Bool.or_eq_false_iff, decide_eq_false_iff_not] at h
  cases hb : Go.Op.bytesLess b a with
  | true => rfl
  | false => exact absurd (less_total h.1 hb) h.2

def zeroE : Entry := ⟨[], Sum.zero⟩
def pathAt (l : List Entry) (i : Nat) : Str := (l.getD i zeroE).path

def rises (l : List Entry) : Bool := (List.range (l.length - 1)).all fun i => !leS (pathAt l (i + 1)) (pathAt l i)

theorem pathAt_eq (l : List Entry) (i : Nat) (h : i < l.length) : pathAt l i = l[i].path := by
  unfold pathAt
  rw [List.getD_eq_getElem?_getD, List.getElem?_eq_getElem h]; rfl

theorem rises_of {l : List Entry} (h : ∀ i, i + 1 < l.length → leS (pathAt l (i + 1)) (pathAt l i) = false) : rises l = true := by
  unfold rises
  rw [List.all_eq_true]
  intro i hi
  rw [List.mem_range] at hi
  rw [h i (by omega)]; rfl

theorem rises_not {l : List Entry} {i : Nat} (hi : i + 1 < l.length) (h : leS (pathAt l (i + 1)) (pathAt l i) = true) : rises l = false := by
  unfold rises
  rw [List.all_eq_false]
  exact ⟨i, by rw [List.mem_range]; omega, by rw [h]; simp⟩

theorem rises_at {l : List Entry} (h : rises l = true) {i : Nat} (hi : i + 1 < l.length) : leS (pathAt l (i + 1)) (pathAt l i) = false := by
  unfold rises at h
  rw [List.all_eq_true] at h
  have := h i (by rw [List.mem_range]; omega)
  simpa using this

theorem rises_lt {l : List Entry} (h : rises l = true) : ∀ {i j : Nat}, i < j → j < l.length → Go.Op.bytesLess (pathAt l i) (pathAt l j) = true := by
  intro i j hij
  induction j with
  | zero => omega
  | succ j ih =>
    intro hj
    have h1 := leS_false (rises_at h hj)
    by_cases e : i = j
    · subst e; exact h1
    · exact less_trans (ih (by omega) (by omega)) h1

def before (t : Str) (x : Entry) : Bool := Go.Op.bytesLess x.path t
/-- Where a path is, or would be. -/
def posOf (l : List Entry) (t : Str) : Nat := (l.takeWhile (before t)).length
def isAt (l : List Entry) (t : Str) : Bool := decide (posOf l t < l.length) && decide (pathAt l (posOf l t) = t)

theorem tw_le {α : Type} (p : α → Bool) (l : List α) : (l.takeWhile p).length ≤ l.length := by
  induction l with
  | nil => simp
  | cons x r ih => rw [List.takeWhile_cons]; split <;> simp; exact ih

theorem tw_lt {α : Type} (p : α → Bool) : ∀ (l : List α) (i : Nat) (h : i < l.length), i < (l.takeWhile p).length → p l[i] = true
  | [], _, h, _ => by cases h
  | x :: r, i, h, hi => by
    rw [List.takeWhile_cons] at hi
    split at hi
    · cases i with
      | zero => assumption
      | succ i => exact tw_lt p r i (by simpa using h) (by simpa using hi)
    · simp at hi

theorem tw_at {α : Type} (p : α → Bool) : ∀ (l : List α) (h : (l.takeWhile p).length < l.length), p (l[(l.takeWhile p).length]'h) = false
  | [], h => by simp at h
  | x :: r, h => by
    by_cases hx : p x = true
    · have e : (List.takeWhile p (x :: r)).length = (r.takeWhile p).length + 1 := by rw [List.takeWhile_cons, if_pos hx]; rfl
      have := tw_at p r (by rw [e] at h; simpa using h)
      simp only [e, List.getElem_cons_succ]
      exact this
    · have e : (List.takeWhile p (x :: r)).length = 0 := by rw [List.takeWhile_cons, if_neg hx]; rfl
      simp only [e, List.getElem_cons_zero]
      simpa using hx

theorem posOf_iff {l : List Entry} (h : rises l = true) (t : Str) (i : Nat) (hi : i < l.length) : Go.Op.bytesLess l[i].path t = true ↔ i < posOf l t := by
  constructor
  · intro hb
    rcases Nat.lt_or_ge i (posOf l t) with h1 | h1
    · exact h1
    · have hp : posOf l t < l.length := by omega
      have h2 := tw_at (before t) l hp
      have h3 : before t (l[posOf l t]) = false := h2
      unfold before at h3
      rcases Nat.eq_or_lt_of_le h1 with e | hlt
      · have : l[posOf l t] = l[i] := by congr 1
        rw [this, hb] at h3; cases h3
      · have h4 := rises_lt h hlt hi
        rw [pathAt_eq l _ hp, pathAt_eq l i hi] at h4
        rw [less_trans h4 hb] at h3; cases h3
  · intro hlt
    exact tw_lt (before t) l i hi hlt

def goodE (x : Entry) : Bool := pathOk x.path
def listE (l : List Entry) : Int := if 300 < l.length then 12 else if l.all goodE = true then (if rises l = true then 0 else 15) else 4
def checkE (t y : List Entry) : Int := if listE t = 0 then listE y else listE t

def bigE (x : Entry) : Bool := decide (80 < x.path.length)
def bigL (l : List Entry) : Bool := decide (310 < l.length) || l.any bigE
end Go.Proofs.YtagnkcdhenilbaaGreatDoor

namespace Go.Proofs.YtagnkcdhenilbaaGreatDoor
open Go V
theorem r07_Path (t : Str) (ht : t.length ≤ 1000000) : Does Tryz.prog tb 18 [strV t] [] (fun _ => True) (fun y : Option Addr × Nat => .tuple #[.slice y.1 (pathL t).length y.2, intV (pathE t)]) (fun y => [(0, rowE kStr y.1 y.2 (pathL t))]) (fun _ _ _ => True) := by
  have hl : lim = 140737488351232 := rfl
  refine Does.enter tb_ok [(0, strE t)] Tryz.func18 rfl Tryz.ntmps18 rfl rfl 0 ?_
  intro B0 m K
  have hbad : ∀ {w : World} {H : Heap} {I : World → Prop}, pathOk t = false → (∀ u, I u → K u) → St tb B0 H I w → ∃ x : Option Addr × Nat, Ending.returned (.tuple #[.slice none 0 0, intV 4]) = .returned (.tuple #[.slice x.1 (pathL t).length x.2, intV (pathE t)]) ∧ St tb B0 [(0, rowE kStr x.1 x.2 (pathL t))] (fun u => K u ∧ True) w := by
    intro w H I h1 h2 hst
    refine ⟨(none, 0), ?_, ?_⟩
    · simp [pathL, pathE, h1]
    · rw [pathL, if_neg (by simp [h1])]
      exact (hst.nilrow 0 kStr).out [] rfl rfl fun u hu => ⟨h2 u hu, trivial⟩
  refine RunH.adv tb_ok [] rfl rfl trivial ?_
  refine RunH.loop (α := Nat × Option Addr × Nat × List Str) (fun x => [(0, strE t), (5, intE x.1), (4, rowS 0 x.2.1 x.2.2.2.length x.2.2.1)]) (fun x => [(0, rowE kStr x.2.1 x.2.2.1 x.2.2.2)]) (fun x u => (K u ∧ True) ∧ x.1 ≤ t.length ∧ (t.take x.1).all okB = true ∧ x.2.2.2 = words (t.take x.1)) (fun x => t.length - x.1) (0, some ⟨m, 0, none⟩, 1, [[]])
    rfl rfl (fun u h => ⟨h, Nat.zero_le _, rfl, rfl⟩) ?_
  rintro ⟨i, A, c, l⟩ m
  refine RunH.pure (fun w' h => h.2) fun ⟨hi, hpre, hlw⟩ => ?_
  dsimp only at hi hpre hlw
  have hll : l.length ≤ t.length + 1 := by
    rw [hlw]; have := words_len (t.take i); rw [List.length_take] at this; omega
  have hne : l ≠ [] := by rw [hlw]; exact words_ne _
  have hpos : 1 ≤ l.length := List.length_pos_iff.2 hne
  by_cases hlt : i < t.length
  · have hg : t[i]?.getD 0 = t[i] := by simp [hlt]
    have hts : t.take (i + 1) = t.take i ++ [t[i]] := List.take_succ_eq_append_getElem hlt
    by_cases hd : t[i] = 46
    · refine RunH.adv tb_ok [true, true] rfl rfl (by simp [AllOb, Ob.P, hg, hd] <;> omega) ?_
      refine RunH.appendK (κ := kStr) (r := [[]]) (A2 := some ⟨m, 0, none⟩) (c2 := 1) rfl rfl rfl rfl rfl rfl elt_str rfl rfl (fun w hst => hst.liesRow (id := 1) rfl (by decide)) (by simp; omega) (by simp; omega) ?_
      intro A' c' m' hm
      refine RunH.adv tb_ok [] rfl rfl (by simp <;> omega) ?_
      refine RunH.again (i + 1, A', c', l ++ [[]]) (.head _) rfl rfl (by dsimp only; omega) fun u h => ⟨h.1, by dsimp only; omega, ?_, ?_⟩
      · dsimp only; rw [hts, List.all_append, hpre]; simp [okB, hd]
      · dsimp only; rw [hts, hd, words_dot, hlw]
    · have hd' : ¬ ((t[i].toNat : Int) = 46) := fun e => hd ((u8_eq _ 46).1 e)
      by_cases hlow : low t[i] = true
      · have hlo : 97 ≤ t[i].toNat ∧ t[i].toNat ≤ 122 := by simpa [low] using hlow
        refine RunH.adv tb_ok [true, false, false, false] rfl rfl (by simp [AllOb, Ob.P, hg] <;> omega) ?_
        have hlast : (l[l.length - 1]?.getD []).length ≤ t.length := by
          have h1 : l[l.length - 1]?.getD [] ∈ words (t.take i) := by
            rw [← hlw, List.getElem?_eq_getElem (by omega)]; exact List.getElem_mem _
          have := words_each (t.take i) _ h1
          rw [List.length_take] at this; omega
        have hone : (t.take ((i : Int) + 1).toNat).drop (i : Int).toNat = [t[i]] := by
          rw [show ((i : Int) + 1).toNat = i + 1 by omega, show (i : Int).toNat = i by omega, hts, List.drop_left' (by rw [List.length_take]; omega)]
        refine RunH.pureS (fun w hst => hst.ptr (id := 0) rfl hne) fun hptr => ?_
        dsimp only
        refine RunH.draw rfl [] rfl 14 rfl rfl ?_
        refine RunD.adv tb_ok (by kernel_rfl) [] rfl rfl (by simp [hptr] <;> omega) ?_
        refine RunD.loadS (i := 5) (strE (l.getD (l.length - 1) [])) rfl (by kernel_rfl) rfl rfl rfl ?_ rfl (fun _ h => h) ?_
        · intro w hst
          have := hst.loadRow (id := 0) (κ := kStr) (l := l) rfl (by omega) (i := l.length - 1) (by omega)
          rw [show l.getD (l.length - 1) [] = l[l.length - 1] by rw [List.getD_eq_getElem?_getD, List.getElem?_eq_getElem (by omega)]; rfl]
          rw [show ((l.length : Int) - 1).toNat = l.length - 1 by omega]
          exact this
        intro m' hm'
        refine RunD.adv tb_ok (by kernel_rfl) [] rfl rfl (by simp [hptr] <;> omega) ?_
        refine RunD.storeK (i := 13) (κ := kStr) (id := 0) (l.length - 1) (l.getD (l.length - 1) [] ++ [t[i]]) rfl (by kernel_rfl) rfl rfl rfl rfl rfl (by omega) ?_ ?_ rfl (fun _ h => h) ?_
        · rw [show ((l.length : Int) - 1).toNat = l.length - 1 by omega]; rfl
        · rw [hone]; rfl
        intro m2 hm2
        refine RunD.done (.inl rfl) (by kernel_rfl) ?_
        refine RunH.adv tb_ok [] rfl rfl (by simp <;> omega) ?_
        refine RunH.again (i + 1, A, c, grow l t[i]) (.head _) ?_ rfl (by dsimp only; omega) fun u h => ⟨h.1, by dsimp only; omega, ?_, ?_⟩
        · rw [show (grow l t[i]).length = l.length by simp [grow]]; rfl
        · dsimp only; rw [hts, List.all_append, hpre]; simp [okB, hlow]
        · dsimp only; rw [hts, words_snoc _ _ hd, hlw]
      · have hno : pathOk t = false := by
          have h1 : okB t[i] = false := by simp [okB, hd, hlow]
          have h2 : t.all okB = false := by
            rw [List.all_eq_false]; exact ⟨_, List.getElem_mem hlt, by simp [h1]⟩
          simp [pathOk, h2]
        by_cases hlo : t[i].toNat < 97
        · refine RunH.adv tb_ok [true, false, true] rfl rfl (by simp [AllOb, Ob.P, hg] <;> omega) ?_
          refine RunH.ret2 Tryz.func18 rfl rfl rfl fun w hst => hbad hno (fun u h => h.1.1) hst
        · have hhi : 122 < t[i].toNat := by
            have : ¬ (97 ≤ t[i].toNat ∧ t[i].toNat ≤ 122) := by simpa [low] using hlow
            omega
          refine RunH.adv tb_ok [true, false, false, true] rfl rfl (by simp [AllOb, Ob.P, hg] <;> omega) ?_
          refine RunH.ret2 Tryz.func18 rfl rfl rfl fun w hst => hbad hno (fun u h => h.1.1) hst
  · have hit : t.take i = t := List.take_of_length_le (by omega)
    rw [hit] at hpre hlw
    by_cases h5 : l.length ≤ 5
    · refine RunH.pureS (fun w hst => hst.ptr (id := 0) rfl hne) fun hptr => ?_
      refine RunH.adv tb_ok [false, false] rfl rfl (by simp <;> omega) ?_
      refine RunH.loop (α := Nat) (fun j => [(4, rowS 0 A l.length c), (48, rowS 0 A l.length c), (49, intE l.length), (50, intE j)]) (fun _ => [(0, rowE kStr A c l)]) (fun j u => (K u ∧ True) ∧ j ≤ l.length ∧ (l.take j).all okW = true) (fun j => l.length - j) 0
        rfl rfl (fun u h => ⟨h.1, Nat.zero_le _, rfl⟩) ?_
      intro j m
      refine RunH.pure (fun w' h => h.2) fun ⟨hj, hpj⟩ => ?_
      by_cases hjl : j < l.length
      · have hls : l.take (j + 1) = l.take j ++ [l[j]] := List.take_succ_eq_append_getElem hjl
        have hwl : (l[j]).length ≤ t.length := words_each t _ (by rw [← hlw]; exact List.getElem_mem _)
        refine RunH.adv tb_ok [true] rfl rfl (by simp [hptr] <;> omega) ?_
        refine RunH.loadS (strE l[j]) rfl rfl rfl rfl (fun w hst => hst.loadRow (id := 0) (κ := kStr) (l := l) rfl (by omega) hjl) ?_
        have hno : okW l[j] = false → pathOk t = false := fun h => by
          have h2 : (words t).all okW = false := by
            rw [← hlw, List.all_eq_false]; exact ⟨_, List.getElem_mem hjl, by simp [h]⟩
          simp [pathOk, h2]
        by_cases hw1 : (l[j]).length < 1
        · refine RunH.adv tb_ok [true] rfl rfl (by simp <;> omega) ?_
          refine RunH.ret2 Tryz.func18 rfl rfl rfl fun w hst => hbad (hno (by simp [okW]; omega)) (fun u h => h.1.1) hst
        · by_cases hw2 : 10 < (l[j]).length
          · refine RunH.adv tb_ok [false, true] rfl rfl (by simp <;> omega) ?_
            refine RunH.ret2 Tryz.func18 rfl rfl rfl fun w hst => hbad (hno (by simp [okW]; omega)) (fun u h => h.1.1) hst
          · refine RunH.adv tb_ok [false, false] rfl rfl (by simp <;> omega) ?_
            refine RunH.again (j + 1) (.head _) rfl rfl (by omega) fun u h => ⟨h.1, by omega, ?_⟩
            rw [hls, List.all_append, hpj]; simp [okW]; omega
      · have hok : pathOk t = true := by
          rw [List.take_of_length_le (by omega), hlw] at hpj
          simp only [pathOk, hpre, hpj, Bool.and_true, Bool.true_and, decide_eq_true_eq]
          rw [← hlw]; exact h5
        have hpl : pathL t = l := by rw [pathL, if_pos hok, hlw]
        refine RunH.adv tb_ok [false] rfl rfl (by simp <;> omega) ?_
        refine RunH.ret2 Tryz.func18 rfl rfl rfl fun w hst => ⟨(A, c), ?_, ?_⟩
        · rw [hpl, pathE, if_pos hok]; rfl
        · rw [hpl]; exact hst.out [] rfl rfl fun u h => h.1
    · have hno : pathOk t = false := by
        rw [hlw] at h5
        simp [pathOk, h5]
      refine RunH.adv tb_ok [false, true] rfl rfl (by simp <;> omega) ?_
      refine RunH.ret2 Tryz.func18 rfl rfl rfl fun w hst => hbad hno (fun u h => h.1.1) hst
end Go.Proofs.YtagnkcdhenilbaaGreatDoor

namespace Go.Proofs.YtagnkcdhenilbaaGreatDoor
open Go V
theorem sameList_spec (w : World) (A B : Option Addr) (ca cb : Nat) (la lb : List Entry) (ha : Sl kEntry w A ca la) (hb : Sl kEntry w B cb lb) :
    Gives Tryz.prog 87 [.slice A la.length ca, .slice B lb.length cb] w (boolE (decide (la = lb))) := by
  have sa := ha.small
  have hl : lim = 140737488351232 := rfl
  refine enterH tb_ok [(0, slE A la.length ca), (1, slE B lb.length cb)] Tryz.func87 rfl Tryz.ntmps87 rfl rfl ?_
  by_cases hlen : la.length = lb.length
  · refine RunH.adv tb_ok [false] rfl rfl ⟨by simp [Ob.P, hlen], trivial⟩ ?_
    refine RunH.loop (α := Nat) (fun i => [(0, slE A la.length ca), (1, slE B lb.length cb), (13, intE i), (12, intE la.length)]) (fun _ => []) (fun i w' => Ext w w' ∧ i ≤ la.length ∧ la.take i = lb.take i) (fun i => la.length - i) 0
      rfl rfl (fun w' h => ⟨h, Nat.zero_le _, rfl⟩) ?_
    intro i m
    refine RunH.pure (fun w' h => h.2) fun ⟨hi, hpre⟩ => ?_
    by_cases hlt : i < la.length
    · have hltb : i < lb.length := by omega
      refine RunH.adv tb_ok [true] rfl rfl ⟨by simp [Ob.P]; omega, trivial⟩ ?_
      refine RunH.draw rfl [] rfl 9 rfl rfl ?_
      refine RunD.adv tb_ok (by kernel_rfl) [] rfl rfl ⟨hb.ptr hltb, by simp [Ob.P]; omega, ha.ptr hlt, by simp [Ob.P]; omega, trivial⟩ ?_
      refine RunD.load (by kernel_rfl) (i := 3) (.st (entryF la[i])) rfl rfl rfl rfl rfl rfl (fun w' h => (ha.ext h.1).load hlt) ?_
      refine RunD.load (by kernel_rfl) (i := 7) (.st (entryF lb[i])) rfl rfl rfl rfl rfl rfl (fun w' h => (hb.ext h.1).load hltb) ?_
      refine RunD.read (by kernel_rfl) (i := 8) (boolE (!decide (la[i] = lb[i]))) rfl rfl rfl rfl rfl rfl (fun w' a h hag => op_neq hag rfl rfl rfl rfl rfl (by kernel_rfl) (eq_entry w' 9997 _ _)) ?_
      refine RunD.done (.inl rfl) (by kernel_rfl) ?_
      by_cases he : la[i] = lb[i]
      · refine RunH.adv tb_ok [false] rfl rfl ⟨by simp [Ob.P]; omega, by simp [Ob.P, he], trivial⟩ ?_
        refine RunH.again (i + 1) (.head _) rfl rfl (by omega) fun w' h => ⟨h.1, by omega, ?_⟩
        rw [List.take_succ_eq_append_getElem hlt, List.take_succ_eq_append_getElem hltb, hpre, he]
      · refine RunH.adv tb_ok [true] rfl rfl ⟨by simp [Ob.P, he], trivial⟩ ?_
        refine RunH.ret1 Tryz.func87 rfl rfl fun w' hst => ⟨?_, hst.fact.1⟩
        have : la ≠ lb := fun e => he (by subst e; rfl)
        simp [this, EV.v, AV.v]
    · refine RunH.adv tb_ok [false] rfl rfl ⟨by simp [Ob.P]; omega, trivial⟩ ?_
      refine RunH.ret1 Tryz.func87 rfl rfl fun w' hst => ⟨?_, hst.fact.1⟩
      have : la = lb := by
        rw [← List.take_of_length_le (l := la) (i := i) (by omega), hpre, List.take_of_length_le (by omega)]
      simp [this, EV.v, AV.v]
  · refine RunH.adv tb_ok [true] rfl rfl ⟨by simp [Ob.P]; omega, trivial⟩ ?_
    refine RunH.ret1 Tryz.func87 rfl rfl fun w' hst => ⟨?_, hst.fact⟩
    have : la ≠ lb := fun e => hlen (by rw [e])
    simp [this, EV.v, AV.v]
end Go.Proofs.YtagnkcdhenilbaaGreatDoor

namespace Go.Proofs.YtagnkcdhenilbaaGreatDoor
open Go V
theorem r07_paths (w : World) (A : Option Addr) (c : Nat) (l : List Str) (h : Sl kStr w A c l) (hs : ∀ s ∈ l, s.length ≤ 1000000) : Gives Tryz.prog 101 [.slice A l.length c] w (intE (pathsE l)) := by
  have hl : lim = 140737488351232 := rfl
  have hsm := h.small
  refine enterH tb_ok [(0, slE A l.length c)] Tryz.func101 rfl Tryz.ntmps101 rfl rfl ?_
  refine RunH.adv tb_ok [] rfl rfl (by simp <;> omega) ?_
  refine RunH.loop (α := Nat) (fun i => [(7, slE A l.length c), (8, intE l.length), (9, intE i)]) (fun _ => []) (fun i w' => Ext w w' ∧ i ≤ l.length ∧ (l.take i).all pathOk = true) (fun i => l.length - i) 0
    rfl rfl (fun w' h => ⟨h, Nat.zero_le _, rfl⟩) ?_
  intro i m
  refine RunH.pure (fun w' h => h.2) fun ⟨hi, hpre⟩ => ?_
  by_cases hlt : i < l.length
  · have hts : l.take (i + 1) = l.take i ++ [l[i]] := List.take_succ_eq_append_getElem hlt
    refine RunH.adv tb_ok [true] rfl rfl (by simp [h.ptr hlt] <;> omega) ?_
    refine RunH.load (strE l[i]) rfl rfl rfl rfl (fun w' h' => (h.ext h'.1).load hlt) ?_
    refine RunH.adv tb_ok [] rfl rfl (by simp <;> omega) ?_
    refine RunH.does (α := Option Addr × Nat) [] (fun y => .av (.val (.tuple #[.slice y.1 (pathL l[i]).length y.2, intV (pathE l[i])]))) (fun _ => []) [] 0 rfl rfl rfl rfl rfl Tryz.call18 (r07_Path l[i] (hs _ (List.getElem_mem _))) rfl rfl (fun _ _ => trivial) (fun _ => rfl) (fun _ => rfl) (fun _ => rfl) ?_
    rintro ⟨A', c'⟩ m' hm'
    by_cases hok : pathOk l[i] = true
    · have he : pathE l[i] = 0 := if_pos hok
      refine RunH.adv tb_ok [false] rfl rfl (by simp [he] <;> omega) ?_
      refine RunH.again (i + 1) (.head _) rfl rfl (by omega) fun w' h => ⟨h.1.1, by omega, ?_⟩
      rw [hts, List.all_append, hpre]; simp [hok]
    · have he : pathE l[i] = 4 := if_neg hok
      refine RunH.adv tb_ok [true] rfl rfl (by simp [he] <;> omega) ?_
      refine RunH.ret1 Tryz.func101 rfl rfl fun w' hst => ⟨?_, hst.fact.1.1⟩
      rw [he]
      have : l.all pathOk = false := by rw [List.all_eq_false]; exact ⟨_, List.getElem_mem hlt, hok⟩
      simp [pathsE, this]
  · refine RunH.adv tb_ok [false] rfl rfl (by simp <;> omega) ?_
    refine RunH.ret1 Tryz.func101 rfl rfl fun w' hst => ⟨?_, hst.fact.1⟩
    rw [List.take_of_length_le (by omega)] at hpre
    simp [pathsE, hpre]

theorem r07_Same (w : World) (s t : Spc) (hs : s.ok w) (ht : t.ok w) : Gives Tryz.prog 22 [s.ev.v, t.ev.v] w (boolE (decide (s.t.l = t.t.l) && decide (s.y.l = t.y.l))) := by
  refine enterH tb_ok [(0, s.ev), (1, t.ev)] Tryz.func22 rfl Tryz.ntmps22 rfl rfl ?_
  refine RunH.adv tb_ok [] rfl rfl (by simp <;> omega) ?_
  refine RunH.gives (boolE (decide (s.t.l = t.t.l))) rfl rfl rfl rfl rfl Tryz.call87 (fun w' hst => sameList_spec w' _ _ _ _ _ _ (hs.t.ext hst.fact) (ht.t.ext hst.fact)) ?_
  intro m' hm'
  by_cases h1 : s.t.l = t.t.l
  · refine RunH.adv tb_ok [true] rfl rfl (by simp [h1] <;> omega) ?_
    refine RunH.gives (boolE (decide (s.y.l = t.y.l))) rfl rfl rfl rfl rfl Tryz.call87 (fun w' hst => sameList_spec w' _ _ _ _ _ _ (hs.y.ext hst.fact) (ht.y.ext hst.fact)) ?_
    intro m2 hm2
    refine RunH.adv tb_ok [] rfl rfl (by simp <;> omega) ?_
    refine RunH.ret1 Tryz.func22 rfl rfl fun w' hst => ⟨by simp [h1, EV.v, AV.v], hst.fact⟩
  · refine RunH.adv tb_ok [false] rfl rfl (by simp [h1] <;> omega) ?_
    refine RunH.ret1 Tryz.func22 rfl rfl fun w' hst => ⟨by simp [h1, EV.v, AV.v], hst.fact⟩

def Spc.row (s : Spc) (k : Int) : Row Entry := if k = 1 then s.t else s.y
theorem Spc.ok.row {w : World} {s : Spc} (h : s.ok w) (k : Int) : (Spc.row s k).ok kEntry w := by
  unfold Spc.row; split
  · exact h.t
  · exact h.y

theorem r07_Of (w : World) (s : Spc) (k : Int) : Gives Tryz.prog 79 [s.ev.v, intV k] w (.av (Spc.row s k).av) := by
  refine enterH tb_ok [(0, s.ev), (1, intE k)] Tryz.func79 rfl Tryz.ntmps79 rfl rfl ?_
  by_cases h : k = 1
  · refine RunH.adv tb_ok [true] rfl rfl (by simp <;> omega) ?_
    refine RunH.ret1 Tryz.func79 rfl rfl fun w' hst => ⟨by simp [Spc.row, h], hst.fact⟩
  · refine RunH.adv tb_ok [false] rfl rfl (by simp <;> omega) ?_
    refine RunH.ret1 Tryz.func79 rfl rfl fun w' hst => ⟨by simp [Spc.row, h], hst.fact⟩

theorem r07_Great (w : World) (s : Spc) (hs : s.ok w) : Gives Tryz.prog 14 [s.ev.v] w (boolE (bigL s.t.l || bigL s.y.l)) := by
  have hl : lim = 140737488351232 := rfl
  refine enterH tb_ok [(0, s.ev)] Tryz.func14 rfl Tryz.ntmps14 rfl rfl ?_
  refine RunH.adv tb_ok [] rfl rfl (by simp <;> omega) ?_
  refine RunH.loop (α := Nat) (fun k => [(1, .av (.box 0 w.heap.size 0)), (3, intE k)]) (fun _ => [(0, some (.box w.heap.size [s.t.av, s.y.av] 24))]) (fun k w' => Ext w w' ∧ (1 ≤ k ∧ k ≤ 3) ∧ (2 ≤ k → bigL s.t.l = false) ∧ (3 ≤ k → bigL s.y.l = false)) (fun k => 4 - k) 1
    rfl rfl (fun w' h => ⟨h, by decide, by omega, by omega⟩) ?_
  intro k m
  refine RunH.pure (fun w' h => h.2) fun ⟨⟨hk1, hk3⟩, hpt, hpy⟩ => ?_
  by_cases hk : k ≤ 2
  · have hr := fun w' (h : Ext w w') => Spc.ok.row (hs.ext h) (k : Int)
    have hsm := (hr w (Ext.rfl' w)).small
    have hbig : bigL (Spc.row s k).l = true → (bigL s.t.l || bigL s.y.l) = true := by
      unfold Spc.row
      split
      · intro h; rw [h]; rfl
      · intro h; rw [h]; simp
    have hsmall : bigL (Spc.row s k).l = false → (2 ≤ k + 1 → bigL s.t.l = false) ∧ (3 ≤ k + 1 → bigL s.y.l = false) := by
      unfold Spc.row
      intro h
      have : k = 1 ∨ k = 2 := by omega
      rcases this with rfl | rfl
      · exact ⟨fun _ => h, fun h => by omega⟩
      · exact ⟨fun _ => hpt (by omega), fun _ => h⟩
    refine RunH.adv tb_ok [true] rfl rfl (by simp <;> omega) ?_
    refine RunH.gives (.av (Spc.row s k).av) rfl rfl rfl rfl rfl Tryz.call79 (fun w' hst => r07_Of w' s k) ?_
    intro m1 hm1
    by_cases hlen : 310 < (Spc.row s k).l.length
    · refine RunH.adv tb_ok [true] rfl rfl (by simp <;> omega) ?_
      refine RunH.ret1 Tryz.func14 rfl rfl fun w' hst => ⟨by rw [hbig (by simp [bigL, hlen])]; rfl, hst.fact.1⟩
    · refine RunH.adv tb_ok [false] rfl rfl (by simp <;> omega) ?_
      refine RunH.gives (.av (Spc.row s k).av) rfl rfl rfl rfl rfl Tryz.call79 (fun w' hst => r07_Of w' s k) ?_
      intro m2 hm2
      refine RunH.adv tb_ok [] rfl rfl (by simp <;> omega) ?_
      refine RunH.loop (α := Nat) (fun i => [(1, .av (.box 0 w.heap.size 0)), (3, intE k), (17, .av (Spc.row s k).av), (18, intE (Spc.row s k).l.length), (19, intE i)]) (fun _ => [(0, some (.box w.heap.size [s.t.av, s.y.av] 24))])
        (fun i w' => Ext w w' ∧ i ≤ (Spc.row s k).l.length ∧ ((Spc.row s k).l.take i).any bigE = false) (fun i => (Spc.row s k).l.length - i) 0
        rfl rfl (fun w' h => ⟨h.1, Nat.zero_le _, rfl⟩) ?_
      intro i m3
      refine RunH.pure (fun w' h => h.2) fun ⟨hi, hpre⟩ => ?_
      by_cases hlt : i < (Spc.row s k).l.length
      · have hts : (Spc.row s k).l.take (i + 1) = (Spc.row s k).l.take i ++ [(Spc.row s k).l[i]] := List.take_succ_eq_append_getElem hlt
        refine RunH.adv tb_ok [true] rfl rfl (by simp [(hr w (Ext.rfl' w)).ptr hlt] <;> omega) ?_
        refine RunH.load (.st (entryF (Spc.row s k).l[i])) rfl rfl rfl rfl (fun w' h' => (hr w' h'.1).load hlt) ?_
        by_cases hb : 80 < (Spc.row s k).l[i].path.length
        · refine RunH.adv tb_ok [true] rfl rfl (by simp <;> omega) ?_
          refine RunH.ret1 Tryz.func14 rfl rfl fun w' hst => ⟨?_, hst.fact.1⟩
          rw [hbig ?_]
          · rfl
          · have : (Spc.row s k).l.any bigE = true := by rw [List.any_eq_true]; exact ⟨_, List.getElem_mem hlt, by simp [bigE, hb]⟩
            simp [bigL, this]
        · refine RunH.adv tb_ok [false] rfl rfl (by simp <;> omega) ?_
          refine RunH.again (i + 1) (.head _) rfl rfl (by omega) fun w' h => ⟨h.1, by omega, ?_⟩
          rw [hts, List.any_append, hpre]; simp [bigE, hb]
      · rw [List.take_of_length_le (by omega)] at hpre
        have hn := hsmall (by simp [bigL, hlen, hpre])
        refine RunH.adv tb_ok [false] rfl rfl (by simp <;> omega) ?_
        refine RunH.again (k + 1) (.tail _ (.head _)) rfl rfl (by omega) fun w' h => ⟨h.1, by omega, hn⟩
  · refine RunH.adv tb_ok [false] rfl rfl (by simp <;> omega) ?_
    refine RunH.ret1 Tryz.func14 rfl rfl fun w' hst => ⟨by rw [hpt (by omega), hpy (by omega)]; rfl, hst.fact.1⟩

theorem r07_list (w : World) (A : Option Addr) (c : Nat) (l : List Entry) (h : Sl kEntry w A c l) (hs : ∀ x ∈ l, x.path.length ≤ 1000000) : Gives Tryz.prog 86 [.slice A l.length c] w (intE (listE l)) := by
  have hl : lim = 140737488351232 := rfl
  have hsm := h.small
  refine enterH tb_ok [(0, slE A l.length c)] Tryz.func86 rfl Tryz.ntmps86 rfl rfl ?_
  by_cases hbig : 300 < l.length
  · refine RunH.adv tb_ok [true] rfl rfl (by simp <;> omega) ?_
    refine RunH.ret1 Tryz.func86 rfl rfl fun w' hst => ⟨by simp [listE, hbig], hst.fact⟩
  · refine RunH.adv tb_ok [false] rfl rfl (by simp <;> omega) ?_
    refine RunH.loop (α := Nat) (fun i => [(0, slE A l.length c), (10, slE A l.length c), (11, intE l.length), (12, intE i)]) (fun _ => []) (fun i w' => Ext w w' ∧ i ≤ l.length ∧ (l.take i).all goodE = true) (fun i => l.length - i) 0
      rfl rfl (fun w' h => ⟨h, Nat.zero_le _, rfl⟩) ?_
    intro i m
    refine RunH.pure (fun w' h => h.2) fun ⟨hi, hpre⟩ => ?_
    by_cases hlt : i < l.length
    · have hts : l.take (i + 1) = l.take i ++ [l[i]] := List.take_succ_eq_append_getElem hlt
      refine RunH.adv tb_ok [true] rfl rfl (by simp [h.ptr hlt] <;> omega) ?_
      refine RunH.load (.st (entryF l[i])) rfl rfl rfl rfl (fun w' h' => (h.ext h'.1).load hlt) ?_
      refine RunH.adv tb_ok [] rfl rfl (by simp <;> omega) ?_
      refine RunH.gives (intE (pathsE [l[i].path])) rfl rfl rfl rfl rfl Tryz.call101 (fun w' hst => r07_paths w' _ _ [l[i].path] (Sl.own (B := w.heap.size) (hst.row (κ := kStr) (l := [l[i].path]) (id := 1) rfl) (by simp [hl])) (by simpa using hs _ (List.getElem_mem hlt))) ?_
      intro m' hm'
      by_cases hok : pathOk l[i].path = true
      · have he : pathsE [l[i].path] = 0 := by simp [pathsE, hok]
        refine RunH.adv tb_ok [false] rfl rfl (by simp [he] <;> omega) ?_
        refine RunH.again (i + 1) (.head _) rfl rfl (by omega) fun w' h => ⟨h.1, by omega, ?_⟩
        rw [hts, List.all_append, hpre]; simp [goodE, hok]
      · have he : pathsE [l[i].path] = 4 := by simp [pathsE, hok]
        refine RunH.adv tb_ok [true] rfl rfl (by simp [he] <;> omega) ?_
        refine RunH.ret1 Tryz.func86 rfl rfl fun w' hst => ⟨?_, hst.fact.1⟩
        have : l.all goodE = false := by rw [List.all_eq_false]; exact ⟨_, List.getElem_mem hlt, hok⟩
        rw [he]; simp [listE, hbig, this]
    · rw [List.take_of_length_le (by omega)] at hpre
      refine RunH.adv tb_ok [false] rfl rfl (by simp <;> omega) ?_
      refine RunH.loop (α := Nat) (fun i => [(0, slE A l.length c), (6, intE i)]) (fun _ => []) (fun i w' => Ext w w' ∧ 1 ≤ i ∧ ∀ j, j + 1 < i → j + 1 < l.length → leS (pathAt l (j + 1)) (pathAt l j) = false) (fun i => l.length - i) 1
        rfl rfl (fun w' h => ⟨h.1, Nat.le_refl _, by omega⟩) ?_
      intro i m
      refine RunH.pure (fun w' h => h.2) fun ⟨hi, hri⟩ => ?_
      by_cases hlt : i < l.length
      · have hi1 : ((i : Int) - 1).toNat = i - 1 := by omega
        have hp1 := pathAt_eq l i hlt
        have hp2 := pathAt_eq l (i - 1) (by omega)
        have hii : i - 1 + 1 = i := by omega
        refine RunH.adv tb_ok [true] rfl rfl (by simp <;> omega) ?_
        refine RunH.draw rfl [] rfl 12 rfl rfl ?_
        refine RunD.adv tb_ok (by kernel_rfl) [] rfl rfl (by simp [h.ptr hlt] <;> omega) ?_
        refine RunD.load (by kernel_rfl) (i := 4) (strE (pathAt l i)) rfl rfl rfl rfl rfl rfl (fun w' h' => by rw [hp1]; exact (h.ext h'.1).path hlt) ?_
        refine RunD.load (by kernel_rfl) (i := 10) (strE (pathAt l (i - 1))) rfl rfl rfl rfl rfl rfl (fun w' h' => by rw [hp2, hi1]; exact (h.ext h'.1).path (by omega)) ?_
        refine RunD.adv tb_ok (by kernel_rfl) [] rfl rfl (by simp <;> omega) ?_
        refine RunD.done (.inl rfl) (by kernel_rfl) ?_
        by_cases hle : leS (pathAt l i) (pathAt l (i - 1)) = true
        · refine RunH.adv tb_ok [true] rfl rfl ⟨hle, trivial⟩ ?_
          refine RunH.ret1 Tryz.func86 rfl rfl fun w' hst => ⟨?_, hst.fact.1⟩
          have : rises l = false := rises_not (i := i - 1) (by omega) (by rw [hii]; exact hle)
          simp [listE, hbig, hpre, this]
        · have hle : leS (pathAt l i) (pathAt l (i - 1)) = false := by simpa using hle
          refine RunH.adv tb_ok [false] rfl rfl ⟨by simp [Ob.P]; omega, hle, trivial⟩ ?_
          refine RunH.again (i + 1) (.head _) rfl rfl (by omega) fun w' h => ⟨h.1, by omega, fun j hj hjl => ?_⟩
          by_cases hji : j + 1 = i
          · have : j = i - 1 := by omega
            subst this
            rw [hii]; exact hle
          · exact hri j (by omega) hjl
      · refine RunH.adv tb_ok [false] rfl rfl (by simp <;> omega) ?_
        refine RunH.ret1 Tryz.func86 rfl rfl fun w' hst => ⟨?_, hst.fact.1⟩
        have : rises l = true := rises_of fun j hj => hri j (by omega) hj
        simp [listE, hbig, hpre, this]

theorem r07_Check (w : World) (s : Spc) (hs : s.ok w) (h1 : ∀ x ∈ s.t.l, x.path.length ≤ 1000000) (h2 : ∀ x ∈ s.y.l, x.path.length ≤ 1000000) : Gives Tryz.prog 20 [s.ev.v] w (intE (checkE s.t.l s.y.l)) := by
  refine enterH tb_ok [(0, s.ev)] Tryz.func20 rfl Tryz.ntmps20 rfl rfl ?_
  refine RunH.adv tb_ok [] rfl rfl (by simp <;> omega) ?_
  refine RunH.gives (intE (listE s.t.l)) rfl rfl rfl rfl rfl Tryz.call86 (fun w' hst => r07_list w' _ _ _ (hs.t.ext hst.fact) h1) ?_
  intro m hm
  by_cases he : listE s.t.l = 0
  · refine RunH.adv tb_ok [false] rfl rfl (by simp [he] <;> omega) ?_
    refine RunH.gives (intE (listE s.y.l)) rfl rfl rfl rfl rfl Tryz.call86 (fun w' hst => r07_list w' _ _ _ (hs.y.ext hst.fact) h2) ?_
    intro m2 hm2
    refine RunH.adv tb_ok [] rfl rfl (by simp <;> omega) ?_
    refine RunH.ret1 Tryz.func20 rfl rfl fun w' hst => ⟨by simp [checkE, he], hst.fact⟩
  · refine RunH.adv tb_ok [true] rfl rfl (by simp [he] <;> omega) ?_
    refine RunH.ret1 Tryz.func20 rfl rfl fun w' hst => ⟨by simp [checkE, he], hst.fact⟩
end Go.Proofs.YtagnkcdhenilbaaGreatDoor

namespace Go.Proofs.YtagnkcdhenilbaaGreatDoor
open Go V
abbrev spV (s : Spc) (y : (Option Addr × Nat) × (Option Addr × Nat)) : EV := .st [.val (.slice y.1.1 s.t.l.length y.1.2), .val (.slice y.2.1 s.y.l.length y.2.2)]
abbrev spG (s : Spc) (y : (Option Addr × Nat) × (Option Addr × Nat)) : Heap := [(0, rowE kEntry y.1.1 y.1.2 s.t.l), (1, rowE kEntry y.2.1 y.2.2 s.y.l)]

theorem r07_Own (s : Spc) (h1 : s.t.l.length ≤ 1000000) (h2 : s.y.l.length ≤ 1000000) : Does Tryz.prog tb 16 [s.ev.v] [] (fun u => s.ok u) (fun y => (spV s y).v) (spG s) (fun _ _ _ => True) := by
  have hl : lim = 140737488351232 := rfl
  refine Does.enter tb_ok [(0, s.ev)] Tryz.func16 rfl Tryz.ntmps16 rfl rfl 0 ?_
  intro B0 m0 K
  refine RunH.adv tb_ok [] rfl rfl (by simp <;> omega) ?_
  refine RunH.draw rfl [(0, some (.box m0 [s.t.av, s.y.av] 24))] rfl 10 rfl rfl ?_
  refine RunD.adv tb_ok (by kernel_rfl) [] rfl rfl (by simp <;> omega) ?_
  refine RunD.two (i := 0) (j := 4) (by kernel_rfl) ?_ ?_
  · refine opD_step tb_ok (nx := 2) (i := 0) rfl rfl rfl rfl trivial rfl (fun _ h => h) ⟨rfl, rfl⟩ ?_
    refine RunD.two (i := 3) (j := 4) (by kernel_rfl) ?_ ?_
    · refine opD_appendK (nx := 3) (i := 3) (κ := kEntry) (id := 2) (r := s.t.l) (l := []) rfl rfl rfl rfl rfl rfl elt_entry rfl rfl (fun w hst => (hst.fact.2.t).lies) (by simp; omega) (by simp; omega) (fun _ _ => rfl) (fun _ h => h) ?_
      intro A1 c1 m1 hm1
      refine RunD.step tb_ok (i := 4) rfl (by kernel_rfl) rfl rfl rfl trivial rfl (fun _ h => h) ⟨rfl, rfl⟩ ?_
      refine RunD.appendK (i := 7) (κ := kEntry) (id := 3) (r := s.y.l) (l := []) rfl (by kernel_rfl) rfl rfl rfl rfl rfl elt_entry rfl rfl (fun w hst => (hst.fact.2.y).lies) (by simp; omega) (by simp; omega) (fun _ _ => rfl) (fun _ h => h) ?_
      intro A2 c2 m2 hm2
      refine RunD.adv tb_ok (by kernel_rfl) [] rfl rfl (by simp <;> omega) ?_
      refine RunD.step tb_ok (i := 9) rfl (by kernel_rfl) rfl rfl rfl trivial rfl (fun _ h => h) rfl ?_
      refine RunD.done (.inl rfl) (by kernel_rfl) ?_
      refine RunH.adv tb_ok [] rfl rfl (by simp <;> omega) ?_
      exact RunH.retBox tb_ok (.st [.row 2 (.slice A1 s.t.l.length c1), .row 3 (.slice A2 s.y.l.length c2)]) Tryz.func16 rfl rfl rfl rfl fun w hst => ⟨((A1, c1), (A2, c2)), rfl, hst.out [(0, 2), (1, 3)] rfl rfl fun u h => ⟨h.1, trivial⟩⟩
    · refine opD_step tb_ok (nx := 3) (i := 4) rfl rfl rfl rfl trivial rfl (fun _ h => h) ⟨rfl, rfl⟩ ?_
      refine RunD.appendK (i := 3) (κ := kEntry) (id := 2) (r := s.t.l) (l := []) rfl (by kernel_rfl) rfl rfl rfl rfl rfl elt_entry rfl rfl (fun w hst => (hst.fact.2.t).lies) (by simp; omega) (by simp; omega) (fun _ _ => rfl) (fun _ h => h) ?_
      intro A1 c1 m1 hm1
      refine RunD.appendK (i := 7) (κ := kEntry) (id := 3) (r := s.y.l) (l := []) rfl (by kernel_rfl) rfl rfl rfl rfl rfl elt_entry rfl rfl (fun w hst => (hst.fact.2.y).lies) (by simp; omega) (by simp; omega) (fun _ _ => rfl) (fun _ h => h) ?_
      intro A2 c2 m2 hm2
      refine RunD.adv tb_ok (by kernel_rfl) [] rfl rfl (by simp <;> omega) ?_
      refine RunD.step tb_ok (i := 9) rfl (by kernel_rfl) rfl rfl rfl trivial rfl (fun _ h => h) rfl ?_
      refine RunD.done (.inl rfl) (by kernel_rfl) ?_
      refine RunH.adv tb_ok [] rfl rfl (by simp <;> omega) ?_
      exact RunH.retBox tb_ok (.st [.row 2 (.slice A1 s.t.l.length c1), .row 3 (.slice A2 s.y.l.length c2)]) Tryz.func16 rfl rfl rfl rfl fun w hst => ⟨((A1, c1), (A2, c2)), rfl, hst.out [(0, 2), (1, 3)] rfl rfl fun u h => ⟨h.1, trivial⟩⟩
  · refine opD_step tb_ok (nx := 2) (i := 4) rfl rfl rfl rfl trivial rfl (fun _ h => h) ⟨rfl, rfl⟩ ?_
    refine RunD.step tb_ok (i := 0) rfl (by kernel_rfl) rfl rfl rfl trivial rfl (fun _ h => h) ⟨rfl, rfl⟩ ?_
    refine RunD.appendK (i := 3) (κ := kEntry) (id := 3) (r := s.t.l) (l := []) rfl (by kernel_rfl) rfl rfl rfl rfl rfl elt_entry rfl rfl (fun w hst => (hst.fact.2.t).lies) (by simp; omega) (by simp; omega) (fun _ _ => rfl) (fun _ h => h) ?_
    intro A1 c1 m1 hm1
    refine RunD.appendK (i := 7) (κ := kEntry) (id := 2) (r := s.y.l) (l := []) rfl (by kernel_rfl) rfl rfl rfl rfl rfl elt_entry rfl rfl (fun w hst => (hst.fact.2.y).lies) (by simp; omega) (by simp; omega) (fun _ _ => rfl) (fun _ h => h) ?_
    intro A2 c2 m2 hm2
    refine RunD.adv tb_ok (by kernel_rfl) [] rfl rfl (by simp <;> omega) ?_
    refine RunD.step tb_ok (i := 9) rfl (by kernel_rfl) rfl rfl rfl trivial rfl (fun _ h => h) rfl ?_
    refine RunD.done (.inl rfl) (by kernel_rfl) ?_
    refine RunH.adv tb_ok [] rfl rfl (by simp <;> omega) ?_
    exact RunH.retBox tb_ok (.st [.row 3 (.slice A1 s.t.l.length c1), .row 2 (.slice A2 s.y.l.length c2)]) Tryz.func16 rfl rfl rfl rfl fun w hst => ⟨((A1, c1), (A2, c2)), rfl, hst.out [(0, 3), (1, 2)] rfl rfl fun u h => ⟨h.1, trivial⟩⟩
end Go.Proofs.YtagnkcdhenilbaaGreatDoor

/-
Split at dots.
-/
namespace Go.Proofs.YtagnkcdhenilbaaGreatDoor
open Go V

theorem splitK_words : ∀ t : Str, Lib.splitK [46] 0 (Lib.count t [46]) t = words t
  | [] => by
    rw [show Lib.count [] [46] = 0 from Lib.count_miss (by simp [Lib.index])]
    rfl
  | b :: r => by
    have ih := splitK_words r
    by_cases hb : b = 46
    · subst hb
      rw [Lib.count_cons_eq, Nat.add_comm]
      have hix : Lib.index (46 :: r) [46] = 0 := by rw [Lib.index]; simp [List.isPrefixOf]
      unfold Lib.splitK words
      rw [hix, if_neg (by decide), if_pos rfl]
      show List.take 0 _ :: Lib.splitK [46] 0 (Lib.count r [46]) r = _
      rw [ih]; rfl
    · have hp : ([46] : List UInt8).isPrefixOf (b :: r) = false := by simp [List.isPrefixOf, Ne.symm hb]
      have hix : Lib.index (b :: r) [46] = if Lib.index r [46] == -1 then -1 else Lib.index r [46] + 1 := by rw [Lib.index, hp]; simp
      rw [Lib.count_cons_ne b 46 r hb]
      unfold words
      rw [if_neg hb, ← ih]
      by_cases hm : Lib.index r [46] = -1
      · rw [Lib.count_miss hm]; rfl
      · have hge := Lib.index_ge r [46]
        obtain ⟨j, hj⟩ : ∃ j : Nat, Lib.index r [46] = j := ⟨(Lib.index r [46]).toNat, by omega⟩
        have hix' : Lib.index (b :: r) [46] = ((j + 1 : Nat) : Int) := by rw [hix, if_neg (fun e => hm (beq_iff_eq.1 e)), hj]; omega
        rw [Lib.count_hit (by simp) hj, Nat.add_comm]
        unfold Lib.splitK
        rw [hix', hj, if_neg (fun e => by have := beq_iff_eq.1 e; omega), if_neg (fun e => by have := beq_iff_eq.1 e; omega)]
        simp only [Int.toNat_natCast, Nat.add_zero, List.take_succ_cons, List.length_cons, List.length_nil, Nat.zero_add, List.drop_succ_cons]

theorem splitB_words (t : Str) : Lib.splitB ⟨⟨[46]⟩⟩ 0 (Lib.countB ⟨⟨t⟩⟩ ⟨⟨[46]⟩⟩) ⟨⟨t⟩⟩ = (words t).map fun s => (⟨⟨s⟩⟩ : ByteArray) := by
  have h := Lib.splitB_data ⟨⟨[46]⟩⟩ 0 (Lib.countB ⟨⟨t⟩⟩ ⟨⟨[46]⟩⟩) ⟨⟨t⟩⟩
  have h2 : Lib.splitK [46] 0 (Lib.countB ⟨⟨t⟩⟩ ⟨⟨[46]⟩⟩) t = words t := splitK_words t
  have h3 : (Lib.splitB ⟨⟨[46]⟩⟩ 0 (Lib.countB ⟨⟨t⟩⟩ ⟨⟨[46]⟩⟩) ⟨⟨t⟩⟩).map (fun s => s.data.toList) = words t := h.trans h2
  rw [← h3, List.map_map]
  exact (List.map_id'' (fun s => rfl) _).symm

theorem split_count (t : Str) : Lib.countB ⟨⟨t⟩⟩ ⟨⟨[46]⟩⟩ + 1 = (words t).length := by
  have := Lib.splitB_all ⟨⟨[46]⟩⟩ (by decide) 0 _ ⟨⟨t⟩⟩ rfl
  rw [← this, splitB_words, List.length_map]

/-- What stands of the library's variables. -/
def MaxLen (w : World) : Prop := ∃ m, w.cell? ⟨0, 0, none⟩ = some (.int .i64 m)

theorem MaxLen.ext {w w' : World} (h : MaxLen w) (he : Ext w w') : MaxLen w' := by
  obtain ⟨m, hm⟩ := h
  have hlt : 0 < w.heap.size := World.block_lt_of_cell? w ⟨0, 0, none⟩ hm
  exact ⟨m, by rw [← hm]; exact World.cell?_of_block (he.block 0 hlt)⟩

theorem split_dot (t : Str) (ht : t.length ≤ 1000000) : Does Tryz.prog tb 81 [strV t, strV [46]] [] MaxLen (fun y : Option Addr × Nat => .slice y.1 (words t).length y.2) (fun y => [(0, rowE kStr y.1 y.2 (words t))]) (fun _ _ _ => True) := by
  intro B0 w K hst hp
  obtain ⟨m, hm⟩ := hp w hst.fact
  refine (Tryz.strings_Split ⟨⟨t⟩⟩ ⟨⟨[46]⟩⟩ m w (by show t.length < 4294967281; omega) hm (by decide)).mono ?_
  rintro e w' ⟨rfl, rfl⟩
  have hwl := words_len t
  refine ⟨(some ⟨w.heap.size, 0, none⟩, (words t).length), by rw [split_count], ?_⟩
  have hcs : ((Lib.splitB ⟨⟨[46]⟩⟩ 0 (Lib.countB ⟨⟨t⟩⟩ ⟨⟨[46]⟩⟩) ⟨⟨t⟩⟩).map Value.string) = (words t).flatMap kStr.cs := by
    rw [splitB_words, List.map_map]
    generalize words t = l
    induction l with
    | nil => rfl
    | cons x r ih => rw [List.map_cons, List.flatMap_cons, ih]; rfl
  rw [hcs]
  have hown := World.ownsRow_lit (base := B0) (e := kStr.T) (size := 1) w ((words t).flatMap kStr.cs).toArray (words t).length hst.base (by simp only [maxLen]; omega) (by rw [List.size_toArray, kStr.flat_len]; rfl)
  have := hst.push (ext_alloc w (.cells ((words t).flatMap kStr.cs).toArray kStr.T)) 0 (.row (.slice (some ⟨w.heap.size, 0, none⟩) (words t).length (words t).length) kStr.T 1 (words t).length ((words t).flatMap kStr.cs)) hown (fun k hk => by
    have : w.heap.size = k := by injection hk
    omega)
  exact this.mono fun u _ hu => ⟨hu, trivial⟩
end Go.Proofs.YtagnkcdhenilbaaGreatDoor
