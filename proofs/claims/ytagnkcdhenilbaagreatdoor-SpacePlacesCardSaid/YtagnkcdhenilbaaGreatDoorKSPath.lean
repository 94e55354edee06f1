/-
A part of the proofs of the laws of a seat: contracts of functions and lemmas on them; the listed package variables hold what the program's text lays. No further condition.
-/
import Derived.Test.YtagnkcdhenilbaaGreatDoorShelf
import Derived.Lib.SplitLaws
import Derived.Test.YtagnkcdhenilbaaGreatDoorKVData
import Derived.Test.YtagnkcdhenilbaaGreatDoorKVRow
set_option linter.unusedVariables false
set_option linter.unusedSectionVars false
set_option linter.unusedSimpArgs false
/-
Paths: words between dots; no program.
-/
namespace Go.Proofs.YtagnkcdhenilbaaGreatDoor
open V

def low (b : UInt8) : Bool := decide (97 ≤ b.toNat ∧ b.toNat ≤ 122)

def words : Str → List Str
  | [] => [[]]
  | b :: r => if b = 46 then [] :: words r else match words r with
    | [] => [[b]]
    | w :: ws => (b :: w) :: ws

theorem words_ne : ∀ t, words t ≠ []
  | [] => by simp [words]
  | b :: r => by
    unfold words
    split
    · simp
    · split <;> simp

/-- The last one grows. -/
def grow (l : List Str) (b : UInt8) : List Str := l.set (l.length - 1) (l.getD (l.length - 1) [] ++ [b])

def okB (b : UInt8) : Bool := decide (b = 46) || low b
def okW (w : Str) : Bool := decide (1 ≤ w.length ∧ w.length ≤ 10)
def pathOk (t : Str) : Bool := t.all okB && decide ((words t).length ≤ 5) && (words t).all okW

def pathL (t : Str) : List Str := if pathOk t = true then words t else []
def pathE (t : Str) : Int := if pathOk t = true then 0 else 4

theorem words_low : ∀ t, (words t).all (fun w => w.all low) = t.all okB
  | [] => rfl
  | b :: r => by
    have ih := words_low r
    unfold words
    by_cases hb : b = 46
    · rw [if_pos hb, List.all_cons, List.all_cons, ih]; simp [okB, hb]
    · rw [if_neg hb]
      have hne := words_ne r
      cases hw : words r with
      | nil => exact absurd hw hne
      | cons w ws =>
        rw [hw] at ih
        simp only [List.all_cons] at ih ⊢
        rw [← ih]
        simp [okB, hb, Bool.and_assoc]

theorem words_sum : ∀ t, t.length + 1 = ((words t).map (fun w => w.length + 1)).sum
  | [] => rfl
  | b :: r => by
    have ih := words_sum r
    unfold words
    by_cases hb : b = 46
    · rw [if_pos hb, List.map_cons, List.sum_cons, ← ih]; simp; omega
    · rw [if_neg hb]
      have hne := words_ne r
      cases hw : words r with
      | nil => exact absurd hw hne
      | cons w ws =>
        rw [hw] at ih
        simp only [List.map_cons, List.sum_cons, List.length_cons] at ih ⊢
        omega

def wordOk (s : Str) : Bool := s.all low && okW s

theorem all_and {α : Type} (p q : α → Bool) : ∀ l : List α, l.all (fun x => p x && q x) = (l.all p && l.all q)
  | [] => rfl
  | x :: r => by
    simp only [List.all_cons, all_and p q r]
    cases p x <;> cases q x <;> cases r.all p <;> rfl

/-- As the code looks at it. -/
theorem pathOk_words (t : Str) : pathOk t = (decide ((words t).length ≤ 5) && (words t).all wordOk) := by
  unfold pathOk
  rw [show wordOk = fun w => w.all low && okW w from rfl, all_and, words_low]
  cases t.all okB <;> cases decide ((words t).length ≤ 5) <;> simp

theorem sum_le : ∀ (l : List Str) (k : Nat), (∀ w ∈ l, w.length ≤ k) → (l.map (fun w => w.length + 1)).sum ≤ l.length * (k + 1)
  | [], _, _ => by simp
  | w :: r, k, h => by
    have ih := sum_le r k fun x hx => h x (List.mem_cons_of_mem _ hx)
    have := h w (List.mem_cons_self ..)
    simp only [List.map_cons, List.sum_cons, List.length_cons, Nat.succ_mul]
    omega

theorem pathOk_len {t : Str} (h : pathOk t = true) : t.length ≤ 54 := by
  simp only [pathOk, Bool.and_eq_true, decide_eq_true_eq, List.all_eq_true] at h
  obtain ⟨⟨_, h5⟩, hw⟩ := h
  have h1 := sum_le (words t) 10 fun w hw' => by
    have := hw w hw'
    simp only [okW, decide_eq_true_eq] at this
    exact this.2
  have h2 := words_sum t
  have : (words t).length * 11 ≤ 55 := by omega
  omega

theorem words_len : ∀ t, (words t).length ≤ t.length + 1
  | [] => by simp [words]
  | b :: r => by
    have := words_len r
    unfold words
    split
    · simp; exact this
    · split
      · simp
      · rename_i w ws hw
        rw [hw] at this
        simp at this ⊢; omega

theorem words_each : ∀ t, ∀ w ∈ words t, w.length ≤ t.length
  | [], w, h => by simp [words] at h; subst h; simp
  | b :: r, w, h => by
    have ih := words_each r
    unfold words at h
    split at h
    · rcases List.mem_cons.1 h with rfl | h
      · simp
      · have := ih w h; simp; omega
    · split at h
      · simp at h; subst h; simp
      · rename_i x xs hx
        rcases List.mem_cons.1 h with rfl | h
        · have := ih x (by rw [hx]; simp); simp; omega
        · have := ih w (by rw [hx]; simp [h]); simp; omega
end Go.Proofs.YtagnkcdhenilbaaGreatDoor

/-
Namespaces: what is right; no program.
-/
namespace Go.Proofs.YtagnkcdhenilbaaGreatDoor
open V

def pathsE (l : List Str) : Int := if l.all pathOk = true then 0 else 4

def leS (a b : Str) : Bool := Go.Op.bytesLess a b || decide (a = b)

theorem less_irrefl : ∀ a : Str, Go.Op.bytesLess a a = false
  | [] => rfl
  | x :: r => by simp [Go.Op.bytesLess, less_irrefl r]

theorem less_trans : ∀ {a b c : Str}, Go.Op.bytesLess a b = true → Go.Op.bytesLess b c = true → Go.Op.bytesLess a c = true
  | [], [], _, h, _ => by simp [Go.Op.bytesLess] at h
  | _ :: _, [], _, h, _ => by simp [Go.Op.bytesLess] at h
  | [], _ :: _, [], _, h => by simp [Go.Op.bytesLess] at h
  | [], _ :: _, _ :: _, _, _ => rfl
  | _ :: _, _ :: _, [], _, h => by simp [Go.Op.bytesLess] at h
  | x :: a, y :: b, z :: c, h1, h2 => by
    simp only [Go.Op.bytesLess, Bool.or_eq_true, decide_eq_true_eq, Bool.and_eq_true, beq_iff_eq, UInt8.lt_iff_toNat_lt] at h1 h2 ⊢
    rcases h1 with h1 | ⟨rfl, h1⟩
    · rcases h2 with h2 | ⟨rfl, h2⟩
      · exact .inl (by omega)
      · exact .inl h1
    · rcases h2 with h2 | ⟨rfl, h2⟩
      · exact .inl h2
      · exact .inr ⟨rfl, less_trans h1 h2⟩

theorem less_total : ∀ {a b : Str}, Go.Op.bytesLess a b = false → Go.Op.bytesLess b a = false → a = b
  | [], [], _, _ => rfl
  | [], _ :: _, h, _ => by simp [Go.Op.bytesLess] at h
  | _ :: _, [], _, h => by simp [Go.Op.bytesLess] at h
  | x :: a, y :: b, h1, h2 => by
    simp only [Go.Op.bytesLess, Bool.or_eq_false_iff, decide_eq_false_iff_not, Bool.and_eq_false_imp, beq_iff_eq, UInt8.lt_iff_toNat_lt] at h1 h2
    have hxy : x = y := UInt8.toNat_inj.1 (by omega)
    subst hxy
    rw [less_total (h1.2 rfl) (h2.2 rfl)]

theorem leS_false {a b : Str} (h : leS a b = false) : Go.Op.bytesLess b a = true := by
  unfold leS at h
  simp only [Bool.or_eq_false_iff, decide_eq_false_iff_not] at h
  cases hb : Go.Op.bytesLess b a with
  | true => rfl
  | false => exact absurd (less_total h.1 hb) h.2

def zeroE : Entry := ⟨[], Sum.zero⟩
def pathAt (l : List Entry) (i : Nat) : Str := (l.getD i zeroE).path

def rises (l : List Entry) : Bool := (List.range (l.length - 1)).all fun i => !leS (pathAt l (i + 1)) (pathAt l i)

theorem pathAt_eq (l : List Entry) (i : Nat) (h : i < l.length) : pathAt l i = l[i].path := by
  unfold pathAt
  rw [List.getD_eq_getElem?_getD, List.getElem?_eq_getElem h]; rfl

theorem rises_of {l : List Entry} (h : ∀ i, i + 1 < l.length → leS (pathAt l (i + 1)) (pathAt l i) = false) : rises l = true := by
  unfold rises
  rw [List.all_eq_true]
  intro i hi
  rw [List.mem_range] at hi
  rw [h i (by omega)]; rfl

theorem rises_not {l : List Entry} {i : Nat} (hi : i + 1 < l.length) (h : leS (pathAt l (i + 1)) (pathAt l i) = true) : rises l = false := by
  unfold rises
  rw [List.all_eq_false]
  exact ⟨i, by rw [List.mem_range]; omega, by rw [h]; simp⟩

theorem rises_at {l : List Entry} (h : rises l = true) {i : Nat} (hi : i + 1 < l.length) : leS (pathAt l (i + 1)) (pathAt l i) = false := by
  unfold rises at h
  rw [List.all_eq_true] at h
  have := h i (by rw [List.mem_range]; omega)
  simpa using this

theorem rises_lt {l : List Entry} (h : rises l = true) : ∀ {i j : Nat}, i < j → j < l.length → Go.Op.bytesLess (pathAt l i) (pathAt l j) = true := by
  intro i j hij
  induction j with
  | zero => omega
  | succ j ih =>
    intro hj
    have h1 := leS_false (rises_at h hj)
    by_cases e : i = j
    · subst e; exact h1
    · exact less_trans (ih (by omega) (by omega)) h1

def before (t : Str) (x : Entry) : Bool := Go.Op.bytesLess x.path t
/-- Where a path is, or would be. -/
def posOf (l : List Entry) (t : Str) : Nat := (l.takeWhile (before t)).length
def isAt (l : List Entry) (t : Str) : Bool := decide (posOf l t < l.length) && decide (pathAt l (posOf l t) = t)

theorem tw_le {α : Type} (p : α → Bool) (l : List α) : (l.takeWhile p).length ≤ l.length := by
  induction l with
  | nil => simp
  | cons x r ih => rw [List.takeWhile_cons]; split <;> simp; exact ih

theorem tw_lt {α : Type} (p : α → Bool) : ∀ (l : List α) (i : Nat) (h : i < l.length), i < (l.takeWhile p).length → p l[i] = true
  | [], _, h, _ => by cases h
  | x :: r, i, h, hi => by
    rw [List.takeWhile_cons] at hi
    split at hi
    · cases i with
      | zero => assumption
      | succ i => exact tw_lt p r i (by simpa using h) (by simpa using hi)
    · simp at hi

theorem tw_at {α : Type} (p : α → Bool) : ∀ (l : List α) (h : (l.takeWhile p).length < l.length), p (l[(l.takeWhile p).length]'h) = false
  | [], h => by simp at h
  | x :: r, h => by
    by_cases hx : p x = true
    · have e : (List.takeWhile p (x :: r)).length = (r.takeWhile p).length + 1 := by rw [List.takeWhile_cons, if_pos hx]; rfl
      have := tw_at p r (by rw [e] at h; simpa using h)
      simp only [e, List.getElem_cons_succ]
      exact this
    · have e : (List.takeWhile p (x :: r)).length = 0 := by rw [List.takeWhile_cons, if_neg hx]; rfl
      simp only [e, List.getElem_cons_zero]
      simpa using hx

theorem posOf_iff {l : List Entry} (h : rises l = true) (t : Str) (i : Nat) (hi : i < l.length) : Go.Op.bytesLess l[i].path t = true ↔ i < posOf l t := by
  constructor
  · intro hb
    rcases Nat.lt_or_ge i (posOf l t) with h1 | h1
    · exact h1
    · have hp : posOf l t < l.length := by omega
      have h2 := tw_at (before t) l hp
      have h3 : before t (l[posOf l t]) = false := h2
      unfold before at h3
      rcases Nat.eq_or_lt_of_le h1 with e | hlt
      · have : l[posOf l t] = l[i] := by congr 1
        rw [this, hb] at h3; cases h3
      · have h4 := rises_lt h hlt hi
        rw [pathAt_eq l _ hp, pathAt_eq l i hi] at h4
        rw [less_trans h4 hb] at h3; cases h3
  · intro hlt
    exact tw_lt (before t) l i hi hlt

def goodE (x : Entry) : Bool := pathOk x.path
def listE (l : List Entry) : Int := if 300 < l.length then 12 else if l.all goodE = true then (if rises l = true then 0 else 15) else 4
def checkE (t y : List Entry) : Int := if listE t = 0 then listE y else listE t

end Go.Proofs.YtagnkcdhenilbaaGreatDoor

namespace Go.Proofs.YtagnkcdhenilbaaGreatDoor
open Go V
end Go.Proofs.YtagnkcdhenilbaaGreatDoor

namespace Go.Proofs.YtagnkcdhenilbaaGreatDoor
open Go V
end Go.Proofs.YtagnkcdhenilbaaGreatDoor

namespace Go.Proofs.YtagnkcdhenilbaaGreatDoor
open Go V
def Spc.row (s : Spc) (k : Int) : Row Entry := if k = 1 then s.t else s.y
theorem Spc.ok.row {w : World} {s : Spc} (h : s.ok w) (k : Int) : (Spc.row s k).ok kEntry w := by
  unfold Spc.row; split
  · exact h.t
  · exact h.y

end Go.Proofs.YtagnkcdhenilbaaGreatDoor

namespace Go.Proofs.YtagnkcdhenilbaaGreatDoor
open Go V
abbrev spV (s : Spc) (y : (Option Addr × Nat) × (Option Addr × Nat)) : EV := .st [.val (.slice y.1.1 s.t.l.length y.1.2), .val (.slice y.2.1 s.y.l.length y.2.2)]
abbrev spG (s : Spc) (y : (Option Addr × Nat) × (Option Addr × Nat)) : Heap := [(0, rowE kEntry y.1.1 y.1.2 s.t.l), (1, rowE kEntry y.2.1 y.2.2 s.y.l)]

end Go.Proofs.YtagnkcdhenilbaaGreatDoor

/-
Split at dots.
-/
namespace Go.Proofs.YtagnkcdhenilbaaGreatDoor
open Go V

theorem splitK_words : ∀ t : Str, Lib.splitK [46] 0 (Lib.count t [46]) t = words t
  | [] => by
    rw [show Lib.count [] [46] = 0 from Lib.count_miss (by simp [Lib.index])]
    rfl
  | b :: r => by
    have ih := splitK_words r
    by_cases hb : b = 46
    · subst hb
      rw [Lib.count_cons_eq, Nat.add_comm]
      have hix : Lib.index (46 :: r) [46] = 0 := by rw [Lib.index]; simp [List.isPrefixOf]
      unfold Lib.splitK words
      rw [hix, if_neg (by decide), if_pos rfl]
      show List.take 0 _ :: Lib.splitK [46] 0 (Lib.count r [46]) r = _
      rw [ih]; rfl
    · have hp : ([46] : List UInt8).isPrefixOf (b :: r) = false := by simp [List.isPrefixOf, Ne.symm hb]
      have hix : Lib.index (b :: r) [46] = if Lib.index r [46] == -1 then -1 else Lib.index r [46] + 1 := by rw [Lib.index, hp]; simp
      rw [Lib.count_cons_ne b 46 r hb]
      unfold words
      rw [if_neg hb, ← ih]
      by_cases hm : Lib.index r [46] = -1
      · rw [Lib.count_miss hm]; rfl
      · have hge := Lib.index_ge r [46]
        obtain ⟨j, hj⟩ : ∃ j : Nat, Lib.index r [46] = j := ⟨(Lib.index r [46]).toNat, by omega⟩
        have hix' : Lib.index (b :: r) [46] = ((j + 1 : Nat) : Int) := by rw [hix, if_neg (fun e => hm (beq_iff_eq.1 e)), hj]; omega
        rw [Lib.count_hit (by simp) hj, Nat.add_comm]
        unfold Lib.splitK
        rw [hix', hj, if_neg (fun e => by have := beq_iff_eq.1 e; omega), if_neg (fun e => by have := beq_iff_eq.1 e; omega)]
        simp only [Int.toNat_natCast, Nat.add_zero, List.take_succ_cons, List.length_cons, List.length_nil, Nat.zero_add, List.drop_succ_cons]

theorem splitB_words (t : Str) : Lib.splitB ⟨⟨[46]⟩⟩ 0 (Lib.countB ⟨⟨t⟩⟩ ⟨⟨[46]⟩⟩) ⟨⟨t⟩⟩ = (words t).map fun s => (⟨⟨s⟩⟩ : ByteArray) := by
  have h := Lib.splitB_data ⟨⟨[46]⟩⟩ 0 (Lib.countB ⟨⟨t⟩⟩ ⟨⟨[46]⟩⟩) ⟨⟨t⟩⟩
  have h2 : Lib.splitK [46] 0 (Lib.countB ⟨⟨t⟩⟩ ⟨⟨[46]⟩⟩) t = words t := splitK_words t
  have h3 : (Lib.splitB ⟨⟨[46]⟩⟩ 0 (Lib.countB ⟨⟨t⟩⟩ ⟨⟨[46]⟩⟩) ⟨⟨t⟩⟩).map (fun s => s.data.toList) = words t := h.trans h2
  rw [← h3, List.map_map]
  exact (List.map_id'' (fun s => rfl) _).symm

theorem split_count (t : Str) : Lib.countB ⟨⟨t⟩⟩ ⟨⟨[46]⟩⟩ + 1 = (words t).length := by
  have := Lib.splitB_all ⟨⟨[46]⟩⟩ (by decide) 0 _ ⟨⟨t⟩⟩ rfl
  rw [← this, splitB_words, List.length_map]

/-- What stands of the library's variables. -/
def MaxLen (w : World) : Prop := ∃ m, w.cell? ⟨0, 0, none⟩ = some (.int .i64 m)

theorem MaxLen.ext {w w' : World} (h : MaxLen w) (he : Ext w w') : MaxLen w' := by
  obtain ⟨m, hm⟩ := h
  have hlt : 0 < w.heap.size := World.block_lt_of_cell? w ⟨0, 0, none⟩ hm
  exact ⟨m, by rw [← hm]; exact World.cell?_of_block (he.block 0 hlt)⟩

theorem split_dot (t : Str) (ht : t.length ≤ 1000000) : Does Tryz.prog tb 81 [strV t, strV [46]] [] MaxLen (fun y : Option Addr × Nat => .slice y.1 (words t).length y.2) (fun y => [(0, rowE kStr y.1 y.2 (words t))]) (fun _ _ _ => True) := by
  intro B0 w K hst hp
  obtain ⟨m, hm⟩ := hp w hst.fact
  refine (Tryz.strings_Split ⟨⟨t⟩⟩ ⟨⟨[46]⟩⟩ m w (by show t.length < 4294967281; omega) hm (by decide)).mono ?_
  rintro e w' ⟨rfl, rfl⟩
  have hwl := words_len t
  refine ⟨(some ⟨w.heap.size, 0, none⟩, (words t).length), by rw [split_count], ?_⟩
  have hcs : ((Lib.splitB ⟨⟨[46]⟩⟩ 0 (Lib.countB ⟨⟨t⟩⟩ ⟨⟨[46]⟩⟩) ⟨⟨t⟩⟩).map Value.string) = (words t).flatMap kStr.cs := by
    rw [splitB_words, List.map_map]
    generalize words t = l
    induction l with
    | nil => rfl
    | cons x r ih => rw [List.map_cons, List.flatMap_cons, ih]; rfl
  rw [hcs]
  have hown := World.ownsRow_lit (base := B0) (e := kStr.T) (size := 1) w ((words t).flatMap kStr.cs).toArray (words t).length hst.base (by simp only [maxLen]; omega) (by rw [List.size_toArray, kStr.flat_len]; rfl)
  have := hst.push (ext_alloc w (.cells ((words t).flatMap kStr.cs).toArray kStr.T)) 0 (.row (.slice (some ⟨w.heap.size, 0, none⟩) (words t).length (words t).length) kStr.T 1 (words t).length ((words t).flatMap kStr.cs)) hown (fun k hk => by
    have : w.heap.size = k := by injection hk
    omega)
  exact this.mono fun u _ hu => ⟨hu, trivial⟩
end Go.Proofs.YtagnkcdhenilbaaGreatDoor
