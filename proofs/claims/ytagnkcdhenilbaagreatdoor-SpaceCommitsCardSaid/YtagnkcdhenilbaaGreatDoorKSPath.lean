/-
A part of the proofs of the laws of a seat: contracts of functions and lemmas on them; the listed package variables hold what the program's text lays. No further condition.
-/
import Derived.Test.YtagnkcdhenilbaaGreatDoorShelf
import Derived.Lib.SplitLaws
import Derived.Test.YtagnkcdhenilbaaGreatDoorKVData
import Derived.Test.YtagnkcdhenilbaaGreatDoorKVRow
set_option linter.unusedVariables false
set_option linter.unusedSectionVars false
set_option linter.unusedSimpArgs false
/-
Paths: words between dots; no program.
-/
namespace Go.Proofs.YtagnkcdhenilbaaGreatDoor
open V

def low (b : UInt8) : Bool := decide (97 ≤ b.toNat ∧ b.toNat ≤ 122)

def words : Str → List Str
  | [] => [[]]
  | b :: r => if b = 46 then [] :: words r else match words r with
    | [] => [[b]]
    | w :: ws => (b :: w) :: ws

theorem words_ne : ∀ t, words t ≠ []
  | [] => by simp [words]
  | b :: r => by
    unfold words
    split
    · simp
    · split <;> simp

/-- The last one grows. -/
def grow (l : List Str) (b : UInt8) : List Str := l.set (l.length - 1) (l.getD (l.length - 1) [] ++ [b])

def okB (b : UInt8) : Bool := decide (b = 46) || low b
def okW (w : Str) : Bool := decide (1 ≤ w.length ∧ w.length ≤ 10)
def pathOk (t : Str) : Bool := t.all okB && decide ((words t).length ≤ 5) && (words t).all okW

def pathL (t : Str) : List Str := if pathOk t = true then words t else []
def pathE (t : Str) : Int := if pathOk t = true then 0 else 4

theorem words_low : ∀ t, (words t).all (fun w => w.all low) = t.all okB
  | [] => rfl
  | b :: r => by
    have ih := words_low r
    unfold words
    by_cases hb : b = 46
    · rw [if_pos hb, List.all_cons, List.all_cons, ih]; simp [okB, hb]
    · rw [if_neg hb]
      have hne := words_ne r
      cases hw : words r with
      | nil => exact absurd hw hne
      | cons w ws =>
        rw [hw] at ih
        simp only [List.all_cons] at ih ⊢
        rw [← ih]
        simp [okB, hb, Bool.and_assoc]

theorem words_sum : ∀ t, t.length + 1 = ((words t).map (fun w => w.length + 1)).sum
  | [] => rfl
  | b :: r => by
    have ih := words_sum r
    unfold words
    by_cases hb : b = 46
    · rw [if_pos hb, List.map_cons, List.sum_cons, ← ih]; simp; omega
    · rw [if_neg hb]
      have hne := words_ne r
      cases hw : words r with
      | nil => exact absurd hw hne
      | cons w ws =>
        rw [hw] at ih
        simp only [List.map_cons, List.sum_cons, List.length_cons] at ih ⊢
        omega

def wordOk (s : Str) : Bool := s.all low && okW s

theorem all_and {α : Type} (p q : α → Bool) : ∀ l : List α, l.all (fun x => p x && q x) = (l.all p && l.all q)
  | [] => rfl
  | x :: r => by
    simp only [List.all_cons, all_and p q r]
    cases p x <;> cases q x <;> cases r.all p <;> rfl

/-- As the code looks at it. -/
theorem pathOk_words (t : Str) : pathOk t = (decide ((words t).length ≤ 5) && (words t).all wordOk) := by
  unfold pathOk
  rw [show wordOk = fun w => w.all low && okW w from rfl, all_and, words_low]
  cases t.all okB <;> cases decide ((words t).length ≤ 5) <;> simp

theorem sum_le : ∀ (l : List Str) (k : Nat), (∀ w ∈ l, w.length ≤ k) → (l.map (fun w => w.length + 1)).sum ≤ l.length * (k + 1)
  | [], _, _ => by simp
  | w :: r, k, h => by
    have ih := sum_le r k fun x hx => h x (List.mem_cons_of_mem _ hx)
    have := h w (List.mem_cons_self ..)
    simp only [List.map_cons, List.sum_cons, List.length_cons, Nat.succ_mul]
    omega

theorem pathOk_len {t : Str} (h : pathOk t = true) : t.length ≤ 54 := by
  simp only [pathOk, Bool.and_eq_true, decide_eq_true_eq, List.all_eq_true] at h
  obtain ⟨⟨_, h5⟩, hw⟩ := h
  have h1 := sum_le (words t) 10 fun w hw' => by
    have := hw w hw'
    simp only [okW, decide_eq_true_eq] at this
    exact this.2
  have h2 := words_sum t
  have : (words t).length * 11 ≤ 55 := by omega
  omega

theorem words_len : ∀ t, (words t).length ≤ t.length + 1
  | [] => by simp [words]
  | b :: r => by
    have := words_len r
    unfold words
    split
    · simp; exact this
    · split
      · simp
      · rename_i w ws hw
        rw [hw] at this
        simp at this ⊢; omega

theorem words_each : ∀ t, ∀ w ∈ words t, w.length ≤ t.length
  | [], w, h => by simp [words] at h; subst h; simp
  | b :: r, w, h => by
    have ih := words_each r
    unfold words at h
    split at h
    · rcases List.mem_cons.1 h with rfl | h
      · simp
      · have := ih w h; simp; omega
    · split at h
      · simp at h; subst h; simp
      · rename_i x xs hx
        rcases List.mem_cons.1 h with rfl | h
        · have := ih x (by rw [hx]; simp); simp; omega
        · have := ih w (by rw [hx]; simp [h]); simp; omega
end Go.Proofs.YtagnkcdhenilbaaGreatDoor

/-
Namespaces: what is right; no program.
-/
namespace Go.Proofs.YtagnkcdhenilbaaGreatDoor
open V

def pathsE (l : List Str) : Int := if l.all pathOk = true then 0 else 4

def leS (a b : Str) : Bool := Go.Op.bytesLess a b || decide (a = b)

theorem less_irrefl : ∀ a : Str, Go.Op.bytesLess a a = false
  | [] => rfl
  | x :: r => by simp [Go.Op.bytesLess, less_irrefl r]

theorem less_trans : ∀ {a b c : Str}, Go.Op.bytesLess a b = true → Go.Op.bytesLess b c = true → Go.Op.bytesLess a c = true
  | [], [], _, h, _ => by simp [Go.Op.bytesLess] at h
  | _ :: _, [], _, h, _ => by simp [Go.Op.bytesLess] at h
  | [], _ :: _, [], _, h => by simp [Go.Op.bytesLess] at h
  | [], _ :: _, _ :: _, _, _ => rfl
  | _ :: _, _ :: _, [], _, h => by simp [Go.Op.bytesLess] at h
  | x :: a, y :: b, z :: c, h1, h2 => by
    simp only [Go.Op.bytesLess, Bool.or_eq_true, decide_eq_true_eq, Bool.and_eq_true, beq_iff_eq, UInt8.lt_iff_toNat_lt] at h1 h2 ⊢
    rcases h1 with h1 | ⟨rfl, h1⟩
    · rcases h2 with h2 | ⟨rfl, h2⟩
      · exact .inl (by omega)
      · exact .inl h1
    · rcases h2 with h2 | ⟨rfl, h2⟩
      · exact .inl h2
      · exact .inr ⟨rfl, less_trans h1 h2⟩

theorem less_total : ∀ {a b : Str}, Go.Op.bytesLess a b = false → Go.Op.bytesLess b a = false → a = b
  | [], [], _, _ => rfl
  | [], _ :: _, h, _ => by simp [Go.Op.bytesLess] at h
  | _ :: _, [], _, h => by simp [Go.Op.bytesLess] at h
  | x :: a, y :: b, h1, h2 => by
    simp only [Go.Op.bytesLess, Bool.or_eq_false_iff, decide_eq_false_iff_not, Bool.and_eq_false_imp, beq_iff_eq, UInt8.lt_iff_toNat_lt] at h1 h2
    have hxy : x = y := UInt8.toNat_inj.1 (by omega)
    subst hxy
    rw [less_total (h1.2 rfl) (h2.2 rfl)]

theorem leS_false {a b : Str} (h : leS a b = false) : Go.Op.bytesLess b a = true := by
  unfold leS at h
  simp only [Bool.or_eq_false_iff, decide_eq_false_iff_not] at h
  cases hb : Go.Op.bytesLess b a with
  | true => rfl
  | false => exact absurd (less_total h.1 hb) h.2

def zeroE : Entry := ⟨[], Sum.zero⟩
def pathAt (l : List Entry) (i : Nat) : Str := (l.getD i zeroE).path

def rises (l : List Entry) : Bool := (List.range (l.length - 1)).all fun i => !leS (pathAt l (i + 1)) (pathAt l i)

theorem pathAt_eq (l : List Entry) (i : Nat) (h : i < l.length) : pathAt l i = l[i].path := by
  unfold pathAt
  rw [List.getD_eq_getElem?_getD, List.getElem?_eq_getElem h]; rfl

theorem rises_of {l : List Entry} (h : ∀ i, i + 1 < l.length → leS (pathAt l (i + 1)) (pathAt l i) = false) : rises l = true := by
  unfold rises
  rw [List.all_eq_true]
  intro i hi
  rw [List.mem_range] at hi
  rw [h i (by omega)]; rfl

theorem rises_not {l : List Entry} {i : Nat} (hi : i + 1 < l.length) (h : leS (pathAt l (i + 1)) (pathAt l i) = true) : rises l = false := by
  unfold rises
  rw [List.all_eq_false]
  exact ⟨i, by rw [List.mem_range]; omega, by rw [h]; simp⟩

theorem rises_at {l : List Entry} (h : rises l = true) {i : Nat} (hi : i + 1 < l.length) : leS (pathAt l (i + 1)) (pathAt l i) = false := by
  unfold rises at h
  rw [List.all_eq_true] at h
  have := h i (by rw [List.mem_range]; omega)
  simpa using this

theorem rises_lt {l : List Entry} (h : rises l = true) : ∀ {i j : Nat}, i < j → j < l.length → Go.Op.bytesLess (pathAt l i) (pathAt l j) = true := by
  intro i j hij
  induction j with
  | zero => omega
  | succ j ih =>
    intro hj
    have h1 := leS_false (rises_at h hj)
    by_cases e : i = j
    · subst e; exact h1
    · exact less_trans (ih (by omega) (by omega)) h1

def before (t : Str) (x : Entry) : Bool := Go.Op.bytesLess x.path t
/-- Where a path is, or would be. -/
def posOf (l : List Entry) (t : Str) : Nat := (l.takeWhile (before t)).length
def isAt (l : List Entry) (t : Str) : Bool := decide (posOf l t < l.length) && decide (pathAt l (posOf l t) = t)

theorem tw_le {α : Type} (p : α → Bool) (l : List α) : (l.takeWhile p).length ≤ l.length := by
  induction l with
  | nil => simp
  | cons x r ih => rw [List.takeWhile_cons]; split <;> simp; exact ih

theorem tw_lt {α : Type} (p : α → Bool) : ∀ (l : List α) (i : Nat) (h : i < l.length), i < (l.takeWhile p).length → p l[i] = true
  | [], _, h, _ => by cases h
  | x :: r, i, h, hi => by
    rw [List.takeWhile_cons] at hi
    split at hi
    · cases i with
      | zero => assumption
      | succ i => exact tw_lt p r i (by simpa using h) (by simpa using hi)
    · simp at hi

theorem tw_at {α : Type} (p : α → Bool) : ∀ (l : List α) (h : (l.takeWhile p).length < l.length), p (l[(l.takeWhile p).length]'h) = false
  | [], h => by simp at h
  | x :: r, h => by
    by_cases hx : p x = true
    · have e : (List.takeWhile p (x :: r)).length = (r.takeWhile p).length + 1 := by rw [List.takeWhile_cons, if_pos hx]; rfl
      have := tw_at p r (by rw [e] at h; simpa using h)
      simp only [e, List.getElem_cons_succ]
      exact this
    · have e : (List.takeWhile p (x :: r)).length = 0 := by rw [List.takeWhile_cons, if_neg hx]; rfl
      simp only [e, List.getElem_cons_zero]
      simpa using hx

theorem posOf_iff {l : List Entry} (h : rises l = true) (t : Str) (i : Nat) (hi : i < l.length) : Go.Op.bytesLess l[i].path t = true ↔ i < posOf l t := by
  constructor
  · intro hb
    rcases Nat.lt_or_ge i (posOf l t) with h1 | h1
    · exact h1
    · have hp : posOf l t < l.length := by omega
      have h2 := tw_at (before t) l hp
      have h3 : before t (l[posOf l t]) = false := h2
      unfold before at h3
      rcases Nat.eq_or_lt_of_le h1 with e | hlt
      · have : l[posOf l t] = l[i] := by congr 1
        rw [this, hb] at h3; cases h3
      · have h4 := rises_lt h hlt hi
        rw [pathAt_eq l _ hp, pathAt_eq l i hi] at h4
        rw [less_trans h4 hb] at h3; cases h3
  · intro hlt
    exact tw_lt (before t) l i hi hlt

def goodE (x : Entry) : Bool := pathOk x.path
def listE (l : List Entry) : Int := if 300 < l.length then 12 else if l.all goodE = true then (if rises l = true then 0 else 15) else 4
def checkE (t y : List Entry) : Int := if listE t = 0 then listE y else listE t

end Go.Proofs.YtagnkcdhenilbaaGreatDoor

/-
Split at dots.
-/
namespace Go.Proofs.YtagnkcdhenilbaaGreatDoor
open Go V

theorem splitK_words : ∀ t : Str, Lib.splitK [46] 0 (Lib.count t [46]) t = words t
  | [] => by
    rw [show Lib.count [] [46] = 0 from Lib.count_miss (by simp [Lib.index])]
    rfl
  | b :: r => by
    have ih := splitK_words r
    by_cases hb : b = 46
    · subst hb
      rw [Lib.count_cons_eq, Nat.add_comm]
      have hix : Lib.index (46 :: r) [46] = 0 := by rw [Lib.index]; simp [List.isPrefixOf]
      unfold Lib.splitK words
      rw [hix, if_neg (by decide), if_pos rfl]
      show List.take 0 _ :: Lib.splitK [46] 0 (Lib.count r [46]) r = _
      rw [ih]; rfl
    · have hp : ([46] : List UInt8).isPrefixOf (b :: r) = false := by simp [List.isPrefixOf, Ne.symm hb]
      have hix : Lib.index (b :: r) [46] = if Lib.index r [46] == -1 then -1 else Lib.index r [46] + 1 := by rw [Lib.index, hp]; simp
      rw [Lib.count_cons_ne b 46 r hb]
      unfold words
      rw [if_neg hb, ← ih]
      by_cases hm : Lib.index r [46] = -1
      · rw [Lib.count_miss hm]; rfl
      · have hge := Lib.index_ge r [46]
        obtain ⟨j, hj⟩ : ∃ j : Nat, Lib.index r [46] = j := ⟨(Lib.index r [46]).toNat, by omega⟩
        have hix' : Lib.index (b :: r) [46] = ((j + 1 : Nat) : Int) := by rw [hix, if_neg (fun e => hm (beq_iff_eq.1 e)), hj]; omega
        rw [Lib.count_hit (by simp) hj, Nat.add_comm]
        unfold Lib.splitK
        rw [hix', hj, if_neg (fun e => by have := beq_iff_eq.1 e; omega), if_neg (fun e => by have := beq_iff_eq.1 e; omega)]
        simp only [Int.toNat_natCast, Nat.add_zero, List.take_succ_cons, List.length_cons, List.length_nil, Nat.zero_add, List.drop_succ_cons]

theorem splitB_words (t : Str) : Lib.splitB ⟨⟨[46]⟩⟩ 0 (Lib.countB ⟨⟨t⟩⟩ ⟨⟨[46]⟩⟩) ⟨⟨t⟩⟩ = (words t).map fun s => (⟨⟨s⟩⟩ : ByteArray) := by
  have h := Lib.splitB_data ⟨⟨[46]⟩⟩ 0 (Lib.countB ⟨⟨t⟩⟩ ⟨⟨[46]⟩⟩) ⟨⟨t⟩⟩
  have h2 : Lib.splitK [46] 0 (Lib.countB ⟨⟨t⟩⟩ ⟨⟨[46]⟩⟩) t = words t := splitK_words t
  have h3 : (Lib.splitB ⟨⟨[46]⟩⟩ 0 (Lib.countB ⟨⟨t⟩⟩ ⟨⟨[46]⟩⟩) ⟨⟨t⟩⟩).map (fun s => s.data.toList) = words t := h.trans h2
  rw [← h3, List.map_map]
  exact (List.map_id'' (fun s => rfl) _).symm

theorem split_count (t : Str) : Lib.countB ⟨⟨t⟩⟩ ⟨⟨[46]⟩⟩ + 1 = (words t).length := by
  have := Lib.splitB_all ⟨⟨[46]⟩⟩ (by decide) 0 _ ⟨⟨t⟩⟩ rfl
  rw [← this, splitB_words, List.length_map]

/-- What stands of the library's variables. -/
def MaxLen (w : World) : Prop := ∃ m, w.cell? ⟨0, 0, none⟩ = some (.int .i64 m)

theorem MaxLen.ext {w w' : World} (h : MaxLen w) (he : Ext w w') : MaxLen w' := by
  obtain ⟨m, hm⟩ := h
  have hlt : 0 < w.heap.size := World.block_lt_of_cell? w ⟨0, 0, none⟩ hm
  exact ⟨m, by rw [← hm]; exact World.cell?_of_block (he.block 0 hlt)⟩

theorem split_dot (t : Str) (ht : t.length ≤ 1000000) : Does Tryz.prog tb 81 [strV t, strV [46]] [] MaxLen (fun y : Option Addr × Nat => .slice y.1 (words t).length y.2) (fun y => [(0, rowE kStr y.1 y.2 (words t))]) (fun _ _ _ => True) := by
  intro B0 w K hst hp
  obtain ⟨m, hm⟩ := hp w hst.fact
  refine (Tryz.strings_Split ⟨⟨t⟩⟩ ⟨⟨[46]⟩⟩ m w (by show t.length < 4294967281; omega) hm (by decide)).mono ?_
  rintro e w' ⟨rfl, rfl⟩
  have hwl := words_len t
  refine ⟨(some ⟨w.heap.size, 0, none⟩, (words t).length), by rw [split_count], ?_⟩
  have hcs : ((Lib.splitB ⟨⟨[46]⟩⟩ 0 (Lib.countB ⟨⟨t⟩⟩ ⟨⟨[46]⟩⟩) ⟨⟨t⟩⟩).map Value.string) = (words t).flatMap kStr.cs := by
    rw [splitB_words, List.map_map]
    generalize words t = l
    induction l with
    | nil => rfl
    | cons x r ih => rw [List.map_cons, List.flatMap_cons, ih]; rfl
  rw [hcs]
  have hown := World.ownsRow_lit (base := B0) (e := kStr.T) (size := 1) w ((words t).flatMap kStr.cs).toArray (words t).length hst.base (by simp only [maxLen]; omega) (by rw [List.size_toArray, kStr.flat_len]; rfl)
  have := hst.push (ext_alloc w (.cells ((words t).flatMap kStr.cs).toArray kStr.T)) 0 (.row (.slice (some ⟨w.heap.size, 0, none⟩) (words t).length (words t).length) kStr.T 1 (words t).length ((words t).flatMap kStr.cs)) hown (fun k hk => by
    have : w.heap.size = k := by injection hk
    omega)
  exact this.mono fun u _ hu => ⟨hu, trivial⟩
end Go.Proofs.YtagnkcdhenilbaaGreatDoor

namespace Go.Proofs.YtagnkcdhenilbaaGreatDoor
open Go V
theorem word_spec (w : World) (s : Str) (hs : s.length ≤ 1000000) : Gives Tryz.prog 84 [strV s] w (boolE (wordOk s)) := by
  refine enterH tb_ok [(0, strE s)] Tryz.func84 rfl Tryz.ntmps84 rfl rfl ?_
  refine RunH.adv tb_ok [] rfl rfl (by simp <;> omega) ?_
  refine RunH.range 0 1 tb_ok rfl rfl rfl rfl rfl ?_
  intro m1 hm1
  refine RunH.adv tb_ok [] rfl rfl (by simp <;> omega) ?_
  refine RunH.loop (α := Nat) (fun _ => [(0, strE s), (6, .av (.box 0 w.heap.size 0))]) (fun p => [(0, some (.obj w.heap.size (.stringIter ⟨⟨s⟩⟩ p)))]) (fun p w' => Ext w w' ∧ p ≤ s.length ∧ (s.take p).all low = true) (fun p => s.length - p) 0
    rfl rfl (fun w' h => ⟨h, Nat.zero_le _, rfl⟩) ?_
  intro p m
  refine RunH.pure (fun w' h => h.2) fun ⟨hp, hpre⟩ => ?_
  have hsz : (ByteArray.mk ⟨s⟩).size = s.length := rfl
  by_cases hlt : p < s.length
  · have hts : s.take (p + 1) = s.take p ++ [s[p]] := List.take_succ_eq_append_getElem hlt
    have hbad : low s[p] = false → wordOk s = false := fun h => by
      have : s.all low = false := by rw [List.all_eq_false]; exact ⟨_, List.getElem_mem hlt, by simp [h]⟩
      simp [wordOk, this]
    refine RunH.adv tb_ok [] rfl rfl (by simp <;> omega) ?_
    by_cases ha : s[p].toNat < 128
    · have hdec : Utf8.decode ⟨⟨s⟩⟩ p = (s[p].toNat, 1) := decode_ascii ⟨⟨s⟩⟩ p hlt ha
      refine RunH.next rfl rfl rfl rfl rfl hlt hdec ?_
      intro m' hm'
      by_cases h1 : s[p].toNat < 97
      · refine RunH.adv tb_ok [true, true] rfl rfl (by simp <;> omega) ?_
        refine RunH.ret1 Tryz.func84 rfl rfl fun w' hst => ⟨by rw [hbad (by simp [low]; omega)]; rfl, hst.fact.1⟩
      · by_cases h2 : 122 < s[p].toNat
        · refine RunH.adv tb_ok [true, false, true] rfl rfl (by simp <;> omega) ?_
          refine RunH.ret1 Tryz.func84 rfl rfl fun w' hst => ⟨by rw [hbad (by simp [low]; omega)]; rfl, hst.fact.1⟩
        · refine RunH.adv tb_ok [true, false, false] rfl rfl (by simp <;> omega) ?_
          refine RunH.again (p + 1) (.head _) rfl rfl (by omega) fun w' h => ⟨h.1, by omega, ?_⟩
          rw [hts, List.all_append, hpre]; simp [low]; omega
    · have hdec := decode_high ⟨⟨s⟩⟩ p hlt (by show 128 ≤ s[p].toNat; omega)
      have hle := decode_le ⟨⟨s⟩⟩ p
      refine RunH.next (r := (Utf8.decode ⟨⟨s⟩⟩ p).1) (q := (Utf8.decode ⟨⟨s⟩⟩ p).2) rfl rfl rfl rfl rfl hlt rfl ?_
      intro m' hm'
      refine RunH.adv tb_ok [true, false, true] rfl rfl (by simp <;> omega) ?_
      refine RunH.ret1 Tryz.func84 rfl rfl fun w' hst => ⟨by rw [hbad (by simp [low]; omega)]; rfl, hst.fact.1⟩
  · rw [List.take_of_length_le (by omega)] at hpre
    refine RunH.adv tb_ok [] rfl rfl (by simp <;> omega) ?_
    refine RunH.nextEnd rfl rfl rfl rfl rfl hlt ?_
    intro m' hm'
    by_cases h1 : 1 ≤ s.length
    · refine RunH.adv tb_ok [false, true] rfl rfl (by simp <;> omega) ?_
      refine RunH.ret1 Tryz.func84 rfl rfl fun w' hst => ⟨?_, hst.fact.1⟩
      simp [wordOk, hpre, okW, h1, EV.v, AV.v]
      omega
    · refine RunH.adv tb_ok [false, false] rfl rfl (by simp <;> omega) ?_
      refine RunH.ret1 Tryz.func84 rfl rfl fun w' hst => ⟨?_, hst.fact.1⟩
      simp [wordOk, okW, h1, EV.v, AV.v]

theorem equalE_spec (w : World) (A B : Option Addr) (ca cb : Nat) (la lb : List Entry) (ha : Sl kEntry w A ca la) (hb : Sl kEntry w B cb lb) :
    Gives Tryz.prog 28 [.slice A la.length ca, .slice B lb.length cb] w (boolE (decide (la = lb))) := by
  have sa := ha.small
  have hl : lim = 140737488351232 := rfl
  refine enterH tb_ok [(0, slE A la.length ca), (1, slE B lb.length cb)] Tryz.func28 rfl Tryz.ntmps28 rfl rfl ?_
  by_cases hlen : la.length = lb.length
  · refine RunH.adv tb_ok [false] rfl rfl (by simp [hlen] <;> omega) ?_
    refine RunH.loop (α := Nat) (fun i => [(0, slE A la.length ca), (1, slE B lb.length cb), (13, intE i), (12, intE la.length)]) (fun _ => []) (fun i w' => Ext w w' ∧ i ≤ la.length ∧ la.take i = lb.take i) (fun i => la.length - i) 0
      rfl rfl (fun w' h => ⟨h, Nat.zero_le _, rfl⟩) ?_
    intro i m
    refine RunH.pure (fun w' h => h.2) fun ⟨hi, hpre⟩ => ?_
    by_cases hlt : i < la.length
    · have hltb : i < lb.length := by omega
      refine RunH.adv tb_ok [true] rfl rfl (by simp <;> omega) ?_
      refine RunH.draw rfl [] rfl 9 rfl rfl ?_
      refine RunD.adv tb_ok (by kernel_rfl) [] rfl rfl (by simp [ha.ptr hlt, hb.ptr hltb] <;> omega) ?_
      refine RunD.load (by kernel_rfl) (i := 3) (.st (entryF la[i])) rfl rfl rfl rfl rfl rfl (fun w' h => (ha.ext h.1).load hlt) ?_
      refine RunD.load (by kernel_rfl) (i := 7) (.st (entryF lb[i])) rfl rfl rfl rfl rfl rfl (fun w' h => (hb.ext h.1).load hltb) ?_
      refine RunD.read (by kernel_rfl) (i := 8) (boolE (!decide (la[i] = lb[i]))) rfl rfl rfl rfl rfl rfl (fun w' a h hag => op_neq hag rfl rfl rfl rfl rfl (by kernel_rfl) (eq_entry w' 9997 _ _)) ?_
      refine RunD.done (.inl rfl) (by kernel_rfl) ?_
      by_cases he : la[i] = lb[i]
      · refine RunH.adv tb_ok [false] rfl rfl (by simp [he] <;> omega) ?_
        refine RunH.again (i + 1) (.head _) rfl rfl (by omega) fun w' h => ⟨h.1, by omega, ?_⟩
        rw [List.take_succ_eq_append_getElem hlt, List.take_succ_eq_append_getElem hltb, hpre, he]
      · refine RunH.adv tb_ok [true] rfl rfl (by simp [he] <;> omega) ?_
        refine RunH.ret1 Tryz.func28 rfl rfl fun w' hst => ⟨?_, hst.fact.1⟩
        have : la ≠ lb := fun e => he (by subst e; rfl)
        simp [this, EV.v, AV.v]
    · refine RunH.adv tb_ok [false] rfl rfl (by simp <;> omega) ?_
      refine RunH.ret1 Tryz.func28 rfl rfl fun w' hst => ⟨?_, hst.fact.1⟩
      have : la = lb := by
        rw [← List.take_of_length_le (l := la) (i := i) (by omega), hpre, List.take_of_length_le (by omega)]
      simp [this, EV.v, AV.v]
  · refine RunH.adv tb_ok [true] rfl rfl (by simp [hlen] <;> omega) ?_
    refine RunH.ret1 Tryz.func28 rfl rfl fun w' hst => ⟨?_, hst.fact⟩
    have : la ≠ lb := fun e => hlen (by rw [e])
    simp [this, EV.v, AV.v]

theorem equalD_spec (w : World) (A B : Option Addr) (ca cb : Nat) (la lb : List Sum) (ha : Sl kSum w A ca la) (hb : Sl kSum w B cb lb) :
    Gives Tryz.prog 62 [.slice A la.length ca, .slice B lb.length cb] w (boolE (decide (la = lb))) := by
  have sa := ha.small
  have hl : lim = 140737488351232 := rfl
  refine enterH tb_ok [(0, slE A la.length ca), (1, slE B lb.length cb)] Tryz.func62 rfl Tryz.ntmps62 rfl rfl ?_
  by_cases hlen : la.length = lb.length
  · refine RunH.adv tb_ok [false] rfl rfl (by simp [hlen] <;> omega) ?_
    refine RunH.loop (α := Nat) (fun i => [(0, slE A la.length ca), (1, slE B lb.length cb), (13, intE i), (12, intE la.length)]) (fun _ => []) (fun i w' => Ext w w' ∧ i ≤ la.length ∧ la.take i = lb.take i) (fun i => la.length - i) 0
      rfl rfl (fun w' h => ⟨h, Nat.zero_le _, rfl⟩) ?_
    intro i m
    refine RunH.pure (fun w' h => h.2) fun ⟨hi, hpre⟩ => ?_
    by_cases hlt : i < la.length
    · have hltb : i < lb.length := by omega
      refine RunH.adv tb_ok [true] rfl rfl (by simp <;> omega) ?_
      refine RunH.draw rfl [] rfl 9 rfl rfl ?_
      refine RunD.adv tb_ok (by kernel_rfl) [] rfl rfl (by simp [ha.ptr hlt, hb.ptr hltb] <;> omega) ?_
      refine RunD.load (by kernel_rfl) (i := 3) (sumE la[i]) rfl rfl rfl rfl rfl rfl (fun w' h => (ha.ext h.1).load hlt) ?_
      refine RunD.load (by kernel_rfl) (i := 7) (sumE lb[i]) rfl rfl rfl rfl rfl rfl (fun w' h => (hb.ext h.1).load hltb) ?_
      refine RunD.read (by kernel_rfl) (i := 8) (boolE (!decide (la[i] = lb[i]))) rfl rfl rfl rfl rfl rfl (fun w' a h hag => op_neq hag rfl rfl rfl rfl rfl (by kernel_rfl) (eq_sum w' 9998 _ _)) ?_
      refine RunD.done (.inl rfl) (by kernel_rfl) ?_
      by_cases he : la[i] = lb[i]
      · refine RunH.adv tb_ok [false] rfl rfl (by simp [he] <;> omega) ?_
        refine RunH.again (i + 1) (.head _) rfl rfl (by omega) fun w' h => ⟨h.1, by omega, ?_⟩
        rw [List.take_succ_eq_append_getElem hlt, List.take_succ_eq_append_getElem hltb, hpre, he]
      · refine RunH.adv tb_ok [true] rfl rfl (by simp [he] <;> omega) ?_
        refine RunH.ret1 Tryz.func62 rfl rfl fun w' hst => ⟨?_, hst.fact.1⟩
        have : la ≠ lb := fun e => he (by subst e; rfl)
        simp [this, EV.v, AV.v]
    · refine RunH.adv tb_ok [false] rfl rfl (by simp <;> omega) ?_
      refine RunH.ret1 Tryz.func62 rfl rfl fun w' hst => ⟨?_, hst.fact.1⟩
      have : la = lb := by
        rw [← List.take_of_length_le (l := la) (i := i) (by omega), hpre, List.take_of_length_le (by omega)]
      simp [this, EV.v, AV.v]
  · refine RunH.adv tb_ok [true] rfl rfl (by simp [hlen] <;> omega) ?_
    refine RunH.ret1 Tryz.func62 rfl rfl fun w' hst => ⟨?_, hst.fact⟩
    have : la ≠ lb := fun e => hlen (by rw [e])
    simp [this, EV.v, AV.v]

theorem space_Same (w : World) (s t : Spc) (hs : s.ok w) (ht : t.ok w) : Gives Tryz.prog 21 [s.ev.v, t.ev.v] w (boolE (decide (s.t.l = t.t.l) && decide (s.y.l = t.y.l))) := by
  refine enterH tb_ok [(0, s.ev), (1, t.ev)] Tryz.func21 rfl Tryz.ntmps21 rfl rfl ?_
  refine RunH.adv tb_ok [] rfl rfl (by simp <;> omega) ?_
  refine RunH.gives (boolE (decide (s.t.l = t.t.l))) rfl rfl rfl rfl rfl Tryz.call28 (fun w' hst => equalE_spec w' _ _ _ _ _ _ (hs.t.ext hst.fact) (ht.t.ext hst.fact)) ?_
  intro m' hm'
  by_cases h1 : s.t.l = t.t.l
  · refine RunH.adv tb_ok [true] rfl rfl (by simp [h1] <;> omega) ?_
    refine RunH.gives (boolE (decide (s.y.l = t.y.l))) rfl rfl rfl rfl rfl Tryz.call28 (fun w' hst => equalE_spec w' _ _ _ _ _ _ (hs.y.ext hst.fact) (ht.y.ext hst.fact)) ?_
    intro m2 hm2
    refine RunH.adv tb_ok [] rfl rfl (by simp <;> omega) ?_
    refine RunH.ret1 Tryz.func21 rfl rfl fun w' hst => ⟨by simp [h1, EV.v, AV.v], hst.fact⟩
  · refine RunH.adv tb_ok [false] rfl rfl (by simp [h1] <;> omega) ?_
    refine RunH.ret1 Tryz.func21 rfl rfl fun w' hst => ⟨by simp [h1, EV.v, AV.v], hst.fact⟩

theorem Path1_spec (w : World) (s : Str) (hs : s.length ≤ 1000000) : Gives Tryz.prog 83 [strV s] w (boolE (!wordOk s)) := by
  refine enterH tb_ok [(0, strE s)] Tryz.func83 rfl Tryz.ntmps83 rfl rfl ?_
  refine RunH.adv tb_ok [] rfl rfl (by simp <;> omega) ?_
  refine RunH.gives (boolE (wordOk s)) rfl rfl rfl rfl rfl Tryz.call84 (fun w' _ => word_spec w' s hs) ?_
  intro m hm
  refine RunH.adv tb_ok [] rfl rfl (by simp <;> omega) ?_
  refine RunH.ret1 Tryz.func83 rfl rfl fun w' hst => ⟨rfl, hst.fact⟩

/-- The index of the first one. -/
def idxOf {α : Type} (p : α → Bool) : List α → Nat → Int
  | [], _ => -1
  | x :: r, i => if p x = true then i else idxOf p r (i + 1)

theorem idxOf_ge {α : Type} (p : α → Bool) : ∀ (l : List α) (i : Nat), 0 ≤ idxOf p l i ↔ l.any p = true
  | [], i => by simp [idxOf]
  | x :: r, i => by
    unfold idxOf
    by_cases h : p x = true
    · simp [h]
    · simp [h, idxOf_ge p r]

theorem idxOf_none {α : Type} (p : α → Bool) : ∀ (l : List α) (i : Nat), l.any p = false → idxOf p l i = -1
  | [], i, _ => rfl
  | x :: r, i, h => by
    simp only [List.any_cons, Bool.or_eq_false_iff] at h
    unfold idxOf
    rw [if_neg (by simp [h.1]), idxOf_none p r (i + 1) h.2]

theorem idxOf_at {α : Type} (p : α → Bool) : ∀ (l : List α) (i k : Nat) (h : k < l.length), (l.take k).any p = false → p l[k] = true → idxOf p l i = (i + k : Nat)
  | [], _, _, h, _, _ => by cases h
  | x :: r, i, 0, _, _, h => by
    have h : p x = true := h
    unfold idxOf; rw [if_pos h]; rfl
  | x :: r, i, k + 1, hk, hn, h => by
    simp only [List.take_succ_cons, List.any_cons, Bool.or_eq_false_iff] at hn
    unfold idxOf
    rw [if_neg (by simp [hn.1]), idxOf_at p r (i + 1) k (by simpa using hk) hn.2 (by simpa using h)]
    congr 1; omega

/-- A function that says yes or no. -/
structure Fun1 {α : Type} (κ : Kd α) (w : World) (g : FuncId) (f1 c1 : List Value) (l : List α) (p : α → Bool) : Prop where
  enter : ∀ (xs : Array Value) w, (callFunc g xs).run Tryz.prog w = .ok (.enter g xs) w
  says : ∀ x ∈ l, ∀ u, Ext w u → Gives Tryz.prog g (f1 ++ [(κ.ev x).v] ++ c1) u (boolE (p x))

theorem Fun1.ext {α : Type} {κ : Kd α} {w w' : World} {g : FuncId} {f1 c1 : List Value} {l : List α} {p : α → Bool} (h : Fun1 κ w g f1 c1 l p) (he : Ext w w') : Fun1 κ w' g f1 c1 l p :=
  ⟨h.enter, fun x hx u hu => h.says x hx u (he.trans' hu)⟩

theorem idxFuncS (w : World) (A : Option Addr) (c : Nat) (l : List Str) (h : Sl kStr w A c l) (g : FuncId) (f1 c1 : List Value) (p : Str → Bool) (hf : Fun1 kStr w g f1 c1 l p) :
    Gives Tryz.prog 148 [.slice A l.length c, .func (.func g) f1.toArray c1.toArray] w (intE (idxOf p l 0)) := by
  have hl : lim = 140737488351232 := rfl
  have hsm := h.small
  refine enterH tb_ok [(0, slE A l.length c), (1, .av (.val (.func (.func g) f1.toArray c1.toArray)))] Tryz.func148 rfl Tryz.ntmps148 rfl rfl ?_
  refine RunH.adv tb_ok [] rfl rfl (by simp <;> omega) ?_
  refine RunH.loop (α := Nat) (fun i => [(0, slE A l.length c), (1, .av (.val (.func (.func g) f1.toArray c1.toArray))), (7, intE l.length), (8, intE i)]) (fun _ => []) (fun i w' => Ext w w' ∧ i ≤ l.length ∧ (l.take i).any p = false) (fun i => l.length - i) 0
    rfl rfl (fun w' h => ⟨h, Nat.zero_le _, rfl⟩) ?_
  intro i m
  refine RunH.pure (fun w' h => h.2) fun ⟨hi, hpre⟩ => ?_
  by_cases hlt : i < l.length
  · have hts : l.take (i + 1) = l.take i ++ [l[i]] := List.take_succ_eq_append_getElem hlt
    refine RunH.adv tb_ok [true] rfl rfl (by simp [h.ptr hlt] <;> omega) ?_
    refine RunH.load (strE l[i]) rfl rfl rfl rfl (fun w' h' => (h.ext h'.1).load hlt) ?_
    refine RunH.gives (g := g) (f1 := f1) (c1 := c1) (boolE (p l[i])) rfl rfl rfl rfl rfl hf.enter (fun w' hst => hf.says _ (List.getElem_mem hlt) w' hst.fact.1) ?_
    intro m' hm'
    by_cases hp : p l[i] = true
    · refine RunH.adv tb_ok [true] rfl rfl (by simp [hp] <;> omega) ?_
      refine RunH.ret1 Tryz.func148 rfl rfl fun w' hst => ⟨?_, hst.fact.1⟩
      rw [idxOf_at p l 0 i hlt hpre hp, Nat.zero_add]
    · refine RunH.adv tb_ok [false] rfl rfl (by simp [hp] <;> omega) ?_
      refine RunH.again (i + 1) (.head _) rfl rfl (by omega) fun w' h => ⟨h.1, by omega, ?_⟩
      rw [hts, List.any_append, hpre]; simp [hp]
  · rw [List.take_of_length_le (by omega)] at hpre
    refine RunH.adv tb_ok [false] rfl rfl (by simp <;> omega) ?_
    refine RunH.ret1 Tryz.func148 rfl rfl fun w' hst => ⟨?_, hst.fact.1⟩
    rw [idxOf_none p l 0 hpre]

theorem containsFuncS (w : World) (A : Option Addr) (c : Nat) (l : List Str) (h : Sl kStr w A c l) (g : FuncId) (f1 c1 : List Value) (p : Str → Bool) (hf : Fun1 kStr w g f1 c1 l p) :
    Gives Tryz.prog 82 [.slice A l.length c, .func (.func g) f1.toArray c1.toArray] w (boolE (l.any p)) := by
  refine enterH tb_ok [(0, slE A l.length c), (1, .av (.val (.func (.func g) f1.toArray c1.toArray)))] Tryz.func82 rfl Tryz.ntmps82 rfl rfl ?_
  refine RunH.adv tb_ok [] rfl rfl (by simp <;> omega) ?_
  refine RunH.gives (intE (idxOf p l 0)) rfl rfl rfl rfl rfl Tryz.call148 (fun w' hst => idxFuncS w' A c l (h.ext hst.fact) g f1 c1 p (hf.ext hst.fact)) ?_
  intro m' hm'
  refine RunH.adv tb_ok [] rfl rfl (by simp <;> omega) ?_
  refine RunH.ret1 Tryz.func82 rfl rfl fun w' hst => ⟨?_, hst.fact⟩
  have : decide (0 ≤ idxOf p l 0) = l.any p := by rw [Bool.eq_iff_iff]; simp only [decide_eq_true_eq]; exact idxOf_ge p l 0
  simp [this, EV.v, AV.v]

theorem idxFuncD (w : World) (A : Option Addr) (c : Nat) (l : List Sum) (h : Sl kSum w A c l) (g : FuncId) (f1 c1 : List Value) (p : Sum → Bool) (hf : Fun1 kSum w g f1 c1 l p) :
    Gives Tryz.prog 169 [.slice A l.length c, .func (.func g) f1.toArray c1.toArray] w (intE (idxOf p l 0)) := by
  have hl : lim = 140737488351232 := rfl
  have hsm := h.small
  refine enterH tb_ok [(0, slE A l.length c), (1, .av (.val (.func (.func g) f1.toArray c1.toArray)))] Tryz.func169 rfl Tryz.ntmps169 rfl rfl ?_
  refine RunH.adv tb_ok [] rfl rfl (by simp <;> omega) ?_
  refine RunH.loop (α := Nat) (fun i => [(0, slE A l.length c), (1, .av (.val (.func (.func g) f1.toArray c1.toArray))), (7, intE l.length), (8, intE i)]) (fun _ => []) (fun i w' => Ext w w' ∧ i ≤ l.length ∧ (l.take i).any p = false) (fun i => l.length - i) 0
    rfl rfl (fun w' h => ⟨h, Nat.zero_le _, rfl⟩) ?_
  intro i m
  refine RunH.pure (fun w' h => h.2) fun ⟨hi, hpre⟩ => ?_
  by_cases hlt : i < l.length
  · have hts : l.take (i + 1) = l.take i ++ [l[i]] := List.take_succ_eq_append_getElem hlt
    refine RunH.adv tb_ok [true] rfl rfl (by simp [h.ptr hlt] <;> omega) ?_
    refine RunH.load (sumE l[i]) rfl rfl rfl rfl (fun w' h' => (h.ext h'.1).load hlt) ?_
    refine RunH.gives (g := g) (f1 := f1) (c1 := c1) (boolE (p l[i])) rfl rfl rfl rfl rfl hf.enter (fun w' hst => hf.says _ (List.getElem_mem hlt) w' hst.fact.1) ?_
    intro m' hm'
    by_cases hp : p l[i] = true
    · refine RunH.adv tb_ok [true] rfl rfl (by simp [hp] <;> omega) ?_
      refine RunH.ret1 Tryz.func169 rfl rfl fun w' hst => ⟨?_, hst.fact.1⟩
      rw [idxOf_at p l 0 i hlt hpre hp, Nat.zero_add]
    · refine RunH.adv tb_ok [false] rfl rfl (by simp [hp] <;> omega) ?_
      refine RunH.again (i + 1) (.head _) rfl rfl (by omega) fun w' h => ⟨h.1, by omega, ?_⟩
      rw [hts, List.any_append, hpre]; simp [hp]
  · rw [List.take_of_length_le (by omega)] at hpre
    refine RunH.adv tb_ok [false] rfl rfl (by simp <;> omega) ?_
    refine RunH.ret1 Tryz.func169 rfl rfl fun w' hst => ⟨?_, hst.fact.1⟩
    rw [idxOf_none p l 0 hpre]

theorem containsFuncD (w : World) (A : Option Addr) (c : Nat) (l : List Sum) (h : Sl kSum w A c l) (g : FuncId) (f1 c1 : List Value) (p : Sum → Bool) (hf : Fun1 kSum w g f1 c1 l p) :
    Gives Tryz.prog 129 [.slice A l.length c, .func (.func g) f1.toArray c1.toArray] w (boolE (l.any p)) := by
  refine enterH tb_ok [(0, slE A l.length c), (1, .av (.val (.func (.func g) f1.toArray c1.toArray)))] Tryz.func129 rfl Tryz.ntmps129 rfl rfl ?_
  refine RunH.adv tb_ok [] rfl rfl (by simp <;> omega) ?_
  refine RunH.gives (intE (idxOf p l 0)) rfl rfl rfl rfl rfl Tryz.call169 (fun w' hst => idxFuncD w' A c l (h.ext hst.fact) g f1 c1 p (hf.ext hst.fact)) ?_
  intro m' hm'
  refine RunH.adv tb_ok [] rfl rfl (by simp <;> omega) ?_
  refine RunH.ret1 Tryz.func129 rfl rfl fun w' hst => ⟨?_, hst.fact⟩
  have : decide (0 ≤ idxOf p l 0) = l.any p := by rw [Bool.eq_iff_iff]; simp only [decide_eq_true_eq]; exact idxOf_ge p l 0
  simp [this, EV.v, AV.v]
end Go.Proofs.YtagnkcdhenilbaaGreatDoor

namespace Go.Proofs.YtagnkcdhenilbaaGreatDoor
open Go V
theorem space_Path (t : Str) : Does Tryz.prog tb 17 [strV t] [] MaxLen (fun y : Option Addr × Nat => .tuple #[.slice y.1 (pathL t).length y.2, intV (pathE t)]) (fun y => [(0, rowE kStr y.1 y.2 (pathL t))]) (fun _ _ _ => True) := by
  have hl : lim = 140737488351232 := rfl
  refine Does.enter tb_ok [(0, strE t)] Tryz.func17 rfl Tryz.ntmps17 rfl rfl 0 ?_
  intro B0 m K
  have hbad : ∀ {w : World} {H : Heap} {I : World → Prop}, pathOk t = false → (∀ u, I u → K u) → St tb B0 H I w → ∃ x : Option Addr × Nat, Ending.returned (.tuple #[.slice none 0 0, intV 4]) = .returned (.tuple #[.slice x.1 (pathL t).length x.2, intV (pathE t)]) ∧ St tb B0 [(0, rowE kStr x.1 x.2 (pathL t))] (fun u => K u ∧ True) w := by
    intro w H I h1 h2 hst
    refine ⟨(none, 0), ?_, ?_⟩
    · simp [pathL, pathE, h1]
    · rw [pathL, if_neg (by simp [h1])]
      exact (hst.nilrow 0 kStr).out [] rfl rfl fun u hu => ⟨h2 u hu, trivial⟩
  by_cases hlong : 55 < t.length
  · have hno : pathOk t = false := by
      cases h : pathOk t with
      | false => rfl
      | true => have := pathOk_len h; omega
    refine RunH.adv tb_ok [true] rfl rfl (by simp <;> omega) ?_
    refine RunH.ret2 Tryz.func17 rfl rfl rfl fun w hst => hbad hno (fun u h => h.1) hst
  · have hwl := words_len t
    refine RunH.adv tb_ok [false] rfl rfl (by simp <;> omega) ?_
    refine RunH.does [] (fun y : Option Addr × Nat => rowS 0 y.1 (words t).length y.2) (fun y => [(0, rowE kStr y.1 y.2 (words t))]) [] 1 rfl rfl rfl rfl rfl Tryz.call81 (split_dot t (by omega)) rfl rfl (fun u hu => hu.fact.2) (fun _ => rfl) (fun _ => rfl) (fun _ => rfl) ?_
    rintro ⟨A, c⟩ m1 hm1
    have hpw := pathOk_words t
    by_cases h5 : (words t).length ≤ 5
    · refine RunH.adv tb_ok [false] rfl rfl (by simp <;> omega) ?_
      refine RunH.gives (boolE ((words t).any fun s => !wordOk s)) rfl rfl rfl rfl rfl Tryz.call82 (fun w hst => containsFuncS w A c (words t) (Sl.own (hst.row (κ := kStr) (id := 0) rfl) (by omega)) 83 [] [] (fun s => !wordOk s) ⟨Tryz.call83, fun x hx u _ => Path1_spec u x (by have := words_each t x hx; omega)⟩) ?_
      intro m2 hm2
      by_cases hany : ((words t).any fun s => !wordOk s) = true
      · have hno : pathOk t = false := by
          rw [hpw]
          have : (words t).all wordOk = false := by
            rw [List.any_eq_true] at hany
            obtain ⟨x, hx, hx2⟩ := hany
            rw [List.all_eq_false]; exact ⟨x, hx, by simpa using hx2⟩
          simp [this]
        refine RunH.adv tb_ok [true] rfl rfl (by simp [hany] <;> omega) ?_
        refine RunH.ret2 Tryz.func17 rfl rfl rfl fun w hst => hbad hno (fun u h => h.1.1) hst
      · have hok : pathOk t = true := by
          rw [hpw]
          have : (words t).all wordOk = true := by
            rw [List.all_eq_true]
            intro x hx
            cases hw : wordOk x with
            | true => rfl
            | false => exact absurd (List.any_eq_true.2 ⟨x, hx, by simp [hw]⟩) hany
          simp [this, h5]
        have hpl : pathL t = words t := if_pos hok
        refine RunH.adv tb_ok [false] rfl rfl ⟨by simpa [Ob.P] using hany, trivial⟩ ?_
        refine RunH.ret2 Tryz.func17 rfl rfl rfl fun w hst => ⟨(A, c), ?_, ?_⟩
        · rw [hpl, pathE, if_pos hok]; rfl
        · rw [hpl]; exact hst.out [] rfl rfl fun u h => ⟨h.1.1, trivial⟩
    · have hno : pathOk t = false := by rw [hpw]; simp [h5]
      refine RunH.adv tb_ok [true] rfl rfl (by simp <;> omega) ?_
      refine RunH.ret2 Tryz.func17 rfl rfl rfl fun w hst => hbad hno (fun u h => h.1.1) hst

theorem space_paths (w : World) (hM : MaxLen w) (A : Option Addr) (c : Nat) (l : List Str) (h : Sl kStr w A c l) : Gives Tryz.prog 85 [.slice A l.length c] w (intE (pathsE l)) := by
  have hl : lim = 140737488351232 := rfl
  have hsm := h.small
  refine enterH tb_ok [(0, slE A l.length c)] Tryz.func85 rfl Tryz.ntmps85 rfl rfl ?_
  refine RunH.adv tb_ok [] rfl rfl (by simp <;> omega) ?_
  refine RunH.loop (α := Nat) (fun i => [(7, slE A l.length c), (8, intE l.length), (9, intE i)]) (fun _ => []) (fun i w' => Ext w w' ∧ i ≤ l.length ∧ (l.take i).all pathOk = true) (fun i => l.length - i) 0
    rfl rfl (fun w' h => ⟨h, Nat.zero_le _, rfl⟩) ?_
  intro i m
  refine RunH.pure (fun w' h => h.2) fun ⟨hi, hpre⟩ => ?_
  by_cases hlt : i < l.length
  · have hts : l.take (i + 1) = l.take i ++ [l[i]] := List.take_succ_eq_append_getElem hlt
    refine RunH.adv tb_ok [true] rfl rfl (by simp [h.ptr hlt] <;> omega) ?_
    refine RunH.load (strE l[i]) rfl rfl rfl rfl (fun w' h' => (h.ext h'.1).load hlt) ?_
    refine RunH.adv tb_ok [] rfl rfl (by simp <;> omega) ?_
    refine RunH.does (α := Option Addr × Nat) [] (fun y => .av (.val (.tuple #[.slice y.1 (pathL l[i]).length y.2, intV (pathE l[i])]))) (fun _ => []) [] 0 rfl rfl rfl rfl rfl Tryz.call17 (space_Path l[i]) rfl rfl (fun u hu => hM.ext hu.fact.1) (fun _ => rfl) (fun _ => rfl) (fun _ => rfl) ?_
    rintro ⟨A', c'⟩ m' hm'
    by_cases hok : pathOk l[i] = true
    · have he : pathE l[i] = 0 := if_pos hok
      refine RunH.adv tb_ok [false] rfl rfl (by simp [he] <;> omega) ?_
      refine RunH.again (i + 1) (.head _) rfl rfl (by omega) fun w' h => ⟨h.1.1, by omega, ?_⟩
      rw [hts, List.all_append, hpre]; simp [hok]
    · have he : pathE l[i] = 4 := if_neg hok
      refine RunH.adv tb_ok [true] rfl rfl (by simp [he] <;> omega) ?_
      refine RunH.ret1 Tryz.func85 rfl rfl fun w' hst => ⟨?_, hst.fact.1.1⟩
      rw [he]
      have : l.all pathOk = false := by rw [List.all_eq_false]; exact ⟨_, List.getElem_mem hlt, hok⟩
      simp [pathsE, this]
  · refine RunH.adv tb_ok [false] rfl rfl (by simp <;> omega) ?_
    refine RunH.ret1 Tryz.func85 rfl rfl fun w' hst => ⟨?_, hst.fact.1⟩
    rw [List.take_of_length_le (by omega)] at hpre
    simp [pathsE, hpre]
end Go.Proofs.YtagnkcdhenilbaaGreatDoor

namespace Go.Proofs.YtagnkcdhenilbaaGreatDoor
open Go V
def Spc.at_ (s : Spc) (k : Nat) : Row Entry := if k = 0 then s.t else s.y
theorem Spc.ok.at_ {w : World} {s : Spc} (h : s.ok w) (k : Nat) : (Spc.at_ s k).ok kEntry w := by
  unfold Spc.at_; split
  · exact h.t
  · exact h.y

theorem checkE_at (s : Spc) {k : Nat} (hk : k < 2) (h : ∀ j, j < k → listE (Spc.at_ s j).l = 0) {e : Int} (he : listE (Spc.at_ s k).l = e) (hne : e ≠ 0) : checkE s.t.l s.y.l = e := by
  have : k = 0 ∨ k = 1 := by omega
  unfold checkE
  rcases this with rfl | rfl
  · have he : listE s.t.l = e := he
    rw [if_neg (by rw [he]; exact hne), he]
  · have h0 : listE s.t.l = 0 := h 0 (by omega)
    have he : listE s.y.l = e := he
    rw [if_pos h0, he]

theorem build_lists (w : World) (A B : Option Addr) (n c m d : Nat) : (Instr.build 114 #[(0, .slice A n c), (1, .slice B m d)]).run Tryz.prog w = .ok (.agg #[.slice A n c, .slice B m d]) w := by
  refine run_build w _ _ _ ?_
  unfold Program.built
  rw [tb_ok.get (show tb.get 114 = some Tryz.t114 from rfl), tb_ok.und (show tb.und 114 = some (.array 2 22) from rfl)]
  simp only []
  rw [tb_ok.get (show tb.get 22 = some Tryz.t22 from rfl)]
  rfl

theorem index_lists (w : World) (A B : Option Addr) (n c m d k : Nat) (hk : k < 2) (v : Value) (hv : [Value.slice A n c, .slice B m d][k]? = some v) :
    (Instr.index 114 (.agg #[.slice A n c, .slice B m d]) (.int .i64 k)).run Tryz.prog w = .ok v w := by
  unfold Instr.index
  have h1 : (underlying 114).run Tryz.prog w = .ok (.array 2 22) w := run_underlying (tb_ok.und rfl) w
  have h2 : (sizeOf 22).run Tryz.prog w = .ok 1 w := run_tsize tb_ok (i := Tryz.t22) rfl
  have h3 := part_one (P := Tryz.prog) w (e := 22) (tb_ok.und rfl) rfl [Value.slice A n c, .slice B m d] k v hv
  simp only [asIntOf, Sem.run_bind, Sem.run_pure, Result.andThen_ok, h1]
  rw [if_pos ⟨by omega, by omega⟩]
  simp only [Sem.run_bind, h2, Result.andThen_ok, Int.toNat_natCast, Nat.mul_one]
  exact h3

theorem space_Check (w : World) (hM : MaxLen w) (s : Spc) (hs : s.ok w) : Gives Tryz.prog 19 [s.ev.v] w (intE (checkE s.t.l s.y.l)) := by
  have hl : lim = 140737488351232 := rfl
  refine enterH tb_ok [(0, s.ev)] Tryz.func19 rfl Tryz.ntmps19 rfl rfl ?_
  refine RunH.adv tb_ok [] rfl rfl (by simp <;> omega) ?_
  refine RunH.read (.st [s.t.av, s.y.av]) rfl rfl rfl rfl (fun w' a _ ha => ?_) ?_
  · have h1 : a.eval (.tmp 10) = .slice s.t.A s.t.l.length s.t.c := ev_run (e := .av s.t.av) ha rfl
    have h2 : a.eval (.tmp 12) = .slice s.y.A s.y.l.length s.y.c := ev_run (e := .av s.y.av) ha rfl
    simp only [execOp, List.map_toArray, List.map_cons, List.map_nil, h1, h2, build_lists, Sem.run_bind, Result.andThen_ok, Sem.run_pure]
    rfl
  refine RunH.adv tb_ok [] rfl rfl (by simp <;> omega) ?_
  refine RunH.loop (α := Nat) (fun k => [(1, .av (.box 0 w.heap.size 0)), (13, .st [s.t.av, s.y.av]), (14, intE k)]) (fun _ => []) (fun k w' => Ext w w' ∧ k ≤ 2 ∧ ∀ j, j < k → listE (Spc.at_ s j).l = 0) (fun k => 2 - k) 0
    rfl rfl (fun w' h => ⟨h, by decide, fun j hj => by cases hj⟩) ?_
  intro k m
  refine RunH.pure (fun w' h => h.2) fun ⟨hk, hz⟩ => ?_
  by_cases hk2 : k < 2
  · have hr : ∀ w', Ext w w' → Sl kEntry w' (Spc.at_ s k).A (Spc.at_ s k).c (Spc.at_ s k).l := fun w' h => Spc.ok.at_ (hs.ext h) k
    generalize hrk : Spc.at_ s k = r at hr
    have h := hr w (Ext.rfl' w)
    have hsm := h.small
    have hgoal : ∀ e, listE r.l = e → e ≠ 0 → checkE s.t.l s.y.l = e := fun e he hne => checkE_at s hk2 hz (by rw [hrk]; exact he) hne
    have hv : [Value.slice s.t.A s.t.l.length s.t.c, .slice s.y.A s.y.l.length s.y.c][k]? = some (.slice r.A r.l.length r.c) := by
      subst hrk
      have : k = 0 ∨ k = 1 := by omega
      rcases this with rfl | rfl <;> rfl
    refine RunH.adv tb_ok [true] rfl rfl (by simp <;> omega) ?_
    refine RunH.read (slE r.A r.l.length r.c) rfl rfl rfl rfl (fun w' a _ ha => ?_) ?_
    · have h1 : a.eval (.tmp 13) = .agg #[.slice s.t.A s.t.l.length s.t.c, .slice s.y.A s.y.l.length s.y.c] := ev_run (e := .st [s.t.av, s.y.av]) ha rfl
      have h2 : a.eval (.tmp 14) = .int .i64 k := ev_run (e := intE k) ha rfl
      simp only [execOp, h1, h2, index_lists w' _ _ _ _ _ _ k hk2 _ hv, Sem.run_bind, Result.andThen_ok, Sem.run_pure]
      rfl
    by_cases hbig : 300 < r.l.length
    · refine RunH.adv tb_ok [true] rfl rfl (by simp <;> omega) ?_
      refine RunH.ret1 Tryz.func19 rfl rfl fun w' hst => ⟨by rw [hgoal 12 (by simp [listE, hbig]) (by decide)], hst.fact.1⟩
    · refine RunH.adv tb_ok [false] rfl rfl (by simp <;> omega) ?_
      refine RunH.loop (α := Nat) (fun i => [(1, .av (.box 0 w.heap.size 0)), (13, .st [s.t.av, s.y.av]), (14, intE k), (4, slE r.A r.l.length r.c), (20, slE r.A r.l.length r.c), (21, intE r.l.length), (22, intE i)]) (fun _ => [])
        (fun i w' => Ext w w' ∧ i ≤ r.l.length ∧ (r.l.take i).all goodE = true) (fun i => r.l.length - i) 0
        rfl rfl (fun w' h => ⟨h.1, Nat.zero_le _, rfl⟩) ?_
      intro i m
      refine RunH.pure (fun w' h => h.2) fun ⟨hi, hpre⟩ => ?_
      by_cases hlt : i < r.l.length
      · have hts : r.l.take (i + 1) = r.l.take i ++ [r.l[i]] := List.take_succ_eq_append_getElem hlt
        refine RunH.adv tb_ok [true] rfl rfl (by simp [h.ptr hlt] <;> omega) ?_
        refine RunH.load (.st (entryF r.l[i])) rfl rfl rfl rfl (fun w' h' => (hr w' h'.1).load hlt) ?_
        refine RunH.adv tb_ok [] rfl rfl (by simp <;> omega) ?_
        refine RunH.gives (intE (pathsE [r.l[i].path])) rfl rfl rfl rfl rfl Tryz.call85 (fun w' hst => space_paths w' (hM.ext hst.fact.1) _ _ [r.l[i].path] (Sl.own (B := w.heap.size) (hst.row (κ := kStr) (l := [r.l[i].path]) (id := 2) rfl) (by simp [hl]))) ?_
        intro m' hm'
        by_cases hok : pathOk r.l[i].path = true
        · have he : pathsE [r.l[i].path] = 0 := by simp [pathsE, hok]
          refine RunH.adv tb_ok [false] rfl rfl (by simp [he] <;> omega) ?_
          refine RunH.again (i + 1) (.head _) rfl rfl (by omega) fun w' h => ⟨h.1, by omega, ?_⟩
          rw [hts, List.all_append, hpre]; simp [goodE, hok]
        · have he : pathsE [r.l[i].path] = 4 := by simp [pathsE, hok]
          refine RunH.adv tb_ok [true] rfl rfl (by simp [he] <;> omega) ?_
          refine RunH.ret1 Tryz.func19 rfl rfl fun w' hst => ⟨?_, hst.fact.1⟩
          have : r.l.all goodE = false := by rw [List.all_eq_false]; exact ⟨_, List.getElem_mem hlt, hok⟩
          rw [he, hgoal 4 (by simp [listE, hbig, this]) (by decide)]
      · rw [List.take_of_length_le (by omega)] at hpre
        refine RunH.adv tb_ok [false] rfl rfl (by simp <;> omega) ?_
        refine RunH.loop (α := Nat) (fun i => [(1, .av (.box 0 w.heap.size 0)), (13, .st [s.t.av, s.y.av]), (14, intE k), (4, slE r.A r.l.length r.c), (8, intE i)]) (fun _ => []) (fun i w' => Ext w w' ∧ 1 ≤ i ∧ ∀ j, j + 1 < i → j + 1 < r.l.length → leS (pathAt r.l (j + 1)) (pathAt r.l j) = false) (fun i => r.l.length - i) 1
          rfl rfl (fun w' h => ⟨h.1, Nat.le_refl _, by omega⟩) ?_
        intro i m
        refine RunH.pure (fun w' h => h.2) fun ⟨hi, hri⟩ => ?_
        by_cases hlt : i < r.l.length
        · have hi1 : ((i : Int) - 1).toNat = i - 1 := by omega
          have hp1 := pathAt_eq r.l i hlt
          have hp2 := pathAt_eq r.l (i - 1) (by omega)
          have hii : i - 1 + 1 = i := by omega
          refine RunH.adv tb_ok [true] rfl rfl (by simp <;> omega) ?_
          refine RunH.draw rfl [] rfl 12 rfl rfl ?_
          refine RunD.adv tb_ok (by kernel_rfl) [] rfl rfl (by simp [h.ptr hlt] <;> omega) ?_
          refine RunD.load (by kernel_rfl) (i := 4) (strE (pathAt r.l i)) rfl rfl rfl rfl rfl rfl (fun w' h' => by rw [hp1]; exact (h.ext h'.1).path hlt) ?_
          refine RunD.load (by kernel_rfl) (i := 10) (strE (pathAt r.l (i - 1))) rfl rfl rfl rfl rfl rfl (fun w' h' => by rw [hp2, hi1]; exact (h.ext h'.1).path (by omega)) ?_
          refine RunD.adv tb_ok (by kernel_rfl) [] rfl rfl (by simp <;> omega) ?_
          refine RunD.done (.inl rfl) (by kernel_rfl) ?_
          by_cases hle : leS (pathAt r.l i) (pathAt r.l (i - 1)) = true
          · refine RunH.adv tb_ok [true] rfl rfl ⟨hle, trivial⟩ ?_
            refine RunH.ret1 Tryz.func19 rfl rfl fun w' hst => ⟨?_, hst.fact.1⟩
            have : rises r.l = false := rises_not (i := i - 1) (by omega) (by rw [hii]; exact hle)
            rw [hgoal 15 (by simp [listE, hbig, hpre, this]) (by decide)]
          · have hle : leS (pathAt r.l i) (pathAt r.l (i - 1)) = false := by simpa using hle
            refine RunH.adv tb_ok [false] rfl rfl ⟨by simp [Ob.P]; omega, hle, trivial⟩ ?_
            refine RunH.again (i + 1) (.head _) rfl rfl (by omega) fun w' h => ⟨h.1, by omega, fun j hj hjl => ?_⟩
            by_cases hji : j + 1 = i
            · have : j = i - 1 := by omega
              subst this
              rw [hii]; exact hle
            · exact hri j (by omega) hjl
        · have hok : listE r.l = 0 := by
            have : rises r.l = true := rises_of fun j hj => hri j (by omega) hj
            simp [listE, hbig, hpre, this]
          refine RunH.adv tb_ok [false] rfl rfl (by simp <;> omega) ?_
          refine RunH.again (k + 1) (.tail _ (.tail _ (.head _))) rfl rfl (by omega) fun w' h => ⟨h.1, by omega, fun j hj => ?_⟩
          by_cases hjk : j = k
          · subst hjk; rw [hrk]; exact hok
          · exact hz j (by omega)
  · have hk3 : k = 2 := by omega
    refine RunH.adv tb_ok [false] rfl rfl (by simp <;> omega) ?_
    refine RunH.ret1 Tryz.func19 rfl rfl fun w' hst => ⟨?_, hst.fact.1⟩
    have h0 : listE s.t.l = 0 := hz 0 (by omega)
    have h1 : listE s.y.l = 0 := hz 1 (by omega)
    simp [checkE, h0, h1]
end Go.Proofs.YtagnkcdhenilbaaGreatDoor
