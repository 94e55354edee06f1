/-
Contracts of functions, and lemmas on them. No condition.
-/
import Derived.Lib.Join
import Derived.Test.YtbfjmimiigjenaaGreatDoorKPS5
import Derived.Test.YtbfjmimiigjenaaGreatDoorKVDoes
import Derived.Test.YtbfjmimiigjenaaGreatDoorKVKey
set_option linter.unusedVariables false
set_option linter.unusedSectionVars false
set_option linter.unusedSimpArgs false
namespace Go.Proofs.YtbfjmimiigjenaaGreatDoor
open Go V
theorem V.Sl.drop {α : Type} {κ : Kd α} {w : World} {A : Option Addr} {c : Nat} {l : List α} (h : Sl κ w A c l) (i : Nat) (hi : i ≤ l.length) : Sl κ w (subA A i c κ.sz) (c - i) (l.drop i) := by
  have hcap := h.cap
  have hsm := h.small
  refine ⟨by rw [List.length_drop]; omega, by rw [List.length_drop]; omega, fun hn => ?_, ?_, fun e => ?_⟩
  · have hlt : i < l.length := by
      rcases Nat.lt_or_ge i l.length with h1 | h1
      · exact h1
      · exact absurd (List.drop_eq_nil_of_le h1) hn
    have hp := h.ptr hlt
    unfold Ptr at hp
    obtain ⟨bk, o, hA⟩ : ∃ bk o, A = some ⟨bk, o, none⟩ := ⟨_, _, hp⟩
    subst hA
    unfold subA
    rw [if_neg (by omega), Option.map_some, Addr.add_lit]; rfl
  · by_cases hc : c = i
    · have : l.drop i = [] := List.drop_eq_nil_of_le (by omega)
      rw [this]
      intro j v hj
      simp at hj
    · unfold subA
      rw [if_neg hc]
      intro j v hj
      have hne : l ≠ [] := by rintro rfl; simp at hj
      have hp := h.addr hne
      unfold Ptr at hp
      obtain ⟨bk, o, hA⟩ : ∃ bk o, A = some ⟨bk, o, none⟩ := ⟨_, _, hp⟩
      subst hA
      rw [Option.map_some, Addr.add_lit]
      show w.cell? ⟨bk, o + i * κ.sz + j, none⟩ = some v
      rw [Nat.add_assoc]
      refine h.cells _ v ?_
      have e : l.flatMap κ.cs = (l.take i).flatMap κ.cs ++ (l.drop i).flatMap κ.cs := by rw [← List.flatMap_append, List.take_append_drop]
      have hl : ((l.take i).flatMap κ.cs).length = i * κ.sz := by rw [κ.flat_len, List.length_take]; congr 1; omega
      rw [e, List.getElem?_append_right (by omega), hl, Nat.add_sub_cancel_left]
      exact hj
  · unfold subA at e
    split at e
    · obtain ⟨rfl, h2⟩ := h.nil e
      exact ⟨List.drop_nil, by omega⟩
    · have : A = none := by cases A with
        | none => rfl
        | some a => cases e
      obtain ⟨rfl, h2⟩ := h.nil this
      exact ⟨List.drop_nil, by omega⟩
def joinD : List Str → Str
  | [] => []
  | [x] => x
  | x :: y :: r => x ++ 46 :: joinD (y :: r)
def endsOf (p : Str) : List Str := (List.range (words p).length).map fun j => joinD ((words p).drop ((words p).length - 1 - j))
end Go.Proofs.YtbfjmimiigjenaaGreatDoor
namespace Go.Proofs.YtbfjmimiigjenaaGreatDoor
open Go V
structure Wk (w : World) (b : Nat) (A : Option Addr) (c : Nat) (B : Option Addr) (c2 : Nat) (t y : List Entry) : Prop where
  hb : w.heap[b]? = some (.cells #[.slice A t.length c, .slice B y.length c2] 266)
  ht : Sl kEntry w A c t
  hy : Sl kEntry w B c2 y
def kA {α : Type} (k : Int) (a b : α) : α := if k = 1 then a else b
theorem kV (k : Int) (A B : Option Addr) (c c2 : Nat) (t y : List Entry) : (if k = 1 then Value.slice A t.length c else .slice B y.length c2) = .slice (kA k A B) (kList k t y).length (kA k c c2) := by
  unfold kA kList; split <;> rfl
theorem Wk.sl {w : World} {b c c2 : Nat} {A B : Option Addr} {t y : List Entry} (h : Wk w b A c B c2 t y) (k : Int) : Sl kEntry w (kA k A B) (kA k c c2) (kList k t y) := by
  unfold kA kList; split
  · exact h.ht
  · exact h.hy
theorem Wk.ext {w w' : World} {b c c2 : Nat} {A B : Option Addr} {t y : List Entry} (h : Wk w b A c B c2 t y) (he : Ext w w') : Wk w' b A c B c2 t y :=
  ⟨by rw [he.block b (Array.getElem?_eq_some_iff.1 h.hb).1]; exact h.hb, h.ht.ext he, h.hy.ext he⟩
theorem Wk.load {w : World} {b c c2 : Nat} {A B : Option Addr} {t y : List Entry} (h : Wk w b A c B c2 t y) (k : Int) :
    (loadVar 129 ⟨b, kOff k, none⟩).run Tryz.prog w = .ok (slE (kA k A B) (kList k t y).length (kA k c c2)).v w := by
  have := load_wk h.hb k
  rw [kV] at this; exact this
def found1 (text : Str) (x : Entry) : List Entry := ((endsOf x.path).filter fun e => decide (e = text)).map fun _ => x
def foundL (l : List Entry) (text : Str) : List Entry := if isAt l text = true then [l.getD (posOf l text) zeroE] else l.flatMap (found1 text)
theorem flat_len {α β : Type} (f : α → List β) (q : Nat) : ∀ (l : List α), (∀ x ∈ l, (f x).length ≤ q) → (l.flatMap f).length ≤ l.length * q
  | [], _ => by simp
  | x :: r, h => by
    have ih := flat_len f q r fun y hy => h y (List.mem_cons_of_mem _ hy)
    have := h x (by simp)
    rw [List.flatMap_cons, List.length_append, List.length_cons, Nat.succ_mul]
    omega
end Go.Proofs.YtbfjmimiigjenaaGreatDoor
namespace Go.Proofs.YtbfjmimiigjenaaGreatDoor
open Go V
def askE (t y : List Entry) (k : Int) (l : List Str) : Int := if kindE t y k = 0 then pathsE l else kindE t y k
def findE (t y : List Entry) (k : Int) (x : Str) : Int := if askE t y k [x] = 0 then (if foundL (kList k t y) x = [] then 6 else 0) else askE t y k [x]
def findL (t y : List Entry) (k : Int) (x : Str) : List Entry := if askE t y k [x] = 0 then foundL (kList k t y) x else []
def plainE (t y : List Entry) (k : Int) (x : Str) : Int := if findE t y k x = 0 then (if oneB (findL t y k x) = true then 0 else 7) else findE t y k x
end Go.Proofs.YtbfjmimiigjenaaGreatDoor
namespace Go.Proofs.YtbfjmimiigjenaaGreatDoor
open Go V
abbrev Zr := List (Sum × (Option Addr × Nat))
end Go.Proofs.YtbfjmimiigjenaaGreatDoor
