/-
Contracts of functions, and lemmas on them. No condition.
-/
import Derived.Test.YtbfjmimiigjenaaGreatDoorShelf
import Derived.Test.YtbfjmimiigjenaaGreatDoorKR1
import Derived.Test.YtbfjmimiigjenaaGreatDoorKPW7
set_option linter.unusedVariables false
set_option linter.unusedSectionVars false
set_option linter.unusedSimpArgs false
namespace Go.Proofs.YtbfjmimiigjenaaGreatDoor
open V
theorem ins_many : ∀ (k : Kids) (c : UInt8) (t : Tree), (k.ins c t).many = k.many + t.many
  | .nil, c, t => by simp [Kids.ins, Kids.many]
  | .cons b s r, c, t => by
    unfold Kids.ins
    split
    · simp only [Kids.many, ins_many r c t]; omega
    · simp only [Kids.many]; omega
mutual
theorem many_put : ∀ {t : Tree} {n : Str} {x : Sum}, t.wf → (t.put n x).many = t.many + (if (t.get n).isSome = true then 0 else 1)
  | .node s v k, n, x, h => by
    unfold Tree.wf at h
    rcases part_cases s n with rfl | ⟨c, r, rfl⟩ | ⟨p, b, q, rfl, hp⟩ | ⟨p, b, q, c, r, rfl, rfl, hbc⟩
    · rw [put_here, get_here]
      unfold Tree.many
      cases v <;> simp <;> omega
    · rw [put_kid, get_kid]
      unfold Tree.many
      rw [many_kput h.1]
      omega
    · obtain rfl : p = n := hp.symm
      rw [put_up, get_off]
      · simp only [Tree.many, Kids.many]
        simp
        omega
      · intro r e
        have := congrArg List.length e
        simp at this <;> omega
    · rw [put_fork p b q v k c r x hbc, get_off]
      · simp only [Tree.many, ins_many, Kids.many, leaf]
        simp
      · intro z e
        rw [List.append_assoc] at e
        have := List.append_cancel_left e
        injection this with e1 _
        exact hbc e1.symm
theorem many_kput : ∀ {k : Kids} {c : UInt8} {n : Str} {x : Sum}, k.wf → (k.put c n x).many = k.many + (if (k.get c n).isSome = true then 0 else 1)
  | .nil, c, n, x, _ => by simp [Kids.put, Kids.many, Kids.get, leaf, Tree.many]
  | .cons b t r, c, n, x, h => by
    unfold Kids.wf at h
    obtain ⟨w1, w2, w3⟩ := h
    unfold Kids.put
    by_cases hlt : b < c
    · rw [if_pos hlt, Kids.get, if_neg (u8_ne hlt)]
      simp only [Kids.many, many_kput w2]
      omega
    · rw [if_neg hlt]
      by_cases e : b = c
      · subst e
        rw [if_pos rfl, Kids.get, if_pos rfl]
        simp only [Kids.many, many_put w1]
        omega
      · have hcb := u8_lt_of hlt e
        have hn : c ∉ r.bytes := fun hm => u8_ne (u8_trans hcb (w3 c hm)) rfl
        rw [if_neg e, Kids.get, if_neg e, kget_mem hn]
        simp [Kids.many, leaf, Tree.many]
        omega
end
def manyO (t : Option Tree) : Nat := match t with
  | none => 0
  | some t => t.many
theorem joinT_many (s : Str) (v : Option Sum) (k : Kids) : manyO (joinT s v k) = (Tree.node s v k).many := by
  unfold joinT
  split
  · rfl
  · simp [manyO, Tree.many, Kids.many]
  · simp [manyO, Tree.many, Kids.many]
  · rfl
mutual
theorem many_drop : ∀ {t : Tree} {n : Str}, t.wf → (t.get n).isSome = true → manyO (t.drop n) + 1 = t.many
  | .node s v k, n, h, hn => by
    unfold Tree.wf at h
    obtain ⟨x, hx⟩ := Option.isSome_iff_exists.1 hn
    obtain ⟨r, rfl⟩ := get_pre hx
    unfold Tree.drop
    cases r with
    | nil =>
      rw [List.append_nil, get_here] at hx
      subst hx
      rw [if_pos (by simp), joinT_many]
      simp [Tree.many]
      omega
    | cons c r =>
      rw [get_kid] at hx
      have e1 : (s ++ c :: r).getD s.length 0 = c := by simp
      have e2 : (s ++ c :: r).drop (s.length + 1) = r := by rw [← List.drop_drop, List.drop_left]; rfl
      rw [if_neg (by simp), e1, e2, joinT_many]
      have := many_kdrop h.1 (by rw [hx]; rfl : (k.get c r).isSome = true)
      unfold Tree.many
      omega
theorem many_kdrop : ∀ {k : Kids} {c : UInt8} {n : Str}, k.wf → (k.get c n).isSome = true → (k.drop c n).many + 1 = k.many
  | .nil, c, n, _, h => by cases h
  | .cons b t r, c, n, h, hn => by
    unfold Kids.wf at h
    obtain ⟨w1, w2, w3⟩ := h
    rw [Kids.get] at hn
    unfold Kids.drop
    by_cases e : b = c
    · subst e
      rw [if_pos rfl] at hn
      have := many_drop w1 hn
      rw [if_pos rfl]
      cases hd : t.drop n with
      | none =>
        rw [hd] at this
        show r.many + 1 = t.many + r.many
        have : 0 + 1 = t.many := this
        omega
      | some t' =>
        rw [hd] at this
        show t'.many + r.many + 1 = t.many + r.many
        have : t'.many + 1 = t.many := this
        omega
    · rw [if_neg e] at hn
      have := many_kdrop w2 hn
      rw [if_neg e]
      simp only [Kids.many]
      omega
end
def Tree.low (N : Nat) (t : Tree) : Prop := ∀ n x, t.get n = some x → n.length ≤ N
theorem low_stem {N : Nat} {s : Str} {v : Option Sum} {k : Kids} (h : (Tree.node s v k).wf) (hl : (Tree.node s v k).low N) : s.length ≤ N := by
  obtain ⟨n, x, hx⟩ := has_name h
  obtain ⟨r, rfl⟩ := get_pre hx
  have := hl _ x hx
  rw [List.length_append] at this
  omega
theorem kid_at : ∀ {k : Kids}, k.wf → ∀ i (h : i < k.trees.length) (h2 : i < k.bytes.length), (k.trees[i]).wf ∧ ∀ n, k.get k.bytes[i] n = (k.trees[i]).get n
  | .nil, _, i, h, _ => by cases h
  | .cons b t r, hw, i, h, h2 => by
    unfold Kids.wf at hw
    obtain ⟨w1, w2, w3⟩ := hw
    cases i with
    | zero => exact ⟨w1, fun n => by rw [Kids.get]; exact if_pos rfl⟩
    | succ i =>
      obtain ⟨a1, a2⟩ := kid_at w2 i (by simpa [Kids.trees] using h) (by simpa [Kids.bytes] using h2)
      refine ⟨a1, fun n => ?_⟩
      show (Kids.cons b t r).get (r.bytes[i]'(by simpa [Kids.bytes] using h2)) n = _
      rw [Kids.get, if_neg (u8_ne (w3 _ (List.getElem_mem _)))]
      exact a2 n
theorem low_kid {N : Nat} {s : Str} {v : Option Sum} {k : Kids} (h : (Tree.node s v k).wf) (hl : (Tree.node s v k).low N) (i : Nat) (hi : i < k.trees.length) : (k.trees[i]).low N := by
  intro n x hx
  unfold Tree.wf at h
  have h2 : i < k.bytes.length := by rw [Kids.len]; exact hi
  obtain ⟨_, a2⟩ := kid_at h.1 i hi h2
  have := hl (s ++ k.bytes[i] :: n) x (by rw [get_kid, a2]; exact hx)
  simp at this
  omega
theorem many_kid : ∀ {k : Kids} (i : Nat) (hi : i < k.trees.length), (k.trees[i]).many ≤ k.many
  | .nil, i, h => by cases h
  | .cons b t r, i, h => by
    cases i with
    | zero => simp [Kids.trees, Kids.many]
    | succ i =>
      have := many_kid (k := r) i (by simpa [Kids.trees] using h)
      simp only [Kids.many]
      show (r.trees[i]'(by simpa [Kids.trees] using h)).many ≤ _
      omega
def putO (t : Option Tree) (n : Str) (x : Sum) : Tree := match t with
  | none => leaf n x
  | some t => t.put n x
def dropO (t : Option Tree) (n : Str) : Option Tree := match t with
  | none => none
  | some t => t.drop n
def entsO (t : Option Tree) : List (Str × Sum) := match t with
  | none => []
  | some t => t.ents []
def rootO (t : Option Tree) : Sum := match t with
  | none => shaW []
  | some t => t.own
def lowO (N : Nat) (t : Option Tree) : Prop := ∀ n x, getO t n = some x → n.length ≤ N
theorem putO_wf {t : Option Tree} (h : wfO t) (n : Str) (x : Sum) : wfO (some (putO t n x)) := by
  cases t with
  | none => exact leaf_wf n x
  | some t => exact put_wf h
theorem putO_get {t : Option Tree} (h : wfO t) (n : Str) (x : Sum) (m : Str) : getO (some (putO t n x)) m = if m = n then some x else getO t m := by
  cases t with
  | none => exact get_leaf n x m
  | some t => exact get_put h m
theorem putO_many {t : Option Tree} (h : wfO t) (n : Str) (x : Sum) : manyO (some (putO t n x)) = manyO t + (if (getO t n).isSome = true then 0 else 1) := by
  cases t with
  | none => simp [putO, manyO, leaf, Tree.many, Kids.many, getO]
  | some t => exact many_put h
theorem putO_low {N : Nat} {t : Option Tree} (h : wfO t) (hl : lowO N t) {n : Str} (hn : n.length ≤ N) (x : Sum) : lowO N (some (putO t n x)) := fun m y hy => by
  rw [putO_get h] at hy
  by_cases e : m = n
  · rw [e]; exact hn
  · rw [if_neg e] at hy
    exact hl m y hy
theorem dropO_wf {t : Option Tree} (h : wfO t) {n : Str} (hn : (getO t n).isSome = true) : wfO (dropO t n) := by
  cases t with
  | none => cases hn
  | some t => exact (drop_all h hn).1
theorem dropO_get {t : Option Tree} (h : wfO t) {n : Str} (hn : (getO t n).isSome = true) (m : Str) : getO (dropO t n) m = if m = n then none else getO t m := by
  cases t with
  | none => cases hn
  | some t => exact (drop_all h hn).2 m
theorem dropO_many {t : Option Tree} (h : wfO t) {n : Str} (hn : (getO t n).isSome = true) : manyO (dropO t n) + 1 = manyO t := by
  cases t with
  | none => cases hn
  | some t => exact many_drop h hn
theorem dropO_low {N : Nat} {t : Option Tree} (h : wfO t) (hl : lowO N t) {n : Str} (hn : (getO t n).isSome = true) : lowO N (dropO t n) := fun m y hy => by
  rw [dropO_get h hn] at hy
  by_cases e : m = n
  · rw [if_pos e] at hy; cases hy
  · rw [if_neg e] at hy
    exact hl m y hy
theorem canonO {a b : Option Tree} (ha : wfO a) (hb : wfO b) (h : ∀ n, getO a n = getO b n) : a = b := by
  cases a with
  | none =>
    cases b with
    | none => rfl
    | some t =>
      obtain ⟨n, x, hx⟩ := has_name (t := t) hb
      have := h n
      change none = t.get n at this
      rw [hx] at this; cases this
  | some t =>
    cases b with
    | none =>
      obtain ⟨n, x, hx⟩ := has_name (t := t) ha
      have := h n
      change t.get n = none at this
      rw [hx] at this; cases this
    | some u => rw [canon ha hb h]
theorem mem_entsO {t : Option Tree} (h : wfO t) (n : Str) (x : Sum) : (n, x) ∈ entsO t ↔ getO t n = some x := by
  cases t with
  | none => simp [entsO, getO]
  | some t =>
    show (n, x) ∈ t.ents [] ↔ t.get n = some x
    rw [mem_ents h]
    simp
theorem entsO_rise {t : Option Tree} (h : wfO t) : Rise (entsO t) := by
  cases t with
  | none => exact List.Pairwise.nil
  | some t => exact ents_rise h []
theorem entsO_many (t : Option Tree) : (entsO t).length = manyO t := by
  cases t with
  | none => rfl
  | some t => exact many_ents t []
theorem entsO_inj {a b : Option Tree} (ha : wfO a) (hb : wfO b) (h : entsO a = entsO b) : a = b := by
  refine canonO ha hb fun n => ?_
  cases hx : getO a n with
  | none =>
    cases hy : getO b n with
    | none => rfl
    | some y =>
      rw [← mem_entsO hb, ← h, mem_entsO ha, hx] at hy
      cases hy
  | some x =>
    rw [← mem_entsO ha, h, mem_entsO hb] at hx
    exact hx.symm
end Go.Proofs.YtbfjmimiigjenaaGreatDoor
namespace Go.Proofs.YtbfjmimiigjenaaGreatDoor
open Go V RowKit
inductive Plot where
  | node (b : Nat) (A : Option Addr) (c : Nat) (B : Option Addr) (d : Nat) (ps : List Plot) : Plot
def Plot.b : Plot → Nat | .node b _ _ _ _ _ => b
def Plot.A : Plot → Option Addr | .node _ A _ _ _ _ => A
def Plot.c : Plot → Nat | .node _ _ c _ _ _ => c
def Plot.B : Plot → Option Addr | .node _ _ _ B _ _ => B
def Plot.d : Plot → Nat | .node _ _ _ _ d _ => d
def Plot.ps : Plot → List Plot | .node _ _ _ _ _ ps => ps
def kP : Kd Plot where
  T := 29
  sz := 1
  ev L := .av (.val (.pointer (some ⟨L.b, 0, none⟩)))
  ok b := ⟨rfl, Tryz.t29, rfl, rfl⟩
  size b := rfl
abbrev ptrV (b : Nat) : Value := .pointer (some ⟨b, 0, none⟩)
abbrev ptrAt (b : Nat) : EV := .av (.val (ptrV b))
abbrev nodF (s : Str) (v : Option Sum) (A : Option Addr) (q c : Nat) (B : Option Addr) (p d : Nat) (many : Int) (own : Sum) : List AV :=
  [.val (strV s), .val (.bool v.isSome), .val (sumV (v.getD Sum.zero)), .val (.slice A q c), .val (.slice B p d), .val (intV many), .val (sumV own)]
theorem nod_cells (s : Str) (v : Option Sum) (A : Option Addr) (q c : Nat) (B : Option Addr) (p d : Nat) (many : Int) (own : Sum) :
    (boxCells (nodF s v A q c B p d many own)).toList = [strV s, .bool v.isSome] ++ ((v.getD Sum.zero).l.map u8V ++ ([.slice A q c, .slice B p d, intV many] ++ own.l.map u8V)) := by
  unfold boxCells nodF
  simp [flat, AV.v, Value.cells, sumV, strV, intV]
mutual
def IsTree (u : World) : Plot → Tree → Prop
  | L, .node s v k => u.heap[L.b]? = some (.cells (boxCells (nodF s v L.A k.bytes.length L.c L.B L.ps.length L.d (Tree.node s v k).many (Tree.node s v k).own)) 165 (0, 0)) ∧ Sl kByte u L.A L.c k.bytes ∧ Sl kP u L.B L.d L.ps ∧ IsKids u L.ps k
def IsKids (u : World) : List Plot → Kids → Prop
  | [], .nil => True
  | p :: ps, .cons _ t r => IsTree u p t ∧ IsKids u ps r
  | [], .cons _ _ _ => False
  | _ :: _, .nil => False
end
structure Part (u : World) (b : Nat) (s : Str) (v : Option Sum) (k : Kids) (A : Option Addr) (c : Nat) (B : Option Addr) (d : Nat) (ps : List Plot) (many : Int) (own : Sum) : Prop where
  blk : u.heap[b]? = some (.cells (boxCells (nodF s v A k.bytes.length c B ps.length d many own)) 165 (0, 0))
  by_ : Sl kByte u A c k.bytes
  to_ : Sl kP u B d ps
  kids : IsKids u ps k
theorem IsTree.part {u : World} {L : Plot} {s : Str} {v : Option Sum} {k : Kids} (h : IsTree u L (.node s v k)) : Part u L.b s v k L.A L.c L.B L.d L.ps (Tree.node s v k).many (Tree.node s v k).own := by
  unfold IsTree at h
  obtain ⟨h1, h2, h3, h4⟩ := h
  exact ⟨h1, h2, h3, h4⟩
theorem Part.tree {u : World} {b : Nat} {s : Str} {v : Option Sum} {k : Kids} {A : Option Addr} {c : Nat} {B : Option Addr} {d : Nat} {ps : List Plot} (h : Part u b s v k A c B d ps (Tree.node s v k).many (Tree.node s v k).own) : IsTree u (.node b A c B d ps) (.node s v k) := by
  unfold IsTree
  exact ⟨h.blk, h.by_, h.to_, h.kids⟩
mutual
theorem IsTree.ext {u u' : World} (he : Ext u u') : ∀ {t : Tree} {b : Plot}, IsTree u b t → IsTree u' b t
  | .node s v k, b, h => by
    unfold IsTree at h ⊢
    obtain ⟨h1, h2, h3, h4⟩ := h
    exact ⟨by rw [he.block _ (Array.getElem?_eq_some_iff.1 h1).1]; exact h1, h2.ext he, h3.ext he, h4.ext he⟩
theorem IsKids.ext {u u' : World} (he : Ext u u') : ∀ {k : Kids} {ps : List Plot}, IsKids u ps k → IsKids u' ps k
  | .nil, [], _ => trivial
  | .nil, _ :: _, h => h.elim
  | .cons _ t r, [], h => h.elim
  | .cons _ t r, p :: ps, h => by
    unfold IsKids at h ⊢
    exact ⟨h.1.ext he, h.2.ext he⟩
end
theorem Part.ext {u u' : World} (he : Ext u u') {b : Nat} {s : Str} {v : Option Sum} {k : Kids} {A : Option Addr} {c : Nat} {B : Option Addr} {d : Nat} {ps : List Plot} {many : Int} {own : Sum} (h : Part u b s v k A c B d ps many own) : Part u' b s v k A c B d ps many own :=
  ⟨by rw [he.block b (Array.getElem?_eq_some_iff.1 h.blk).1]; exact h.blk, h.by_.ext he, h.to_.ext he, h.kids.ext he⟩
theorem IsKids.len {u : World} : ∀ {k : Kids} {ps : List Plot}, IsKids u ps k → ps.length = k.bytes.length
  | .nil, [], _ => rfl
  | .nil, _ :: _, h => h.elim
  | .cons _ t r, [], h => h.elim
  | .cons _ t r, p :: ps, h => by
    unfold IsKids at h
    simp [Kids.bytes, h.2.len]
theorem IsKids.at {u : World} : ∀ {k : Kids} {ps : List Plot}, IsKids u ps k → ∀ i (h : i < ps.length) (h2 : i < k.trees.length), IsTree u ps[i] k.trees[i]
  | .nil, [], _, i, h, _ => by cases h
  | .nil, _ :: _, h, _, _, _ => h.elim
  | .cons _ t r, [], h, _, _, _ => h.elim
  | .cons _ t r, p :: ps, h, i, h1, h2 => by
    unfold IsKids at h
    cases i with
    | zero => exact h.1
    | succ i => exact h.2.at i (by simpa using h1) (by simpa [Kids.trees] using h2)
section
variable {u : World} {b : Nat} {s : Str} {v : Option Sum} {k : Kids} {A : Option Addr} {c : Nat} {B : Option Addr} {d : Nat} {ps : List Plot} {many : Int} {own : Sum}
theorem Part.cell (h : Part u b s v k A c B d ps many own) (o : Nat) (x : Value) (hx : ([strV s, .bool v.isSome] ++ ((v.getD Sum.zero).l.map u8V ++ ([.slice A k.bytes.length c, .slice B ps.length d, intV many] ++ own.l.map u8V)))[o]? = some x) : u.cell? ⟨b, o, none⟩ = some x := by
  rw [← nod_cells] at hx
  have := range_of_blk h.blk (o := 0) (l := (boxCells (nodF s v A k.bytes.length c B ps.length d many own)).toList) (fun j v hj => by rw [Nat.zero_add]; exact hj)
  have := this o x hx
  rw [Nat.zero_add] at this
  exact this
theorem Part.stem (h : Part u b s v k A c B d ps many own) : (loadVar 9 ⟨b, 0, none⟩).run Tryz.prog u = .ok (strV s) u :=
  V.run_load tb_ok ⟨rfl, Tryz.t9, rfl, rfl⟩ fun j x hj => by
    cases j with
    | zero => exact h.cell 0 x hj
    | succ j => simp [strV, Value.cells] at hj
theorem Part.has (h : Part u b s v k A c B d ps many own) : (loadVar 4 ⟨b, 1, none⟩).run Tryz.prog u = .ok (.bool v.isSome) u :=
  V.run_load tb_ok ⟨rfl, Tryz.t4, rfl, rfl⟩ fun j x hj => by
    cases j with
    | zero => exact h.cell 1 x hj
    | succ j => simp [Value.cells] at hj
theorem Part.sum (h : Part u b s v k A c B d ps many own) : (loadVar 40 ⟨b, 2, none⟩).run Tryz.prog u = .ok (sumV (v.getD Sum.zero)) u :=
  V.run_load tb_ok (vok_sum _) fun j x hj => by
    refine h.cell (2 + j) x ?_
    have hc : (sumV (v.getD Sum.zero)).cells.toList = (v.getD Sum.zero).l.map u8V := by simp [sumV, Value.cells]
    rw [hc] at hj
    rw [List.getElem?_append_right (by simp), List.getElem?_append_left (by have := (List.getElem?_eq_some_iff.1 hj).1; simpa using this)]
    simpa using hj
theorem Part.at34 (h : Part u b s v k A c B d ps many own) (j : Nat) (x : Value) (hx : ([.slice A k.bytes.length c, .slice B ps.length d, intV many] ++ own.l.map u8V : List Value)[j]? = some x) : u.cell? ⟨b, 34 + j, none⟩ = some x := by
  refine h.cell (34 + j) x ?_
  have hl := (v.getD Sum.zero).h
  rw [List.getElem?_append_right (by simp; omega), List.getElem?_append_right (by simp [hl]; omega)]
  rw [show 34 + j - [strV s, Value.bool v.isSome].length - ((v.getD Sum.zero).l.map u8V).length = j by simp [hl]; omega]
  exact hx
theorem Part.lby (h : Part u b s v k A c B d ps many own) : (loadVar 22 ⟨b, 34, none⟩).run Tryz.prog u = .ok (.slice A k.bytes.length c) u :=
  V.run_load tb_ok ⟨rfl, Tryz.t22, rfl, rfl⟩ fun j x hj => by
    cases j with
    | zero => exact h.at34 0 x hj
    | succ j => simp [Value.cells] at hj
theorem Part.lto (h : Part u b s v k A c B d ps many own) : (loadVar 163 ⟨b, 35, none⟩).run Tryz.prog u = .ok (.slice B ps.length d) u :=
  V.run_load tb_ok ⟨rfl, Tryz.t163, rfl, rfl⟩ fun j x hj => by
    cases j with
    | zero => exact h.at34 1 x hj
    | succ j => simp [Value.cells] at hj
theorem Part.lmany (h : Part u b s v k A c B d ps many own) : (loadVar 3 ⟨b, 36, none⟩).run Tryz.prog u = .ok (intV many) u :=
  V.run_load tb_ok ⟨rfl, Tryz.t3, rfl, rfl⟩ fun j x hj => by
    cases j with
    | zero => exact h.at34 2 x hj
    | succ j => simp [intV, Value.cells] at hj
theorem Part.lown (h : Part u b s v k A c B d ps many own) : (loadVar 40 ⟨b, 37, none⟩).run Tryz.prog u = .ok (sumV own) u :=
  V.run_load tb_ok (vok_sum _) fun j x hj => by
    have hc : (sumV own).cells.toList = own.l.map u8V := by simp [sumV, Value.cells]
    rw [hc] at hj
    have := h.at34 (3 + j) x (by rw [List.getElem?_append_right (by simp)]; simpa using hj)
    rw [← Nat.add_assoc] at this
    exact this
end
end Go.Proofs.YtbfjmimiigjenaaGreatDoor
namespace Go.Proofs.YtbfjmimiigjenaaGreatDoor
open Go V RowKit
abbrev bufF (A : Option Addr) (q c : Nat) (lr : Int) : List AV := [.val (.slice A q c), .val (intV 0), .val (.int .i8 lr)]
abbrev bufE (b : Nat) (A : Option Addr) (q c : Nat) (lr : Int) : Option HE := some (.box b (bufF A q c lr) 291)
abbrev capR (A : Option Addr) (q c : Nat) : Prop := True
theorem Len_spec (b : Nat) (A : Option Addr) (q c : Nat) (lr : Int) (hq : q ≤ 100000000) : Does Tryz.prog tb 281 [.pointer (some ⟨b, 0, none⟩)] [(0, bufE b A q c lr)] (fun _ => True) (fun _ : Unit => intV q) (fun _ => [(0, bufE b A q c lr)]) (fun _ _ _ => True) := by
  refine Does.enter tb_ok [(0, .av (.box 0 b 0))] Tryz.func281 rfl Tryz.ntmps281 rfl rfl 1 ?_
  intro B0 m0 K
  refine RunH.adv tb_ok [] rfl rfl (by simp <;> omega) ?_
  refine RunH.draw rfl [(0, bufE b A q c lr)] rfl 11 rfl rfl ?_
  refine RunD.adv tb_ok (by kernel_rfl) [] rfl rfl (by simp <;> omega) ?_
  refine RunD.done (.inl rfl) (by kernel_rfl) ?_
  refine RunH.adv tb_ok [] rfl rfl (by simp <;> omega) ?_
  refine RunH.ret1 Tryz.func281 rfl rfl fun w hst => ⟨(), by show Ending.returned (Value.int .i64 ((q : Int) - 0)) = _; rw [Int.sub_zero], hst.out [] rfl rfl fun u h => ⟨h.1, trivial⟩⟩
theorem tryGrow_yes (b : Nat) (A : Option Addr) (q c n : Nat) (lr : Int) (hq : q + n ≤ c) (hc : c ≤ 9223372036854775807) : Does Tryz.prog tb 254 [.pointer (some ⟨b, 0, none⟩), intV n] [(0, bufE b A q c lr)] (fun _ => True) (fun _ : Unit => .tuple #[intV q, .bool true]) (fun _ => [(0, bufE b A (q + n) c lr)]) (fun _ _ _ => True) := by
  have hl : lim = 140737488351232 := rfl
  refine Does.enter tb_ok [(0, .av (.box 0 b 0)), (1, intE n)] Tryz.func254 rfl Tryz.ntmps254 rfl rfl 1 ?_
  intro B0 m0 K
  refine RunH.adv tb_ok [] rfl rfl (by simp <;> omega) ?_
  refine RunH.read (intE c) rfl rfl rfl rfl (fun w a _ ha => op_cap (A := A) (n_ := q) (e := 5) ha rfl rfl (tb_ok.und (by kernel_rfl))) ?_
  refine RunH.adv tb_ok [true] rfl rfl (by simp <;> omega) ?_
  have e : ((q : Int) + n).toNat = q + n := by omega
  simp only [e]
  refine RunH.ret2 Tryz.func254 rfl rfl rfl fun w hst => ⟨(), rfl, hst.out [] rfl rfl fun u h => ⟨h.1, trivial⟩⟩
theorem tryGrow_no (b : Nat) (A : Option Addr) (q c n : Nat) (lr : Int) (hq : c < q + n) (hc : c ≤ 9223372036854775807) (h2 : q ≤ 1000000000) : Does Tryz.prog tb 254 [.pointer (some ⟨b, 0, none⟩), intV n] [(0, bufE b A q c lr)] (fun _ => True) (fun _ : Unit => .tuple #[intV 0, .bool false]) (fun _ => [(0, bufE b A q c lr)]) (fun _ _ _ => True) := by
  refine Does.enter tb_ok [(0, .av (.box 0 b 0)), (1, intE n)] Tryz.func254 rfl Tryz.ntmps254 rfl rfl 1 ?_
  intro B0 m0 K
  refine RunH.adv tb_ok [] rfl rfl (by simp <;> omega) ?_
  refine RunH.read (intE c) rfl rfl rfl rfl (fun w a _ ha => op_cap (A := A) (n_ := q) (e := 5) ha rfl rfl (tb_ok.und (by kernel_rfl))) ?_
  refine RunH.adv tb_ok [false] rfl rfl (by simp <;> omega) ?_
  refine RunH.ret2 Tryz.func254 rfl rfl rfl fun w hst => ⟨(), rfl, hst.out [] rfl rfl fun u h => ⟨h.1, trivial⟩⟩
def RowAt (u : World) (A : Option Addr) (c : Nat) (l : List UInt8) : Prop := ∃ B, u.ownsRow B 5 1 (.slice A l.length c) l.length (l.flatMap kByte.cs)
theorem growSlice_spec (A : Option Addr) (c : Nat) (l : List UInt8) (n : Nat) (hn : 1 ≤ n) (hs : l.length + n ≤ 1000000) (hc : c ≤ 1000000000) :
    Does Tryz.prog tb 283 [.slice A l.length c, intV n] [] (fun u => RowAt u A c l) (fun y : Option Addr × Nat => .slice y.1 l.length y.2) (fun y => [(0, rowE kByte y.1 y.2 l)]) (fun y _ _ => l.length + n ≤ y.2) := by
  intro B0 w K hst hp
  obtain ⟨B, _, hrow⟩ := hp w hst.fact
  have hsz : ∀ l : List UInt8, (l.flatMap kByte.cs).length = l.length := fun l => by rw [kByte.flat_len, show kByte.sz = 1 from rfl, Nat.mul_one]
  have hone : ∀ v ∈ l.flatMap kByte.cs, v.oneCell' = true := fun v hv => by
    rw [List.mem_flatMap] at hv
    obtain ⟨x, _, hv⟩ := hv
    have : v = u8V x := List.mem_singleton.1 hv
    subst this; rfl
  have fin : ∀ (w' : World) (cap2 : Nat) (cells : Array Value), w'.heap[w.heap.size]? = some (.cells cells 5 (0, 0)) → cells.size = cap2 → cells.toList.take l.length = l.flatMap kByte.cs → l.length + n ≤ cap2 → cap2 ≤ maxLen → Below w.heap.size w w' →
      St tb B0 [(0, rowE kByte (some ⟨w.heap.size, 0, none⟩) cap2 l)] (fun u => K u ∧ l.length + n ≤ cap2) w' := by
    intro w' cap2 cells h1 h2 h3 h4 h5 h6
    have hown : w'.ownsRow B0 kByte.T kByte.sz (.slice (some ⟨w.heap.size, 0, none⟩) l.length cap2) l.length (l.flatMap kByte.cs) := by
      exact ⟨kByte.flat_len l, .inr ⟨w.heap.size, cap2, cells, rfl, hst.base, h1, by omega, h5, by rw [h2]; exact (Nat.mul_one _).symm, by rw [show l.length * kByte.sz = l.length from Nat.mul_one _]; exact h3⟩⟩
    have := hst.push (w' := w') h6 0 (.row (.slice (some ⟨w.heap.size, 0, none⟩) l.length cap2) kByte.T kByte.sz l.length (l.flatMap kByte.cs)) hown (fun k hk => by
      have : w.heap.size = k := by injection hk
      omega)
    exact this.mono fun u _ hu => ⟨hu, h4⟩
  rcases hrow with ⟨hv, h0⟩ | ⟨g, cap, cur, hv, hg, hh, hnc, hmx, hcs, htk⟩
  · injection hv with e1 e2 e3
    subst e1 e3
    have hl0 : l = [] := List.length_eq_zero_iff.1 e2
    subst hl0
    refine (Tryz.bytes_growSlice_nil n w hn (by simp only [List.length_nil] at hs; omega)).mono ?_
    rintro e w' ⟨cap2, cells, rfl, h1, h2, h3, h4, h5⟩
    exact ⟨(some ⟨w.heap.size, 0, none⟩, cap2), rfl, fin w' cap2 cells h1 h2 (by simp) (by simpa using h3) h4 h5⟩
  · injection hv with e1 e2 e3
    subst e1 e3
    rw [Nat.mul_one] at hcs htk
    refine (Tryz.bytes_growSlice_row g l.length c n cur w hh hcs hnc hn (by omega) (by omega) (by rw [htk]; exact hone)).mono ?_
    rintro e w' ⟨cap2, cells, rfl, h1, h2, h3, h4, h5, h6⟩
    exact ⟨(some ⟨w.heap.size, 0, none⟩, cap2), rfl, fin w' cap2 cells h1 h2 (by rw [h3, htk]) h4 h5 h6⟩
section
variable {P : Program} {f : Fr} {n : Nat} {S : Stops} {R : Ending → World → Prop} {tb : TT} {B0 : Nat} {I : World → Prop} {H : Heap} {nx m : Nat} {env : SEnv} {todo k : List Item}
theorem V.RunH.rowCase {id : Nat} {A : Option Addr} {e : TypeId} {sz p c : Nat} {xs : List Value} (hH : lookH H id = some (.row (.slice A p c) e sz p xs))
    (h0 : A = none → p = 0 → c = 0 → RunH P f n tb B0 S R todo env H nx m I) (h1 : ∀ g, A = some ⟨g, 0, none⟩ → p ≤ c → c ≤ 9223372036854775807 → RunH P f n tb B0 S R todo env H nx m I) : RunH P f n tb B0 S R todo env H nx m I := by
  intro w hm hst
  rcases (hst.holds id _ hH).2 with ⟨hv, _⟩ | ⟨g, cap, cur, hv, hg, hh, hc, hmx, hcs, ht⟩
  · injection hv with e1 e2 e3
    exact h0 e1 e2 e3 w hm hst
  · injection hv with e1 e2 e3
    subst e3
    exact h1 g e1 hc hmx w hm hst
theorem V.RunH.rowLe {id : Nat} {A : Option Addr} {e : TypeId} {sz p c : Nat} {xs : List Value} (hH : lookH H id = some (.row (.slice A p c) e sz p xs))
    (h : p ≤ c → c ≤ 9223372036854775807 → RunH P f n tb B0 S R todo env H nx m I) : RunH P f n tb B0 S R todo env H nx m I :=
  RunH.rowCase hH (fun _ h1 h2 => h (by omega) (by omega)) (fun _ _ h1 h2 => h h1 h2)
end
theorem V.RunD.lastOp {P : Program} {f : Fr} {n : Nat} {S : Stops} {R : Ending → World → Prop} {tb : TT} {B0 : Nat} {I : World → Prop} {H : Heap} {nx m : Nat} {env : SEnv} {k : List Item} {ops : Array Oper} {i : Nat} {l : List Bool} {G0 : Heap} {I0 : World → Prop} {o : Oper} (hk : tb.Ok P) {v : Option EV} {H' : Heap} {nx' m' : Nat} {ob : List Ob} {eq : List Eqn}
    (ho : ops.toList[i]? = some o) (hr : Region.ready .any ops l.toArray = [i]) (hw : wantE env ops o.guard = .yes) (hf : finB ops i = true) (hl : Region.ready .any ops (l.set i true).toArray = [])
    (hs : stepOp tb env H nx m [] [] o.op = some (v, H', nx', m', ob, eq)) (heq : AllEqn eq) (hob : AllOb ob) (hm : m ≤ m') {env' : SEnv} (hv : OutOk n v o.dst env env')
    (h : ∀ m1, m ≤ m1 → RunH P f n tb B0 S R k env' H' nx' m1 I) : RunD P f n tb B0 S R k ops G0 I0 (0 + 1) l env H nx m I := by
  refine RunD.last (E := fun _ : Unit => env') (G := fun _ => H') (F := fun _ => I) ho hr hw hf ?_ nx' hl fun _ m1 hm1 => h m1 hm1
  intro w a hmw hst ha
  unfold OutOk at hv
  obtain ⟨w', q1, q2, q3, _⟩ := stepOp_ok hk ha hst hmw hs hob heq
  unfold Oper.wp
  rw [q1]
  cases v with
  | none =>
    cases hd : o.dst with
    | none =>
      rw [hd] at hv
      have hv : env' = env := hv
      subst hv
      exact ⟨(), by rw [hd]; exact ha, by omega, q2⟩
    | some d => rw [hd] at hv; exact hv.elim
  | some e =>
    cases hd : o.dst with
    | none => rw [hd] at hv; exact hv.elim
    | some d =>
      rw [hd] at hv
      obtain ⟨hdn, rfl⟩ := hv
      refine ⟨(), ?_, by omega, q2⟩
      rw [kn_cons, hd]
      exact ha.put (Nat.lt_of_lt_of_le (Nat.lt_succ_self d) (Nat.le_of_ble_eq_true hdn)) _
theorem made_byte (n : Nat) : madeCells ((Tryz.t5).zero.getD undef).cells n = bsC (List.replicate n 0) := by
  have e : ((Tryz.t5).zero.getD undef) = Value.int .u8 0 := by kernel_rfl
  rw [e]
  unfold madeCells bsC
  apply Array.ext
  · simp
  · intro i h1 h2
    simp [Value.cells, Nat.mod_one]
    rfl
theorem run_make8 (w : World) (n c : Nat) (hc : n ≤ c) (hn : c ≤ 1000) : (Instr.makeSlice 22 (.int .i64 n) (.int .i64 c)).run Tryz.prog w = .ok (.slice (some ⟨w.heap.size, 0, none⟩) n c) (w.alloc (.cells (bsC (List.replicate c 0)) 5)) := by
  have h := run_makeSlice (P := Tryz.prog) w 22 5 Tryz.t5 ((Tryz.t5).zero.getD undef) (tb_ok.und rfl) (tb_ok.get (by kernel_rfl)) (by kernel_rfl) .i64 .i64 n c (by omega) (by omega) (by rw [Int.toNat_natCast]; show c * 1 ≤ _; omega) (by show (1 : Int) * c ≤ _; omega) (by omega)
  rw [h, Int.toNat_natCast, Int.toNat_natCast, show c * (Tryz.t5).size = c from Nat.mul_one c, made_byte]
section
variable {n : Nat} {B0 : Nat} {I : World → Prop} {H : Heap} {m : Nat} {env : SEnv}
theorem V.OpGo.make8 {d id q c : Nat} {z : Int} (hz : z = c) (hq : q ≤ c) (hc : c ≤ 1000) {x y : Operand} {ty : TypeId} {ps : String} {af : Array Edge} {gd : Option (Nat × Bool)} (hd : Nat.blt d n = true) (hx : evE env x = some (intE q)) (hy : evE env y = some (intE z)) :
    OpGo Tryz.prog tb B0 n ⟨some d, .makeSlice 22 x y, ty, ps, af, gd⟩ env H m I (fun _ : Unit => (d, .av (.val (.slice (some ⟨m, 0, none⟩) q c))) :: env) (fun _ => (id, some (.obj m (.cells (bsC (List.replicate c 0)) 5))) :: H) (fun _ => I) := by
  intro w a hm hst ha
  have hdn : d < n := Nat.lt_of_lt_of_le (Nat.lt_succ_self d) (Nat.le_of_ble_eq_true hd)
  have hxv : a.eval x = .int .i64 q := ev_run ha hx
  subst hz
  have hyv : a.eval y = .int .i64 c := ev_run ha hy
  unfold Oper.wp
  have : (execOp a.eval ⟨some d, .makeSlice 22 x y, ty, ps, af, gd⟩).run Tryz.prog w = .ok (.value (.slice (some ⟨w.heap.size, 0, none⟩) q c)) (w.alloc (.cells (bsC (List.replicate c 0)) 5)) := by
    simp only [execOp, hxv, hyv, run_make8 w q c hq hc, Sem.run_bind, Sem.run_pure, Result.andThen_ok]
  rw [this]
  subst hm
  refine ⟨(), ?_, by simp, hst.push (ext_alloc w _) id (.obj w.heap.size (.cells (bsC (List.replicate c 0)) 5)) ⟨hst.base, heap_alloc_new w _⟩ (fun k hk => by
    have : w.heap.size = k := by injection hk
    subst this; exact Nat.le_refl _)⟩
  rw [kn_cons]; exact ha.put hdn _
end
theorem subA_zero (A : Option Addr) (c sz : Nat) : V.subA A (Int.toNat 0) c sz = A := by
  unfold V.subA
  split
  · rfl
  · cases A with
    | none => rfl
    | some a => simp [Addr.add]
set_option maxRecDepth 10000 in
theorem grow_spec (b : Nat) (A : Option Addr) (c n : Nat) (lr : Int) (l : List UInt8) (hn : 1 ≤ n) (hs : l.length + n ≤ 1000000) (hlt : c < l.length + n) : Does Tryz.prog tb 255 [.pointer (some ⟨b, 0, none⟩), intV n] [(0, bufE b A l.length c lr), (1, rowE kByte A c l)] (fun _ => True) (fun _ : Option Addr × Nat => intV l.length) (fun y => [(0, bufE b y.1 (l.length + n) y.2 lr), (1, rowE kByte y.1 y.2 l)]) (fun y _ _ => l.length + n ≤ y.2) := by
  refine Does.enter tb_ok [(0, .av (.box 0 b 0)), (1, intE n)] Tryz.func255 rfl Tryz.ntmps255 rfl rfl 2 ?_
  intro B0 m0 K
  refine RunH.adv tb_ok [] rfl rfl (by simp <;> omega) ?_
  refine RunH.doesB [(0, 0)] 2 (hc := Tryz.call281) (ho := rfl) (hw := rfl) (hd := rfl) (hf := rfl) (hes := rfl) (hσ := rfl) (hn := rfl) (hV := fun _ => rfl) (hG := fun _ => rfl) (e := fun _ : Unit => intE l.length) (hC := Len_spec b A l.length c lr (by omega)) (hp := fun _ _ => trivial) ?_
  rintro ⟨⟩ m1 hm1; refine RunH.drop ?_
  refine RunH.adv tb_ok [] rfl rfl (by simp <;> omega) ?_
  apply RunH.joinK (α := Unit) (fun _ => [(0, .av (.box 0 b 0)), (1, intE n), (5, intE l.length), (47, slE A l.length c)]) (fun _ => [(0, bufE b A l.length c lr), (1, rowE kByte A c l)]) (fun _ u => K u ∧ True)
  · refine RunH.rowCase (id := 1) rfl (fun hA h0 hc => ?_) (fun g hA hlc _ => ?_)
    · have hl0 : l = [] := List.length_eq_zero_iff.1 h0
      subst hl0 hA hc
      simp only [List.length_nil] at *
      refine RunH.adv tb_ok [true, false] rfl rfl (by simp <;> omega) ?_
      refine RunH.doesB [(0, 0)] 2 (hc := Tryz.call254) (ho := rfl) (hw := rfl) (hd := rfl) (hf := rfl) (hes := rfl) (hσ := rfl) (hn := rfl) (hV := fun _ => rfl) (hG := fun _ => rfl) (e := fun _ : Unit => .av (.val (.tuple #[intV 0, .bool false]))) (hC := tryGrow_no b none 0 0 n lr (by omega) (by omega) (by omega)) (hp := fun _ _ => trivial) ?_
      rintro ⟨⟩ m2 hm2; refine RunH.drop ?_
      by_cases h64 : n ≤ 64
      · refine RunH.adv tb_ok [false, true, true] rfl rfl (by simp [h64] <;> omega) ?_
        refine RunH.go rfl rfl (OpGo.make8 (id := 3) (q := n) (c := 64) (z := 64) (by omega) h64 (by show 64 ≤ 1000; omega) rfl rfl rfl) 4 ?_
        rintro ⟨⟩ m3 hm3
        refine RunH.adv tb_ok [] rfl rfl (by simp <;> omega) ?_
        refine RunH.cook (id := 3) (g := m2) (sz := 1) 0 64 rfl (by omega) (by show 64 ≤ 9223372036854775807; omega) (by unfold bsC; simp) ?_
        refine RunH.ret1 Tryz.func255 rfl rfl fun w hst => ⟨(some ⟨m2, 0, none⟩, 64), rfl, by
          have := hst.out (G := [(0, bufE b (some ⟨m2, 0, none⟩) (0 + n) 64 lr), (1, rowE kByte (some ⟨m2, 0, none⟩) 64 [])]) (J := fun u => K u ∧ 0 + n ≤ 64) [(1, 3)] (by rw [Nat.zero_add]; rfl) rfl fun u h => ⟨h.1, by omega⟩
          exact this⟩
      · refine RunH.adv tb_ok [false, true, false] rfl rfl (by simp [h64] <;> omega) ?_
        exact RunH.meetS () [] (.head _) rfl rfl rfl fun u hu => hu
    · subst hA
      by_cases h0 : l.length = 0
      · refine RunH.adv tb_ok [true, false] rfl rfl (by simp [h0] <;> omega) ?_
        refine RunH.doesB [(0, 0)] 2 (hc := Tryz.call254) (ho := rfl) (hw := rfl) (hd := rfl) (hf := rfl) (hes := rfl) (hσ := rfl) (hn := rfl) (hV := fun _ => rfl) (hG := fun _ => rfl) (e := fun _ : Unit => .av (.val (.tuple #[intV 0, .bool false]))) (hC := tryGrow_no b (some ⟨g, 0, none⟩) l.length c n lr (by omega) (by omega) (by omega)) (hp := fun _ _ => trivial) ?_
        rintro ⟨⟩ m2 hm2; refine RunH.drop ?_
        refine RunH.adv tb_ok [false, false] rfl rfl (by simp <;> omega) ?_
        exact RunH.meetS () [] (.head _) rfl rfl rfl fun u hu => hu
      · refine RunH.adv tb_ok [false] rfl rfl (by simp [h0] <;> omega) ?_
        refine RunH.doesB [(0, 0)] 2 (hc := Tryz.call254) (ho := rfl) (hw := rfl) (hd := rfl) (hf := rfl) (hes := rfl) (hσ := rfl) (hn := rfl) (hV := fun _ => rfl) (hG := fun _ => rfl) (e := fun _ : Unit => .av (.val (.tuple #[intV 0, .bool false]))) (hC := tryGrow_no b (some ⟨g, 0, none⟩) l.length c n lr (by omega) (by omega) (by omega)) (hp := fun _ _ => trivial) ?_
        rintro ⟨⟩ m2 hm2; refine RunH.drop ?_
        refine RunH.adv tb_ok [false, false] rfl rfl (by simp <;> omega) ?_
        exact RunH.meetS () [] (.head _) rfl rfl rfl fun u hu => hu
  rintro ⟨⟩ m2
  refine RunH.toNx 2 ?_
  refine RunH.rowLe (id := 1) rfl fun hlc hc => ?_
  refine RunH.read (intE c) rfl rfl rfl rfl (fun w a _ ha => op_cap (A := A) (n_ := l.length) (e := 5) ha rfl rfl (tb_ok.und (by kernel_rfl))) ?_
  refine RunH.adv tb_ok [false, false] rfl rfl (by simp <;> omega) ?_
  refine RunH.draw rfl [(0, bufE b A l.length c lr)] rfl 20 rfl rfl ?_
  refine RunD.adv tb_ok (by kernel_rfl) [] rfl rfl (by simp <;> omega) ?_
  have e1 : subA A (Int.toNat 0) c (Tryz.t5).size = A := subA_zero A c _
  have e2 : l.length - Int.toNat 0 = l.length := Nat.sub_zero _
  have e3 : c - Int.toNat 0 = c := Nat.sub_zero _
  have e4 : (0 + (n : Int)) = n := Int.zero_add _
  rw [e1, e2, e3, e4]
  refine RunD.doesB (i := 16) [] 3 (fun y : Option Addr × Nat => rowS 2 y.1 l.length y.2) rfl (by kernel_rfl) rfl rfl rfl rfl Tryz.call283 (growSlice_spec A c l n hn hs (by omega)) rfl rfl (fun _ => rfl) (fun _ => rfl) (fun u hu => ⟨B0, hu.row (κ := kByte) (l := l) (id := 1) rfl⟩) (fun _ => rfl) (fun _ h => h) ?_
  rintro ⟨A', c'⟩ m3 hm3
  dsimp only
  refine RunD.adv tb_ok (by kernel_rfl) [] rfl rfl (by simp <;> omega) ?_
  refine RunD.lastOp (i := 19) tb_ok rfl (by kernel_rfl) rfl (by kernel_rfl) (by kernel_rfl) rfl rfl ?_ (Nat.le_refl _) rfl ?_
  · simp [AllOb]
  intro m4 hm4
  refine RunH.pure (fun u h => h.2) fun hc' => ?_
  refine RunH.adv tb_ok [] rfl rfl (by simp <;> omega) ?_
  have e5 : ((l.length : Int) + n).toNat = l.length + n := by omega
  simp only [e5]
  refine RunH.ret1 Tryz.func255 rfl rfl fun w hst => ⟨(A', c'), rfl, hst.out [(1, 2)] rfl rfl fun u h => ⟨h.1.1, hc'⟩⟩
section
variable {n : Nat} {B0 : Nat} {I : World → Prop} {H : Heap} {m : Nat} {env : SEnv}
theorem V.OpGo.copyTail {d id : Nat} {s x : Operand} {T2 : TypeId} {ty : TypeId} {ps : String} {af : Array Edge} {gd : Option (Nat × Bool)} {es ex : EV} {dc c : Nat} {A : Option Addr} {l p : List UInt8} {X : Value}
    (hd : Nat.blt d n = true) (hs : evE env s = some es) (hsv : es.v = .slice (V.subA A l.length c 1) p.length dc) (hx : evE env x = some ex) (hxv : ex.v = X)
    (hH : lookH H id = rowE kByte A c l) (hfit : l.length + p.length ≤ c) (hX : ∀ w, St tb B0 H I w → (Builtin.lenOf X).run Tryz.prog w = .ok p.length w ∧ (Builtin.firstCells 1 p.length X).run Tryz.prog w = .ok (p.flatMap kByte.cs).toArray w) :
    OpGo Tryz.prog tb B0 n ⟨some d, .call ⟨.builtin .copy, #[s, x], #[22, T2]⟩, ty, ps, af, gd⟩ env H m I (fun _ : Unit => (d, .av (.val (.int .i64 p.length))) :: env) (fun _ => (id, rowE kByte A c (l ++ p)) :: H) (fun _ => I) := by
  intro w a hm hst ha
  have hdn : d < n := Nat.lt_of_lt_of_le (Nat.lt_succ_self d) (Nat.le_of_ble_eq_true hd)
  have hu := run_underlying (tb_ok.und (show tb.und 22 = some (.slice 5) from rfl)) w
  have hsz := run_tsize (w := w) tb_ok (show tb.get 5 = some Tryz.t5 by kernel_rfl)
  have hsz1 : (Tryz.t5).size = 1 := by kernel_rfl
  rw [hsz1] at hsz
  obtain ⟨hq, hfirst⟩ := hX w hst
  have hfl : ∀ l : List UInt8, (l.flatMap kByte.cs).length = l.length := fun l => by rw [kByte.flat_len, show kByte.sz = 1 from rfl, Nat.mul_one]
  have h1 : ∀ u ∈ p.flatMap kByte.cs, u.oneCell' = true := fun u hu => by
    rw [List.mem_flatMap] at hu
    obtain ⟨z, _, hz⟩ := hu
    have : u = u8V z := List.mem_singleton.1 hz
    subst this; rfl
  have hsv' : a.eval s = .slice (V.subA A l.length c 1) p.length dc := (ev_run ha hs).trans hsv
  have hxv' : a.eval x = X := (ev_run ha hx).trans hxv
  have key : ∃ w', (Builtin.copy_ #[22, T2] ty #[.slice (V.subA A l.length c 1) p.length dc, X]).run Tryz.prog w = .ok (.int .i64 p.length) w' ∧ w.heap.size ≤ w'.heap.size ∧ St tb B0 ((id, rowE kByte A c (l ++ p)) :: H) I w' := by
    by_cases hp0 : p = []
    · subst hp0
      refine ⟨w, ?_, Nat.le_refl _, ?_⟩
      · have hf : (Builtin.firstCells 1 0 X).run Tryz.prog w = .ok #[] w := hfirst
        simp only [Builtin.copy_, Sem.run_bind, List.getElem?_toArray, List.getElem?_cons_zero, List.getElem?_cons_succ, hu, Result.andThen_ok, hq, Sem.run_pure, hsz, List.length_nil, Nat.min_self]
        cases V.subA A l.length c 1 <;> simp [hf, storeCells, goInt]
      · rw [List.append_nil]
        exact hst.turn id _ _ hH (Agr.refl _ _) (hst.holds id _ hH) fun k hk => .inl hk
    · have hpl : 0 < p.length := List.length_pos_iff.2 hp0
      have ho := hst.holds id _ hH
      rcases ho.2 with ⟨hv, _⟩ | ⟨g, cap, cur, hv, hg, hh, hcc, hmx, hcs, htk⟩
      · injection hv with e1 e2 e3
        omega
      · injection hv with e1 e2 e3
        subst e1 e3
        have hA : V.subA (some ⟨g, 0, none⟩) l.length c 1 = some ⟨g, l.length, none⟩ := by
          unfold V.subA
          rw [if_neg (by omega)]
          simp [Addr.add]
          intro h; rw [h]; rfl
        have hcs1 : cur.size = c := by rw [hcs]; exact Nat.mul_one c
        have hstc := run_storeCells_at Tryz.prog g l.length 5 (p.flatMap kByte.cs) 0 cur w hh (by rw [hfl, hcs1]; omega) h1
        simp only [Nat.add_zero] at hstc
        refine ⟨w.setRow g (putC cur l.length (p.flatMap kByte.cs)), ?_, by simp, ?_⟩
        · simp only [Builtin.copy_, Sem.run_bind, List.getElem?_toArray, List.getElem?_cons_zero, List.getElem?_cons_succ, hu, Result.andThen_ok, hq, Sem.run_pure, hsz, Nat.min_self, hfirst, hA]
          simp [hstc, putC, goInt]
        · refine hst.turn id _ (.row (.slice (some ⟨g, 0, none⟩) (l ++ p).length c) kByte.T kByte.sz (l ++ p).length ((l ++ p).flatMap kByte.cs)) hH ⟨rfl, rfl, rfl, by simp, fun k _ hk => setRow_other w g k _ fun e => hk (by rw [e]; rfl)⟩ ⟨?_, .inr ⟨g, c, _, rfl, hg, setRow_heap w g cur _ _ _ hh, ?_, hmx, ?_, ?_⟩⟩ fun k hk => .inl hk
          · exact kByte.flat_len _
          · rw [List.length_append]; exact hfit
          · rw [putC_size (by rw [hfl, hcs1]; omega)]; exact hcs
          · have e : (l ++ p).length * kByte.sz = l.length + (p.flatMap kByte.cs).length := by rw [hfl, List.length_append]; exact Nat.mul_one _
            have e2 : cur.toList.take l.length = l.flatMap kByte.cs := by rw [← htk, show l.length * kByte.sz = l.length from Nat.mul_one _]
            rw [e, putC_take2 (by omega), e2, List.flatMap_append]
  obtain ⟨w', hrun, h2, h3⟩ := key
  unfold Oper.wp
  have : (execOp a.eval ⟨some d, .call ⟨.builtin .copy, #[s, x], #[22, T2]⟩, ty, ps, af, gd⟩).run Tryz.prog w = .ok (.value (.int .i64 p.length)) w' := by
    simp only [execOp, resolve, invoke, builtin, Sem.run_bind, Sem.run_pure, Result.andThen_ok, List.map_toArray, List.map_cons, List.map_nil, hsv', hxv', hrun]
  rw [this]
  refine ⟨(), ?_, by rw [← hm]; exact h2, h3⟩
  rw [kn_cons]; exact ha.put hdn _
end
theorem firstSl {w : World} {Q : Option Addr} {qc : Nat} {p : List UInt8} (h : Sl kByte w Q qc p) : (Builtin.firstCells 1 p.length (.slice Q p.length qc)).run Tryz.prog w = .ok (p.flatMap kByte.cs).toArray w := by
  have hfl : (p.flatMap kByte.cs).length = p.length := by rw [kByte.flat_len, show kByte.sz = 1 from rfl, Nat.mul_one]
  cases Q with
  | none =>
    obtain ⟨rfl, _⟩ := h.nil rfl
    rfl
  | some ad =>
    refine run_firstCells_some w 1 _ ad _ _ (p.flatMap kByte.cs) (by rw [hfl]; exact (Nat.mul_one _).symm) fun j v hj => ?_
    have hp := h.addr (by rintro rfl; simp at hj)
    unfold Ptr at hp
    injection hp with hp
    have := h.cells j v hj
    rw [hp, Addr.add_lit]
    exact this
set_option maxRecDepth 10000 in
theorem Write_spec (b : Nat) (A : Option Addr) (c : Nat) (lr : Int) (l : List UInt8) (Q : Option Addr) (qc : Nat) (p : List UInt8) (hs : l.length + p.length ≤ 1000000) :
    Does Tryz.prog tb 188 [.pointer (some ⟨b, 0, none⟩), .slice Q p.length qc] [(0, bufE b A l.length c lr), (1, rowE kByte A c l)] (fun u => Sl kByte u Q qc p) (fun _ : Option Addr × Nat => .tuple #[intV p.length, .nilIface]) (fun y => [(0, bufE b y.1 (l ++ p).length y.2 0), (1, rowE kByte y.1 y.2 (l ++ p))]) (fun _ _ _ => True) := by
  refine Does.enter tb_ok [(0, .av (.box 0 b 0)), (1, slE Q p.length qc)] Tryz.func188 rfl Tryz.ntmps188 rfl rfl 2 ?_
  intro B0 m0 K
  refine RunH.rowLe (id := 1) rfl fun hlc hc => ?_
  refine RunH.adv tb_ok [] rfl rfl (by simp <;> omega) ?_
  apply RunH.joinK (α := Option Addr × Nat) (fun y => [(5, .av (.val .nilIface)), (29, .av (.val (.slice (V.subA y.1 ((l.length : Int)).toNat y.2 (Tryz.t5).size) (l.length + p.length - ((l.length : Int)).toNat) (y.2 - ((l.length : Int)).toNat)))), (30, slE Q p.length qc)]) (fun y => [(0, bufE b y.1 (l.length + p.length) y.2 0), (1, rowE kByte y.1 y.2 l)]) (fun y u => (K u ∧ Sl kByte u Q qc p) ∧ l.length + p.length ≤ y.2)
  · by_cases hroom : l.length + p.length ≤ c
    · refine RunH.doesB [(0, 0)] 2 (hc := Tryz.call254) (ho := rfl) (hw := rfl) (hd := rfl) (hf := rfl) (hes := rfl) (hσ := rfl) (hn := rfl) (hV := fun _ => rfl) (hG := fun _ => rfl) (e := fun _ : Unit => .av (.val (.tuple #[intV l.length, .bool true]))) (hC := tryGrow_yes b A l.length c p.length 0 hroom hc) (hp := fun _ _ => trivial) ?_
      rintro ⟨⟩ m2 hm2; refine RunH.drop ?_
      refine RunH.adv tb_ok [false] rfl rfl (by simp <;> omega) ?_
      exact RunH.meetS (A, c) [] (.head _) rfl rfl rfl fun u hu => ⟨hu, hroom⟩
    · refine RunH.doesB [(0, 0)] 2 (hc := Tryz.call254) (ho := rfl) (hw := rfl) (hd := rfl) (hf := rfl) (hes := rfl) (hσ := rfl) (hn := rfl) (hV := fun _ => rfl) (hG := fun _ => rfl) (e := fun _ : Unit => .av (.val (.tuple #[intV 0, .bool false]))) (hC := tryGrow_no b A l.length c p.length 0 (by omega) hc (by omega)) (hp := fun _ _ => trivial) ?_
      rintro ⟨⟩ m2 hm2; refine RunH.drop ?_
      refine RunH.adv tb_ok [true] rfl rfl (by simp <;> omega) ?_
      refine RunH.doesB [] 2 (hc := Tryz.call255) (ho := rfl) (hw := rfl) (hd := rfl) (hf := rfl) (hes := rfl) (hσ := rfl) (hn := rfl) (hV := fun _ => rfl) (hG := fun _ => rfl) (e := fun _ : Option Addr × Nat => intE l.length) (hC := grow_spec b A c p.length 0 l (by omega) hs (by omega)) (hp := fun _ _ => trivial) ?_
      rintro ⟨A', c'⟩ m3 hm3
      refine RunH.pure (fun u h => h.2) fun hc' => ?_
      dsimp only at hc'
      refine RunH.adv tb_ok [] rfl rfl (by simp <;> omega) ?_
      exact RunH.meetS (A', c') [] (.head _) rfl rfl rfl fun u hu => hu
  rintro ⟨A', c'⟩ m4
  refine RunH.toNx 2 ?_
  refine RunH.pure (fun u h => h.2) fun hc' => ?_
  dsimp only at hc' ⊢
  refine RunH.go rfl rfl (OpGo.copyTail (id := 1) (l := l) (p := p) (A := A') (c := c') (dc := c' - l.length) (X := .slice Q p.length qc) rfl rfl ?_ rfl rfl rfl hc' fun w hst => ⟨rfl, ?_⟩) 2 ?_
  · show Value.slice _ _ _ = _
    rw [Int.toNat_natCast, Nat.add_sub_cancel_left]; rfl
  · exact firstSl hst.fact.1.2
  rintro ⟨⟩ m5 hm5
  refine RunH.adv tb_ok [] rfl rfl (by simp <;> omega) ?_
  refine RunH.ret2 Tryz.func188 rfl rfl rfl fun w hst => ⟨(A', c'), rfl, by
    have := hst.out (G := [(0, bufE b A' (l.length + p.length) c' 0), (1, rowE kByte A' c' (l ++ p))]) (J := fun u => K u ∧ True) [] rfl rfl fun u h => ⟨h.1.1, trivial⟩
    rw [List.length_append]
    exact this⟩
theorem firstStr (w : World) (p : Str) : (Builtin.firstCells 1 p.length (strV p)).run Tryz.prog w = .ok (p.flatMap kByte.cs).toArray w := by
  have h := Lib.run_firstCells_string (P := Tryz.prog) w 1 ⟨⟨p⟩⟩
  rw [strCells_flat] at h
  exact h
set_option maxRecDepth 10000 in
theorem WriteString_spec (b : Nat) (A : Option Addr) (c : Nat) (lr : Int) (l : List UInt8) (p : Str) (hs : l.length + p.length ≤ 1000000) :
    Does Tryz.prog tb 189 [.pointer (some ⟨b, 0, none⟩), strV p] [(0, bufE b A l.length c lr), (1, rowE kByte A c l)] (fun _ => True) (fun _ : Option Addr × Nat => .tuple #[intV p.length, .nilIface]) (fun y => [(0, bufE b y.1 (l ++ p).length y.2 0), (1, rowE kByte y.1 y.2 (l ++ p))]) (fun _ _ _ => True) := by
  refine Does.enter tb_ok [(0, .av (.box 0 b 0)), (1, strE p)] Tryz.func189 rfl Tryz.ntmps189 rfl rfl 2 ?_
  intro B0 m0 K
  refine RunH.rowLe (id := 1) rfl fun hlc hc => ?_
  refine RunH.adv tb_ok [] rfl rfl (by simp <;> omega) ?_
  apply RunH.joinK (α := Option Addr × Nat) (fun y => [(5, .av (.val .nilIface)), (29, .av (.val (.slice (V.subA y.1 ((l.length : Int)).toNat y.2 (Tryz.t5).size) (l.length + p.length - ((l.length : Int)).toNat) (y.2 - ((l.length : Int)).toNat)))), (30, strE p)]) (fun y => [(0, bufE b y.1 (l.length + p.length) y.2 0), (1, rowE kByte y.1 y.2 l)]) (fun y u => (K u ∧ True) ∧ l.length + p.length ≤ y.2)
  · by_cases hroom : l.length + p.length ≤ c
    · refine RunH.doesB [(0, 0)] 2 (hc := Tryz.call254) (ho := rfl) (hw := rfl) (hd := rfl) (hf := rfl) (hes := rfl) (hσ := rfl) (hn := rfl) (hV := fun _ => rfl) (hG := fun _ => rfl) (e := fun _ : Unit => .av (.val (.tuple #[intV l.length, .bool true]))) (hC := tryGrow_yes b A l.length c p.length 0 hroom hc) (hp := fun _ _ => trivial) ?_
      rintro ⟨⟩ m2 hm2; refine RunH.drop ?_
      refine RunH.adv tb_ok [false] rfl rfl (by simp <;> omega) ?_
      exact RunH.meetS (A, c) [] (.head _) rfl rfl rfl fun u hu => ⟨hu, hroom⟩
    · refine RunH.doesB [(0, 0)] 2 (hc := Tryz.call254) (ho := rfl) (hw := rfl) (hd := rfl) (hf := rfl) (hes := rfl) (hσ := rfl) (hn := rfl) (hV := fun _ => rfl) (hG := fun _ => rfl) (e := fun _ : Unit => .av (.val (.tuple #[intV 0, .bool false]))) (hC := tryGrow_no b A l.length c p.length 0 (by omega) hc (by omega)) (hp := fun _ _ => trivial) ?_
      rintro ⟨⟩ m2 hm2; refine RunH.drop ?_
      refine RunH.adv tb_ok [true] rfl rfl (by simp <;> omega) ?_
      refine RunH.doesB [] 2 (hc := Tryz.call255) (ho := rfl) (hw := rfl) (hd := rfl) (hf := rfl) (hes := rfl) (hσ := rfl) (hn := rfl) (hV := fun _ => rfl) (hG := fun _ => rfl) (e := fun _ : Option Addr × Nat => intE l.length) (hC := grow_spec b A c p.length 0 l (by omega) hs (by omega)) (hp := fun _ _ => trivial) ?_
      rintro ⟨A', c'⟩ m3 hm3
      refine RunH.pure (fun u h => h.2) fun hc' => ?_
      dsimp only at hc'
      refine RunH.adv tb_ok [] rfl rfl (by simp <;> omega) ?_
      exact RunH.meetS (A', c') [] (.head _) rfl rfl rfl fun u hu => hu
  rintro ⟨A', c'⟩ m4
  refine RunH.toNx 2 ?_
  refine RunH.pure (fun u h => h.2) fun hc' => ?_
  dsimp only at hc' ⊢
  refine RunH.go rfl rfl (OpGo.copyTail (id := 1) (l := l) (p := p) (A := A') (c := c') (dc := c' - l.length) (X := strV p) rfl rfl ?_ rfl rfl rfl hc' fun w hst => ⟨rfl, ?_⟩) 2 ?_
  · show Value.slice _ _ _ = _
    rw [Int.toNat_natCast, Nat.add_sub_cancel_left]; rfl
  · exact firstStr w p
  rintro ⟨⟩ m5 hm5
  refine RunH.adv tb_ok [] rfl rfl (by simp <;> omega) ?_
  refine RunH.ret2 Tryz.func189 rfl rfl rfl fun w hst => ⟨(A', c'), rfl, by
    have := hst.out (G := [(0, bufE b A' (l.length + p.length) c' 0), (1, rowE kByte A' c' (l ++ p))]) (J := fun u => K u ∧ True) [] rfl rfl fun u h => ⟨h.1.1, trivial⟩
    rw [List.length_append]
    exact this⟩
theorem Bytes_spec (b : Nat) (A : Option Addr) (q c : Nat) (lr : Int) (hq : q ≤ c) (hc : c ≤ 9223372036854775807) : Does Tryz.prog tb 190 [.pointer (some ⟨b, 0, none⟩)] [(0, bufE b A q c lr)] (fun _ => True) (fun _ : Unit => .slice A q c) (fun _ => [(0, bufE b A q c lr)]) (fun _ _ _ => True) := by
  refine Does.enter tb_ok [(0, .av (.box 0 b 0))] Tryz.func190 rfl Tryz.ntmps190 rfl rfl 1 ?_
  intro B0 m0 K
  refine RunH.adv tb_ok [] rfl rfl (by simp <;> omega) ?_
  refine RunH.draw rfl [(0, bufE b A q c lr)] rfl 10 rfl rfl ?_
  refine RunD.adv tb_ok (by kernel_rfl) [] rfl rfl (by simp <;> omega) ?_
  rw [subA_zero A c, show q - Int.toNat 0 = q from Nat.sub_zero _, show c - Int.toNat 0 = c from Nat.sub_zero _]
  refine RunD.done (.inl rfl) (by kernel_rfl) ?_
  refine RunH.adv tb_ok [] rfl rfl (by simp <;> omega) ?_
  refine RunH.ret1 Tryz.func190 rfl rfl fun w hst => ⟨(), rfl, hst.out [] rfl rfl fun u h => ⟨h.1, trivial⟩⟩
end Go.Proofs.YtbfjmimiigjenaaGreatDoor
namespace Go.Proofs.YtbfjmimiigjenaaGreatDoor
open Go V RowKit
def twoV (n : Nat) : Value := .agg #[u8V (UInt8.ofNat (n / 256)), u8V (UInt8.ofNat n)]
theorem two_spec (w : World) (n : Nat) (hn : n ≤ 100000) : Gives Tryz.prog 114 [intV n] w (.av (.val (twoV n))) := by
  have e1 : (((n : Nat) : Int).fdiv (2 ^ min (Int.toNat 8) IntKind.i64.bits) % 256) = ((UInt8.ofNat (n / 256)).toNat : Int) := by
    have e0 : (2 : Int) ^ min (Int.toNat 8) IntKind.i64.bits = 256 := rfl
    rw [e0, Int.fdiv_eq_ediv_of_nonneg _ (by omega), UInt8.toNat_ofNat']
    omega
  have e2 : ((n : Int) % 256) = ((UInt8.ofNat n).toNat : Int) := by rw [UInt8.toNat_ofNat']; omega
  have hz : (Tryz.t178).size = 2 := by kernel_rfl
  refine enterH tb_ok [(0, intE n)] Tryz.func114 rfl Tryz.ntmps114 rfl rfl ?_
  refine RunH.adv tb_ok [] rfl rfl ?_ ?_
  · exact ⟨by simp [Ob.P], ⟨hz.symm, List.all_eq_true.1 (by kernel_rfl)⟩, trivial⟩
  rw [e1, e2]
  refine RunH.read (.av (.val (twoV n))) rfl rfl rfl rfl (fun u q _ ha => ?_) ?_
  · have h1 : q.eval (.tmp 5) = u8V (UInt8.ofNat (n / 256)) := ev_run (e := .av (.val (u8V (UInt8.ofNat (n / 256))))) ha rfl
    have h2 : q.eval (.tmp 7) = u8V (UInt8.ofNat n) := ev_run (e := .av (.val (u8V (UInt8.ofNat n)))) ha rfl
    have hb : (Instr.build 178 #[(0, u8V (UInt8.ofNat (n / 256))), (1, u8V (UInt8.ofNat n))]).run Tryz.prog u = .ok (twoV n) u := by
      refine run_build u _ _ _ ?_
      kernel_rfl
    simp only [execOp, List.map_toArray, List.map_cons, List.map_nil, h1, h2, hb, Sem.run_bind, Result.andThen_ok, Sem.run_pure]
    rfl
  refine RunH.adv tb_ok [] rfl rfl ⟨⟨hz.symm, ?_⟩, trivial⟩ ?_
  · intro x hx
    simp only [Array.mem_toList_iff, List.mem_toArray, List.mem_cons, List.not_mem_nil, or_false] at hx
    rcases hx with rfl | rfl <;> rfl
  exact RunH.retBox tb_ok (.av (.val (twoV n))) Tryz.func114 rfl rfl rfl rfl fun u hu => ⟨rfl, hu.fact⟩
theorem put1_spec (b : Nat) (A : Option Addr) (c : Nat) (lr : Int) (l : List UInt8) (Q : Option Addr) (qc : Nat) (p : List UInt8) (hs : l.length + p.length ≤ 1000000) (q : Nat) (hq : p.length = q) :
    Does Tryz.prog tb 187 [.slice Q q qc, .pointer (some ⟨b, 0, none⟩)] [(0, bufE b A l.length c lr), (1, rowE kByte A c l)] (fun u => Sl kByte u Q qc p) (fun _ : Option Addr × Nat => .tuple #[]) (fun y => [(0, bufE b y.1 (l ++ p).length y.2 0), (1, rowE kByte y.1 y.2 (l ++ p))]) (fun _ _ _ => True) := by
  subst hq
  refine Does.enter tb_ok [(0, slE Q p.length qc), (1, .av (.box 0 b 0))] Tryz.func187 rfl Tryz.ntmps187 rfl rfl 2 ?_
  intro B0 m0 K
  refine RunH.adv tb_ok [] rfl rfl (by simp <;> omega) ?_
  refine RunH.doesB [(0, 0), (1, 1)] 2 (hc := Tryz.call188) (ho := rfl) (hw := rfl) (hd := rfl) (hf := rfl) (hes := rfl) (hσ := rfl) (hn := rfl) (hV := fun _ => rfl) (hG := fun _ => rfl) (e := fun _ : Option Addr × Nat => .av (.val (.tuple #[intV p.length, .nilIface]))) (hC := Write_spec b A c lr l Q qc p hs) (hp := fun u hu => hu.fact.2) ?_
  rintro ⟨A', c'⟩ m3 hm3; refine RunH.drop ?_
  refine RunH.adv tb_ok [] rfl rfl (by simp <;> omega) ?_
  refine RunH.fin0 Tryz.func187 rfl fun w hst => ⟨(A', c'), rfl, hst.out [] rfl rfl fun u h => ⟨h.1, trivial⟩⟩
abbrev stepE (s : Str) (v : Option Sum) (A : Option Addr) (q c : Nat) (B : Option Addr) (p d : Nat) : EV := .st [.val (strV s), .val (.bool v.isSome), .val (sumV (v.getD Sum.zero)), .val (.slice A q c), .val (.slice B p d)]
theorem slice_all2 (w : World) (a o : Nat) : (Instr.sliceAt 178 (.pointer (some ⟨a, o, none⟩)) none none none).run Tryz.prog w = .ok (.slice (some ⟨a, o, none⟩) 2 2) w := by
  have h1 : (underlying 178).run Tryz.prog w = .ok (.array 2 5) w := run_underlying (tb_ok.und rfl) w
  have h2 : (sizeOf 5).run Tryz.prog w = .ok 1 w := run_tsize tb_ok (i := Tryz.t5) rfl
  simp [Instr.sliceAt, Instr.sliceBounds, Instr.sliceBound, h1, h2, asIntOf, Instr.sureAddr, Addr.add_lit]
theorem sl_sum {w : World} {a o : Nat} {x : Sum} (h : w.rangeAt a o (x.l.map u8V)) : Sl kByte w (some ⟨a, o, none⟩) 32 x.l :=
  ⟨by rw [x.h]; decide, by rw [x.h]; decide, fun _ => rfl, by rw [← map_flat]; exact h, nofun⟩
theorem step_sum (s : Str) (h : Bool) (x : Sum) (y z : Value) (hy : y.cells.size = 1) (hz : z.cells.size = 1) : ((boxCells [.val (strV s), .val (.bool h), .val (sumV x), .val y, .val z]).toList.drop 2).take 32 = x.l.map u8V := by
  unfold boxCells sumV
  simp [flat, AV.v, Value.cells, strV]
  try rw [List.take_append_of_le_length (by rw [List.length_map, x.h]; decide), List.take_of_length_le (by rw [List.length_map, x.h]; decide)]
theorem V.Sl.sumAt {w : World} {B : Option Addr} {d : Nat} {os : List Sum} (h : Sl kSum w B d os) {i : Nat} (hi : i < os.length) : w.rangeAt (blkA B) (offA B + i * 32) (os[i].l.map u8V) := by
  intro j v hv
  have hg := kSum.get os i hi
  have hc : kSum.cs os[i] = os[i].l.map u8V := by show (sumV os[i]).cells.toList = _; simp [sumV, Value.cells]
  have hj : j < 32 := by
    have := (List.getElem?_eq_some_iff.1 hv).1
    rw [List.length_map, os[i].h] at this
    exact this
  have hsz : kSum.sz = 32 := rfl
  have h1 : (((os.flatMap kSum.cs).drop (i * 32)).take 32)[j]? = some v := by rw [← hsz, hg, hc]; exact hv
  rw [List.getElem?_take, if_pos hj, List.getElem?_drop] at h1
  have h2 := h.cells _ _ h1
  rw [← Nat.add_assoc] at h2
  exact h2
theorem agg2 {x y : Value} {n : Nat} (h : 2 = n) (hx : x.oneCell' = true) (hy : y.oneCell' = true) : (Ob.agg #[x, y] n).P := by
  subst h
  refine ⟨rfl, fun z hz => ?_⟩
  simp only [Array.mem_toList_iff, List.mem_toArray, List.mem_cons, List.not_mem_nil, or_false] at hz
  rcases hz with rfl | rfl
  · exact hx
  · exact hy
theorem pair_take {bs : List UInt8} {os : List Sum} (hlen : os.length = bs.length) {i : Nat} (hi : i < bs.length) :
    pairB (bs.take (i + 1)) (os.take (i + 1)) = pairB (bs.take i) (os.take i) ++ ([bs[i]] ++ (os[i]'(by omega)).l) := by
  have h1 : bs.take (i + 1) = bs.take i ++ [bs[i]] := List.take_succ_eq_append_getElem hi
  have h2 : os.take (i + 1) = os.take i ++ [os[i]'(by omega)] := List.take_succ_eq_append_getElem (by omega)
  unfold pairB
  rw [h1, h2, List.zip_append (by rw [List.length_take, List.length_take]; omega), List.flatMap_append]
  simp
theorem pairB_len : ∀ (bs : List UInt8) (os : List Sum), (pairB bs os).length ≤ 33 * bs.length
  | [], _ => by simp [pairB]
  | _ :: _, [] => by simp [pairB]
  | b :: bs, x :: os => by
    have := pairB_len bs os
    have hx := x.h
    unfold pairB at *
    simp only [List.zip_cons_cons, List.flatMap_cons, List.length_append, List.length_cons, hx]
    omega
set_option maxRecDepth 10000 in
theorem digest_spec (w : World) (hG : Glob w) (s : Str) (v : Option Sum) (A : Option Addr) (c : Nat) (bs : List UInt8) (B : Option Addr) (d : Nat) (os : List Sum) (hb : Sl kByte w A c bs) (ho : Sl kSum w B d os) (hlen : os.length = bs.length) (hs : s.length ≤ 1000) (hn : bs.length ≤ 1000) :
    Gives Tryz.prog 107 [(stepE s v A bs.length c B os.length d).v] w (.av (.val (sumV (shaW (stepB s v bs os))))) := by
  have hl : lim = 140737488351232 := rfl
  have hmod : ((s.length : Int) % 256) = ((UInt8.ofNat s.length).toNat : Int) := by rw [UInt8.toNat_ofNat']; omega
  have hz : (Tryz.t178).size = 2 := by kernel_rfl
  have hvl : (vB v).length ≤ 33 := by
    cases v with
    | none => simp [vB]
    | some x => have := x.h; simp [vB, this]
  refine enterH tb_ok [(0, stepE s v A bs.length c B os.length d)] Tryz.func107 rfl Tryz.ntmps107 rfl rfl ?_
  refine RunH.adv tb_ok [] rfl rfl ?_ ?_
  · simp
    done
  rw [hmod]
  refine RunH.nilrow 9 kByte.T kByte.sz 10 ?_
  refine RunH.doesB [(0, 2), (1, 9)] 20 (hc := Tryz.call187) (ho := rfl) (hw := rfl) (hd := rfl) (hf := rfl) (hes := rfl) (hσ := rfl) (hn := rfl) (hV := fun _ => rfl) (hG := fun _ => rfl) (e := fun _ : Option Addr × Nat => .av (.val (.tuple #[]))) (hC := put1_spec (w.heap.size + 1 + 1) none 0 0 ([]) (some ⟨w.heap.size + 1 + 1 + 1, 0, none⟩) 1 ([UInt8.ofNat s.length]) (by simp) _ rfl) (hp := fun u hu => Sl.own (B := w.heap.size) (hu.row (κ := kByte) (l := [UInt8.ofNat s.length]) (id := 3) rfl) (by simp [hl])) ?_
  rintro ⟨A1, c1⟩ m1 hm1; refine RunH.drop ?_
  dsimp only
  refine RunH.tell [(1, .av (.box 0 w.heap.size 0)), (2, .av (.box 1 (w.heap.size + 1) 0)), (3, .av (.box 2 (w.heap.size + 1 + 1) 0)), (4, .av (.fn (.func 187) [] [CV.box 2 (w.heap.size + 1 + 1)]))] [(0, some (.box w.heap.size [.val (strV s), .val (.bool v.isSome), .val (sumV (v.getD Sum.zero)), .val (.slice A bs.length c), .val (.slice B os.length d)] 61)), (1, some (.box (w.heap.size + 1) [.val (sumV Sum.zero)] 40)), (2, bufE (w.heap.size + 1 + 1) A1 ([UInt8.ofNat s.length]).length c1 0), (9, rowE kByte A1 c1 ([UInt8.ofNat s.length]))] [] rfl rfl rfl 10 ?_
  refine RunH.adv tb_ok [] rfl rfl (by simp <;> omega) ?_
  refine RunH.doesB [(0, 2), (1, 9)] 20 (hc := Tryz.call189) (ho := rfl) (hw := rfl) (hd := rfl) (hf := rfl) (hes := rfl) (hσ := rfl) (hn := rfl) (hV := fun _ => rfl) (hG := fun _ => rfl) (e := fun _ : Option Addr × Nat => .av (.val (.tuple #[intV s.length, .nilIface]))) (hC := WriteString_spec (w.heap.size + 1 + 1) A1 c1 0 ([UInt8.ofNat s.length]) s (by simp; omega)) (hp := fun _ _ => trivial) ?_
  rintro ⟨A0, c0⟩ m0 hm0; refine RunH.drop ?_
  dsimp only
  refine RunH.tell [(1, .av (.box 0 w.heap.size 0)), (2, .av (.box 1 (w.heap.size + 1) 0)), (3, .av (.box 2 (w.heap.size + 1 + 1) 0)), (4, .av (.fn (.func 187) [] [CV.box 2 (w.heap.size + 1 + 1)]))] [(0, some (.box w.heap.size [.val (strV s), .val (.bool v.isSome), .val (sumV (v.getD Sum.zero)), .val (.slice A bs.length c), .val (.slice B os.length d)] 61)), (1, some (.box (w.heap.size + 1) [.val (sumV Sum.zero)] 40)), (2, bufE (w.heap.size + 1 + 1) A0 ([UInt8.ofNat s.length] ++ s).length c0 0), (9, rowE kByte A0 c0 ([UInt8.ofNat s.length] ++ s))] [] rfl rfl rfl 10 ?_
  apply RunH.joinK (α := Option Addr × Nat) (fun z => [(1, .av (.box 0 w.heap.size 0)), (2, .av (.box 1 (w.heap.size + 1) 0)), (3, .av (.box 2 (w.heap.size + 1 + 1) 0)), (4, .av (.fn (.func 187) [] [CV.box 2 (w.heap.size + 1 + 1)])), (33, intE bs.length)]) (fun z => [(0, some (.box w.heap.size [.val (strV s), .val (.bool v.isSome), .val (sumV (v.getD Sum.zero)), .val (.slice A bs.length c), .val (.slice B os.length d)] 61)), (1, some (.box (w.heap.size + 1) [.val (sumV Sum.zero)] 40)), (2, bufE (w.heap.size + 1 + 1) z.1 ([UInt8.ofNat s.length] ++ s ++ vB v).length z.2 0), (9, rowE kByte z.1 z.2 ([UInt8.ofNat s.length] ++ s ++ vB v))]) (fun _ u => Ext w u)
  · cases v with
    | none =>
      refine RunH.adv tb_ok [false] rfl rfl (by simp <;> omega) ?_
      refine RunH.doesB [(0, 2), (1, 9)] 20 (hc := Tryz.call187) (ho := rfl) (hw := rfl) (hd := rfl) (hf := rfl) (hes := rfl) (hσ := rfl) (hn := rfl) (hV := fun _ => rfl) (hG := fun _ => rfl) (e := fun _ : Option Addr × Nat => .av (.val (.tuple #[]))) (hC := put1_spec (w.heap.size + 1 + 1) A0 c0 0 ([UInt8.ofNat s.length] ++ s) (some ⟨m0, 0, none⟩) 1 ([0]) (by simp; omega) _ rfl) (hp := fun u hu => Sl.own (B := w.heap.size) (hu.row (κ := kByte) (l := [0]) (id := 10) rfl) (by simp [hl])) ?_
      rintro ⟨A2, c2⟩ m2 hm2; refine RunH.drop ?_
      dsimp only
      refine RunH.adv tb_ok [] rfl rfl (by simp <;> omega) ?_
      exact RunH.meetS (A2, c2) [] (.head _) rfl rfl rfl fun u hu => hu
    | some x =>
      have hx32 := x.h
      refine RunH.adv tb_ok [true] rfl rfl (by simp <;> omega) ?_
      refine RunH.doesB [(0, 2), (1, 9)] 20 (hc := Tryz.call187) (ho := rfl) (hw := rfl) (hd := rfl) (hf := rfl) (hes := rfl) (hσ := rfl) (hn := rfl) (hV := fun _ => rfl) (hG := fun _ => rfl) (e := fun _ : Option Addr × Nat => .av (.val (.tuple #[]))) (hC := put1_spec (w.heap.size + 1 + 1) A0 c0 0 ([UInt8.ofNat s.length] ++ s) (some ⟨m0, 0, none⟩) 1 ([1]) (by simp; omega) _ rfl) (hp := fun u hu => Sl.own (B := w.heap.size) (hu.row (κ := kByte) (l := [1]) (id := 10) rfl) (by simp [hl])) ?_
      rintro ⟨A3, c3⟩ m3 hm3; refine RunH.drop ?_
      dsimp only
      refine RunH.adv tb_ok [] rfl rfl (by simp <;> omega) ?_
      refine RunH.read (.av (.val (.slice (some ⟨w.heap.size, 2, none⟩) 32 32))) rfl rfl rfl rfl (fun u q _ ha => ?_) ?_
      · have e1 : q.eval (.tmp 25) = .pointer (some ⟨w.heap.size, 2, none⟩) := ev_run (e := .av (.box 0 w.heap.size 2)) ha rfl
        simp only [execOp, e1, Option.map_none, slice_all, Sem.run_bind, Result.andThen_ok, Sem.run_pure]
        rfl
      refine RunH.adv tb_ok [] rfl rfl (by simp <;> omega) ?_
      refine RunH.doesB [(0, 2), (1, 9)] 20 (hc := Tryz.call187) (ho := rfl) (hw := rfl) (hd := rfl) (hf := rfl) (hes := rfl) (hσ := rfl) (hn := rfl) (hV := fun _ => rfl) (hG := fun _ => rfl) (e := fun _ : Option Addr × Nat => .av (.val (.tuple #[]))) (hC := put1_spec (w.heap.size + 1 + 1) A3 c3 0 ([UInt8.ofNat s.length] ++ s ++ [1]) (some ⟨w.heap.size, 2, none⟩) 32 (x.l) (by simp [hx32]; omega) _ hx32) (hp := fun u hu => sl_sum (range_take (n := 32) (hu.holds 0 _ rfl).2.1 (step_sum s true x _ _ rfl rfl))) ?_
      rintro ⟨A4, c4⟩ m4 hm4; refine RunH.drop ?_
      dsimp only
      rw [show [UInt8.ofNat s.length] ++ s ++ [1] ++ x.l = [UInt8.ofNat s.length] ++ s ++ vB (some x) by simp [vB]]
      refine RunH.adv tb_ok [] rfl rfl (by simp <;> omega) ?_
      exact RunH.meetS (A4, c4) [] (.head _) rfl rfl rfl fun u hu => hu
  rintro ⟨A6, c6⟩ m6
  refine RunH.toNx 10 ?_
  dsimp only
  refine RunH.gives (ho := rfl) (hw := rfl) (hd := rfl) (hf := rfl) (hes := rfl) (hc := Tryz.call114) (e := .av (.val (twoV bs.length))) (hC := fun u hu => two_spec u bs.length (by omega)) ?_
  intro m7 hm7
  refine RunH.adv tb_ok [] rfl rfl ?_ ?_
  · exact ⟨agg2 hz.symm rfl rfl, agg2 hz.symm rfl rfl, trivial⟩
  refine RunH.read (.av (.val (.slice (some ⟨m7, 0, none⟩) 2 2))) rfl rfl rfl rfl (fun u q _ ha => ?_) ?_
  · have e1 : q.eval (.tmp 5) = .pointer (some ⟨m7, 0, none⟩) := ev_run (e := .av (.box 10 m7 0)) ha rfl
    simp only [execOp, e1, Option.map_none, slice_all2, Sem.run_bind, Result.andThen_ok, Sem.run_pure]
    rfl
  refine RunH.adv tb_ok [] rfl rfl (by simp <;> omega) ?_
  refine RunH.doesB [(0, 2), (1, 9)] 20 (hc := Tryz.call187) (ho := rfl) (hw := rfl) (hd := rfl) (hf := rfl) (hes := rfl) (hσ := rfl) (hn := rfl) (hV := fun _ => rfl) (hG := fun _ => rfl) (e := fun _ : Option Addr × Nat => .av (.val (.tuple #[]))) (hC := put1_spec (w.heap.size + 1 + 1) A6 c6 0 ([UInt8.ofNat s.length] ++ s ++ vB v) (some ⟨m7, 0, none⟩) 2 ([UInt8.ofNat (bs.length / 256), UInt8.ofNat bs.length]) (by simp; omega) _ rfl) (hp := fun u hu => ⟨by simp, by simp [hl], fun _ => rfl, range_take (n := 2) (hu.holds 10 _ rfl).2.1 rfl, nofun⟩) ?_
  rintro ⟨A5, c5⟩ m5 hm5; refine RunH.drop ?_
  dsimp only
  rw [show [UInt8.ofNat s.length] ++ s ++ vB v ++ [UInt8.ofNat (bs.length / 256), UInt8.ofNat bs.length] = [UInt8.ofNat s.length] ++ s ++ vB v ++ [UInt8.ofNat (bs.length / 256), UInt8.ofNat bs.length] ++ pairB (bs.take 0) (os.take 0) by simp [pairB]]
  refine RunH.tell [(1, .av (.box 0 w.heap.size 0)), (2, .av (.box 1 (w.heap.size + 1) 0)), (3, .av (.box 2 (w.heap.size + 1 + 1) 0)), (4, .av (.fn (.func 187) [] [CV.box 2 (w.heap.size + 1 + 1)]))] [(0, some (.box w.heap.size [.val (strV s), .val (.bool v.isSome), .val (sumV (v.getD Sum.zero)), .val (.slice A bs.length c), .val (.slice B os.length d)] 61)), (1, some (.box (w.heap.size + 1) [.val (sumV Sum.zero)] 40)), (2, bufE (w.heap.size + 1 + 1) A5 ([UInt8.ofNat s.length] ++ s ++ vB v ++ [UInt8.ofNat (bs.length / 256), UInt8.ofNat bs.length] ++ pairB (bs.take 0) (os.take 0)).length c5 0), (9, rowE kByte A5 c5 ([UInt8.ofNat s.length] ++ s ++ vB v ++ [UInt8.ofNat (bs.length / 256), UInt8.ofNat bs.length] ++ pairB (bs.take 0) (os.take 0)))] [] rfl rfl rfl 10 ?_
  refine RunH.adv tb_ok [] rfl rfl (by simp <;> omega) ?_
  refine RunH.loop (α := Nat × (Option Addr × Nat)) (fun y => [(1, .av (.box 0 w.heap.size 0)), (2, .av (.box 1 (w.heap.size + 1) 0)), (3, .av (.box 2 (w.heap.size + 1 + 1) 0)), (4, .av (.fn (.func 187) [] [CV.box 2 (w.heap.size + 1 + 1)])), (39, slE A bs.length c), (40, intE bs.length), (41, intE y.1)]) (fun y => [(0, some (.box w.heap.size [.val (strV s), .val (.bool v.isSome), .val (sumV (v.getD Sum.zero)), .val (.slice A bs.length c), .val (.slice B os.length d)] 61)), (1, some (.box (w.heap.size + 1) [.val (sumV Sum.zero)] 40)), (2, bufE (w.heap.size + 1 + 1) y.2.1 ([UInt8.ofNat s.length] ++ s ++ vB v ++ [UInt8.ofNat (bs.length / 256), UInt8.ofNat bs.length] ++ pairB (bs.take y.1) (os.take y.1)).length y.2.2 0), (9, rowE kByte y.2.1 y.2.2 ([UInt8.ofNat s.length] ++ s ++ vB v ++ [UInt8.ofNat (bs.length / 256), UInt8.ofNat bs.length] ++ pairB (bs.take y.1) (os.take y.1)))]) (fun y u => Ext w u ∧ y.1 ≤ bs.length) (fun y => bs.length - y.1) (0, (A5, c5)) rfl rfl (fun u hu => ⟨hu, Nat.zero_le _⟩) ?_
  rintro ⟨i, A9, c9⟩ m9
  refine RunH.pure (fun u hu => hu.2) fun hi => ?_
  dsimp only at hi ⊢
  have hpl := pairB_len (bs.take i) (os.take i)
  rw [List.length_take] at hpl
  have hll : ([UInt8.ofNat s.length] ++ s ++ vB v ++ [UInt8.ofNat (bs.length / 256), UInt8.ofNat bs.length] ++ pairB (bs.take i) (os.take i)).length ≤ 36000 := by simp; omega
  by_cases hlt : i < bs.length
  · have hpt := pair_take hlen hlt
    refine RunH.adv tb_ok [true] rfl rfl (by simp [hb.ptr hlt] <;> omega) ?_
    refine RunH.loadS (.av (.val (u8V bs[i]))) rfl rfl rfl rfl (fun u hu => (hb.ext hu.fact.1).load hlt) ?_
    refine RunH.adv tb_ok [] rfl rfl (by simp <;> omega) ?_
    refine RunH.doesB [(0, 2), (1, 9)] 20 (hc := Tryz.call187) (ho := rfl) (hw := rfl) (hd := rfl) (hf := rfl) (hes := rfl) (hσ := rfl) (hn := rfl) (hV := fun _ => rfl) (hG := fun _ => rfl) (e := fun _ : Option Addr × Nat => .av (.val (.tuple #[]))) (hC := put1_spec (w.heap.size + 1 + 1) A9 c9 0 ([UInt8.ofNat s.length] ++ s ++ vB v ++ [UInt8.ofNat (bs.length / 256), UInt8.ofNat bs.length] ++ pairB (bs.take i) (os.take i)) _ _ ([bs[i]]) (by simp at hll ⊢; omega) _ rfl) (hp := fun u hu => Sl.own (B := w.heap.size) (hu.row (κ := kByte) (l := [bs[i]]) (id := 10) rfl) (by simp [hl])) ?_
    rintro ⟨A6, c6⟩ m6 hm6; refine RunH.drop ?_
    dsimp only
    refine RunH.adv tb_ok [] rfl rfl (by simp [ho.ptr (i := i) (by omega)] <;> omega) ?_
    refine RunH.read (.av (.val (.slice (some ⟨blkA B, offA B + i * 32, none⟩) 32 32))) rfl rfl rfl rfl (fun u q _ ha => ?_) ?_
    · have e1 : q.eval (.tmp 54) = .pointer (some ⟨blkA B, offA B + i * 32, none⟩) := ev_run (e := .av (.val (.pointer (some ⟨blkA B, offA B + i * 32, none⟩)))) ha rfl
      simp only [execOp, e1, Option.map_none, slice_all, Sem.run_bind, Result.andThen_ok, Sem.run_pure]
      rfl
    refine RunH.adv tb_ok [] rfl rfl (by simp <;> omega) ?_
    have hx32 := (os[i]'(by omega)).h
    refine RunH.doesB [(0, 2), (1, 9)] 20 (hc := Tryz.call187) (ho := rfl) (hw := rfl) (hd := rfl) (hf := rfl) (hes := rfl) (hσ := rfl) (hn := rfl) (hV := fun _ => rfl) (hG := fun _ => rfl) (e := fun _ : Option Addr × Nat => .av (.val (.tuple #[]))) (hC := put1_spec (w.heap.size + 1 + 1) A6 c6 0 ([UInt8.ofNat s.length] ++ s ++ vB v ++ [UInt8.ofNat (bs.length / 256), UInt8.ofNat bs.length] ++ pairB (bs.take i) (os.take i) ++ [bs[i]]) _ _ ((os[i]'(by omega)).l) (by simp [hx32] at hll ⊢; omega) _ hx32) (hp := fun u hu => sl_sum ((ho.ext hu.fact.1).sumAt (by omega))) ?_
    rintro ⟨A7, c7⟩ m7 hm7; refine RunH.drop ?_
    dsimp only
    rw [show [UInt8.ofNat s.length] ++ s ++ vB v ++ [UInt8.ofNat (bs.length / 256), UInt8.ofNat bs.length] ++ pairB (bs.take i) (os.take i) ++ [bs[i]] ++ (os[i]'(by omega)).l = [UInt8.ofNat s.length] ++ s ++ vB v ++ [UInt8.ofNat (bs.length / 256), UInt8.ofNat bs.length] ++ pairB (bs.take (i + 1)) (os.take (i + 1)) by rw [hpt]; simp]
    refine RunH.adv tb_ok [] rfl rfl (by simp <;> omega) ?_
    exact RunH.again (i + 1, (A7, c7)) (.head _) rfl rfl (by show bs.length - (i + 1) < bs.length - i; omega) fun u hu => ⟨hu.1, hlt⟩
  · have hi' : i = bs.length := by omega
    subst hi'
    have hot : os.take bs.length = os := List.take_of_length_le (by omega)
    rw [List.take_length, hot] at *
    have hfin : ([UInt8.ofNat s.length] ++ s ++ vB v ++ [UInt8.ofNat (bs.length / 256), UInt8.ofNat bs.length] ++ pairB bs os).length ≤ 36000 := by
      have := pairB_len bs os
      simp; omega
    refine RunH.adv tb_ok [false] rfl rfl (by simp <;> omega) ?_
    refine RunH.rowLe (id := 9) rfl fun hlc hmc => ?_
    refine RunH.doesB [(0, 2)] 20 (hc := Tryz.call190) (ho := rfl) (hw := rfl) (hd := rfl) (hf := rfl) (hes := rfl) (hσ := rfl) (hn := rfl) (hV := fun _ => rfl) (hG := fun _ => rfl) (e := fun _ : Unit => slE A9 ([UInt8.ofNat s.length] ++ s ++ vB v ++ [UInt8.ofNat (bs.length / 256), UInt8.ofNat bs.length] ++ pairB bs os).length c9) (hC := Bytes_spec (w.heap.size + 1 + 1) A9 _ c9 0 hlc hmc) (hp := fun _ _ => trivial) ?_
    rintro ⟨⟩ m12 hm12; refine RunH.drop ?_
    dsimp only
    refine RunH.adv tb_ok [] rfl rfl (by simp <;> omega) ?_
    refine RunH.gives (ho := rfl) (hw := rfl) (hd := rfl) (hf := rfl) (hes := rfl) (hc := Tryz.call78) (e := .av (.val (sumV (shaW (stepB s v bs os))))) (hC := fun u hu => Of_spec u (hG.ext hu.fact.1) A9 c9 _ (Sl.own (B := w.heap.size) (hu.row (κ := kByte) (id := 9) (l := [UInt8.ofNat s.length] ++ s ++ vB v ++ [UInt8.ofNat (bs.length / 256), UInt8.ofNat bs.length] ++ pairB bs os) rfl) (by omega)) (by omega)) ?_
    intro m13 hm13
    refine RunH.adv tb_ok [] rfl rfl (by simp) ?_
    exact RunH.retBox tb_ok (.av (.val (sumV (shaW (stepB s v bs os))))) Tryz.func107 rfl rfl rfl rfl fun u hu => ⟨rfl, hu.fact.1⟩
end Go.Proofs.YtbfjmimiigjenaaGreatDoor
