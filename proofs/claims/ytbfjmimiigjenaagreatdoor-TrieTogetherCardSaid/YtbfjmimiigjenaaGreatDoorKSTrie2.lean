/-
A part of the proofs of the laws of a seat: contracts of functions and lemmas on them; the listed package variables hold what the program's text lays. No further condition.
-/
import Derived.Test.YtbfjmimiigjenaaGreatDoorKR1
import Derived.Test.YtbfjmimiigjenaaGreatDoorKPW6
set_option linter.unusedVariables false
set_option linter.unusedSectionVars false
set_option linter.unusedSimpArgs false
/-
Tries: each map has one tree; the names, rising; a tree without a name; no program.
-/
namespace Go.Proofs.YtbfjmimiigjenaaGreatDoor
open V

theorem get_pre {s : Str} {v : Option Sum} {k : Kids} {n : Str} {x : Sum} (h : (Tree.node s v k).get n = some x) : ∃ r, n = s ++ r := by
  refine Classical.byContradiction fun hc => ?_
  rw [get_off v k fun r e => hc ⟨r, e⟩] at h
  cases h

theorem kget_in {k : Kids} {c : UInt8} {n : Str} {x : Sum} (h : k.get c n = some x) : c ∈ k.bytes := by
  refine Classical.byContradiction fun hc => ?_
  rw [kget_mem hc] at h
  cases h

mutual
theorem has_name : ∀ {t : Tree}, t.wf → ∃ n x, t.get n = some x
  | .node s v k, h => by
    unfold Tree.wf at h
    cases v with
    | some x => exact ⟨s, x, get_here s (some x) k⟩
    | none =>
      have h2 : 2 ≤ k.bytes.length := h.2.resolve_left (by simp)
      obtain ⟨c, n, x, hx⟩ := khas_name h.1 (by omega)
      exact ⟨s ++ c :: n, x, by rw [get_kid]; exact hx⟩
theorem khas_name : ∀ {k : Kids}, k.wf → 0 < k.bytes.length → ∃ c n x, k.get c n = some x
  | .nil, _, h => absurd h (by simp [Kids.bytes])
  | .cons b t r, h, _ => by
    unfold Kids.wf at h
    obtain ⟨n, x, hx⟩ := has_name h.1
    exact ⟨b, n, x, by rw [Kids.get, if_pos rfl]; exact hx⟩
end

/-- A stem that goes on is no stem of a node that parts there. -/
theorem no_longer {s : Str} {v : Option Sum} {k : Kids} (h : (Tree.node s v k).wf) (c : UInt8) (r : Str) (f : Str → Option Sum) (hf : ∀ n x, f n = some x → ∃ q, n = (s ++ c :: r) ++ q) (he : ∀ n, (Tree.node s v k).get n = f n) : False := by
  unfold Tree.wf at h
  cases v with
  | some x =>
    have h1 := he s
    rw [get_here] at h1
    obtain ⟨q, hq⟩ := hf s x h1.symm
    have := congrArg List.length hq
    simp at this <;> omega
  | none =>
    have h2 : 2 ≤ k.bytes.length := h.2.resolve_left (by simp)
    have key : ∀ b n x, k.get b n = some x → b ≠ c → False := fun b n x hx hb => by
      have h1 := he (s ++ b :: n)
      rw [get_kid, hx] at h1
      obtain ⟨q, hq⟩ := hf _ x h1.symm
      rw [List.append_assoc] at hq
      have := List.append_cancel_left hq
      injection this with e _
      exact hb e
    match k, h.1, h2 with
    | .nil, _, h2 => simp [Kids.bytes] at h2
    | .cons _ _ .nil, _, h2 => simp [Kids.bytes] at h2
    | .cons b1 t1 (.cons b2 t2 q), hk, _ =>
      unfold Kids.wf at hk
      obtain ⟨w1, w2, w3⟩ := hk
      have hlt := w3 b2 (by simp [Kids.bytes])
      unfold Kids.wf at w2
      obtain ⟨n1, x1, hx1⟩ := has_name w1
      obtain ⟨n2, x2, hx2⟩ := has_name w2.1
      by_cases e : b1 = c
      · refine key b2 n2 x2 ?_ fun e2 => u8_ne hlt (by rw [e, e2])
        rw [Kids.get, if_neg (u8_ne hlt), Kids.get, if_pos rfl]
        exact hx2
      · exact key b1 n1 x1 (by rw [Kids.get, if_pos rfl]; exact hx1) e

mutual
/-- What is in a tree tells the tree. -/
theorem canon : ∀ {t u : Tree}, t.wf → u.wf → (∀ n, t.get n = u.get n) → t = u
  | .node s v k, .node s' v' k', h, h', he => by
    rcases part_cases s s' with rfl | ⟨c, r, rfl⟩ | ⟨p, b, q, rfl, rfl⟩ | ⟨p, b, q, c, r, rfl, rfl, hbc⟩
    · have hv : v = v' := by
        have := he s'
        rwa [get_here, get_here] at this
      unfold Tree.wf at h h'
      have hk : k = k' := kcanon h.1 h'.1 fun c n => by
        have := he (s' ++ c :: n)
        rwa [get_kid, get_kid] at this
      rw [hv, hk]
    · exact (no_longer h c r _ (fun n x hx => get_pre hx) he).elim
    · exact (no_longer h' b q _ (fun n x hx => get_pre hx) fun n => (he n).symm).elim
    · obtain ⟨n, x, hx⟩ := has_name h
      obtain ⟨q1, e1⟩ := get_pre hx
      rw [he n] at hx
      obtain ⟨q2, e2⟩ := get_pre hx
      rw [e1, List.append_assoc, List.append_assoc] at e2
      have := List.append_cancel_left e2
      injection this with e _
      exact absurd e hbc
theorem kcanon : ∀ {k l : Kids}, k.wf → l.wf → (∀ c n, k.get c n = l.get c n) → k = l
  | .nil, .nil, _, _, _ => rfl
  | .nil, .cons b t r, _, h, he => by
    obtain ⟨c, n, x, hx⟩ := khas_name h (by simp [Kids.bytes])
    have := he c n
    rw [hx] at this
    cases this
  | .cons b t r, .nil, h, _, he => by
    obtain ⟨c, n, x, hx⟩ := khas_name h (by simp [Kids.bytes])
    have := he c n
    rw [hx] at this
    cases this
  | .cons b t r, .cons b' t' r', h, h', he => by
    unfold Kids.wf at h h'
    obtain ⟨w1, w2, w3⟩ := h
    obtain ⟨w1', w2', w3'⟩ := h'
    have hb : b = b' := by
      refine Classical.byContradiction fun hne => ?_
      by_cases hlt : b < b'
      · obtain ⟨n, x, hx⟩ := has_name w1
        have h1 := he b n
        rw [Kids.get, if_pos rfl, hx] at h1
        have := kget_in h1.symm
        rcases List.mem_cons.1 this with e | hm
        · exact hne e
        · exact u8_ne (u8_trans hlt (w3' b hm)) rfl
      · have hlt := u8_lt_of hlt hne
        obtain ⟨n, x, hx⟩ := has_name w1'
        have h1 := he b' n
        conv at h1 => rhs; rw [Kids.get, if_pos rfl, hx]
        have := kget_in h1
        rcases List.mem_cons.1 this with e | hm
        · exact hne e.symm
        · exact u8_ne (u8_trans hlt (w3 b' hm)) rfl
    subst hb
    have ht : t = t' := canon w1 w1' fun n => by
      have := he b n
      rwa [Kids.get, Kids.get, if_pos rfl, if_pos rfl] at this
    have hr : r = r' := kcanon w2 w2' fun c n => by
      by_cases e : b = c
      · subst e
        rw [kget_mem fun hm => u8_ne (w3 b hm) rfl, kget_mem fun hm => u8_ne (w3' b hm) rfl]
      · have := he c n
        rwa [Kids.get, Kids.get, if_neg e, if_neg e] at this
    rw [ht, hr]
end

/-! ## The names, rising -/
mutual
theorem mem_ents : ∀ {t : Tree}, t.wf → ∀ (beg m : Str) (x : Sum), (m, x) ∈ t.ents beg ↔ ∃ n, m = beg ++ n ∧ t.get n = some x
  | .node s v k, h, beg, m, x => by
    unfold Tree.wf at h
    have ih := mem_kents h.1 (beg ++ s) m x
    unfold Tree.ents
    rw [List.mem_append, ih]
    constructor
    · rintro (h1 | ⟨c, n, rfl, hx⟩)
      · cases v with
        | none => cases h1
        | some y =>
          have h1 : (m, x) = (beg ++ s, y) := List.mem_singleton.1 h1
          injection h1 with e1 e2
          subst e1 e2
          exact ⟨s, rfl, get_here _ _ _⟩
      · exact ⟨s ++ c :: n, by rw [List.append_assoc], by rw [get_kid]; exact hx⟩
    · rintro ⟨n, rfl, hx⟩
      obtain ⟨r, rfl⟩ := get_pre hx
      cases r with
      | nil =>
        rw [List.append_nil, get_here] at hx
        subst hx
        left
        rw [List.append_nil]
        exact .head _
      | cons c r =>
        rw [get_kid] at hx
        exact .inr ⟨c, r, by rw [List.append_assoc], hx⟩
theorem mem_kents : ∀ {k : Kids}, k.wf → ∀ (beg m : Str) (x : Sum), (m, x) ∈ k.ents beg ↔ ∃ c n, m = beg ++ c :: n ∧ k.get c n = some x
  | .nil, _, beg, m, x => by
    constructor
    · intro h; cases h
    · rintro ⟨c, n, _, h⟩; cases h
  | .cons b t r, h, beg, m, x => by
    unfold Kids.wf at h
    obtain ⟨w1, w2, w3⟩ := h
    unfold Kids.ents
    rw [List.mem_append, mem_ents w1, mem_kents w2]
    constructor
    · rintro (⟨n, rfl, hx⟩ | ⟨c, n, rfl, hx⟩)
      · exact ⟨b, n, by simp, by rw [Kids.get, if_pos rfl]; exact hx⟩
      · have hc := kget_in hx
        exact ⟨c, n, rfl, by rw [Kids.get, if_neg (u8_ne (w3 c hc))]; exact hx⟩
    · rintro ⟨c, n, rfl, hx⟩
      rw [Kids.get] at hx
      by_cases e : b = c
      · subst e
        rw [if_pos rfl] at hx
        exact .inl ⟨n, by simp, hx⟩
      · rw [if_neg e] at hx
        exact .inr ⟨c, n, rfl, hx⟩
end

theorem less_app : ∀ (p x y : Str), Go.Op.bytesLess (p ++ x) (p ++ y) = Go.Op.bytesLess x y
  | [], _, _ => rfl
  | a :: p, x, y => by
    show Go.Op.bytesLess (a :: (p ++ x)) (a :: (p ++ y)) = _
    simp [Go.Op.bytesLess, less_app p x y]
theorem less_cons {a b : UInt8} (h : a < b) (x y : Str) : Go.Op.bytesLess (a :: x) (b :: y) = true := by simp [Go.Op.bytesLess, h]

def Rise (l : List (Str × Sum)) : Prop := l.Pairwise fun p q => Go.Op.bytesLess p.1 q.1 = true

mutual
theorem ents_rise : ∀ {t : Tree}, t.wf → ∀ beg, Rise (t.ents beg)
  | .node s v k, h, beg => by
    have h' := h
    unfold Tree.wf at h
    unfold Rise Tree.ents
    rw [List.pairwise_append]
    refine ⟨?_, kents_rise h.1 (beg ++ s), fun p hp q hq => ?_⟩
    · cases v <;> simp
    · obtain ⟨m, y⟩ := q
      obtain ⟨c, n, rfl, _⟩ := (mem_kents h.1 _ _ _).1 hq
      cases v with
      | none => cases hp
      | some x =>
        have hp : p = (beg ++ s, x) := List.mem_singleton.1 hp
        subst hp
        have := less_app (beg ++ s) [] (c :: n)
        rw [List.append_nil] at this
        exact this
theorem kents_rise : ∀ {k : Kids}, k.wf → ∀ beg, Rise (k.ents beg)
  | .nil, _, _ => List.Pairwise.nil
  | .cons b t r, h, beg => by
    unfold Kids.wf at h
    obtain ⟨w1, w2, w3⟩ := h
    unfold Rise Kids.ents
    rw [List.pairwise_append]
    refine ⟨ents_rise w1 _, kents_rise w2 _, fun p hp q hq => ?_⟩
    obtain ⟨m, y⟩ := q
    obtain ⟨m', y'⟩ := p
    obtain ⟨c, n, rfl, hx⟩ := (mem_kents w2 _ _ _).1 hq
    obtain ⟨n', rfl, _⟩ := (mem_ents w1 _ _ _).1 hp
    show Go.Op.bytesLess (beg ++ [b] ++ n') (beg ++ c :: n) = true
    rw [List.append_assoc, less_app]
    exact less_cons (w3 c (kget_in hx)) _ _
end

mutual
theorem many_ents : ∀ (t : Tree) (beg : Str), (t.ents beg).length = t.many
  | .node s v k, beg => by
    unfold Tree.ents Tree.many
    rw [List.length_append, many_kents]
    cases v <;> simp
theorem many_kents : ∀ (k : Kids) (beg : Str), (k.ents beg).length = k.many
  | .nil, _ => rfl
  | .cons b t r, beg => by
    unfold Kids.ents Kids.many
    rw [List.length_append, many_ents, many_kents]
end

/-! ## A tree without a name -/
def joinT (s : Str) (v : Option Sum) (k : Kids) : Option Tree := match v, k with
  | some x, k => some (.node s (some x) k)
  | none, .nil => none
  | none, .cons b (.node s2 v2 k2) .nil => some (.node (s ++ b :: s2) v2 k2)
  | none, .cons b t (.cons c u r) => some (.node s none (.cons b t (.cons c u r)))

mutual
def Tree.drop : Tree → Str → Option Tree
  | .node s v k, n => if n.length = s.length then joinT s none k else joinT s v (k.drop (n.getD s.length 0) (n.drop (s.length + 1)))
def Kids.drop : Kids → UInt8 → Str → Kids
  | .nil, _, _ => .nil
  | .cons b t r, c, n => if b = c then (match t.drop n with
    | some t' => .cons b t' r
    | none => r) else .cons b t (r.drop c n)
end

/-- A map: no tree, or one. -/
def getO (t : Option Tree) (n : Str) : Option Sum := match t with
  | none => none
  | some t => t.get n
def wfO (t : Option Tree) : Prop := match t with
  | none => True
  | some t => t.wf

theorem get_empty (s : Str) (m : Str) : (Tree.node s none .nil).get m = none := by
  rcases part_cases s m with rfl | ⟨c, r, rfl⟩ | ⟨p, b, q, rfl, rfl⟩ | ⟨p, b, q, c, r, rfl, rfl, hbc⟩
  · exact get_here _ _ _
  · rw [get_kid]; rfl
  · refine get_off _ _ fun r e => ?_
    have := congrArg List.length e
    simp at this <;> omega
  · refine get_off _ _ fun r0 e => ?_
    rw [List.append_assoc] at e
    have := List.append_cancel_left e
    injection this with e1 _
    exact hbc e1.symm

theorem get_one (s : Str) (b : UInt8) (s2 : Str) (v2 : Option Sum) (k2 : Kids) (m : Str) : (Tree.node (s ++ b :: s2) v2 k2).get m = (Tree.node s none (.cons b (.node s2 v2 k2) .nil)).get m := by
  rcases part_cases s m with rfl | ⟨c, r, rfl⟩ | ⟨p, b', q, rfl, rfl⟩ | ⟨p, b', q, c, r, rfl, rfl, hbc⟩
  · rw [get_here, get_off]
    intro r e
    have := congrArg List.length e
    simp at this <;> omega
  · rw [get_kid, ← fork_get]
    unfold Kids.get Kids.get
    rfl
  · rw [get_off, get_off] <;> (intro r e; have := congrArg List.length e; simp at this <;> omega)
  · have h1 : ∀ z, p ++ c :: r ≠ p ++ b' :: q ++ z := fun z e => by
      rw [List.append_assoc] at e
      have := List.append_cancel_left e
      injection this with e1 _
      exact hbc e1.symm
    rw [get_off _ _ h1, get_off]
    intro z e
    rw [List.append_assoc] at e
    exact h1 _ e

theorem joinT_get (s : Str) (v : Option Sum) (k : Kids) (m : Str) : getO (joinT s v k) m = (Tree.node s v k).get m := by
  unfold joinT
  split
  · rfl
  · rw [get_empty]; rfl
  · exact get_one s _ _ _ _ m
  · rfl

theorem joinT_wf {s : Str} {v : Option Sum} {k : Kids} (h : k.wf) : wfO (joinT s v k) := by
  unfold joinT
  split
  · show Tree.wf _
    unfold Tree.wf
    exact ⟨h, .inl rfl⟩
  · trivial
  · unfold Kids.wf at h
    have h1 := h.1
    show Tree.wf _
    unfold Tree.wf at h1 ⊢
    exact h1
  · show Tree.wf _
    unfold Tree.wf
    exact ⟨h, .inr (by simp [Kids.bytes])⟩

mutual
theorem drop_all : ∀ {t : Tree} {n : Str}, t.wf → (t.get n).isSome = true → wfO (t.drop n) ∧ ∀ m, getO (t.drop n) m = if m = n then none else t.get m
  | .node s v k, n, h, hn => by
    unfold Tree.wf at h
    obtain ⟨x, hx⟩ := Option.isSome_iff_exists.1 hn
    obtain ⟨r, rfl⟩ := get_pre hx
    unfold Tree.drop
    cases r with
    | nil =>
      rw [if_pos (by simp)]
      refine ⟨joinT_wf h.1, fun m => ?_⟩
      rw [joinT_get, List.append_nil]
      rcases part_cases s m with rfl | ⟨c, r, rfl⟩ | ⟨p, b, q, rfl, rfl⟩ | ⟨p, b, q, c, r, rfl, rfl, hbc⟩
      · rw [get_here, if_pos rfl]
      · rw [get_kid, get_kid, if_neg (by simp)]
      · rw [if_neg (by simp), get_off, get_off] <;> (intro r e; have := congrArg List.length e; simp at this <;> omega)
      · have h1 : ∀ z, p ++ c :: r ≠ p ++ b :: q ++ z := fun z e => by
          rw [List.append_assoc] at e
          have := List.append_cancel_left e
          injection this with e1 _
          exact hbc e1.symm
        rw [get_off _ _ h1, get_off _ _ h1, if_neg fun e => h1 [] (by rw [List.append_nil]; exact e)]
    | cons c r =>
      rw [get_kid] at hx
      have e1 : (s ++ c :: r).getD s.length 0 = c := by simp
      have e2 : (s ++ c :: r).drop (s.length + 1) = r := by rw [← List.drop_drop, List.drop_left]; rfl
      rw [if_neg (by simp), e1, e2]
      obtain ⟨w1, _, w3⟩ := kdrop_all h.1 (by rw [hx]; rfl : (k.get c r).isSome = true)
      refine ⟨joinT_wf w1, fun m => ?_⟩
      rw [joinT_get]
      rcases part_cases s m with rfl | ⟨c', r', rfl⟩ | ⟨p, b, q, rfl, rfl⟩ | ⟨p, b, q, c', r', rfl, rfl, hbc⟩
      · rw [get_here, get_here, if_neg (by simp)]
      · rw [get_kid, get_kid, w3]
        by_cases e : c' = c ∧ r' = r
        · rw [if_pos e, if_pos (by rw [e.1, e.2])]
        · rw [if_neg e, if_neg fun e2 => e (by have := List.append_cancel_left e2; injection this with a1 a2; exact ⟨a1, a2⟩)]
      · rw [if_neg (by intro e; have := congrArg List.length e; simp at this <;> omega), get_off, get_off] <;> (intro r e; have := congrArg List.length e; simp at this <;> omega)
      · have h1 : ∀ z, p ++ c' :: r' ≠ p ++ b :: q ++ z := fun z e => by
          rw [List.append_assoc] at e
          have := List.append_cancel_left e
          injection this with e1 _
          exact hbc e1.symm
        rw [get_off _ _ h1, get_off _ _ h1, if_neg fun e => h1 _ e]
theorem kdrop_all : ∀ {k : Kids} {c : UInt8} {n : Str}, k.wf → (k.get c n).isSome = true → (k.drop c n).wf ∧ (∀ b ∈ (k.drop c n).bytes, b ∈ k.bytes) ∧ ∀ a m, (k.drop c n).get a m = if a = c ∧ m = n then none else k.get a m
  | .nil, c, n, _, h => by cases h
  | .cons b t r, c, n, h, hn => by
    unfold Kids.wf at h
    obtain ⟨w1, w2, w3⟩ := h
    have hnb : b ∉ r.bytes := fun hm => u8_ne (w3 b hm) rfl
    rw [Kids.get] at hn
    unfold Kids.drop
    by_cases e : b = c
    · subst e
      rw [if_pos rfl] at hn
      obtain ⟨d1, d2⟩ := drop_all w1 hn
      rw [if_pos rfl]
      cases hd : t.drop n with
      | none =>
        rw [hd] at d2
        refine ⟨w2, fun a ha => .tail _ ha, fun a m => ?_⟩
        show r.get a m = _
        rw [Kids.get]
        by_cases ea : b = a
        · subst ea
          rw [kget_mem hnb, if_pos rfl]
          have := d2 m
          change none = _ at this
          by_cases em : m = n
          · rw [if_pos ⟨rfl, em⟩]
          · rw [if_neg em] at this
            rw [if_neg fun h => em h.2]
            exact this
        · rw [if_neg ea, if_neg fun h => ea h.1.symm]
      | some t' =>
        rw [hd] at d1 d2
        refine ⟨?_, fun a ha => ?_, fun a m => ?_⟩
        · show (Kids.cons b t' r).wf
          unfold Kids.wf
          exact ⟨d1, w2, w3⟩
        · exact ha
        · show (Kids.cons b t' r).get a m = _
          rw [Kids.get]
          conv => rhs; rw [Kids.get]
          by_cases ea : b = a
          · subst ea
            rw [if_pos rfl, if_pos rfl]
            have := d2 m
            change t'.get m = _ at this
            rw [this]
            by_cases em : m = n
            · rw [if_pos em, if_pos ⟨rfl, em⟩]
            · rw [if_neg em, if_neg fun h => em h.2]
          · rw [if_neg ea, if_neg ea, if_neg fun h => ea h.1.symm]
    · rw [if_neg e] at hn
      obtain ⟨d1, d2, d3⟩ := kdrop_all w2 hn
      rw [if_neg e]
      refine ⟨?_, fun a ha => ?_, fun a m => ?_⟩
      · unfold Kids.wf
        exact ⟨w1, d1, fun a ha => w3 a (d2 a ha)⟩
      · rcases List.mem_cons.1 ha with rfl | ha
        · exact .head _
        · exact .tail _ (d2 a ha)
      · rw [Kids.get, d3]
        conv => rhs; rw [Kids.get]
        by_cases ea : b = a
        · subst ea
          rw [if_pos rfl, if_pos rfl, if_neg fun h => e h.1]
        · rw [if_neg ea, if_neg ea]
end
end Go.Proofs.YtbfjmimiigjenaaGreatDoor

/-
Tries: the branches of a node as lists; no program.
-/
namespace Go.Proofs.YtbfjmimiigjenaaGreatDoor
open V

/-- Where a branch is, or would be. -/
def posB (bs : List UInt8) (c : UInt8) : Nat := (bs.takeWhile fun b => decide (b < c)).length
def isB (bs : List UInt8) (c : UInt8) : Bool := decide (posB bs c < bs.length) && decide (bs.getD (posB bs c) 0 = c)

theorem posB_cons (b : UInt8) (bs : List UInt8) (c : UInt8) : posB (b :: bs) c = if b < c then posB bs c + 1 else 0 := by
  unfold posB
  rw [List.takeWhile_cons]
  by_cases h : b < c <;> simp [h]

theorem isB_cons (b : UInt8) (bs : List UInt8) (c : UInt8) : isB (b :: bs) c = if b < c then isB bs c else decide (b = c) := by
  unfold isB
  rw [posB_cons]
  by_cases h : b < c
  · simp [h]
  · simp [h]

theorem posB_le (bs : List UInt8) (c : UInt8) : posB bs c ≤ bs.length := tw_le _ _

theorem kget_pos : ∀ {k : Kids} {c : UInt8} {n : Str}, k.wf → (isB k.bytes c = true → ∃ h : posB k.bytes c < k.trees.length, k.get c n = (k.trees[posB k.bytes c]).get n) ∧ (isB k.bytes c = false → k.get c n = none ∧ c ∉ k.bytes)
  | .nil, c, n, _ => ⟨fun h => by simp [isB, Kids.bytes] at h, fun _ => ⟨rfl, by simp [Kids.bytes]⟩⟩
  | .cons b t r, c, n, h => by
    unfold Kids.wf at h
    obtain ⟨w1, w2, w3⟩ := h
    obtain ⟨i1, i2⟩ := kget_pos (k := r) (c := c) (n := n) w2
    unfold Kids.bytes Kids.trees
    rw [isB_cons, Kids.get]
    simp only [posB_cons]
    by_cases hlt : b < c
    · simp only [hlt, if_true, if_neg (u8_ne hlt)]
      constructor
      · intro hi
        obtain ⟨h1, h2⟩ := i1 hi
        exact ⟨by simpa using h1, by simpa using h2⟩
      · intro hi
        obtain ⟨h1, h2⟩ := i2 hi
        refine ⟨h1, fun hm => ?_⟩
        rcases List.mem_cons.1 hm with e | hm
        · exact u8_ne hlt e.symm
        · exact h2 hm
    · simp only [hlt, if_false]
      by_cases e : b = c
      · subst e
        simp
      · have hcb := u8_lt_of hlt e
        simp only [e, decide_false, if_false]
        refine ⟨fun h => (by cases h), fun _ => ?_⟩
        have hn : c ∉ r.bytes := fun hm => u8_ne (u8_trans hcb (w3 c hm)) rfl
        refine ⟨kget_mem hn, fun hm => ?_⟩
        rcases List.mem_cons.1 hm with e2 | hm
        · exact e e2.symm
        · exact hn hm

theorem kput_is : ∀ {k : Kids} {c : UInt8} (n : Str) (x : Sum), k.wf → isB k.bytes c = true → (k.put c n x).bytes = k.bytes ∧ ∃ h : posB k.bytes c < k.trees.length, (k.put c n x).trees = k.trees.set (posB k.bytes c) (k.trees[posB k.bytes c].put n x)
  | .nil, c, n, x, _, h => by simp [isB, Kids.bytes] at h
  | .cons b t r, c, n, x, h, hi => by
    unfold Kids.wf at h
    obtain ⟨w1, w2, w3⟩ := h
    unfold Kids.bytes at hi
    rw [isB_cons] at hi
    unfold Kids.put
    by_cases hlt : b < c
    · rw [if_pos hlt] at hi ⊢
      obtain ⟨h1, h2, h3⟩ := kput_is n x w2 hi
      unfold Kids.bytes Kids.trees
      simp only [posB_cons, hlt, if_true]
      exact ⟨by rw [h1], by simpa using h2, by simp [h3]⟩
    · rw [if_neg hlt] at hi ⊢
      have e : b = c := by simpa using hi
      subst e
      unfold Kids.bytes Kids.trees
      simp [posB_cons, hlt]

theorem kput_not : ∀ {k : Kids} {c : UInt8} (n : Str) (x : Sum), isB k.bytes c = false → (k.put c n x).bytes = k.bytes.take (posB k.bytes c) ++ c :: k.bytes.drop (posB k.bytes c) ∧ (k.put c n x).trees = k.trees.take (posB k.bytes c) ++ leaf n x :: k.trees.drop (posB k.bytes c)
  | .nil, c, n, x, _ => by simp [Kids.put, Kids.bytes, Kids.trees]
  | .cons b t r, c, n, x, hi => by
    unfold Kids.bytes at hi
    rw [isB_cons] at hi
    unfold Kids.put
    by_cases hlt : b < c
    · rw [if_pos hlt] at hi ⊢
      obtain ⟨h1, h2⟩ := kput_not (k := r) n x hi
      unfold Kids.bytes Kids.trees
      simp only [posB_cons, hlt, if_true]
      simp [h1, h2]
    · rw [if_neg hlt] at hi ⊢
      have e : ¬ b = c := by simpa using hi
      rw [if_neg e]
      unfold Kids.bytes Kids.trees
      simp [posB_cons, hlt, Kids.bytes, Kids.trees]

theorem kdrop_is : ∀ {k : Kids} {c : UInt8} (n : Str), k.wf → isB k.bytes c = true → ∃ h : posB k.bytes c < k.trees.length,
    (∀ t', (k.trees[posB k.bytes c]).drop n = some t' → (k.drop c n).bytes = k.bytes ∧ (k.drop c n).trees = k.trees.set (posB k.bytes c) t') ∧
    ((k.trees[posB k.bytes c]).drop n = none → (k.drop c n).bytes = k.bytes.eraseIdx (posB k.bytes c) ∧ (k.drop c n).trees = k.trees.eraseIdx (posB k.bytes c))
  | .nil, c, n, _, h => by simp [isB, Kids.bytes] at h
  | .cons b t r, c, n, h, hi => by
    unfold Kids.wf at h
    obtain ⟨w1, w2, w3⟩ := h
    unfold Kids.bytes at hi
    rw [isB_cons] at hi
    unfold Kids.drop
    by_cases hlt : b < c
    · rw [if_pos hlt] at hi
      obtain ⟨h1, h2, h3⟩ := kdrop_is n w2 hi
      rw [if_neg (u8_ne hlt)]
      unfold Kids.bytes Kids.trees
      simp only [posB_cons, hlt, if_true]
      refine ⟨by simpa using h1, fun t' ht => ?_, fun ht => ?_⟩
      · obtain ⟨a1, a2⟩ := h2 t' (by simpa using ht)
        exact ⟨by rw [a1], by simp [a2]⟩
      · obtain ⟨a1, a2⟩ := h3 (by simpa using ht)
        exact ⟨by simp [a1], by simp [a2]⟩
    · rw [if_neg hlt] at hi
      have e : b = c := by simpa using hi
      subst e
      rw [if_pos rfl]
      unfold Kids.bytes Kids.trees
      simp only [posB_cons, hlt, if_false]
      refine ⟨by simp, fun t' ht => ?_, fun ht => ?_⟩
      · have ht : t.drop n = some t' := by simpa using ht
        rw [ht]
        simp [Kids.bytes, Kids.trees]
      · have ht : t.drop n = none := by simpa using ht
        rw [ht]
        cases r <;> simp [Kids.bytes, Kids.trees]

/-- Rising bytes: at most 256. -/
theorem kbytes_low : ∀ {k : Kids}, k.wf → ∀ (m : Nat), (∀ c ∈ k.bytes, m ≤ c.toNat) → m ≤ 256 → k.bytes.length + m ≤ 256
  | .nil, _, m, _, hm => by simpa [Kids.bytes] using hm
  | .cons b t r, h, m, hc, hm => by
    unfold Kids.wf at h
    have hb := hc b (by simp [Kids.bytes])
    have hb2 := b.toNat_lt
    have := kbytes_low h.2.1 (m + 1) (fun c hcr => by
      have := h.2.2 c hcr
      rw [UInt8.lt_iff_toNat_lt] at this
      omega) (by omega)
    simp only [Kids.bytes, List.length_cons]
    omega
theorem kbytes_len {k : Kids} (h : k.wf) : k.bytes.length ≤ 256 := by
  have := kbytes_low h 0 (fun _ _ => Nat.zero_le _) (by decide)
  omega
end Go.Proofs.YtbfjmimiigjenaaGreatDoor

/-
Tries: how many names, how long they are; maps; no program.
-/
namespace Go.Proofs.YtbfjmimiigjenaaGreatDoor
open V

theorem ins_many : ∀ (k : Kids) (c : UInt8) (t : Tree), (k.ins c t).many = k.many + t.many
  | .nil, c, t => by simp [Kids.ins, Kids.many]
  | .cons b s r, c, t => by
    unfold Kids.ins
    split
    · simp only [Kids.many, ins_many r c t]; omega
    · simp only [Kids.many]; omega

mutual
theorem many_put : ∀ {t : Tree} {n : Str} {x : Sum}, t.wf → (t.put n x).many = t.many + (if (t.get n).isSome = true then 0 else 1)
  | .node s v k, n, x, h => by
    unfold Tree.wf at h
    rcases part_cases s n with rfl | ⟨c, r, rfl⟩ | ⟨p, b, q, rfl, hp⟩ | ⟨p, b, q, c, r, rfl, rfl, hbc⟩
    · rw [put_here, get_here]
      unfold Tree.many
      cases v <;> simp <;> omega
    · rw [put_kid, get_kid]
      unfold Tree.many
      rw [many_kput h.1]
      omega
    · obtain rfl : p = n := hp.symm
      rw [put_up, get_off]
      · simp only [Tree.many, Kids.many]
        simp
        omega
      · intro r e
        have := congrArg List.length e
        simp at this <;> omega
    · rw [put_fork p b q v k c r x hbc, get_off]
      · simp only [Tree.many, ins_many, Kids.many, leaf]
        simp
      · intro z e
        rw [List.append_assoc] at e
        have := List.append_cancel_left e
        injection this with e1 _
        exact hbc e1.symm
theorem many_kput : ∀ {k : Kids} {c : UInt8} {n : Str} {x : Sum}, k.wf → (k.put c n x).many = k.many + (if (k.get c n).isSome = true then 0 else 1)
  | .nil, c, n, x, _ => by simp [Kids.put, Kids.many, Kids.get, leaf, Tree.many]
  | .cons b t r, c, n, x, h => by
    unfold Kids.wf at h
    obtain ⟨w1, w2, w3⟩ := h
    unfold Kids.put
    by_cases hlt : b < c
    · rw [if_pos hlt, Kids.get, if_neg (u8_ne hlt)]
      simp only [Kids.many, many_kput w2]
      omega
    · rw [if_neg hlt]
      by_cases e : b = c
      · subst e
        rw [if_pos rfl, Kids.get, if_pos rfl]
        simp only [Kids.many, many_put w1]
        omega
      · have hcb := u8_lt_of hlt e
        have hn : c ∉ r.bytes := fun hm => u8_ne (u8_trans hcb (w3 c hm)) rfl
        rw [if_neg e, Kids.get, if_neg e, kget_mem hn]
        simp [Kids.many, leaf, Tree.many]
        omega
end

def manyO (t : Option Tree) : Nat := match t with
  | none => 0
  | some t => t.many

theorem joinT_many (s : Str) (v : Option Sum) (k : Kids) : manyO (joinT s v k) = (Tree.node s v k).many := by
  unfold joinT
  split
  · rfl
  · simp [manyO, Tree.many, Kids.many]
  · simp [manyO, Tree.many, Kids.many]
  · rfl

mutual
theorem many_drop : ∀ {t : Tree} {n : Str}, t.wf → (t.get n).isSome = true → manyO (t.drop n) + 1 = t.many
  | .node s v k, n, h, hn => by
    unfold Tree.wf at h
    obtain ⟨x, hx⟩ := Option.isSome_iff_exists.1 hn
    obtain ⟨r, rfl⟩ := get_pre hx
    unfold Tree.drop
    cases r with
    | nil =>
      rw [List.append_nil, get_here] at hx
      subst hx
      rw [if_pos (by simp), joinT_many]
      simp [Tree.many]
      omega
    | cons c r =>
      rw [get_kid] at hx
      have e1 : (s ++ c :: r).getD s.length 0 = c := by simp
      have e2 : (s ++ c :: r).drop (s.length + 1) = r := by rw [← List.drop_drop, List.drop_left]; rfl
      rw [if_neg (by simp), e1, e2, joinT_many]
      have := many_kdrop h.1 (by rw [hx]; rfl : (k.get c r).isSome = true)
      unfold Tree.many
      omega
theorem many_kdrop : ∀ {k : Kids} {c : UInt8} {n : Str}, k.wf → (k.get c n).isSome = true → (k.drop c n).many + 1 = k.many
  | .nil, c, n, _, h => by cases h
  | .cons b t r, c, n, h, hn => by
    unfold Kids.wf at h
    obtain ⟨w1, w2, w3⟩ := h
    rw [Kids.get] at hn
    unfold Kids.drop
    by_cases e : b = c
    · subst e
      rw [if_pos rfl] at hn
      have := many_drop w1 hn
      rw [if_pos rfl]
      cases hd : t.drop n with
      | none =>
        rw [hd] at this
        show r.many + 1 = t.many + r.many
        have : 0 + 1 = t.many := this
        omega
      | some t' =>
        rw [hd] at this
        show t'.many + r.many + 1 = t.many + r.many
        have : t'.many + 1 = t.many := this
        omega
    · rw [if_neg e] at hn
      have := many_kdrop w2 hn
      rw [if_neg e]
      simp only [Kids.many]
      omega
end

/-- No name is longer. -/
def Tree.low (N : Nat) (t : Tree) : Prop := ∀ n x, t.get n = some x → n.length ≤ N

theorem low_stem {N : Nat} {s : Str} {v : Option Sum} {k : Kids} (h : (Tree.node s v k).wf) (hl : (Tree.node s v k).low N) : s.length ≤ N := by
  obtain ⟨n, x, hx⟩ := has_name h
  obtain ⟨r, rfl⟩ := get_pre hx
  have := hl _ x hx
  rw [List.length_append] at this
  omega

theorem kid_at : ∀ {k : Kids}, k.wf → ∀ i (h : i < k.trees.length) (h2 : i < k.bytes.length), (k.trees[i]).wf ∧ ∀ n, k.get k.bytes[i] n = (k.trees[i]).get n
  | .nil, _, i, h, _ => by cases h
  | .cons b t r, hw, i, h, h2 => by
    unfold Kids.wf at hw
    obtain ⟨w1, w2, w3⟩ := hw
    cases i with
    | zero => exact ⟨w1, fun n => by rw [Kids.get]; exact if_pos rfl⟩
    | succ i =>
      obtain ⟨a1, a2⟩ := kid_at w2 i (by simpa [Kids.trees] using h) (by simpa [Kids.bytes] using h2)
      refine ⟨a1, fun n => ?_⟩
      show (Kids.cons b t r).get (r.bytes[i]'(by simpa [Kids.bytes] using h2)) n = _
      rw [Kids.get, if_neg (u8_ne (w3 _ (List.getElem_mem _)))]
      exact a2 n

theorem low_kid {N : Nat} {s : Str} {v : Option Sum} {k : Kids} (h : (Tree.node s v k).wf) (hl : (Tree.node s v k).low N) (i : Nat) (hi : i < k.trees.length) : (k.trees[i]).low N := by
  intro n x hx
  unfold Tree.wf at h
  have h2 : i < k.bytes.length := by rw [Kids.len]; exact hi
  obtain ⟨_, a2⟩ := kid_at h.1 i hi h2
  have := hl (s ++ k.bytes[i] :: n) x (by rw [get_kid, a2]; exact hx)
  simp at this
  omega

theorem many_kid : ∀ {k : Kids} (i : Nat) (hi : i < k.trees.length), (k.trees[i]).many ≤ k.many
  | .nil, i, h => by cases h
  | .cons b t r, i, h => by
    cases i with
    | zero => simp [Kids.trees, Kids.many]
    | succ i =>
      have := many_kid (k := r) i (by simpa [Kids.trees] using h)
      simp only [Kids.many]
      show (r.trees[i]'(by simpa [Kids.trees] using h)).many ≤ _
      omega

/-! ## Maps -/
def putO (t : Option Tree) (n : Str) (x : Sum) : Tree := match t with
  | none => leaf n x
  | some t => t.put n x
def dropO (t : Option Tree) (n : Str) : Option Tree := match t with
  | none => none
  | some t => t.drop n
def entsO (t : Option Tree) : List (Str × Sum) := match t with
  | none => []
  | some t => t.ents []
def rootO (t : Option Tree) : Sum := match t with
  | none => shaW []
  | some t => t.own
def lowO (N : Nat) (t : Option Tree) : Prop := ∀ n x, getO t n = some x → n.length ≤ N

theorem putO_wf {t : Option Tree} (h : wfO t) (n : Str) (x : Sum) : wfO (some (putO t n x)) := by
  cases t with
  | none => exact leaf_wf n x
  | some t => exact put_wf h
theorem putO_get {t : Option Tree} (h : wfO t) (n : Str) (x : Sum) (m : Str) : getO (some (putO t n x)) m = if m = n then some x else getO t m := by
  cases t with
  | none => exact get_leaf n x m
  | some t => exact get_put h m
theorem putO_many {t : Option Tree} (h : wfO t) (n : Str) (x : Sum) : manyO (some (putO t n x)) = manyO t + (if (getO t n).isSome = true then 0 else 1) := by
  cases t with
  | none => simp [putO, manyO, leaf, Tree.many, Kids.many, getO]
  | some t => exact many_put h
theorem putO_low {N : Nat} {t : Option Tree} (h : wfO t) (hl : lowO N t) {n : Str} (hn : n.length ≤ N) (x : Sum) : lowO N (some (putO t n x)) := fun m y hy => by
  rw [putO_get h] at hy
  by_cases e : m = n
  · rw [e]; exact hn
  · rw [if_neg e] at hy
    exact hl m y hy

theorem dropO_wf {t : Option Tree} (h : wfO t) {n : Str} (hn : (getO t n).isSome = true) : wfO (dropO t n) := by
  cases t with
  | none => cases hn
  | some t => exact (drop_all h hn).1
theorem dropO_get {t : Option Tree} (h : wfO t) {n : Str} (hn : (getO t n).isSome = true) (m : Str) : getO (dropO t n) m = if m = n then none else getO t m := by
  cases t with
  | none => cases hn
  | some t => exact (drop_all h hn).2 m
theorem dropO_many {t : Option Tree} (h : wfO t) {n : Str} (hn : (getO t n).isSome = true) : manyO (dropO t n) + 1 = manyO t := by
  cases t with
  | none => cases hn
  | some t => exact many_drop h hn
theorem dropO_low {N : Nat} {t : Option Tree} (h : wfO t) (hl : lowO N t) {n : Str} (hn : (getO t n).isSome = true) : lowO N (dropO t n) := fun m y hy => by
  rw [dropO_get h hn] at hy
  by_cases e : m = n
  · rw [if_pos e] at hy; cases hy
  · rw [if_neg e] at hy
    exact hl m y hy

theorem canonO {a b : Option Tree} (ha : wfO a) (hb : wfO b) (h : ∀ n, getO a n = getO b n) : a = b := by
  cases a with
  | none =>
    cases b with
    | none => rfl
    | some t =>
      obtain ⟨n, x, hx⟩ := has_name (t := t) hb
      have := h n
      change none = t.get n at this
      rw [hx] at this; cases this
  | some t =>
    cases b with
    | none =>
      obtain ⟨n, x, hx⟩ := has_name (t := t) ha
      have := h n
      change t.get n = none at this
      rw [hx] at this; cases this
    | some u => rw [canon ha hb h]

theorem mem_entsO {t : Option Tree} (h : wfO t) (n : Str) (x : Sum) : (n, x) ∈ entsO t ↔ getO t n = some x := by
  cases t with
  | none => simp [entsO, getO]
  | some t =>
    show (n, x) ∈ t.ents [] ↔ t.get n = some x
    rw [mem_ents h]
    simp
theorem entsO_rise {t : Option Tree} (h : wfO t) : Rise (entsO t) := by
  cases t with
  | none => exact List.Pairwise.nil
  | some t => exact ents_rise h []
theorem entsO_many (t : Option Tree) : (entsO t).length = manyO t := by
  cases t with
  | none => rfl
  | some t => exact many_ents t []
end Go.Proofs.YtbfjmimiigjenaaGreatDoor

/-
Nodes in memory.
-/
namespace Go.Proofs.YtbfjmimiigjenaaGreatDoor
open Go V RowKit

/-- How a tree lies: its block, its two rows, and how what is below lies. -/
inductive Plot where
  | node (b : Nat) (A : Option Addr) (c : Nat) (B : Option Addr) (d : Nat) (ps : List Plot) : Plot
def Plot.b : Plot → Nat | .node b _ _ _ _ _ => b
def Plot.A : Plot → Option Addr | .node _ A _ _ _ _ => A
def Plot.c : Plot → Nat | .node _ _ c _ _ _ => c
def Plot.B : Plot → Option Addr | .node _ _ _ B _ _ => B
def Plot.d : Plot → Nat | .node _ _ _ _ d _ => d
def Plot.ps : Plot → List Plot | .node _ _ _ _ _ ps => ps

/-- Pointers to nodes. -/
def kP : Kd Plot where
  T := 29
  sz := 1
  ev L := .av (.val (.pointer (some ⟨L.b, 0, none⟩)))
  ok b := ⟨rfl, Tryz.t29, rfl, rfl⟩
  size b := rfl

abbrev ptrV (b : Nat) : Value := .pointer (some ⟨b, 0, none⟩)
abbrev ptrAt (b : Nat) : EV := .av (.val (ptrV b))

/-- The fields of a node. -/
abbrev nodF (s : Str) (v : Option Sum) (A : Option Addr) (q c : Nat) (B : Option Addr) (p d : Nat) (many : Int) (own : Sum) : List AV :=
  [.val (strV s), .val (.bool v.isSome), .val (sumV (v.getD Sum.zero)), .val (.slice A q c), .val (.slice B p d), .val (intV many), .val (sumV own)]

theorem nod_cells (s : Str) (v : Option Sum) (A : Option Addr) (q c : Nat) (B : Option Addr) (p d : Nat) (many : Int) (own : Sum) :
    (boxCells (nodF s v A q c B p d many own)).toList = [strV s, .bool v.isSome] ++ ((v.getD Sum.zero).l.map u8V ++ ([.slice A q c, .slice B p d, intV many] ++ own.l.map u8V)) := by
  unfold boxCells nodF
  simp [flat, AV.v, Value.cells, sumV, strV, intV]

mutual
/-- The node of a tree lies in a block. -/
def IsTree (u : World) : Plot → Tree → Prop
  | L, .node s v k => u.heap[L.b]? = some (.cells (boxCells (nodF s v L.A k.bytes.length L.c L.B L.ps.length L.d (Tree.node s v k).many (Tree.node s v k).own)) 165 (0, 0)) ∧ Sl kByte u L.A L.c k.bytes ∧ Sl kP u L.B L.d L.ps ∧ IsKids u L.ps k
def IsKids (u : World) : List Plot → Kids → Prop
  | [], .nil => True
  | p :: ps, .cons _ t r => IsTree u p t ∧ IsKids u ps r
  | [], .cons _ _ _ => False
  | _ :: _, .nil => False
end

/-- A node of which the number of its names and its digest need not be told. -/
structure Part (u : World) (b : Nat) (s : Str) (v : Option Sum) (k : Kids) (A : Option Addr) (c : Nat) (B : Option Addr) (d : Nat) (ps : List Plot) (many : Int) (own : Sum) : Prop where
  blk : u.heap[b]? = some (.cells (boxCells (nodF s v A k.bytes.length c B ps.length d many own)) 165 (0, 0))
  by_ : Sl kByte u A c k.bytes
  to_ : Sl kP u B d ps
  kids : IsKids u ps k

theorem IsTree.part {u : World} {L : Plot} {s : Str} {v : Option Sum} {k : Kids} (h : IsTree u L (.node s v k)) : Part u L.b s v k L.A L.c L.B L.d L.ps (Tree.node s v k).many (Tree.node s v k).own := by
  unfold IsTree at h
  obtain ⟨h1, h2, h3, h4⟩ := h
  exact ⟨h1, h2, h3, h4⟩

theorem Part.tree {u : World} {b : Nat} {s : Str} {v : Option Sum} {k : Kids} {A : Option Addr} {c : Nat} {B : Option Addr} {d : Nat} {ps : List Plot} (h : Part u b s v k A c B d ps (Tree.node s v k).many (Tree.node s v k).own) : IsTree u (.node b A c B d ps) (.node s v k) := by
  unfold IsTree
  exact ⟨h.blk, h.by_, h.to_, h.kids⟩

mutual
theorem IsTree.ext {u u' : World} (he : Ext u u') : ∀ {t : Tree} {b : Plot}, IsTree u b t → IsTree u' b t
  | .node s v k, b, h => by
    unfold IsTree at h ⊢
    obtain ⟨h1, h2, h3, h4⟩ := h
    exact ⟨by rw [he.block _ (Array.getElem?_eq_some_iff.1 h1).1]; exact h1, h2.ext he, h3.ext he, h4.ext he⟩
theorem IsKids.ext {u u' : World} (he : Ext u u') : ∀ {k : Kids} {ps : List Plot}, IsKids u ps k → IsKids u' ps k
  | .nil, [], _ => trivial
  | .nil, _ :: _, h => h.elim
  | .cons _ t r, [], h => h.elim
  | .cons _ t r, p :: ps, h => by
    unfold IsKids at h ⊢
    exact ⟨h.1.ext he, h.2.ext he⟩
end

theorem Part.ext {u u' : World} (he : Ext u u') {b : Nat} {s : Str} {v : Option Sum} {k : Kids} {A : Option Addr} {c : Nat} {B : Option Addr} {d : Nat} {ps : List Plot} {many : Int} {own : Sum} (h : Part u b s v k A c B d ps many own) : Part u' b s v k A c B d ps many own :=
  ⟨by rw [he.block b (Array.getElem?_eq_some_iff.1 h.blk).1]; exact h.blk, h.by_.ext he, h.to_.ext he, h.kids.ext he⟩

theorem IsKids.len {u : World} : ∀ {k : Kids} {ps : List Plot}, IsKids u ps k → ps.length = k.bytes.length
  | .nil, [], _ => rfl
  | .nil, _ :: _, h => h.elim
  | .cons _ t r, [], h => h.elim
  | .cons _ t r, p :: ps, h => by
    unfold IsKids at h
    simp [Kids.bytes, h.2.len]

theorem IsKids.at {u : World} : ∀ {k : Kids} {ps : List Plot}, IsKids u ps k → ∀ i (h : i < ps.length) (h2 : i < k.trees.length), IsTree u ps[i] k.trees[i]
  | .nil, [], _, i, h, _ => by cases h
  | .nil, _ :: _, h, _, _, _ => h.elim
  | .cons _ t r, [], h, _, _, _ => h.elim
  | .cons _ t r, p :: ps, h, i, h1, h2 => by
    unfold IsKids at h
    cases i with
    | zero => exact h.1
    | succ i => exact h.2.at i (by simpa using h1) (by simpa [Kids.trees] using h2)

section
variable {u : World} {b : Nat} {s : Str} {v : Option Sum} {k : Kids} {A : Option Addr} {c : Nat} {B : Option Addr} {d : Nat} {ps : List Plot} {many : Int} {own : Sum}

theorem Part.cell (h : Part u b s v k A c B d ps many own) (o : Nat) (x : Value) (hx : ([strV s, .bool v.isSome] ++ ((v.getD Sum.zero).l.map u8V ++ ([.slice A k.bytes.length c, .slice B ps.length d, intV many] ++ own.l.map u8V)))[o]? = some x) : u.cell? ⟨b, o, none⟩ = some x := by
  rw [← nod_cells] at hx
  have := range_of_blk h.blk (o := 0) (l := (boxCells (nodF s v A k.bytes.length c B ps.length d many own)).toList) (fun j v hj => by rw [Nat.zero_add]; exact hj)
  have := this o x hx
  rw [Nat.zero_add] at this
  exact this

theorem Part.stem (h : Part u b s v k A c B d ps many own) : (loadVar 9 ⟨b, 0, none⟩).run Tryz.prog u = .ok (strV s) u :=
  V.run_load tb_ok ⟨rfl, Tryz.t9, rfl, rfl⟩ fun j x hj => by
    cases j with
    | zero => exact h.cell 0 x hj
    | succ j => simp [strV, Value.cells] at hj
theorem Part.has (h : Part u b s v k A c B d ps many own) : (loadVar 4 ⟨b, 1, none⟩).run Tryz.prog u = .ok (.bool v.isSome) u :=
  V.run_load tb_ok ⟨rfl, Tryz.t4, rfl, rfl⟩ fun j x hj => by
    cases j with
    | zero => exact h.cell 1 x hj
    | succ j => simp [Value.cells] at hj
theorem Part.sum (h : Part u b s v k A c B d ps many own) : (loadVar 40 ⟨b, 2, none⟩).run Tryz.prog u = .ok (sumV (v.getD Sum.zero)) u :=
  V.run_load tb_ok (vok_sum _) fun j x hj => by
    refine h.cell (2 + j) x ?_
    have hc : (sumV (v.getD Sum.zero)).cells.toList = (v.getD Sum.zero).l.map u8V := by simp [sumV, Value.cells]
    rw [hc] at hj
    rw [List.getElem?_append_right (by simp), List.getElem?_append_left (by have := (List.getElem?_eq_some_iff.1 hj).1; simpa using this)]
    simpa using hj
theorem Part.at34 (h : Part u b s v k A c B d ps many own) (j : Nat) (x : Value) (hx : ([.slice A k.bytes.length c, .slice B ps.length d, intV many] ++ own.l.map u8V : List Value)[j]? = some x) : u.cell? ⟨b, 34 + j, none⟩ = some x := by
  refine h.cell (34 + j) x ?_
  have hl := (v.getD Sum.zero).h
  rw [List.getElem?_append_right (by simp; omega), List.getElem?_append_right (by simp [hl]; omega)]
  rw [show 34 + j - [strV s, Value.bool v.isSome].length - ((v.getD Sum.zero).l.map u8V).length = j by simp [hl]; omega]
  exact hx
theorem Part.lby (h : Part u b s v k A c B d ps many own) : (loadVar 22 ⟨b, 34, none⟩).run Tryz.prog u = .ok (.slice A k.bytes.length c) u :=
  V.run_load tb_ok ⟨rfl, Tryz.t22, rfl, rfl⟩ fun j x hj => by
    cases j with
    | zero => exact h.at34 0 x hj
    | succ j => simp [Value.cells] at hj
theorem Part.lto (h : Part u b s v k A c B d ps many own) : (loadVar 163 ⟨b, 35, none⟩).run Tryz.prog u = .ok (.slice B ps.length d) u :=
  V.run_load tb_ok ⟨rfl, Tryz.t163, rfl, rfl⟩ fun j x hj => by
    cases j with
    | zero => exact h.at34 1 x hj
    | succ j => simp [Value.cells] at hj
theorem Part.lmany (h : Part u b s v k A c B d ps many own) : (loadVar 3 ⟨b, 36, none⟩).run Tryz.prog u = .ok (intV many) u :=
  V.run_load tb_ok ⟨rfl, Tryz.t3, rfl, rfl⟩ fun j x hj => by
    cases j with
    | zero => exact h.at34 2 x hj
    | succ j => simp [intV, Value.cells] at hj
theorem Part.lown (h : Part u b s v k A c B d ps many own) : (loadVar 40 ⟨b, 37, none⟩).run Tryz.prog u = .ok (sumV own) u :=
  V.run_load tb_ok (vok_sum _) fun j x hj => by
    have hc : (sumV own).cells.toList = own.l.map u8V := by simp [sumV, Value.cells]
    rw [hc] at hj
    have := h.at34 (3 + j) x (by rw [List.getElem?_append_right (by simp)]; simpa using hj)
    rw [← Nat.add_assoc] at this
    exact this
end
end Go.Proofs.YtbfjmimiigjenaaGreatDoor
