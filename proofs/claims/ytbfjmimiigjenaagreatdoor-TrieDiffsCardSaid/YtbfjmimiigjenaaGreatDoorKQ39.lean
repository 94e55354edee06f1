/-
Lemmas. No condition.
-/
import Derived.Test.YtbfjmimiigjenaaGreatDoorKLtrieShape
import Derived.Test.YtbfjmimiigjenaaGreatDoorKVConv
set_option maxRecDepth 10000
set_option linter.unusedVariables false
set_option linter.unusedSectionVars false
set_option linter.unusedSimpArgs false
namespace Go.Proofs.YtbfjmimiigjenaaGreatDoor
open Go V RowKit
abbrev noE : Str × Sum := ([], Sum.zero)
section
variable {n : Nat} {B0 : Nat} {I : World → Prop} {H : Heap} {m : Nat} {env : SEnv}
theorem V.OpGo.byteStrP {d : Nat} {x : Operand} {ty : TypeId} {ps : String} {af : Array Edge} {gd : Option (Nat × Bool)} {ex : EV} {A : Option Addr} {c : Nat} {l : List UInt8}
  (hd : Nat.blt d n = true) (hx : evE env x = some ex) (hxv : ex.v = .slice A l.length c) (hp : Ptr A) (hl : ∀ w, St tb B0 H I w → Sl kBy w A c l) :
  OpGo Tryz.prog tb B0 n ⟨some d, .convert 22 9 x, ty, ps, af, gd⟩ env H m I (fun _ : Unit => (d, strE l) :: env) (fun _ => H) (fun _ => I) := by
 intro w a hm hst ha
 have hdn : d < n := Nat.lt_of_lt_of_le (Nat.lt_succ_self d) (Nat.le_of_ble_eq_true hd)
 have hs := hl w hst
 have hxv' : a.eval x = .slice A l.length c := (ev_run ha hx).trans hxv
 unfold Ptr at hp
 have h := run_convert_bytes_back (P := Tryz.prog) w 22 9 5 ⟨blkA A, offA A, none⟩ c l (tk.und rfl) (tk.und rfl) (tk.und rfl) (fun j hj => by
  rw [Addr.add_lit]
  refine hs.cells j _ ?_
  rw [← map_flat, List.getElem?_map, List.getElem?_eq_getElem hj]
  rfl)
 unfold Oper.wp
 have : (execOp a.eval ⟨some d, .convert 22 9 x, ty, ps, af, gd⟩).run Tryz.prog w = .ok (.value (strV l)) w := by
  simp only [execOp, hxv']
  rw [hp, Sem.run_bind, h]
  rfl
 rw [this]
 refine ⟨(), ?_, by rw [← hm]; exact Nat.le_refl _, hst⟩
 rw [kn_cons]; exact ha.put hdn _
end
mutual
def Tree.all : Tree → List Tree
 | .node s v k => .node s v k :: k.all
def Kids.all : Kids → List Tree
 | .nil => []
 | .cons _ t r => t.all ++ r.all
end
def Tree.nodeB : Tree → List UInt8 | .node s v k => stepB s v k.bytes k.owns
theorem own_nodeB (t : Tree) : t.own = shaW t.nodeB := by cases t; rfl
theorem nodeB_ne (t : Tree) : t.nodeB ≠ [] := by
 cases t
 unfold Tree.nodeB stepB
 simp
def Tree.stem : Tree → Str | .node s _ _ => s
theorem pairB_inj : ∀ {bs bs' : List UInt8} {os os' : List Sum}, bs.length = os.length → bs'.length = os'.length → bs.length = bs'.length → pairB bs os = pairB bs' os' → bs = bs' ∧ os = os'
 | [], [], [], [], _, _, _, _ => ⟨rfl, rfl⟩
 | b :: bs, b' :: bs', o :: os, o' :: os', h1, h2, h3, h => by
  unfold pairB at h
  rw [List.zip_cons_cons, List.zip_cons_cons, List.flatMap_cons, List.flatMap_cons] at h
  dsimp only at h
  rw [List.cons_append, List.cons_append] at h
  injection h with hb h
  obtain ⟨ho, h⟩ := List.append_inj h (by rw [o.h, o'.h])
  have ho2 : o = o' := by cases o; cases o'; simp at ho; simp [ho]
  obtain ⟨e1, e2⟩ := pairB_inj (by simpa using h1) (by simpa using h2) (by simpa using h3) h
  rw [hb, ho2, e1, e2]; exact ⟨rfl, rfl⟩
theorem vB_inj {v v' : Option Sum} {r r' : List UInt8} (h : vB v ++ r = vB v' ++ r') : v = v' ∧ r = r' := by
 cases v with
 | none =>
  cases v' with
  | none => exact ⟨rfl, by simpa [vB] using h⟩
  | some y => simp [vB] at h
 | some x =>
  cases v' with
  | none => simp [vB] at h
  | some y =>
   unfold vB at h
   dsimp only at h
   rw [List.cons_append, List.cons_append] at h
   injection h with _ h
   obtain ⟨h1, h2⟩ := List.append_inj h (by rw [x.h, y.h])
   refine ⟨?_, h2⟩
   cases x; cases y; simp at h1; simp [h1]
theorem stepB_inj {s s' : Str} {v v' : Option Sum} {bs bs' : List UInt8} {os os' : List Sum} (h1 : s.length < 256) (h2 : s'.length < 256) (h3 : bs.length = os.length) (h4 : bs'.length = os'.length) (h5 : bs.length < 65536) (h6 : bs'.length < 65536)
  (h : stepB s v bs os = stepB s' v' bs' os') : s = s' ∧ v = v' ∧ bs = bs' ∧ os = os' := by
 unfold stepB at h
 simp only [List.append_assoc, List.cons_append, List.nil_append] at h
 injection h with ha h
 have hs : s.length = s'.length := by
  have := congrArg UInt8.toNat ha
  rw [UInt8.toNat_ofNat', UInt8.toNat_ofNat'] at this
  omega
 obtain ⟨e1, h⟩ := List.append_inj h hs
 obtain ⟨e2, h⟩ := vB_inj h
 injection h with hb h
 injection h with hc h
 have hn : bs.length = bs'.length := by
  have g1 := congrArg UInt8.toNat hb
  have g2 := congrArg UInt8.toNat hc
  rw [UInt8.toNat_ofNat', UInt8.toNat_ofNat'] at g1 g2
  omega
 obtain ⟨e3, e4⟩ := pairB_inj h3 h4 hn h
 exact ⟨e1, e2, e3, e4⟩
mutual
theorem all_low {N : Nat} : ∀ {t : Tree}, t.wf → t.low N → ∀ p ∈ t.all, p.wf ∧ p.stem.length ≤ N
 | .node s v k, hw, hl, p, hp => by
  unfold Tree.all at hp
  rcases List.mem_cons.1 hp with rfl | hp
  ·exact ⟨hw, low_stem hw hl⟩
  ·have hkw : k.wf := by unfold Tree.wf at hw; exact hw.1
   exact kall_low hkw (fun c n x h => by
    have := hl (s ++ c :: n) x (by rw [get_kid]; exact h)
    simp at this; omega) p hp
theorem kall_low {N : Nat} : ∀ {k : Kids}, k.wf → (∀ c n x, k.get c n = some x → n.length ≤ N) → ∀ p ∈ k.all, p.wf ∧ p.stem.length ≤ N
 | .nil, _, _, p, hp => by cases hp
 | .cons b t r, hw, hl, p, hp => by
  unfold Kids.wf at hw
  unfold Kids.all at hp
  rcases List.mem_append.1 hp with hp | hp
  ·exact all_low hw.1 (fun n x h => hl b n x (by unfold Kids.get; rw [if_pos rfl]; exact h)) p hp
  ·refine kall_low hw.2.1 (fun c n x h => hl c n x ?_) p hp
   unfold Kids.get
   rw [if_neg (u8_ne (hw.2.2 c (kget_in h)))]; exact h
end
mutual
theorem all_way : ∀ {t : Tree}, t.wf → ∀ p ∈ t.all, ∃ n x, t.get n = some x ∧ p ∈ t.wayT n
 | .node s v k, hw, p, hp => by
  unfold Tree.all at hp
  rcases List.mem_cons.1 hp with rfl | hp
  ·obtain ⟨n, x, h⟩ := has_name hw
   refine ⟨n, x, h, ?_⟩
   unfold Tree.wayT; exact .head _
  ·have hkw : k.wf := by unfold Tree.wf at hw; exact hw.1
   obtain ⟨c, n, x, h1, h2⟩ := kall_way hkw p hp
   refine ⟨s ++ c :: n, x, by rw [get_kid]; exact h1, ?_⟩
   unfold Tree.wayT
   rw [cutP_app]
   exact .tail _ h2
theorem kall_way : ∀ {k : Kids}, k.wf → ∀ p ∈ k.all, ∃ c n x, k.get c n = some x ∧ p ∈ k.wayT c n
 | .nil, _, p, hp => by cases hp
 | .cons b t r, hw, p, hp => by
  unfold Kids.wf at hw
  unfold Kids.all at hp
  rcases List.mem_append.1 hp with hp | hp
  ·obtain ⟨n, x, h1, h2⟩ := all_way hw.1 p hp
   exact ⟨b, n, x, by unfold Kids.get; rw [if_pos rfl]; exact h1, by unfold Kids.wayT; rw [if_pos rfl]; exact h2⟩
  ·obtain ⟨c, n, x, h1, h2⟩ := kall_way hw.2.1 p hp
   have hne := u8_ne (hw.2.2 c (kget_in h1))
   exact ⟨c, n, x, by unfold Kids.get; rw [if_neg hne]; exact h1, by unfold Kids.wayT; rw [if_neg hne]; exact h2⟩
end
theorem node_inj {s s' : Str} {v v' : Option Sum} {k k' : Kids} (h1 : s.length < 256) (h2 : s'.length < 256) (w1 : k.wf) (w2 : k'.wf) (hb : (Tree.node s v k).nodeB = (Tree.node s' v' k').nodeB) : s = s' ∧ v = v' ∧ k.bytes = k'.bytes ∧ k.owns = k'.owns := by
 unfold Tree.nodeB at hb
 have l1 := kbL w1
 have l2 := kbL w2
 exact stepB_inj h1 h2 (owns_len k).symm (owns_len k').symm (by omega) (by omega) hb
mutual
theorem tree_clash : ∀ (t u : Tree), (∀ p ∈ t.all, p.wf ∧ p.stem.length < 256) → (∀ p ∈ u.all, p.wf ∧ p.stem.length < 256) → t.own = u.own → t ≠ u → ∃ p ∈ t.all, ∃ q ∈ u.all, p.nodeB ≠ q.nodeB ∧ p.own = q.own
 | .node s v k, .node s' v' k' => by
  intro h1 h2 ho hn
  by_cases hb : (Tree.node s v k).nodeB = (Tree.node s' v' k').nodeB
  ·have g1 := h1 (.node s v k) (by unfold Tree.all; exact .head _)
   have g2 := h2 (.node s' v' k') (by unfold Tree.all; exact .head _)
   have w1 : k.wf := by have := g1.1; unfold Tree.wf at this; exact this.1
   have w2 : k'.wf := by have := g2.1; unfold Tree.wf at this; exact this.1
   obtain ⟨e1, e2, e3, e4⟩ := node_inj (s := s) (s' := s') g1.2 g2.2 w1 w2 hb
   obtain ⟨p, hp, q, hq, h⟩ := kids_clash k k' (fun p hp => h1 p (by unfold Tree.all; exact .tail _ hp)) (fun p hp => h2 p (by unfold Tree.all; exact .tail _ hp)) e3 e4 (fun e => hn (by rw [e1, e2, e]))
   exact ⟨p, by unfold Tree.all; exact .tail _ hp, q, by unfold Tree.all; exact .tail _ hq, h⟩
  ·exact ⟨.node s v k, by unfold Tree.all; exact .head _, .node s' v' k', by unfold Tree.all; exact .head _, hb, ho⟩
theorem kids_clash : ∀ (k l : Kids), (∀ p ∈ k.all, p.wf ∧ p.stem.length < 256) → (∀ p ∈ l.all, p.wf ∧ p.stem.length < 256) → k.bytes = l.bytes → k.owns = l.owns → k ≠ l → ∃ p ∈ k.all, ∃ q ∈ l.all, p.nodeB ≠ q.nodeB ∧ p.own = q.own
 | .nil, .nil => fun _ _ _ _ h => absurd rfl h
 | .nil, .cons _ _ _ => by intro _ _ h; simp [Kids.bytes] at h
 | .cons _ _ _, .nil => by intro _ _ h; simp [Kids.bytes] at h
 | .cons b t r, .cons b' t' r' => by
  intro h1 h2 hb ho hn
  unfold Kids.bytes at hb
  unfold Kids.owns at ho
  unfold Kids.all at h1 h2 ⊢
  injection hb with hb hb2
  injection ho with ho ho2
  by_cases ht : t = t'
  ·obtain ⟨p, hp, q, hq, h⟩ := kids_clash r r' (fun p hp => h1 p (List.mem_append_right _ hp)) (fun p hp => h2 p (List.mem_append_right _ hp)) hb2 ho2 (fun e => hn (by rw [hb, ht, e]))
   exact ⟨p, List.mem_append_right _ hp, q, List.mem_append_right _ hq, h⟩
  ·obtain ⟨p, hp, q, hq, h⟩ := tree_clash t t' (fun p hp => h1 p (List.mem_append_left _ hp)) (fun p hp => h2 p (List.mem_append_left _ hp)) ho ht
   exact ⟨p, List.mem_append_left _ hp, q, List.mem_append_left _ hq, h⟩
end
def toldB (t : Option Tree) (l : List Str) : List (List UInt8) := l.flatMap fun n => (wayO t n).map Tree.nodeB
theorem map_clash {a b : Option Tree} (ha : wfO a) (hb : wfO b) (la : lowO 255 a) (lb : lowO 255 b) (na nb : List Str) (hna : ∀ n x, getO a n = some x → n ∈ na) (hnb : ∀ n x, getO b n = some x → n ∈ nb)
  (hr : rootO a = rootO b) (hne : a ≠ b) : ∃ x ∈ toldB a na ++ toldB b nb ++ [[]], ∃ y ∈ toldB a na ++ toldB b nb ++ [[]], x ≠ y ∧ shaW x = shaW y := by
 have hin : ∀ (t : Tree) (l : List Str), t.wf → (∀ n x, t.get n = some x → n ∈ l) → ∀ p ∈ t.all, p.nodeB ∈ toldB (some t) l := by
  intro t l hw hl p hp
  obtain ⟨n, x, h1, h2⟩ := all_way hw p hp
  exact List.mem_flatMap.2 ⟨n, hl n x h1, List.mem_map.2 ⟨p, h2, rfl⟩⟩
 have hself : ∀ t : Tree, t ∈ t.all := fun t => by cases t; unfold Tree.all; exact .head _
 cases a with
 | none =>
  cases b with
  | none => exact absurd rfl hne
  | some u => exact ⟨[], by simp, u.nodeB, List.mem_append_left _ (List.mem_append_right _ (hin u nb hb hnb u (hself u))), fun e => nodeB_ne u e.symm, by rw [← own_nodeB]; exact hr⟩
 | some t =>
  cases b with
  | none => exact ⟨t.nodeB, List.mem_append_left _ (List.mem_append_left _ (hin t na ha hna t (hself t))), [], by simp, nodeB_ne t, by rw [← own_nodeB]; exact hr⟩
  | some u =>
   have h1 : ∀ p ∈ t.all, p.wf ∧ p.stem.length < 256 := fun p hp => by have := all_low ha la p hp; exact ⟨this.1, by omega⟩
   have h2 : ∀ p ∈ u.all, p.wf ∧ p.stem.length < 256 := fun p hp => by have := all_low hb lb p hp; exact ⟨this.1, by omega⟩
   obtain ⟨p, hp, q, hq, hn, ho⟩ := tree_clash t u h1 h2 hr (fun e => hne (by rw [e]))
   exact ⟨p.nodeB, List.mem_append_left _ (List.mem_append_left _ (hin t na ha hna p hp)), q.nodeB, List.mem_append_left _ (List.mem_append_right _ (hin u nb hb hnb q hq)), hn, by rw [← own_nodeB, ← own_nodeB]; exact ho⟩
theorem getC_cons (p : Str × TChg) (r : List (Str × TChg)) (k : Str) : getC (p :: r) k = if k = p.1 then some p.2 else getC r k := by
 have hsh : ∀ (l : List (Str × TChg)) (n m : Nat), (findC k l n).map Prod.snd = (findC k l m).map Prod.snd := by
  intro l
  induction l with
  | nil => intro n m; rfl
  | cons q r ih =>
   intro n m
   unfold findC
   split
   ·rfl
   ·exact ih _ _
 unfold getC
 rw [findC]
 split
 ·rfl
 ·exact hsh r _ _
theorem setC_cons (p : Str × TChg) (r : List (Str × TChg)) (k : Str) (c : TChg) : setC (p :: r) k c = if k = p.1 then (k, c) :: r else p :: setC r k c := by
 have hsh : ∀ (l : List (Str × TChg)) (n : Nat), findC k l (n + 1) = (findC k l n).map fun z => (z.1 + 1, z.2) := by
  intro l
  induction l with
  | nil => intro n; rfl
  | cons q r ih =>
   intro n
   unfold findC
   split
   ·rfl
   ·exact ih _
 unfold setC
 rw [findC]
 by_cases e : k = p.1
 ·rw [if_pos e, if_pos e]; rfl
 ·rw [if_neg e, if_neg e, hsh r 0]
  cases findC k r 0 with
  | none => rfl
  | some z => rfl
theorem setC_nil (k : Str) (c : TChg) : setC [] k c = [(k, c)] := rfl
theorem getC_setC : ∀ (l : List (Str × TChg)) (k : Str) (c : TChg) (n : Str), getC (setC l k c) n = if n = k then some c else getC l n
 | [], k, c, n => by rw [setC_nil, getC_cons]
 | p :: r, k, c, n => by
  rw [setC_cons]
  by_cases e : k = p.1
  ·rw [if_pos e, getC_cons, getC_cons]
   by_cases h : n = k
   ·rw [if_pos h, if_pos h]
   ·rw [if_neg h, if_neg h, if_neg (fun x => h (x.trans e.symm))]
  ·rw [if_neg e, getC_cons, getC_cons, getC_setC r k c n]
   by_cases h : n = p.1
   ·rw [if_pos h, if_pos h, if_neg (fun x => e (x.symm.trans h))]
   ·rw [if_neg h, if_neg h]
theorem keys_setC : ∀ (l : List (Str × TChg)) (k : Str) (c : TChg) (n : Str), n ∈ (setC l k c).map Prod.fst ↔ n = k ∨ n ∈ l.map Prod.fst
 | [], k, c, n => by simp [setC_nil]
 | p :: r, k, c, n => by
  rw [setC_cons]
  by_cases e : k = p.1
  ·rw [if_pos e]; simp [← e]
  ·rw [if_neg e, List.map_cons, List.mem_cons, keys_setC r k c n, List.map_cons, List.mem_cons]
   constructor
   ·rintro (h | h | h)
    ·exact .inr (.inl h)
    ·exact .inl h
    ·exact .inr (.inr h)
   ·rintro (h | h | h)
    ·exact .inr (.inl h)
    ·exact .inl h
    ·exact .inr (.inr h)
theorem nodup_setC : ∀ (l : List (Str × TChg)) (k : Str) (c : TChg), (l.map Prod.fst).Nodup → ((setC l k c).map Prod.fst).Nodup
 | [], k, c, _ => by simp [setC_nil]
 | p :: r, k, c, h => by
  rw [List.map_cons, List.nodup_cons] at h
  rw [setC_cons]
  by_cases e : k = p.1
  ·rw [if_pos e, List.map_cons, List.nodup_cons]
   exact ⟨by show k ∉ _; rw [e]; exact h.1, h.2⟩
  ·rw [if_neg e, List.map_cons, List.nodup_cons]
   refine ⟨fun hm => ?_, nodup_setC r k c h.2⟩
   rcases (keys_setC r k c _).1 hm with h1 | h1
   ·exact e h1.symm
   ·exact h.1 h1
theorem getC_keys (l : List (Str × TChg)) (n : Str) : (getC l n).isSome = true ↔ n ∈ l.map Prod.fst := by
 induction l with
 | nil => simp [getC, findC]
 | cons p r ih =>
  rw [getC_cons, List.map_cons, List.mem_cons]
  by_cases e : n = p.1
  ·simp [e]
  ·rw [if_neg e, ih]; simp [e]
theorem foldA_out : ∀ (l : List (Str × Sum)) (L : List (Str × TChg)) (k : Str), k ∉ l.map Prod.fst → getC (l.foldl diffA L) k = getC L k
 | [], _, _, _ => rfl
 | e :: r, L, k, h => by
  rw [List.map_cons, List.mem_cons, not_or] at h
  rw [List.foldl_cons, foldA_out r _ k h.2]
  unfold diffA
  rw [getC_setC, if_neg h.1]
theorem foldA_in : ∀ (l : List (Str × Sum)) (L : List (Str × TChg)) (k : Str) (x : Sum), (l.map Prod.fst).Nodup → (k, x) ∈ l → getC (l.foldl diffA L) k = some ⟨k, true, false, x, Sum.zero⟩
 | [], _, _, _, _, h => by cases h
 | e :: r, L, k, x, hd, h => by
  rw [List.map_cons, List.nodup_cons] at hd
  rw [List.foldl_cons]
  rcases List.mem_cons.1 h with rfl | h
  ·rw [foldA_out r _ k hd.1]
   unfold diffA
   rw [getC_setC, if_pos rfl]
  ·exact foldA_in r _ k x hd.2 h
theorem foldB_out : ∀ (l : List (Str × Sum)) (L : List (Str × TChg)) (k : Str), k ∉ l.map Prod.fst → getC (l.foldl diffB L) k = getC L k
 | [], _, _, _ => rfl
 | e :: r, L, k, h => by
  rw [List.map_cons, List.mem_cons, not_or] at h
  rw [List.foldl_cons, foldB_out r _ k h.2]
  unfold diffB
  rw [getC_setC, if_neg h.1]
theorem foldB_in : ∀ (l : List (Str × Sum)) (L : List (Str × TChg)) (k : Str) (x : Sum), (l.map Prod.fst).Nodup → (k, x) ∈ l → getC (l.foldl diffB L) k = some ⟨k, ((getC L k).getD TChg.none_).had, true, ((getC L k).getD TChg.none_).old, x⟩
 | [], _, _, _, _, h => by cases h
 | e :: r, L, k, x, hd, h => by
  rw [List.map_cons, List.nodup_cons] at hd
  rw [List.foldl_cons]
  rcases List.mem_cons.1 h with rfl | h
  ·rw [foldB_out r _ k hd.1]
   unfold diffB
   rw [getC_setC, if_pos rfl]
  ·have hne : k ≠ e.1 := fun he => hd.1 (by rw [← he]; exact List.mem_map.2 ⟨(k, x), h, rfl⟩)
   rw [foldB_in r _ k x hd.2 h]
   have : getC (diffB L e) k = getC L k := by unfold diffB; rw [getC_setC, if_neg hne]
   rw [this]
theorem nodupA : ∀ (l : List (Str × Sum)) (L : List (Str × TChg)), (L.map Prod.fst).Nodup → ((l.foldl diffA L).map Prod.fst).Nodup
 | [], _, h => h
 | _ :: r, _, h => nodupA r _ (nodup_setC _ _ _ h)
theorem nodupB : ∀ (l : List (Str × Sum)) (L : List (Str × TChg)), (L.map Prod.fst).Nodup → ((l.foldl diffB L).map Prod.fst).Nodup
 | [], _, h => h
 | _ :: r, _, h => nodupB r _ (nodup_setC _ _ _ h)
def cOf (s t : Option Tree) (k : Str) : TChg := ⟨k, (getO s k).isSome, (getO t k).isSome, (getO s k).getD Sum.zero, (getO t k).getD Sum.zero⟩
theorem mem_keys {t : Option Tree} (h : wfO t) (k : Str) : k ∈ (enO t).map Prod.fst ↔ (getO t k).isSome = true := by
 rw [List.mem_map]
 constructor
 ·rintro ⟨⟨n, x⟩, h1, rfl⟩
  rw [(meO h _ _).1 h1]; rfl
 ·intro hs
  obtain ⟨x, hx⟩ := Option.isSome_iff_exists.1 hs
  exact ⟨(k, x), (meO h _ _).2 hx, rfl⟩
theorem getC_diffM {s t : Option Tree} (hs : wfO s) (ht : wfO t) (k : Str) : getC (diffM s t) k = if (getO s k).isSome = true ∨ (getO t k).isSome = true then some (cOf s t k) else none := by
 have h1 : getC ((enO s).foldl diffA []) k = if (getO s k).isSome = true then some ⟨k, true, false, (getO s k).getD Sum.zero, Sum.zero⟩ else none := by
  cases hg : getO s k with
  | none =>
   rw [foldA_out _ _ _ (by rw [mem_keys hs, hg]; simp)]; rfl
  | some x =>
   rw [foldA_in _ _ k x (ents_nodup hs) ((meO hs _ _).2 hg)]; rfl
 unfold diffM
 cases hg : getO t k with
 | none =>
  rw [foldB_out _ _ _ (by rw [mem_keys ht, hg]; simp), h1]
  cases hg2 : getO s k with
  | none => rfl
  | some x => simp [cOf, hg, hg2]
 | some x =>
  rw [foldB_in _ _ k x (ents_nodup ht) ((meO ht _ _).2 hg), h1]
  cases hg2 : getO s k with
  | none => simp [cOf, hg, hg2, TChg.none_]
  | some y => simp [cOf, hg, hg2]
def dks (s t : Option Tree) : List Str := (sortN ((diffM s t).map Prod.fst)).filter fun k => decide (getO s k ≠ getO t k)
theorem sortN_mem (l : List Str) (k : Str) : k ∈ sortN l ↔ k ∈ l := (List.mergeSort_perm l _).mem_iff
theorem mem_diffM {s t : Option Tree} (hs : wfO s) (ht : wfO t) (k : Str) : k ∈ (diffM s t).map Prod.fst ↔ ((getO s k).isSome = true ∨ (getO t k).isSome = true) := by
 rw [← getC_keys, getC_diffM hs ht]
 split <;> simp_all
theorem mem_dks {s t : Option Tree} (hs : wfO s) (ht : wfO t) (k : Str) : k ∈ dks s t ↔ getO s k ≠ getO t k := by
 unfold dks
 rw [List.mem_filter, sortN_mem, mem_diffM hs ht, decide_eq_true_iff]
 constructor
 ·exact fun h => h.2
 ·intro h
  refine ⟨?_, h⟩
  cases h1 : getO s k with
  | some x => exact .inl rfl
  | none =>
   cases h2 : getO t k with
   | some x => exact .inr rfl
   | none => rw [h1, h2] at h; exact absurd rfl h
theorem diffL_eq {s t : Option Tree} (hs : wfO s) (ht : wfO t) : diffL s t = (dks s t).map (cOf s t) := by
 have h : ∀ l : List Str, (∀ k ∈ l, (getO s k).isSome = true ∨ (getO t k).isSome = true) → l.flatMap (diff1 (diffM s t)) = (l.filter fun k => decide (getO s k ≠ getO t k)).map (cOf s t) := by
  intro l
  induction l with
  | nil => intro _; rfl
  | cons k r ih =>
   intro h
   have hk := h k (.head _)
   rw [List.flatMap_cons, ih fun z hz => h z (.tail _ hz), List.filter_cons]
   unfold diff1
   rw [getC_diffM hs ht, if_pos hk]
   dsimp only [Option.getD_some]
   by_cases e : getO s k = getO t k
   ·have hd : decide (getO s k ≠ getO t k) = false := by simp [e]
    rw [hd, if_pos]
    ·rfl
    ·unfold cOf
     rw [e] at hk ⊢
     have : (getO t k).isSome = true := by rcases hk with h | h <;> exact h
     simp [this]
   ·have hd : decide (getO s k ≠ getO t k) = true := by simp [e]
    rw [hd, if_neg]
    ·rfl
    ·intro hc
     unfold cOf at hc
     injection hc with _ c2 c3 _ c5
     obtain ⟨x, hx⟩ := Option.isSome_iff_exists.1 c2
     obtain ⟨y, hy⟩ := Option.isSome_iff_exists.1 c3
     rw [hx, hy] at c5 e
     simp at c5
     exact e (by rw [c5])
 exact h _ fun k hk => (mem_diffM hs ht k).1 ((sortN_mem _ _).1 hk)
theorem sortN_rise {l : List Str} (h : l.Nodup) : (sortN l).Pairwise fun a b => Op.bytesLess a b = true := by
 have e : (l.map fun k => (k, Sum.zero)).map Prod.fst = l := by rw [List.map_map]; exact List.map_id _
 have h2 : ((l.map fun k => (k, Sum.zero)).map Prod.fst).Nodup := by rw [e]; exact h
 have h3 := names_sorted h2
 rw [e] at h3
 rw [← h3, List.pairwise_map]
 exact entsO_rise (wf_from _)
theorem dks_rise (s t : Option Tree) : (dks s t).Pairwise fun a b => Op.bytesLess a b = true :=
 (sortN_rise (by unfold diffM; exact nodupB _ _ (nodupA _ _ List.nodup_nil))).sublist List.filter_sublist
theorem dks_nodup (s t : Option Tree) : (dks s t).Nodup := (dks_rise s t).imp fun {a b} h e => by rw [e, less_irrefl] at h; cases h
theorem dks_swap {s t : Option Tree} (hs : wfO s) (ht : wfO t) : dks s t = dks t s := by
 have hp : (dks s t).Perm (dks t s) := (List.perm_ext_iff_of_nodup (dks_nodup s t) (dks_nodup t s)).2 fun k => by
  rw [mem_dks hs ht, mem_dks ht hs]; exact ⟨fun h e => h e.symm, fun h e => h e.symm⟩
 exact hp.eq_of_pairwise (fun a b _ _ h1 h2 => by have := less_trans h1 h2; rw [less_irrefl] at this; cases this) (dks_rise s t) (dks_rise t s)
theorem dks_nil {s t : Option Tree} (hs : wfO s) (ht : wfO t) : dks s t = [] ↔ s = t := by
 constructor
 ·intro h
  refine canonO hs ht fun n => ?_
  refine Classical.byContradiction fun hne => ?_
  have := (mem_dks hs ht n).2 hne
  rw [h] at this; cases this
 ·rintro rfl
  refine List.eq_nil_iff_forall_not_mem.2 fun k hk => (mem_dks hs hs k).1 hk rfl
theorem nodup_len : ∀ (l l' : List Str), l.Nodup → (∀ k ∈ l, k ∈ l') → l.length ≤ l'.length
 | [], _, _, _ => Nat.zero_le _
 | k :: r, l', h, hs => by
  rw [List.nodup_cons] at h
  have hk := hs k (.head _)
  have h1 := nodup_len r (l'.erase k) h.2 fun z hz => (List.mem_erase_of_ne (fun e => h.1 (by rw [← e]; exact hz))).2 (hs z (.tail _ hz))
  rw [List.length_erase_of_mem hk] at h1
  have := List.length_pos_of_mem hk
  rw [List.length_cons]; omega
theorem dks_len {s t : Option Tree} (hs : wfO s) (ht : wfO t) : (dks s t).length ≤ maO s + maO t := by
 have hsub : ∀ k ∈ dks s t, k ∈ (enO s).map Prod.fst ++ (enO t).map Prod.fst := fun k hk => by
  have h1 : k ∈ (diffM s t).map Prod.fst := (sortN_mem _ _).1 (List.mem_filter.1 hk).1
  rw [List.mem_append, mem_keys hs, mem_keys ht]
  exact (mem_diffM hs ht k).1 h1
 have := nodup_len _ _ (dks_nodup s t) hsub
 rw [List.length_append, List.length_map, List.length_map, entsO_many, entsO_many] at this
 exact this
def stepO (m : Option Tree) (c : TChg) : Option Tree × Int :=
 if (c.had = false ∧ c.has = false) ∨ (c.had = false ∧ c.old ≠ Sum.zero) ∨ (c.has = false ∧ c.new ≠ Sum.zero) then (none, 4)
 else if 60 < c.name.length then (none, 11)
 else if c.had ≠ (getO m c.name).isSome ∨ (c.had = true ∧ c.old ≠ (getO m c.name).getD Sum.zero) then (none, 7)
 else if c.has = true then (if (getO m c.name).isSome = false ∧ 600 ≤ maO m then (none, 12) else (some (putO m c.name c.new), 0))
 else (dropO m c.name, 0)
def applyO : Option Tree → List TChg → Option Tree × Int
 | m, [] => (m, 0)
 | m, c :: r => if (stepO m c).2 = 0 then applyO (stepO m c).1 r else (none, (stepO m c).2)
theorem apply_diff {s t : Option Tree} : ∀ (ks : List Str) (m : Option Tree), wfO m → (∀ k ∈ ks, k.length ≤ 60) → ks.Nodup → (∀ k ∈ ks, getO m k = getO s k ∧ getO s k ≠ getO t k) → maO m + ks.length ≤ 600 →
  ∃ m', applyO m (ks.map (cOf s t)) = (m', 0) ∧ wfO m' ∧ ∀ n, getO m' n = if n ∈ ks then getO t n else getO m n
 | [], m, hm, _, _, _, _ => ⟨m, rfl, hm, fun n => by simp⟩
 | k :: r, m, hm, h60, hd, hk, hn => by
  rw [List.nodup_cons] at hd
  rw [List.length_cons] at hn
  obtain ⟨hk1, hk2⟩ := hk k (.head _)
  have hl := h60 k (.head _)
  have hst : ∃ m1, stepO m (cOf s t k) = (m1, 0) ∧ wfO m1 ∧ (∀ n, getO m1 n = if n = k then getO t k else getO m n) ∧ maO m1 ≤ maO m + 1 := by
   have n1 : ¬ (((cOf s t k).had = false ∧ (cOf s t k).has = false) ∨ ((cOf s t k).had = false ∧ (cOf s t k).old ≠ Sum.zero) ∨ ((cOf s t k).has = false ∧ (cOf s t k).new ≠ Sum.zero)) := by
    unfold cOf
    dsimp only
    cases h1 : getO s k <;> cases h2 : getO t k <;> simp
    rw [h1, h2] at hk2; exact hk2 rfl
   have n3 : ¬ ((cOf s t k).had ≠ (getO m (cOf s t k).name).isSome ∨ ((cOf s t k).had = true ∧ (cOf s t k).old ≠ (getO m (cOf s t k).name).getD Sum.zero)) := by
    unfold cOf
    dsimp only
    rw [hk1]; simp
   unfold stepO
   rw [if_neg n1, if_neg (by show ¬ 60 < k.length; omega), if_neg n3]
   cases h2 : getO t k with
   | some x =>
    have e : (cOf s t k).has = true := by unfold cOf; rw [h2]; rfl
    have e2 : (cOf s t k).new = x := by unfold cOf; rw [h2]; rfl
    rw [if_pos e, if_neg (by omega), e2]
    refine ⟨_, rfl, putO_wf hm _ _, fun n => putO_get hm _ _ _, ?_⟩
    show maO (some (putO m k x)) ≤ _
    rw [putO_many hm]; split <;> omega
   | none =>
    have e : ¬ (cOf s t k).has = true := by unfold cOf; rw [h2]; simp
    have hs : (getO m k).isSome = true := by
     rw [hk1]
     cases h1 : getO s k with
     | none => rw [h1, h2] at hk2; exact absurd rfl hk2
     | some x => rfl
    rw [if_neg e]
    refine ⟨_, rfl, dropO_wf hm hs, fun n => dropO_get hm hs n, ?_⟩
    have : maO (dropO m k) + 1 = maO m := dropO_many hm hs
    show maO (dropO m k) ≤ _
    omega
  obtain ⟨m1, e1, w1, g1, l1⟩ := hst
  obtain ⟨m', h1, h2, h3⟩ := apply_diff (s := s) (t := t) r m1 w1 (fun z hz => h60 z (.tail _ hz)) hd.2 (fun z hz => by
   rw [g1, if_neg (fun e => hd.1 (by rw [← e]; exact hz))]; exact hk z (.tail _ hz)) (by omega)
  refine ⟨m', ?_, h2, fun n => ?_⟩
  ·rw [List.map_cons, applyO, e1, if_pos rfl, h1]
  ·rw [h3]
   by_cases hn : n ∈ r
   ·rw [if_pos hn, if_pos (.tail _ hn)]
   ·rw [if_neg hn, g1]
    by_cases hnk : n = k
    ·rw [if_pos hnk, if_pos (by rw [hnk]; exact .head _), hnk]
    ·rw [if_neg hnk, if_neg (fun h => by
      rcases List.mem_cons.1 h with h | h
      ·exact hnk h
      ·exact hn h)]
theorem apply_all {s t : Option Tree} (hs : wfO s) (ht : wfO t) (ls : lowO 60 s) (lt : lowO 60 t) (hn : maO s + maO s + maO t ≤ 600) : applyO s (diffL s t) = (t, 0) := by
 have hd := dks_len hs ht
 obtain ⟨m', h1, h2, h3⟩ := apply_diff (s := s) (t := t) (dks s t) s hs (fun k hk => by
  have := (mem_diffM hs ht k).1 ((sortN_mem _ _).1 (List.mem_filter.1 hk).1)
  rcases this with h | h
  ·obtain ⟨x, hx⟩ := Option.isSome_iff_exists.1 h
   exact ls k x hx
  ·obtain ⟨x, hx⟩ := Option.isSome_iff_exists.1 h
   exact lt k x hx) (dks_nodup s t) (fun k hk => ⟨rfl, (mem_dks hs ht k).1 hk⟩) (by omega)
 rw [diffL_eq hs ht, h1]
 refine congrArg (fun z => (z, (0 : Int))) (canonO h2 ht fun n => ?_)
 rw [h3]
 by_cases h : n ∈ dks s t
 ·rw [if_pos h]
 ·rw [if_neg h]
  exact Classical.byContradiction fun hne => h ((mem_dks hs ht n).2 hne)
theorem apply_other {s t : Option Tree} (hs : wfO s) (ht : wfO t) (ls : lowO 60 s) (lt : lowO 60 t) (hne : diffL s t ≠ []) : applyO t (diffL s t) = (none, 7) := by
 rw [diffL_eq hs ht] at hne ⊢
 have hall : ∀ k ∈ dks s t, getO s k ≠ getO t k ∧ k.length ≤ 60 := fun k hk => by
  refine ⟨(mem_dks hs ht k).1 hk, ?_⟩
  have := (mem_diffM hs ht k).1 ((sortN_mem _ _).1 (List.mem_filter.1 hk).1)
  rcases this with h | h
  ·obtain ⟨x, hx⟩ := Option.isSome_iff_exists.1 h
   exact ls k x hx
  ·obtain ⟨x, hx⟩ := Option.isSome_iff_exists.1 h
   exact lt k x hx
 cases hks : dks s t with
 | nil => rw [hks] at hne; exact absurd rfl hne
 | cons k r =>
  obtain ⟨hk2, hl⟩ := hall k (by rw [hks]; exact .head _)
  have hst : stepO t (cOf s t k) = (none, 7) := by
   have n1 : ¬ (((cOf s t k).had = false ∧ (cOf s t k).has = false) ∨ ((cOf s t k).had = false ∧ (cOf s t k).old ≠ Sum.zero) ∨ ((cOf s t k).has = false ∧ (cOf s t k).new ≠ Sum.zero)) := by
    unfold cOf
    dsimp only
    cases h1 : getO s k <;> cases h2 : getO t k <;> simp
    rw [h1, h2] at hk2; exact hk2 rfl
   unfold stepO
   rw [if_neg n1, if_neg (by show ¬ 60 < k.length; omega), if_pos]
   unfold cOf
   dsimp only
   cases h1 : getO s k <;> cases h2 : getO t k <;> simp
   ·rw [h1, h2] at hk2; exact hk2 rfl
   ·rw [h1, h2] at hk2; exact fun e => hk2 (by rw [e])
  rw [List.map_cons, applyO, hst, if_neg (by decide)]
structure Deed where
 had : Bool
 has : Bool
 g : FuncId
abbrev deedF (d : Deed) : List AV := [.val (.bool d.had), .val (.bool d.has), .val (.func (.func d.g) #[] #[])]
theorem vok_deed (d : Deed) : VOk tb 209 (EV.st (deedF d)).v := by
 refine ⟨_, Tryz.t209, rfl, rfl, rfl, ?_⟩
 intro u hu
 have hu : u ∈ [Value.bool d.had, .bool d.has, .func (.func d.g) #[] #[]] := hu
 simp only [List.mem_cons, List.not_mem_nil, or_false] at hu
 rcases hu with rfl | rfl | rfl <;> rfl
def kDeed : Kd Deed where
 T := 209
 sz := 3
 ev d := .st (deedF d)
 ok d := vok_deed d
 size d := rfl
abbrev deedsL : List Deed := [⟨true, true, 200⟩, ⟨false, true, 200⟩, ⟨true, false, 201⟩, ⟨false, false, 202⟩]
theorem deeds_spec : Does Tryz.prog tb 128 [] [] (fun _ => True) (fun b : Nat => .slice (some ⟨b, 0, none⟩) 4 4) (fun b => [(0, rowE kDeed (some ⟨b, 0, none⟩) 4 deedsL)]) (fun _ _ _ => True) := by
 refine Does.enter tk [] Tryz.func128 rfl Tryz.ntmps128 rfl rfl 0 ?_
 intro B0 m0 K
 refine RH.adv tk [] rfl rfl (by simp <;> omega) ?_
 refine RH.ret1 Tryz.func128 rfl rfl fun w hst => ⟨m0, rfl, hst.out [] rfl rfl fun u h => ⟨h.1, trivial⟩⟩
theorem idxFD_spec (w : World) (A : Option Addr) (c : Nat) (l : List Deed) (h : Sl kDeed w A c l) (g : FuncId) (f1 c1 : List Value) (p : Deed → Bool) (hf : Fun1 kDeed w g f1 c1 l p) :
  Gives Tryz.prog 127 [.slice A l.length c, .func (.func g) f1.toArray c1.toArray] w (intE (idxOf p l 0)) := by
 have hl : lim = 140737488351232 := rfl
 have hsm := h.small
 refine enterH tk [(0, slE A l.length c), (1, .av (.val (.func (.func g) f1.toArray c1.toArray)))] Tryz.func127 rfl Tryz.ntmps127 rfl rfl ?_
 refine RH.adv tk [] rfl rfl (by simp <;> omega) ?_
 refine RH.loop (α := Nat) (fun i => [(0, slE A l.length c), (1, .av (.val (.func (.func g) f1.toArray c1.toArray))), (7, intE l.length), (8, intE i)]) (fun _ => []) (fun i w' => Ext w w' ∧ i ≤ l.length ∧ (l.take i).any p = false) (fun i => l.length - i) 0
  rfl rfl (fun w' h => ⟨h, Nat.zero_le _, rfl⟩) ?_
 intro i m
 refine RH.pure (fun w' h => h.2) fun ⟨hi, hpre⟩ => ?_
 by_cases hlt : i < l.length
 ·have hts : l.take (i + 1) = l.take i ++ [l[i]] := List.take_succ_eq_append_getElem hlt
  refine RH.adv tk [true] rfl rfl (by simp [h.ptr hlt] <;> omega) ?_
  refine RH.load (.st (deedF l[i])) rfl rfl rfl rfl (fun w' h' => (h.ext h'.1).load hlt) ?_
  refine RH.gives (g := g) (f1 := f1) (c1 := c1) (boE (p l[i])) rfl rfl rfl rfl rfl hf.enter (fun w' hst => hf.says _ (List.getElem_mem hlt) w' hst.fact.1) ?_
  intro m' hm'
  by_cases hp : p l[i] = true
  ·refine RH.adv tk [true] rfl rfl (by simp [hp] <;> omega) ?_
   refine RH.ret1 Tryz.func127 rfl rfl fun w' hst => ⟨?_, hst.fact.1⟩
   rw [idxOf_at p l 0 i hlt hpre hp, Nat.zero_add]
  ·refine RH.adv tk [false] rfl rfl (by simp [hp] <;> omega) ?_
   refine RH.again (i + 1) (.head _) rfl rfl (by omega) fun w' h => ⟨h.1, by omega, ?_⟩
   rw [hts, List.any_append, hpre]; simp [hp]
 ·rw [List.take_of_length_le (by omega)] at hpre
  refine RH.adv tk [false] rfl rfl (by simp <;> omega) ?_
  refine RH.ret1 Tryz.func127 rfl rfl fun w' hst => ⟨?_, hst.fact.1⟩
  rw [idxOf_none p l 0 hpre]
def deedAt (c : TChg) : Nat := if c.has = true then (if c.had = true then 0 else 1) else (if c.had = true then 2 else 3)
theorem load_had {w : World} {b : Nat} {c : TChg} {T : TypeId} {fr : Nat × Nat} (h : w.heap[b]? = some (.cells (boxCells (tchF c)) T fr)) : (loadVar 4 ⟨b, 1, none⟩).run Tryz.prog w = .ok (.bool c.had) w :=
 V.run_load tk ⟨rfl, Tryz.t4, rfl, rfl⟩ (range_take (n := 1) h rfl)
theorem load_has {w : World} {b : Nat} {c : TChg} {T : TypeId} {fr : Nat × Nat} (h : w.heap[b]? = some (.cells (boxCells (tchF c)) T fr)) : (loadVar 4 ⟨b, 2, none⟩).run Tryz.prog w = .ok (.bool c.has) w :=
 V.run_load tk ⟨rfl, Tryz.t4, rfl, rfl⟩ (range_take (n := 1) h rfl)
theorem apply1_spec (w : World) (d : Deed) (b : Nat) (c : TChg) (T : TypeId) (fr : Nat × Nat) (h : w.heap[b]? = some (.cells (boxCells (tchF c)) T fr)) : Gives Tryz.prog 129 [(EV.st (deedF d)).v, ptrV b] w (boE (decide (d.had = c.had) && decide (d.has = c.has))) := by
 refine enterH tk [(0, .st (deedF d)), (1, ptrAt b)] Tryz.func129 rfl Tryz.ntmps129 rfl rfl ?_
 have hx : ∀ u, Ext w u → u.heap[b]? = some (.cells (boxCells (tchF c)) T fr) := fun u he => by
  rw [he.block b (Array.getElem?_eq_some_iff.1 h).1]; exact h
 refine RH.adv tk [] rfl rfl (by simp <;> omega) ?_
 refine RH.load (boE c.had) rfl rfl rfl rfl (fun u hu => load_had (hx u hu)) ?_
 by_cases e1 : d.had = c.had
 ·refine RH.adv tk [true] rfl rfl (by simp [e1] <;> omega) ?_
  refine RH.load (boE c.has) rfl rfl rfl rfl (fun u hu => load_has (hx u hu)) ?_
  refine RH.adv tk [] rfl rfl (by simp <;> omega) ?_
  refine RH.ret1 Tryz.func129 rfl rfl fun u hst => ⟨?_, hst.fact⟩
  rw [decide_eq_true e1, Bool.true_and]
  cases d.has <;> cases c.has <;> rfl
 ·refine RH.adv tk [false] rfl rfl (by simp [e1] <;> omega) ?_
  refine RH.ret1 Tryz.func129 rfl rfl fun u hst => ⟨?_, hst.fact⟩
  rw [decide_eq_false e1, Bool.false_and]
  rfl
theorem deedAt_idx (c : TChg) : idxOf (fun d : Deed => decide (d.had = c.had) && decide (d.has = c.has)) deedsL 0 = deedAt c := by
 obtain ⟨n, a, b, o, w⟩ := c
 cases a <;> cases b <;> rfl
theorem deed1_ok (po : Option Plot) (t : Option Tree) (ht : okO t) (c : TChg) (hn : c.name.length ≤ 60) (hok : (getO t c.name).isSome = true ∨ maO t ≠ 600) :
  Does Tryz.prog tb 200 [(mapE po).v, tchV c] [] (fun u => Glob u ∧ IsO u po t) (fun L' : Plot => .tuple #[.agg #[ptrV L'.b], intV 0]) (fun _ => []) (fun L' => Late (fun u => IsO u po t) (fun u => IT u L' (putO t c.name c.new))) := by
 have hz31 : (Tryz.t31).size = 1 := by kernel_rfl
 refine V.Does.enter0 [(0, mapE po), (1, .st (tchF c))] Tryz.func200 rfl Tryz.ntmps200 rfl rfl 0 ?_
 intro m0 K
 refine RH.pure (fun u h => (by rw [find_isSome h.2.2 ht]; exact hok : (findO po t c.name).isSome = true ∨ maO t ≠ 600)) fun hf => ?_
 refine RH.adv tk [] rfl rfl (by simp [AllOb, Ob.P, sum_len, sz_sum, one_int, hz31, Value.oneCell', u8V]) ?_
 refine RH.doB [] 10 (hc := Tryz.call20) (ho := rfl) (hw := rfl) (hd := rfl) (hf := rfl) (hes := rfl) (hσ := rfl) (hn := rfl) (hV := fun _ => rfl) (hG := fun _ => rfl) (e := fun b1 : Plot => .av (.val (.tuple #[.agg #[ptrV b1.b], intV 0]))) (hC := Put_ok po t ht c.name c.new hn hf) (hp := fun u hu => hu.fact.2) ?_
 rintro L1 m1 hm1
 refine RH.adv tk [] rfl rfl (by simp [hz31, Value.oneCell']) ?_
 refine V.RH.slotE 12 (mapE (some L1)) rfl rfl ?_
 refine RH.adv tk [] rfl rfl (by simp [hz31, Value.oneCell']) ?_
 exact RH.retBoxT tk (mapE (some L1)) Tryz.func200 rfl rfl rfl rfl rfl fun w' hst => ⟨L1, rfl, hst.out [] rfl rfl fun u h => ⟨h.1.1, fun v hv hp => h.2.up (by omega) hv hp⟩⟩
theorem deed1_full (w : World) (po : Option Plot) (t : Option Tree) (h : IsO w po t) (ht : okO t) (c : TChg) (hn : c.name.length ≤ 60) (hg : getO t c.name = none) (hm : maO t = 600) :
  Gives Tryz.prog 200 [(mapE po).v, tchV c] w (.av (.val (.tuple #[.agg #[.pointer none], intV 12]))) := by
 have hz31 : (Tryz.t31).size = 1 := by kernel_rfl
 have hf : findO po t c.name = none := by
  have := find_isSome h ht c.name
  rw [hg] at this
  cases hfo : findO po t c.name with
  | none => rfl
  | some x => rw [hfo] at this; cases this
 refine enterH tk [(0, mapE po), (1, .st (tchF c))] Tryz.func200 rfl Tryz.ntmps200 rfl rfl ?_
 refine RH.adv tk [] rfl rfl (by simp [AllOb, Ob.P, sum_len, sz_sum, one_int, hz31, Value.oneCell', u8V]) ?_
 refine RH.gives (ho := rfl) (hw := rfl) (hd := rfl) (hf := rfl) (hes := rfl) (hc := Tryz.call20) (e := .av (.val (.tuple #[.agg #[.pointer none], intV 12]))) (hC := fun u hu => Put_full u po t (h.ext hu.fact) ht c.name c.new hn hf hm) ?_
 intro m1 hm1
 refine RH.adv tk [] rfl rfl (by simp [hz31, Value.oneCell']) ?_
 refine V.RH.slotE 12 (mapE none) rfl rfl ?_
 refine RH.adv tk [] rfl rfl (by simp [hz31, Value.oneCell']) ?_
 exact RH.retBoxT tk (mapE none) Tryz.func200 rfl rfl rfl rfl rfl fun w' hst => ⟨rfl, hst.fact⟩
theorem deed2_ok (po : Option Plot) (t : Option Tree) (ht : okO t) (hl : lowO 1000 t) (c : TChg) (hn : c.name.length ≤ 1000) (hg : (getO t c.name).isSome = true) :
  Does Tryz.prog tb 201 [(mapE po).v, tchV c] [] (fun u => Glob u ∧ IsO u po t) (fun o : Option Plot => .tuple #[.agg #[ptrO o], intV 0]) (fun _ => []) (fun o => Late (fun u => IsO u po t) (fun u => IsO u o (dropO t c.name))) := by
 have hz31 : (Tryz.t31).size = 1 := by kernel_rfl
 refine V.Does.enter0 [(0, mapE po), (1, .st (tchF c))] Tryz.func201 rfl Tryz.ntmps201 rfl rfl 0 ?_
 intro m0 K
 refine RH.adv tk [] rfl rfl (by simp [AllOb, Ob.P, sum_len, sz_sum, one_int, hz31, Value.oneCell', u8V]) ?_
 refine RH.doB [] 10 (hc := Tryz.call22) (ho := rfl) (hw := rfl) (hd := rfl) (hf := rfl) (hes := rfl) (hσ := rfl) (hn := rfl) (hV := fun _ => rfl) (hG := fun _ => rfl) (e := fun o : Option Plot => .av (.val (.tuple #[.agg #[ptrO o], intV 0]))) (hC := Drop_ok po t ht hl c.name hn hg) (hp := fun u hu => hu.fact.2) ?_
 rintro o m1 hm1
 refine RH.adv tk [] rfl rfl (by simp [hz31, Value.oneCell']) ?_
 refine V.RH.slotE 10 (mapE o) rfl rfl ?_
 refine RH.adv tk [] rfl rfl (by simp [hz31, Value.oneCell']) ?_
 exact RH.retBoxT tk (mapE o) Tryz.func201 rfl rfl rfl rfl rfl fun w' hst => ⟨o, rfl, hst.out [] rfl rfl fun u h => ⟨h.1.1, fun v hv hp => h.2.up (by omega) hv hp⟩⟩
theorem apply_cons (m : Option Tree) (c : TChg) (r : List TChg) : applyO m (c :: r) = if (stepO m c).2 = 0 then applyO (stepO m c).1 r else (none, (stepO m c).2) := rfl
theorem load_deed1 {w : World} {b j off : Nat} (h : w.rangeAt b 0 (deedsL.flatMap kDeed.cs)) (hj : j < 2) (ho : off = j * 3 + 2) : (loadVar 207 ⟨b, off, none⟩).run Tryz.prog w = .ok (.func (.func 200) #[] #[]) w := by
 refine V.run_load tk ⟨rfl, Tryz.t207, rfl, rfl⟩ fun i v hv => ?_
 subst ho
 cases i with
 | zero =>
  have h2 := h (j * 3 + 2) v (by
   rw [← hv]
   rcases Nat.lt_or_ge j 1 with h | h
   ·obtain rfl : j = 0 := by omega
    rfl
   ·obtain rfl : j = 1 := by omega
    rfl)
  rw [Nat.zero_add] at h2
  exact h2
 | succ i => simp [Value.cells] at hv
theorem load_deed2 {w : World} {b j off : Nat} (h : w.rangeAt b 0 (deedsL.flatMap kDeed.cs)) (hj : j = 2) (ho : off = j * 3 + 2) : (loadVar 207 ⟨b, off, none⟩).run Tryz.prog w = .ok (.func (.func 201) #[] #[]) w := by
 refine V.run_load tk ⟨rfl, Tryz.t207, rfl, rfl⟩ fun i v hv => ?_
 subst ho
 subst hj
 cases i with
 | zero =>
  have h2 := h 8 v (by rw [← hv]; rfl)
  rw [Nat.zero_add] at h2
  exact h2
 | succ i => simp [Value.cells] at hv
set_option maxHeartbeats 400000 in
theorem Apply_spec (po0 : Option Plot) (t0 : Option Tree) (ht0 : okO t0) (hl0 : lowO 60 t0) (hm0 : maO t0 ≤ 600) (A : Option Addr) (c : Nat) (l : List TChg) (hnl : ∀ x ∈ l, x.name.length ≤ 1000) (hll : l.length ≤ 1000000) :
  Does Tryz.prog tb 54 [(mapE po0).v, .slice A l.length c] [] (fun u => Glob u ∧ IsO u po0 t0 ∧ Sl kTCh u A c l) (fun o : Option Plot => .tuple #[.agg #[ptrO o], intV (applyO t0 l).2]) (fun _ => []) (fun o => Late (fun u => IsO u po0 t0) (fun u => IsO u o (applyO t0 l).1)) := by
 have hlim : lim = 140737488351232 := rfl
 have hz31 : (Tryz.t31).size = 1 := by kernel_rfl
 have hz209 : (Tryz.t209).size = 3 := by kernel_rfl
 refine V.Does.enter0 [(0, mapE po0), (1, slE A l.length c)] Tryz.func54 rfl Tryz.ntmps54 rfl rfl 0 ?_
 intro m0 K
 refine RH.adv tk [] rfl rfl (by simp [AllOb, Ob.P, sum_len, sz_sum, one_int, hz31, Value.oneCell', u8V]) ?_
 refine RH.loop (α := Nat × Option Plot × Option Tree) (fun y => [(2, .av (.box 0 m0 0)), (4, .av (.box 1 (m0 + 1) 0)), (11, slE A l.length c), (12, intE l.length), (13, intE y.1)])
  (fun y => [(0, some (.box m0 [.val (ptrO y.2.1)] 31)), (1, some (.box (m0 + 1) [.val (.pointer none)] 31))])
  (fun y u => ((K u ∧ Glob u ∧ IsO u po0 t0 ∧ Sl kTCh u A c l) ∧ Late (fun u => IsO u po0 t0) (fun u => IsO u y.2.1 y.2.2) m0 u) ∧ y.1 ≤ l.length ∧ applyO t0 l = applyO y.2.2 (l.drop y.1) ∧ okO y.2.2 ∧ lowO 60 y.2.2 ∧ maO y.2.2 ≤ 600) (fun y => l.length - y.1) (0, po0, t0) rfl rfl
  (fun u h => ⟨⟨h, fun v _ hp => hp⟩, Nat.zero_le _, rfl, ht0, hl0, hm0⟩) ?_
 rintro ⟨i, po, t⟩ m2
 refine RH.pure (fun u h => h.2) fun ⟨hi, hap, ht, hl, hm⟩ => ?_
 refine V.RH.know (fun u => ((K u ∧ Glob u ∧ IsO u po0 t0 ∧ Sl kTCh u A c l) ∧ Late (fun u => IsO u po0 t0) (fun u => IsO u po t) m0 u)) (fun u h => h.1) ?_
 refine RH.above (id := 0) rfl rfl fun hz1 hz2 => ?_
 dsimp only at hi hap ht hl hm ⊢
 by_cases hlt : i < l.length
 ·refine RH.pure (fun u hu => hu.1.2.2.2.ptr hlt) fun hptr => ?_
  rw [List.drop_eq_getElem_cons hlt, apply_cons] at hap
  have hcn := hnl _ (List.getElem_mem hlt)
  refine RH.adv tk [true] rfl rfl (by simp [hptr] <;> omega) ?_
  refine RH.loadS (.st (tchF l[i])) rfl rfl rfl rfl (fun u hu => hu.fact.1.2.2.2.load hlt) ?_
  generalize l[i] = ch at *
  refine RH.adv tk [] rfl rfl (by simp) ?_
  refine RH.doB [] 20 (hc := Tryz.call128) (ho := rfl) (hw := rfl) (hd := rfl) (hf := rfl) (hes := rfl) (hσ := rfl) (hn := rfl) (hV := fun _ => rfl) (hG := fun _ => rfl) (e := fun b : Nat => rowS 3 (some ⟨b, 0, none⟩) 4 4) (hC := deeds_spec) (hp := fun _ _ => trivial) ?_
  rintro db m3 hm3
  refine RH.drop ?_
  refine RH.adv tk [] rfl rfl (by simp <;> omega) ?_
  refine RH.gives (ho := rfl) (hw := rfl) (hd := rfl) (hf := rfl) (hes := rfl) (hc := Tryz.call127) (e := intE (deedAt ch)) (hC := fun u hu => by
   have h := idxFD_spec u (some ⟨db, 0, none⟩) 4 deedsL (Sl.own (B := m0) (hu.row (κ := kDeed) (l := deedsL) (id := 3) rfl) (by simp [hlim])) 129 [] [ptrV m2] (fun d : Deed => decide (d.had = ch.had) && decide (d.has = ch.has)) ⟨fun xs w => Tryz.call129 xs w, fun d _ v hv => apply1_spec v d m2 ch _ _ (by
    have h0 := (hu.holds 2 _ rfl).2.1
    rw [hv.block m2 (Array.getElem?_eq_some_iff.1 h0).1]; exact h0)⟩
   rw [deedAt_idx] at h
   exact h) ?_
  intro m4 hm4
  refine RH.adv tk [] rfl rfl (by simp <;> omega) ?_
  refine RH.gives (ho := rfl) (hw := rfl) (hd := rfl) (hf := rfl) (hes := rfl) (hc := Tryz.call33) (e := .av (.val (.tuple #[sumV ((getO t ch.name).getD Sum.zero), intV (if (getO t ch.name).isSome = true then 0 else 6)]))) (hC := fun u hu => Get_spec u po t (hu.fact.2.now hu.fact.1.2.2.1) ht ch.name hcn) ?_
  intro m5 hm5
  apply RH.joinK (α := Unit) (fun _ => [(2, .av (.box 0 m0 0)), (4, .av (.box 1 (m0 + 1) 0)), (7, .av (.box 2 m2 0)), (8, intE (deedAt ch)), (11, slE A l.length c), (12, intE l.length), (13, intE i)])
   (fun _ => [(0, some (.box m0 [.val (ptrO po)] 31)), (1, some (.box (m0 + 1) [.val (.pointer none)] 31)), (2, some (.box m2 (tchF ch) 98))])
   (fun _ u => ((K u ∧ Glob u ∧ IsO u po0 t0 ∧ Sl kTCh u A c l) ∧ Late (fun u => IsO u po0 t0) (fun u => IsO u po t) m0 u) ∧ (stepO t ch = if ch.has = true then (if (getO t ch.name).isSome = false ∧ 600 ≤ maO t then (none, 12) else (some (putO t ch.name ch.new), 0)) else (dropO t ch.name, 0)) ∧ ch.had = (getO t ch.name).isSome ∧ ch.name.length ≤ 60 ∧ ¬ (ch.had = false ∧ ch.has = false))
  ·refine RH.toNx 40 ?_
   refine RH.adv tk [] rfl rfl (by simp <;> omega) ?_
   have hbad : ∀ k : Int, k ≠ 0 → stepO t ch = (none, k) → applyO t0 l = (none, k) := fun k hk e => by rw [hap, e, if_neg hk]
   apply RH.joinK (α := Unit) (fun _ => [(2, .av (.box 0 m0 0)), (4, .av (.box 1 (m0 + 1) 0)), (7, .av (.box 2 m2 0)), (8, intE (deedAt ch)), (9, .av (.box 40 m5 0)), (10, .av (.val (intV (if (getO t ch.name).isSome = true then 0 else 6)))), (59, .av (.val (.bool (decide (60 < (ch.name.length : Int)))))), (11, slE A l.length c), (12, intE l.length), (13, intE i)])
    (fun _ => [(0, some (.box m0 [.val (ptrO po)] 31)), (1, some (.box (m0 + 1) [.val (.pointer none)] 31)), (2, some (.box m2 (tchF ch) 98)), (40, some (.box m5 [.val (sumV ((getO t ch.name).getD Sum.zero))] 40))])
    (fun _ u => ((K u ∧ Glob u ∧ IsO u po0 t0 ∧ Sl kTCh u A c l) ∧ Late (fun u => IsO u po0 t0) (fun u => IsO u po t) m0 u) ∧ ¬ ((ch.had = false ∧ ch.has = false) ∨ (ch.had = false ∧ ch.old ≠ Sum.zero) ∨ (ch.has = false ∧ ch.new ≠ Sum.zero)))
   ·cases hh : ch.had <;> cases hs : ch.has
    ·rw [hbad 4 (by decide) (by unfold stepO; rw [if_pos (by simp [hh, hs])])]
     refine RH.adv tk [true, true] rfl rfl (by simp [hh, hs] <;> omega) ?_
     exact RH.retBoxT tk (.st [.val (.pointer none)]) Tryz.func54 rfl rfl rfl rfl rfl fun w' hst => ⟨none, rfl, hst.out [] rfl rfl fun u h => ⟨h.1.1, fun v _ _ => trivial⟩⟩
    ·by_cases ho : ch.old = Sum.zero
     ·refine RH.adv tk [true, false, true] rfl rfl (by simp [hh, hs] <;> omega) ?_
      refine RH.read (sumE Sum.zero) rfl rfl rfl rfl (fun w' a _ ha => ?_) ?_
      ·simp only [execOp, List.map_toArray, List.map_nil, buZ, Sem.run_bind, Result.andThen_ok, Sem.run_pure]
       rfl
      refine RH.adv tk [] rfl rfl (by simp <;> omega) ?_
      refine RH.read (boE (!decide (ch.old = Sum.zero))) rfl rfl rfl rfl (fun w' a h hag => op_neq hag rfl rfl rfl rfl rfl (by kernel_rfl) (eq_sum w' 9998 _ _)) ?_
      refine RH.adv tk [false, false] rfl rfl (by simp [ho, hs] <;> omega) ?_
      exact RH.mtS () [] (.head _) rfl rfl rfl fun u h => ⟨h, by simp [hh, hs, ho]⟩
     ·rw [hbad 4 (by decide) (by unfold stepO; rw [if_pos (by simp [hh, ho])])]
      refine RH.adv tk [true, false, true] rfl rfl (by simp [hh, hs] <;> omega) ?_
      refine RH.read (sumE Sum.zero) rfl rfl rfl rfl (fun w' a _ ha => ?_) ?_
      ·simp only [execOp, List.map_toArray, List.map_nil, buZ, Sem.run_bind, Result.andThen_ok, Sem.run_pure]
       rfl
      refine RH.adv tk [] rfl rfl (by simp <;> omega) ?_
      refine RH.read (boE (!decide (ch.old = Sum.zero))) rfl rfl rfl rfl (fun w' a h hag => op_neq hag rfl rfl rfl rfl rfl (by kernel_rfl) (eq_sum w' 9998 _ _)) ?_
      refine RH.adv tk [true] rfl rfl (by simp [ho] <;> omega) ?_
      exact RH.retBoxT tk (.st [.val (.pointer none)]) Tryz.func54 rfl rfl rfl rfl rfl fun w' hst => ⟨none, rfl, hst.out [] rfl rfl fun u h => ⟨h.1.1, fun v _ _ => trivial⟩⟩
    ·by_cases ho : ch.new = Sum.zero
     ·refine RH.adv tk [false, false, true] rfl rfl (by simp [hh, hs] <;> omega) ?_
      refine RH.read (sumE Sum.zero) rfl rfl rfl rfl (fun w' a _ ha => ?_) ?_
      ·simp only [execOp, List.map_toArray, List.map_nil, buZ, Sem.run_bind, Result.andThen_ok, Sem.run_pure]
       rfl
      refine RH.adv tk [] rfl rfl (by simp <;> omega) ?_
      refine RH.read (boE (!decide (ch.new = Sum.zero))) rfl rfl rfl rfl (fun w' a h hag => op_neq hag rfl rfl rfl rfl rfl (by kernel_rfl) (eq_sum w' 9998 _ _)) ?_
      refine RH.adv tk [false] rfl rfl (by simp [ho] <;> omega) ?_
      exact RH.mtS () [] (.head _) rfl rfl rfl fun u h => ⟨h, by simp [hh, hs, ho]⟩
     ·rw [hbad 4 (by decide) (by unfold stepO; rw [if_pos (by simp [hs, ho])])]
      refine RH.adv tk [false, false, true] rfl rfl (by simp [hh, hs] <;> omega) ?_
      refine RH.read (sumE Sum.zero) rfl rfl rfl rfl (fun w' a _ ha => ?_) ?_
      ·simp only [execOp, List.map_toArray, List.map_nil, buZ, Sem.run_bind, Result.andThen_ok, Sem.run_pure]
       rfl
      refine RH.adv tk [] rfl rfl (by simp <;> omega) ?_
      refine RH.read (boE (!decide (ch.new = Sum.zero))) rfl rfl rfl rfl (fun w' a h hag => op_neq hag rfl rfl rfl rfl rfl (by kernel_rfl) (eq_sum w' 9998 _ _)) ?_
      refine RH.adv tk [true] rfl rfl (by simp [ho] <;> omega) ?_
      exact RH.retBoxT tk (.st [.val (.pointer none)]) Tryz.func54 rfl rfl rfl rfl rfl fun w' hst => ⟨none, rfl, hst.out [] rfl rfl fun u h => ⟨h.1.1, fun v _ _ => trivial⟩⟩
    ·refine RH.adv tk [false, false, false] rfl rfl (by simp [hh, hs] <;> omega) ?_
     exact RH.mtS () [] (.head _) rfl rfl rfl fun u h => ⟨h, by simp [hh, hs]⟩
   rintro ⟨⟩ m7
   refine RH.pure (fun u h => h.2) fun hform => ?_
   have hst1 : stepO t ch = _ := if_neg hform
   by_cases h60 : 60 < ch.name.length
   ·rw [hbad 11 (by decide) (by rw [hst1, if_pos h60])]
    refine RH.adv tk [true] rfl rfl (by simp [h60] <;> omega) ?_
    exact RH.retBoxT tk (.st [.val (.pointer none)]) Tryz.func54 rfl rfl rfl rfl rfl fun w' hst => ⟨none, rfl, hst.out [] rfl rfl fun u h => ⟨h.1.1.1, fun v _ _ => trivial⟩⟩
   ·rw [if_neg h60] at hst1
    cases hg : getO t ch.name with
    | none =>
     cases hh : ch.had with
     | true =>
      rw [hbad 7 (by decide) (by rw [hst1, if_pos (.inl (by simp [hh, hg]))])]
      refine RH.adv tk [false, true] rfl rfl (by simp [h60, hh] <;> omega) ?_
      exact RH.retBoxT tk (.st [.val (.pointer none)]) Tryz.func54 rfl rfl rfl rfl rfl fun w' hst => ⟨none, rfl, hst.out [] rfl rfl fun u h => ⟨h.1.1.1, fun v _ _ => trivial⟩⟩
     | false =>
      refine RH.adv tk [false, false, false] rfl rfl (by simp [h60, hh] <;> omega) ?_
      exact RH.mtS () [] (.head _) rfl rfl rfl fun u h => ⟨h.1, by rw [hst1, if_neg (by simp [hh, hg]), hg], rfl, by omega, fun e => hform (.inl ⟨hh, e.2⟩)⟩
    | some x =>
     cases hh : ch.had with
     | true =>
      refine RH.adv tk [false, false, true] rfl rfl (by simp [h60, hh] <;> omega) ?_
      refine RH.read (boE (!decide (ch.old = x))) rfl rfl rfl rfl (fun w' a h hag => op_neq hag rfl rfl rfl rfl rfl (by kernel_rfl) (eq_sum w' 9998 _ _)) ?_
      by_cases ho : ch.old = x
      ·refine RH.adv tk [false] rfl rfl (by simp [ho] <;> omega) ?_
       exact RH.mtS () [] (.head _) rfl rfl rfl fun u h => ⟨h.1, by rw [hst1, if_neg (by simp [hh, hg, ho]), hg], rfl, by omega, fun e => by cases e.1⟩
      ·rw [hbad 7 (by decide) (by rw [hst1, if_pos (.inr (by simp [hh, hg, ho]))])]
       refine RH.adv tk [true] rfl rfl (by simp [ho] <;> omega) ?_
       exact RH.retBoxT tk (.st [.val (.pointer none)]) Tryz.func54 rfl rfl rfl rfl rfl fun w' hst => ⟨none, rfl, hst.out [] rfl rfl fun u h => ⟨h.1.1.1, fun v _ _ => trivial⟩⟩
     | false =>
      rw [hbad 7 (by decide) (by rw [hst1, if_pos (.inl (by simp [hh, hg]))])]
      refine RH.adv tk [false, true] rfl rfl (by simp [h60, hh] <;> omega) ?_
      exact RH.retBoxT tk (.st [.val (.pointer none)]) Tryz.func54 rfl rfl rfl rfl rfl fun w' hst => ⟨none, rfl, hst.out [] rfl rfl fun u h => ⟨h.1.1.1, fun v _ _ => trivial⟩⟩
  rintro ⟨⟩ m6
  refine RH.pure (fun u h => h.2) fun ⟨hstep, hhi, h60, hff⟩ => ?_
  rw [hstep] at hap
  refine V.RH.know (fun u => ((K u ∧ Glob u ∧ IsO u po0 t0 ∧ Sl kTCh u A c l) ∧ Late (fun u => IsO u po0 t0) (fun u => IsO u po t) m0 u)) (fun u h => h.1) ?_
  refine RH.toNx 3 ?_
  refine RH.above (id := 0) rfl rfl fun hy1 hy2 => ?_
  refine RH.draw rfl [(2, some (.box m2 (tchF ch) 98))] rfl 13 rfl rfl ?_
  refine RD.adv tk (by kernel_rfl) [] rfl rfl (by simp <;> omega) ?_
  have hd4 : deedAt ch < 3 := by
   unfold deedAt
   split <;> split <;> first | omega | (exfalso; exact hff ⟨by simp_all, by simp_all⟩)
  by_cases hs : ch.has = true
  ·have hlt2 : deedAt ch < 2 := by unfold deedAt; rw [if_pos hs]; split <;> omega
   rw [if_pos hs] at hap
   by_cases hfull : (getO t ch.name).isSome = false ∧ 600 ≤ maO t
   ·rw [if_pos hfull, if_neg (by decide)] at hap
    rw [hap]
    have hnone : getO t ch.name = none := by cases hgo : getO t ch.name with
     | none => rfl
     | some x => rw [hgo] at hfull; simp at hfull
    have h600 : maO t = 600 := by omega
    dsimp only
    refine RD.two (i := 0) (j := 5) (by kernel_rfl) ?_ ?_
    ·refine V.opD_doesB (i := 0) [] 3 4 (fun b : Nat => rowS 3 (some ⟨b, 0, none⟩) 4 4) rfl rfl rfl rfl rfl Tryz.call128 deeds_spec rfl rfl (fun _ => rfl) (fun _ => rfl) (fun _ _ => trivial) (fun _ => rfl) (fun _ h => h) ?_
     rintro db2 m7 hm7
     refine RD.adv tk (by kernel_rfl) [] rfl rfl (by simp; exact ⟨rfl, by omega⟩) ?_
     refine RD.two (i := 4) (j := 5) (by kernel_rfl) ?_ ?_
     ·refine opD_go (i := 4) rfl rfl (OpGo.load (.av (.val (.func (.func 200) #[] #[]))) rfl rfl rfl (fun w hst => load_deed1 (Sl.own (B := m0) (hst.row (κ := kDeed) (l := deedsL) (id := 3) rfl) (by simp [hlim])).cells hlt2 (by show 0 + ((deedAt ch : Nat) : Int).toNat * (Tryz.t209).size + 2 = _; rw [Int.toNat_natCast, hz209, Nat.zero_add]))) 4 (fun _ => rfl) (fun _ _ h => h.1) ?_
      rintro ⟨⟩ m8 hm8
      refine RD.adv tk (by kernel_rfl) [] rfl rfl (by simp <;> omega) ?_
      refine RD.step tk (nx := 4) (i := 5) rfl (by kernel_rfl) rfl rfl rfl ?_ rfl (fun _ h => h.1) ⟨rfl, rfl⟩ ?_
      ·first | trivial | (simp; done) | (simp [AllOb, Ob.P, hz31, Value.oneCell']; done)
      refine RD.adv tk (by kernel_rfl) [] rfl rfl (by simp <;> omega) ?_
      refine RD.gives (i := 7) (.av (.val (.tuple #[.agg #[.pointer none], intV 12]))) rfl (by kernel_rfl) rfl rfl rfl rfl Tryz.call200 (fun u hu => deed1_full u po t (hu.fact.1.2.now hu.fact.1.1.2.2.1) ht ch h60 hnone h600) rfl (fun _ h => h.1) ?_
      intro m9 hm9
      refine RD.adv tk (by kernel_rfl) [] rfl rfl (by simp <;> omega) ?_
      refine V.RD.slotE 91 (mapE none) rfl rfl ?_
      refine RD.step tk (nx := 7) (i := 11) rfl (by kernel_rfl) rfl rfl rfl ?_ rfl (fun _ h => h.1) rfl ?_
      ·first | trivial | (simp; done) | (simp [AllOb, Ob.P, hz31, Value.oneCell']; done)
      refine RD.adv tk (by kernel_rfl) [] rfl rfl (by simp <;> omega) ?_
      refine RD.done (.inl rfl) (by kernel_rfl) ?_
      refine RH.adv tk [true] rfl rfl (by simp [hz31, Value.oneCell'] <;> omega) ?_
      exact RH.retBoxT tk (.st [.val (.pointer none)]) Tryz.func54 rfl rfl rfl rfl rfl fun w' hst => ⟨none, rfl, hst.out [] rfl rfl fun u h => ⟨h.1.1.1, fun v _ _ => trivial⟩⟩
     ·refine opD_step tk (nx := 4) (i := 5) rfl rfl rfl rfl ?_ rfl (fun _ h => h.1) ⟨rfl, rfl⟩ ?_
      ·first | trivial | (simp; done) | (simp [AllOb, Ob.P, hz31, Value.oneCell']; done)
      refine RD.adv tk (by kernel_rfl) [] rfl rfl (by simp <;> omega) ?_
      refine RD.loadS (i := 4) (.av (.val (.func (.func 200) #[] #[]))) rfl (by kernel_rfl) rfl rfl rfl (fun w hst => load_deed1 (Sl.own (B := m0) (hst.row (κ := kDeed) (l := deedsL) (id := 3) rfl) (by simp [hlim])).cells hlt2 (by show 0 + ((deedAt ch : Nat) : Int).toNat * (Tryz.t209).size + 2 = _; rw [Int.toNat_natCast, hz209, Nat.zero_add])) rfl (fun _ h => h.1) ?_
      intro m8 hm8
      refine RD.adv tk (by kernel_rfl) [] rfl rfl (by simp <;> omega) ?_
      refine RD.gives (i := 7) (.av (.val (.tuple #[.agg #[.pointer none], intV 12]))) rfl (by kernel_rfl) rfl rfl rfl rfl Tryz.call200 (fun u hu => deed1_full u po t (hu.fact.1.2.now hu.fact.1.1.2.2.1) ht ch h60 hnone h600) rfl (fun _ h => h.1) ?_
      intro m9 hm9
      refine RD.adv tk (by kernel_rfl) [] rfl rfl (by simp <;> omega) ?_
      refine V.RD.slotE 91 (mapE none) rfl rfl ?_
      refine RD.step tk (nx := 7) (i := 11) rfl (by kernel_rfl) rfl rfl rfl ?_ rfl (fun _ h => h.1) rfl ?_
      ·first | trivial | (simp; done) | (simp [AllOb, Ob.P, hz31, Value.oneCell']; done)
      refine RD.adv tk (by kernel_rfl) [] rfl rfl (by simp <;> omega) ?_
      refine RD.done (.inl rfl) (by kernel_rfl) ?_
      refine RH.adv tk [true] rfl rfl (by simp [hz31, Value.oneCell'] <;> omega) ?_
      exact RH.retBoxT tk (.st [.val (.pointer none)]) Tryz.func54 rfl rfl rfl rfl rfl fun w' hst => ⟨none, rfl, hst.out [] rfl rfl fun u h => ⟨h.1.1.1, fun v _ _ => trivial⟩⟩
    ·refine opD_step tk (nx := 4) (i := 5) rfl rfl rfl rfl ?_ rfl (fun _ h => h) ⟨rfl, rfl⟩ ?_
     ·first | trivial | (simp; done) | (simp [AllOb, Ob.P, hz31, Value.oneCell']; done)
     refine RD.adv tk (by kernel_rfl) [] rfl rfl (by simp <;> omega) ?_
     refine RD.doB (nx := 3) (i := 0) [] 4 (fun b : Nat => rowS 3 (some ⟨b, 0, none⟩) 4 4) rfl (by kernel_rfl) rfl rfl rfl rfl Tryz.call128 deeds_spec rfl rfl (fun _ => rfl) (fun _ => rfl) (fun _ _ => trivial) (fun _ => rfl) (fun _ h => h) ?_
     rintro db2 m7 hm7
     refine RD.adv tk (by kernel_rfl) [] rfl rfl (by simp; exact ⟨rfl, by omega⟩) ?_
     refine RD.loadS (i := 4) (.av (.val (.func (.func 200) #[] #[]))) rfl (by kernel_rfl) rfl rfl rfl (fun w hst => load_deed1 (Sl.own (B := m0) (hst.row (κ := kDeed) (l := deedsL) (id := 3) rfl) (by simp [hlim])).cells hlt2 (by show 0 + ((deedAt ch : Nat) : Int).toNat * (Tryz.t209).size + 2 = _; rw [Int.toNat_natCast, hz209, Nat.zero_add])) rfl (fun _ h => h.1) ?_
     intro m8 hm8
     refine RD.adv tk (by kernel_rfl) [] rfl rfl (by simp <;> omega) ?_
     refine RD.gives (i := 7) (.av (.val (.tuple #[.agg #[.pointer none], intV 12]))) rfl (by kernel_rfl) rfl rfl rfl rfl Tryz.call200 (fun u hu => deed1_full u po t (hu.fact.1.2.now hu.fact.1.1.2.2.1) ht ch h60 hnone h600) rfl (fun _ h => h.1) ?_
     intro m9 hm9
     refine RD.adv tk (by kernel_rfl) [] rfl rfl (by simp <;> omega) ?_
     refine V.RD.slotE 91 (mapE none) rfl rfl ?_
     refine RD.step tk (nx := 7) (i := 11) rfl (by kernel_rfl) rfl rfl rfl ?_ rfl (fun _ h => h.1) rfl ?_
     ·first | trivial | (simp; done) | (simp [AllOb, Ob.P, hz31, Value.oneCell']; done)
     refine RD.adv tk (by kernel_rfl) [] rfl rfl (by simp <;> omega) ?_
     refine RD.done (.inl rfl) (by kernel_rfl) ?_
     refine RH.adv tk [true] rfl rfl (by simp [hz31, Value.oneCell'] <;> omega) ?_
     exact RH.retBoxT tk (.st [.val (.pointer none)]) Tryz.func54 rfl rfl rfl rfl rfl fun w' hst => ⟨none, rfl, hst.out [] rfl rfl fun u h => ⟨h.1.1.1, fun v _ _ => trivial⟩⟩
   ·rw [if_neg hfull, if_pos rfl] at hap
    have hok1 : (getO t ch.name).isSome = true ∨ maO t ≠ 600 := by
     cases hgo : (getO t ch.name).isSome with
     | true => exact .inl rfl
     | false => exact .inr fun e => hfull ⟨hgo, by omega⟩
    have hw := okO_wf ht
    have hlow2 : lowO 60 (some (putO t ch.name ch.new)) := putO_low hw hl h60 _
    have hmn2 : maO (some (putO t ch.name ch.new)) ≤ 600 := by
     rw [putO_many hw]
     split
     ·omega
     ·rename_i hns
      rcases hok1 with h | h
      ·exact absurd h hns
      ·omega
    have hok2 : okO (some (putO t ch.name ch.new)) := okO_of (putO_wf hw _ _) hlow2 (by decide) (by omega)
    refine RD.two (i := 0) (j := 5) (by kernel_rfl) ?_ ?_
    ·refine V.opD_doesB (i := 0) [] 3 4 (fun b : Nat => rowS 3 (some ⟨b, 0, none⟩) 4 4) rfl rfl rfl rfl rfl Tryz.call128 deeds_spec rfl rfl (fun _ => rfl) (fun _ => rfl) (fun _ _ => trivial) (fun _ => rfl) (fun _ h => h) ?_
     rintro db2 m7 hm7
     refine RD.adv tk (by kernel_rfl) [] rfl rfl (by simp; exact ⟨rfl, by omega⟩) ?_
     refine RD.two (i := 4) (j := 5) (by kernel_rfl) ?_ ?_
     ·refine opD_go (i := 4) rfl rfl (OpGo.load (.av (.val (.func (.func 200) #[] #[]))) rfl rfl rfl (fun w hst => load_deed1 (Sl.own (B := m0) (hst.row (κ := kDeed) (l := deedsL) (id := 3) rfl) (by simp [hlim])).cells hlt2 (by show 0 + ((deedAt ch : Nat) : Int).toNat * (Tryz.t209).size + 2 = _; rw [Int.toNat_natCast, hz209, Nat.zero_add]))) 4 (fun _ => rfl) (fun _ _ h => h.1) ?_
      rintro ⟨⟩ m8 hm8
      refine RD.adv tk (by kernel_rfl) [] rfl rfl (by simp <;> omega) ?_
      refine RD.step tk (nx := 4) (i := 5) rfl (by kernel_rfl) rfl rfl rfl ?_ rfl (fun _ h => h.1) ⟨rfl, rfl⟩ ?_
      ·first | trivial | (simp; done) | (simp [AllOb, Ob.P, hz31, Value.oneCell']; done)
      refine RD.adv tk (by kernel_rfl) [] rfl rfl (by simp <;> omega) ?_
      refine RD.doB (nx := 5) (i := 7) [] 6 (fun b1 : Plot => .av (.val (.tuple #[.agg #[ptrV b1.b], intV 0]))) rfl (by kernel_rfl) rfl rfl rfl rfl Tryz.call200 (deed1_ok po t ht ch h60 hok1) rfl rfl (fun _ => rfl) (fun _ => rfl) (fun u hu => ⟨hu.fact.1.1.2.1, hu.fact.1.2.now hu.fact.1.1.2.2.1⟩) (fun _ => rfl) (fun _ h => h.1) ?_
      rintro Lb m9 hm9
      refine RD.adv tk (by kernel_rfl) [] rfl rfl (by simp <;> omega) ?_
      refine V.RD.slotE 91 (mapE (some Lb)) rfl rfl ?_
      refine RD.step tk (nx := 7) (i := 11) rfl (by kernel_rfl) rfl rfl rfl ?_ rfl (fun _ h => h.1.1) rfl ?_
      ·first | trivial | (simp; done) | (simp [AllOb, Ob.P, hz31, Value.oneCell']; done)
      refine RD.adv tk (by kernel_rfl) [] rfl rfl (by simp <;> omega) ?_
      refine RD.done (.inl rfl) (by kernel_rfl) ?_
      refine RH.adv tk [false] rfl rfl (by simp [hz31, Value.oneCell'] <;> omega) ?_
      exact RH.again (i + 1, some Lb, some (putO t ch.name ch.new)) (.head _) rfl rfl (by show l.length - (i + 1) < l.length - i; omega) fun u h => ⟨⟨h.1.1.1, fun v hv hp => h.2.up (by omega) hv (h.1.1.2 v hv hp)⟩, hlt, hap, hok2, hlow2, hmn2⟩
     ·refine opD_step tk (nx := 4) (i := 5) rfl rfl rfl rfl ?_ rfl (fun _ h => h.1) ⟨rfl, rfl⟩ ?_
      ·first | trivial | (simp; done) | (simp [AllOb, Ob.P, hz31, Value.oneCell']; done)
      refine RD.adv tk (by kernel_rfl) [] rfl rfl (by simp <;> omega) ?_
      refine RD.loadS (i := 4) (.av (.val (.func (.func 200) #[] #[]))) rfl (by kernel_rfl) rfl rfl rfl (fun w hst => load_deed1 (Sl.own (B := m0) (hst.row (κ := kDeed) (l := deedsL) (id := 3) rfl) (by simp [hlim])).cells hlt2 (by show 0 + ((deedAt ch : Nat) : Int).toNat * (Tryz.t209).size + 2 = _; rw [Int.toNat_natCast, hz209, Nat.zero_add])) rfl (fun _ h => h.1) ?_
      intro m8 hm8
      refine RD.adv tk (by kernel_rfl) [] rfl rfl (by simp <;> omega) ?_
      refine RD.doB (nx := 5) (i := 7) [] 6 (fun b1 : Plot => .av (.val (.tuple #[.agg #[ptrV b1.b], intV 0]))) rfl (by kernel_rfl) rfl rfl rfl rfl Tryz.call200 (deed1_ok po t ht ch h60 hok1) rfl rfl (fun _ => rfl) (fun _ => rfl) (fun u hu => ⟨hu.fact.1.1.2.1, hu.fact.1.2.now hu.fact.1.1.2.2.1⟩) (fun _ => rfl) (fun _ h => h.1) ?_
      rintro Lb m9 hm9
      refine RD.adv tk (by kernel_rfl) [] rfl rfl (by simp <;> omega) ?_
      refine V.RD.slotE 91 (mapE (some Lb)) rfl rfl ?_
      refine RD.step tk (nx := 7) (i := 11) rfl (by kernel_rfl) rfl rfl rfl ?_ rfl (fun _ h => h.1.1) rfl ?_
      ·first | trivial | (simp; done) | (simp [AllOb, Ob.P, hz31, Value.oneCell']; done)
      refine RD.adv tk (by kernel_rfl) [] rfl rfl (by simp <;> omega) ?_
      refine RD.done (.inl rfl) (by kernel_rfl) ?_
      refine RH.adv tk [false] rfl rfl (by simp [hz31, Value.oneCell'] <;> omega) ?_
      exact RH.again (i + 1, some Lb, some (putO t ch.name ch.new)) (.head _) rfl rfl (by show l.length - (i + 1) < l.length - i; omega) fun u h => ⟨⟨h.1.1.1, fun v hv hp => h.2.up (by omega) hv (h.1.1.2 v hv hp)⟩, hlt, hap, hok2, hlow2, hmn2⟩
    ·refine opD_step tk (nx := 4) (i := 5) rfl rfl rfl rfl ?_ rfl (fun _ h => h) ⟨rfl, rfl⟩ ?_
     ·first | trivial | (simp; done) | (simp [AllOb, Ob.P, hz31, Value.oneCell']; done)
     refine RD.adv tk (by kernel_rfl) [] rfl rfl (by simp <;> omega) ?_
     refine RD.doB (nx := 3) (i := 0) [] 4 (fun b : Nat => rowS 3 (some ⟨b, 0, none⟩) 4 4) rfl (by kernel_rfl) rfl rfl rfl rfl Tryz.call128 deeds_spec rfl rfl (fun _ => rfl) (fun _ => rfl) (fun _ _ => trivial) (fun _ => rfl) (fun _ h => h) ?_
     rintro db2 m7 hm7
     refine RD.adv tk (by kernel_rfl) [] rfl rfl (by simp; exact ⟨rfl, by omega⟩) ?_
     refine RD.loadS (i := 4) (.av (.val (.func (.func 200) #[] #[]))) rfl (by kernel_rfl) rfl rfl rfl (fun w hst => load_deed1 (Sl.own (B := m0) (hst.row (κ := kDeed) (l := deedsL) (id := 3) rfl) (by simp [hlim])).cells hlt2 (by show 0 + ((deedAt ch : Nat) : Int).toNat * (Tryz.t209).size + 2 = _; rw [Int.toNat_natCast, hz209, Nat.zero_add])) rfl (fun _ h => h.1) ?_
     intro m8 hm8
     refine RD.adv tk (by kernel_rfl) [] rfl rfl (by simp <;> omega) ?_
     refine RD.doB (nx := 5) (i := 7) [] 6 (fun b1 : Plot => .av (.val (.tuple #[.agg #[ptrV b1.b], intV 0]))) rfl (by kernel_rfl) rfl rfl rfl rfl Tryz.call200 (deed1_ok po t ht ch h60 hok1) rfl rfl (fun _ => rfl) (fun _ => rfl) (fun u hu => ⟨hu.fact.1.1.2.1, hu.fact.1.2.now hu.fact.1.1.2.2.1⟩) (fun _ => rfl) (fun _ h => h.1) ?_
     rintro Lb m9 hm9
     refine RD.adv tk (by kernel_rfl) [] rfl rfl (by simp <;> omega) ?_
     refine V.RD.slotE 91 (mapE (some Lb)) rfl rfl ?_
     refine RD.step tk (nx := 7) (i := 11) rfl (by kernel_rfl) rfl rfl rfl ?_ rfl (fun _ h => h.1.1) rfl ?_
     ·first | trivial | (simp; done) | (simp [AllOb, Ob.P, hz31, Value.oneCell']; done)
     refine RD.adv tk (by kernel_rfl) [] rfl rfl (by simp <;> omega) ?_
     refine RD.done (.inl rfl) (by kernel_rfl) ?_
     refine RH.adv tk [false] rfl rfl (by simp [hz31, Value.oneCell'] <;> omega) ?_
     exact RH.again (i + 1, some Lb, some (putO t ch.name ch.new)) (.head _) rfl rfl (by show l.length - (i + 1) < l.length - i; omega) fun u h => ⟨⟨h.1.1.1, fun v hv hp => h.2.up (by omega) hv (h.1.1.2 v hv hp)⟩, hlt, hap, hok2, hlow2, hmn2⟩
  ·have hlt2 : deedAt ch = 2 := by
    have hhad : ch.had = true := by
     cases hh : ch.had with
     | true => rfl
     | false => exact absurd ⟨hh, by simpa using hs⟩ hff
    unfold deedAt; rw [if_neg hs, if_pos hhad]
   rw [if_neg hs, if_pos rfl] at hap
   have hsome : (getO t ch.name).isSome = true := by
    rw [← hhi]
    cases hh : ch.had with
    | true => rfl
    | false => exact absurd ⟨hh, by simpa using hs⟩ hff
   have hw := okO_wf ht
   have hlow2 : lowO 60 (dropO t ch.name) := dropO_low hw hl hsome
   have hmn2 : maO (dropO t ch.name) ≤ 600 := by have := dropO_many hw hsome; omega
   have hok2 : okO (dropO t ch.name) := okO_of (dropO_wf hw hsome) hlow2 (by decide) (by omega)
   refine RD.two (i := 0) (j := 5) (by kernel_rfl) ?_ ?_
   ·refine V.opD_doesB (i := 0) [] 3 4 (fun b : Nat => rowS 3 (some ⟨b, 0, none⟩) 4 4) rfl rfl rfl rfl rfl Tryz.call128 deeds_spec rfl rfl (fun _ => rfl) (fun _ => rfl) (fun _ _ => trivial) (fun _ => rfl) (fun _ h => h) ?_
    rintro db2 m7 hm7
    refine RD.adv tk (by kernel_rfl) [] rfl rfl (by simp; exact ⟨rfl, by omega⟩) ?_
    refine RD.two (i := 4) (j := 5) (by kernel_rfl) ?_ ?_
    ·refine opD_go (i := 4) rfl rfl (OpGo.load (.av (.val (.func (.func 201) #[] #[]))) rfl rfl rfl (fun w hst => load_deed2 (Sl.own (B := m0) (hst.row (κ := kDeed) (l := deedsL) (id := 3) rfl) (by simp [hlim])).cells hlt2 (by show 0 + ((deedAt ch : Nat) : Int).toNat * (Tryz.t209).size + 2 = _; rw [Int.toNat_natCast, hz209, Nat.zero_add]))) 4 (fun _ => rfl) (fun _ _ h => h.1) ?_
     rintro ⟨⟩ m8 hm8
     refine RD.adv tk (by kernel_rfl) [] rfl rfl (by simp <;> omega) ?_
     refine RD.step tk (nx := 4) (i := 5) rfl (by kernel_rfl) rfl rfl rfl ?_ rfl (fun _ h => h.1) ⟨rfl, rfl⟩ ?_
     ·first | trivial | (simp; done) | (simp [AllOb, Ob.P, hz31, Value.oneCell']; done)
     refine RD.adv tk (by kernel_rfl) [] rfl rfl (by simp <;> omega) ?_
     refine RD.doB (nx := 5) (i := 7) [] 6 (fun o : Option Plot => .av (.val (.tuple #[.agg #[ptrO o], intV 0]))) rfl (by kernel_rfl) rfl rfl rfl rfl Tryz.call201 (deed2_ok po t ht (fun n x hx => Nat.le_trans (hl n x hx) (by decide)) ch (by omega) hsome) rfl rfl (fun _ => rfl) (fun _ => rfl) (fun u hu => ⟨hu.fact.1.1.2.1, hu.fact.1.2.now hu.fact.1.1.2.2.1⟩) (fun _ => rfl) (fun _ h => h.1) ?_
     rintro Lb m9 hm9
     refine RD.adv tk (by kernel_rfl) [] rfl rfl (by simp <;> omega) ?_
     refine V.RD.slotE 91 (mapE Lb) rfl rfl ?_
     refine RD.step tk (nx := 7) (i := 11) rfl (by kernel_rfl) rfl rfl rfl ?_ rfl (fun _ h => h.1.1) rfl ?_
     ·first | trivial | (simp; done) | (simp [AllOb, Ob.P, hz31, Value.oneCell']; done)
     refine RD.adv tk (by kernel_rfl) [] rfl rfl (by simp <;> omega) ?_
     refine RD.done (.inl rfl) (by kernel_rfl) ?_
     refine RH.adv tk [false] rfl rfl (by simp [hz31, Value.oneCell'] <;> omega) ?_
     exact RH.again (i + 1, Lb, dropO t ch.name) (.head _) rfl rfl (by show l.length - (i + 1) < l.length - i; omega) fun u h => ⟨⟨h.1.1.1, fun v hv hp => h.2.up (by omega) hv (h.1.1.2 v hv hp)⟩, hlt, hap, hok2, hlow2, hmn2⟩
    ·refine opD_step tk (nx := 4) (i := 5) rfl rfl rfl rfl ?_ rfl (fun _ h => h.1) ⟨rfl, rfl⟩ ?_
     ·first | trivial | (simp; done) | (simp [AllOb, Ob.P, hz31, Value.oneCell']; done)
     refine RD.adv tk (by kernel_rfl) [] rfl rfl (by simp <;> omega) ?_
     refine RD.loadS (i := 4) (.av (.val (.func (.func 201) #[] #[]))) rfl (by kernel_rfl) rfl rfl rfl (fun w hst => load_deed2 (Sl.own (B := m0) (hst.row (κ := kDeed) (l := deedsL) (id := 3) rfl) (by simp [hlim])).cells hlt2 (by show 0 + ((deedAt ch : Nat) : Int).toNat * (Tryz.t209).size + 2 = _; rw [Int.toNat_natCast, hz209, Nat.zero_add])) rfl (fun _ h => h.1) ?_
     intro m8 hm8
     refine RD.adv tk (by kernel_rfl) [] rfl rfl (by simp <;> omega) ?_
     refine RD.doB (nx := 5) (i := 7) [] 6 (fun o : Option Plot => .av (.val (.tuple #[.agg #[ptrO o], intV 0]))) rfl (by kernel_rfl) rfl rfl rfl rfl Tryz.call201 (deed2_ok po t ht (fun n x hx => Nat.le_trans (hl n x hx) (by decide)) ch (by omega) hsome) rfl rfl (fun _ => rfl) (fun _ => rfl) (fun u hu => ⟨hu.fact.1.1.2.1, hu.fact.1.2.now hu.fact.1.1.2.2.1⟩) (fun _ => rfl) (fun _ h => h.1) ?_
     rintro Lb m9 hm9
     refine RD.adv tk (by kernel_rfl) [] rfl rfl (by simp <;> omega) ?_
     refine V.RD.slotE 91 (mapE Lb) rfl rfl ?_
     refine RD.step tk (nx := 7) (i := 11) rfl (by kernel_rfl) rfl rfl rfl ?_ rfl (fun _ h => h.1.1) rfl ?_
     ·first | trivial | (simp; done) | (simp [AllOb, Ob.P, hz31, Value.oneCell']; done)
     refine RD.adv tk (by kernel_rfl) [] rfl rfl (by simp <;> omega) ?_
     refine RD.done (.inl rfl) (by kernel_rfl) ?_
     refine RH.adv tk [false] rfl rfl (by simp [hz31, Value.oneCell'] <;> omega) ?_
     exact RH.again (i + 1, Lb, dropO t ch.name) (.head _) rfl rfl (by show l.length - (i + 1) < l.length - i; omega) fun u h => ⟨⟨h.1.1.1, fun v hv hp => h.2.up (by omega) hv (h.1.1.2 v hv hp)⟩, hlt, hap, hok2, hlow2, hmn2⟩
   ·refine opD_step tk (nx := 4) (i := 5) rfl rfl rfl rfl ?_ rfl (fun _ h => h) ⟨rfl, rfl⟩ ?_
    ·first | trivial | (simp; done) | (simp [AllOb, Ob.P, hz31, Value.oneCell']; done)
    refine RD.adv tk (by kernel_rfl) [] rfl rfl (by simp <;> omega) ?_
    refine RD.doB (nx := 3) (i := 0) [] 4 (fun b : Nat => rowS 3 (some ⟨b, 0, none⟩) 4 4) rfl (by kernel_rfl) rfl rfl rfl rfl Tryz.call128 deeds_spec rfl rfl (fun _ => rfl) (fun _ => rfl) (fun _ _ => trivial) (fun _ => rfl) (fun _ h => h) ?_
    rintro db2 m7 hm7
    refine RD.adv tk (by kernel_rfl) [] rfl rfl (by simp; exact ⟨rfl, by omega⟩) ?_
    refine RD.loadS (i := 4) (.av (.val (.func (.func 201) #[] #[]))) rfl (by kernel_rfl) rfl rfl rfl (fun w hst => load_deed2 (Sl.own (B := m0) (hst.row (κ := kDeed) (l := deedsL) (id := 3) rfl) (by simp [hlim])).cells hlt2 (by show 0 + ((deedAt ch : Nat) : Int).toNat * (Tryz.t209).size + 2 = _; rw [Int.toNat_natCast, hz209, Nat.zero_add])) rfl (fun _ h => h.1) ?_
    intro m8 hm8
    refine RD.adv tk (by kernel_rfl) [] rfl rfl (by simp <;> omega) ?_
    refine RD.doB (nx := 5) (i := 7) [] 6 (fun o : Option Plot => .av (.val (.tuple #[.agg #[ptrO o], intV 0]))) rfl (by kernel_rfl) rfl rfl rfl rfl Tryz.call201 (deed2_ok po t ht (fun n x hx => Nat.le_trans (hl n x hx) (by decide)) ch (by omega) hsome) rfl rfl (fun _ => rfl) (fun _ => rfl) (fun u hu => ⟨hu.fact.1.1.2.1, hu.fact.1.2.now hu.fact.1.1.2.2.1⟩) (fun _ => rfl) (fun _ h => h.1) ?_
    rintro Lb m9 hm9
    refine RD.adv tk (by kernel_rfl) [] rfl rfl (by simp <;> omega) ?_
    refine V.RD.slotE 91 (mapE Lb) rfl rfl ?_
    refine RD.step tk (nx := 7) (i := 11) rfl (by kernel_rfl) rfl rfl rfl ?_ rfl (fun _ h => h.1.1) rfl ?_
    ·first | trivial | (simp; done) | (simp [AllOb, Ob.P, hz31, Value.oneCell']; done)
    refine RD.adv tk (by kernel_rfl) [] rfl rfl (by simp <;> omega) ?_
    refine RD.done (.inl rfl) (by kernel_rfl) ?_
    refine RH.adv tk [false] rfl rfl (by simp [hz31, Value.oneCell'] <;> omega) ?_
    exact RH.again (i + 1, Lb, dropO t ch.name) (.head _) rfl rfl (by show l.length - (i + 1) < l.length - i; omega) fun u h => ⟨⟨h.1.1.1, fun v hv hp => h.2.up (by omega) hv (h.1.1.2 v hv hp)⟩, hlt, hap, hok2, hlow2, hmn2⟩
 ·have hn : i = l.length := by omega
  rw [hn, List.drop_length] at hap
  have hap' : applyO t0 l = (t, 0) := hap
  rw [hap']
  refine RH.adv tk [false] rfl rfl (by simp <;> omega) ?_
  refine RH.toNx 30 ?_
  refine RH.adv tk [] rfl rfl (by simp [hz31, Value.oneCell']) ?_
  exact RH.retBoxT tk (mapE po) Tryz.func54 rfl rfl rfl rfl rfl fun w' hst => ⟨po, rfl, hst.out [] rfl rfl fun u h => ⟨h.1.1, h.2⟩⟩
end Go.Proofs.YtbfjmimiigjenaaGreatDoor
