/-
A part of the proofs of the laws of a seat: contracts of functions and lemmas on them; the listed package variables hold what the program's text lays. No further condition.
-/
import Derived.Test.YtbfjmimiigjenaaGreatDoorKQ3
set_option linter.unusedVariables false
set_option linter.unusedSectionVars false
set_option linter.unusedSimpArgs false
namespace Go.Proofs.YtbfjmimiigjenaaGreatDoor
open Go V RowKit

theorem vok_node (s : Str) (v : Option Sum) (A : Option Addr) (q c : Nat) (B : Option Addr) (p d : Nat) (many : Int) (own : Sum) : VOk tb 165 (nodE s v A q c B p d many own).v := by
  refine ⟨_, Tryz.t165, rfl, rfl, ?_, ?_⟩
  · have h1 : (sumV (v.getD Sum.zero)).cells.size = 32 := (sumV_ok _).1
    have h2 : (sumV own).cells.size = 32 := (sumV_ok _).1
    simp only [nodF, List.map_cons, List.map_nil, flat_cons, flat_nil, AV.v, List.append_nil, List.size_toArray, List.length_append, Array.length_toList, h1, h2]
    rfl
  · intro u hu
    have : u ∈ (boxCells (nodF s v A q c B p d many own)).toList := hu
    rw [nod_cells] at this
    simp only [List.mem_append, List.mem_cons, List.not_mem_nil, or_false, List.mem_map] at this
    rcases this with (rfl | rfl) | ⟨x, _, rfl⟩ | (rfl | rfl | rfl) | ⟨x, _, rfl⟩ <;> rfl

theorem Part.all {u : World} {b : Nat} {s : Str} {v : Option Sum} {k : Kids} {A : Option Addr} {c : Nat} {B : Option Addr} {d : Nat} {ps : List Plot} {many : Int} {own : Sum} (h : Go.Proofs.YtbfjmimiigjenaaGreatDoor.Part u b s v k A c B d ps many own) : (loadVar 165 ⟨b, 0, none⟩).run Tryz.prog u = .ok (nodE s v A k.bytes.length c B ps.length d many own).v u := by
  refine V.run_load tb_ok (vok_node s v A k.bytes.length c B ps.length d many own) fun j x hj => ?_
  rw [Nat.zero_add]
  refine h.cell j x ?_
  rw [← nod_cells]
  exact hj

theorem ins_get {α : Type} (l : List α) (p : Nat) (a : α) (hp : p ≤ l.length) (i : Nat) (h : i < (l.take p ++ a :: l.drop p).length) :
    (l.take p ++ a :: l.drop p)[i] = if h1 : i < p then l[i]'(by omega) else if h2 : i = p then a else l[i - 1]'(by simp at h; omega) := by
  have ht : (l.take p).length = p := by rw [List.length_take]; omega
  by_cases h1 : i < p
  · rw [dif_pos h1, List.getElem_append_left (by omega), List.getElem_take]
  · rw [dif_neg h1, List.getElem_append_right (by omega)]
    by_cases h2 : i = p
    · subst h2
      rw [dif_pos rfl]
      simp [ht]
    · rw [dif_neg h2]
      have e1 : i - (l.take p).length = (i - p - 1) + 1 := by omega
      simp only [e1, List.getElem_cons_succ, List.getElem_drop]
      congr 1
      omega

theorem IsKids.ins {u : World} {k k' : Kids} {ps : List Plot} {p : Nat} {b : Plot} {t : Tree} (h : IsKids u ps k) (hp : p ≤ k.trees.length) (ht : k'.trees = k.trees.take p ++ t :: k.trees.drop p) (hb : IsTree u b t) : IsKids u (ps.take p ++ b :: ps.drop p) k' := by
  have hpl := h.len
  rw [k.len] at hpl
  refine IsKids.of (by rw [ht]; simp [hpl]) fun i h1 h2 => ?_
  have h3 : k'.trees[i] = (k.trees.take p ++ t :: k.trees.drop p)[i]'(by rw [← ht]; exact h2) := by simp only [ht]
  rw [h3, ins_get ps p b (by omega) i h1, ins_get k.trees p t hp i]
  simp at h1
  by_cases c1 : i < p
  · rw [dif_pos c1, dif_pos c1]
    exact h.at i _ _
  · rw [dif_neg c1, dif_neg c1]
    by_cases c2 : i = p
    · rw [dif_pos c2, dif_pos c2]; exact hb
    · rw [dif_neg c2, dif_neg c2]
      exact h.at (i - 1) _ _

/-- What holds of a call of put. -/
def PutOk (t : Tree) (name : Str) (x : Sum) : Prop := ∀ b : Plot, Does Tryz.prog tb 167 [ptrV b.b, strV name, sumV x] [] (fun u => Glob u ∧ IsTree u b t) (fun b' : Plot => ptrV b'.b) (fun _ => []) (fun b' => Late (fun u => IsTree u b t) (fun u => IsTree u b' (t.put name x)))

set_option maxRecDepth 10000 in
theorem put_ns (s : Str) (r : Str) (x : Sum) (v : Option Sum) (k : Kids) (hk : k.wf) (hth : k.thin 1000) {M : Nat} (hM : M ≤ 900000000) (hm : k.many ≤ M) (hn : (s ++ r).length ≤ 1000)
    (ih : ∀ t : Tree, t.wf → t.thin 1000 → t.many ≤ M → ∀ c r', r = c :: r' → PutOk t r' x)
    (b : Nat) (A : Option Addr) (c : Nat) (B : Option Addr) (d : Nat) (ps : List Plot) (many : Int) (own : Sum) :
    Does Tryz.prog tb 167 [ptrV b, strV (s ++ r), sumV x] [] (fun u => Glob u ∧ Part u b s v k A c B d ps many own) (fun b' : Plot => ptrV b'.b) (fun _ => []) (fun b' => Late (fun u => Part u b s v k A c B d ps many own) (fun u => IsTree u b' ((Tree.node s v k).put (s ++ r) x))) := by
  have hl : lim = 140737488351232 := rfl
  have hlen := kbytes_len hk
  have hsl : s.length ≤ 1000 := by rw [List.length_append] at hn; omega
  have hlcp : lcp s (s ++ r) = s.length := by
    have := lcp_app s [] r
    rw [List.append_nil, lcp_nil2] at this
    exact this
  refine V.Does.enter0 [(0, ptrAt b), (1, strE (s ++ r)), (2, sumE x)] Tryz.func167 rfl Tryz.ntmps167 rfl rfl 0 ?_
  intro m0 K
  refine RunH.adv tb_ok [] rfl rfl (by simp <;> omega) ?_
  refine RunH.read (.av (.val (.bool (some (⟨b, 0, none⟩ : Addr)).isNone))) rfl rfl rfl rfl (fun u q _ ha => op_eqPtr ha rfl rfl rfl rfl) ?_
  refine RunH.adv tb_ok [false] rfl rfl (by simp <;> omega) ?_
  refine RunH.loadS (strE s) rfl rfl rfl rfl (fun u hu => hu.fact.2.2.stem) ?_
  refine RunH.adv tb_ok [] rfl rfl (by simp <;> omega) ?_
  refine RunH.gives (ho := rfl) (hw := rfl) (hd := rfl) (hf := rfl) (hes := rfl) (hc := Tryz.call245) (e := intE (lcp s (s ++ r))) (hC := fun u hu => shared_spec u s (s ++ r) (by omega) (by omega)) ?_
  intro m1 hm1
  rw [hlcp]
  refine RunH.adv tb_ok [] rfl rfl (by simp <;> omega) ?_
  refine RunH.loadS (strE s) rfl rfl rfl rfl (fun u hu => hu.fact.2.2.stem) ?_
  refine RunH.adv tb_ok [false] rfl rfl (by simp <;> omega) ?_
  refine RunH.loadS (nodE s v A k.bytes.length c B ps.length d many own) rfl rfl rfl rfl (fun u hu => hu.fact.2.2.all) ?_
  cases r with
  | nil =>
    simp only [List.append_nil] at *
    refine RunH.adv tb_ok [true] rfl rfl (by simp <;> omega) ?_
    refine RunH.draw rfl [(0, some (.box m0 [.val (sumV x)] 40))] rfl 5 rfl rfl ?_
    refine RunD.adv tb_ok (by kernel_rfl) [] rfl rfl (by simp <;> omega) ?_
    refine RunD.step tb_ok (nx := 2) (i := 2) rfl (by kernel_rfl) rfl rfl rfl ?_ rfl (fun _ h => h) rfl ?_
    · first | trivial | (simp; done)
    refine RunD.adv tb_ok (by kernel_rfl) [] rfl rfl (by simp <;> omega) ?_
    refine RunD.lastOp (i := 4) tb_ok rfl (by kernel_rfl) rfl (by kernel_rfl) (by kernel_rfl) rfl rfl ?_ (Nat.le_refl _) rfl ?_
    · first | trivial | (simp; done)
    intro m2 hm2
    refine RunH.adv tb_ok [] rfl rfl (by simp <;> omega) ?_
    have hmy : (Tree.node s (some x) k).many = 1 + k.many := rfl
    refine RunH.doesB [] 5 (hc := Tryz.call173) (ho := rfl) (hw := rfl) (hd := rfl) (hf := rfl) (hes := rfl) (hσ := rfl) (hn := rfl) (hV := fun _ => rfl) (hG := fun _ => rfl) (e := fun b' : Nat => ptrAt b') (hC := made_spec s (some x) k A c B d ps many own hlen hsl (by rw [hmy]; omega)) (hp := fun u hu => ⟨hu.fact.2.1, hu.fact.2.2.by_, hu.fact.2.2.to_, hu.fact.2.2.kids⟩) ?_
    rintro b' m3 hm3
    refine RunH.drop ?_
    dsimp only
    refine RunH.free (i := 2) rfl ?_
    refine RunH.adv tb_ok [] rfl rfl (by simp <;> omega) ?_
    refine RunH.ret1 Tryz.func167 rfl rfl fun w hst => ⟨.node b' A c B d ps, rfl, hst.out [] rfl rfl fun u h => ⟨h.1.1, fun v' hv hp => ?_⟩⟩
    rw [put_here]
    exact Go.Proofs.YtbfjmimiigjenaaGreatDoor.Part.tree ⟨box_node (holds_late h.2 hv), hp.by_, hp.to_, hp.kids⟩
  | cons e r' =>
    refine RunH.adv tb_ok [false] rfl rfl (by simp <;> omega) ?_
    have g1 : List.getD (s ++ e :: r') ((s.length : Int)).toNat 0 = e := by rw [getD_at (by simp)]; simp
    rw [g1]
    refine RunH.gives (ho := rfl) (hw := rfl) (hd := rfl) (hf := rfl) (hes := rfl) (hc := Tryz.call168) (e := .av (.val (.tuple #[intV (posB k.bytes e), .bool (isB k.bytes e)]))) (hC := fun u hu => branch_spec b e s v k A c B d ps many own u hu.fact.2.2 hlen) ?_
    intro m2 hm2
    rw [put_kid]
    refine RunH.pure (fun u h => (⟨h.2.2.kids.len, h.2.2.to_.ptr0⟩ : ps.length = k.bytes.length ∧ (ps ≠ [] → Ptr B))) fun ⟨hpl, hpB⟩ => ?_
    by_cases hB : isB k.bytes e = true
    · refine RunH.adv tb_ok [true] rfl rfl (by simp [hB] <;> omega) ?_
      refine RunH.tell [(0, ptrAt b), (1, strE (s ++ e :: r')), (5, .av (.box 0 m0 0)), (7, intE s.length), (10, .av (.box 1 m1 0)), (11, intE (posB k.bytes e))] [(0, some (.box m0 [.val (sumV x)] 40)), (1, some (.box m1 (nodF s v A k.bytes.length c B ps.length d many own) 165))] [] rfl rfl rfl 2 ?_
      obtain ⟨hpos, hput⟩ := (kget_pos (n := r') hk).1 hB
      have hkl := k.len
      have hpos' : posB k.bytes e < ps.length := by omega
      obtain ⟨he1, _, he2⟩ := kput_is r' x hk hB
      have hdr : (s ++ e :: r').drop (((s.length : Int) + 1).toNat) = r' := by
        rw [show ((s.length : Int) + 1).toNat = s.length + 1 by omega, ← List.drop_drop, List.drop_left]; rfl
      refine RunH.draw rfl [(0, some (.box m0 [.val (sumV x)] 40))] rfl 21 rfl rfl ?_
      refine RunD.adv tb_ok (by kernel_rfl) [] rfl rfl (by simp <;> omega) ?_
      refine RunD.load (by kernel_rfl) (i := 3) (slE B ps.length d) rfl rfl rfl rfl rfl rfl (fun w' h => h.2.2.lto) ?_
      refine RunD.load (by kernel_rfl) (i := 8) (slE B ps.length d) rfl rfl rfl rfl rfl rfl (fun w' h => h.2.2.lto) ?_
      refine RunD.adv tb_ok (by kernel_rfl) [] rfl rfl (by simp [hpB (fun e => by rw [e] at hpos'; cases hpos')] <;> omega) ?_
      refine RunD.load (by kernel_rfl) (i := 11) (ptrAt ps[posB k.bytes e].b) rfl rfl rfl rfl rfl rfl (fun w' h => h.2.2.to_.load hpos') ?_
      refine RunD.adv tb_ok (by kernel_rfl) [] rfl rfl (by simp <;> omega) ?_
      rw [hdr]
      have hkw := (kid_at hk (posB k.bytes e) hpos (by omega)).1
      have hkm := many_kid (k := k) (posB k.bytes e) hpos
      have hpm := many_kput (n := r') (x := x) (c := e) hk
      have hmy : (Tree.node s v (k.put e r' x)).many ≤ 1000000000 := by
        show (if v.isSome = true then 1 else 0) + (k.put e r' x).many ≤ _
        split at hpm <;> split <;> omega
      have hkids : ∀ u b1, Part u b s v k A c B d ps many own → IsTree u b1 ((k.trees[posB k.bytes e]).put r' x) → IsKids u (ps.set (posB k.bytes e) b1) (k.put e r' x) := by
        intro u b1 hp hb1
        refine IsKids.of (by rw [List.length_set, he2, List.length_set]; omega) fun i h1 h2 => ?_
        rw [List.length_set] at h1
        have h3 : i < k.trees.length := by omega
        have h4 : (k.put e r' x).trees[i] = (k.trees.set (posB k.bytes e) ((k.trees[posB k.bytes e]).put r' x))[i]'(by rw [List.length_set]; exact h3) := by simp only [he2]
        rw [h4, List.getElem_set, List.getElem_set]
        split
        · exact hb1
        · exact hp.kids.at i h1 h3
      refine RunD.doesB (i := 17) [] 2 (fun b1 : Plot => ptrAt b1.b) rfl (by kernel_rfl) rfl rfl rfl rfl Tryz.call167 (ih _ hkw (Kids.thin_at hth _ hpos) (by omega) e r' rfl ps[posB k.bytes e]) rfl rfl (fun _ => rfl) (fun _ => rfl) (fun u hu => ⟨hu.fact.2.1, hu.fact.2.2.kids.at _ hpos' hpos⟩) (fun _ => rfl) (fun _ h => h) ?_
      rintro b1 m3 hm3
      refine RunD.doesB (i := 18) [] 4 (fun y : Option Addr × Nat => rowS 2 y.1 ps.length y.2) rfl (by kernel_rfl) rfl rfl rfl rfl Tryz.call169 (replaced_spec B d ps (posB k.bytes e) b1 hpos' (by omega)) rfl rfl (fun _ => rfl) (fun _ => rfl) (fun u hu => hu.fact.1.2.2.to_) (fun _ => rfl) (fun _ h => h.1) ?_
      rintro ⟨B1, d1⟩ m4 hm4
      refine RunD.adv tb_ok (by kernel_rfl) [] rfl rfl (by simp <;> omega) ?_
      refine RunD.lastOp (i := 20) tb_ok rfl (by kernel_rfl) rfl (by kernel_rfl) (by kernel_rfl) rfl rfl ?_ (Nat.le_refl _) rfl ?_
      · first | trivial | (simp; done)
      intro m5 hm5
      refine RunH.drop ?_
      refine RunH.adv tb_ok [] rfl rfl (by simp <;> omega) ?_
      have hC := made_spec s v (k.put e r' x) A c B1 d1 (ps.set (posB k.bytes e) b1) many own (by rw [he1]; exact hlen) hsl hmy
      rw [he1, List.length_set] at hC
      refine RunH.doesB [] 8 (hc := Tryz.call173) (ho := rfl) (hw := rfl) (hd := rfl) (hf := rfl) (hes := rfl) (hσ := rfl) (hn := rfl) (hV := fun _ => rfl) (hG := fun _ => rfl) (e := fun b' : Nat => ptrAt b') (hC := hC) (hp := fun u hu => ⟨hu.fact.1.2.1, hu.fact.1.2.2.by_, Sl.own (B := m0) (hu.row (κ := kP) (l := ps.set (posB k.bytes e) b1) (id := 2) rfl) (by rw [List.length_set]; omega), hkids u b1 hu.fact.1.2.2 (hu.fact.2.now (hu.fact.1.2.2.kids.at _ hpos' hpos))⟩) ?_
      rintro b' m6 hm6
      refine RunH.drop ?_
      refine RunH.free (i := 4) rfl ?_
      refine RunH.free (i := 2) rfl ?_
      refine RunH.adv tb_ok [] rfl rfl (by simp <;> omega) ?_
      refine RunH.ret1 Tryz.func167 rfl rfl fun w hst => ⟨.node b' A c B1 d1 (ps.set (posB k.bytes e) b1), rfl, hst.out [] rfl rfl fun u h => ⟨h.1.1.1.1, fun v' hv hp => ?_⟩⟩
      have hrow : v'.ownsRow m0 kP.T kP.sz (.slice B1 (ps.set (posB k.bytes e) b1).length d1) (ps.set (posB k.bytes e) b1).length ((ps.set (posB k.bytes e) b1).flatMap kP.cs) := holds_late h.2 hv
      refine Go.Proofs.YtbfjmimiigjenaaGreatDoor.Part.tree (A := A) (c := c) (B := B1) (d := d1) (ps := ps.set (posB k.bytes e) b1) ⟨?_, ?_, Sl.own hrow (by rw [List.length_set]; omega), hkids v' b1 hp (h.1.1.2.up (by omega) hv (hp.kids.at _ hpos' hpos))⟩
      · rw [he1, List.length_set]
        exact box_node (holds_late h.1.2 hv)
      · rw [he1]; exact hp.by_
    · refine RunH.adv tb_ok [false] rfl rfl (by simp [hB] <;> omega) ?_
      refine RunH.tell [(0, ptrAt b), (1, strE (s ++ e :: r')), (5, .av (.box 0 m0 0)), (7, intE s.length), (10, .av (.box 1 m1 0)), (11, intE (posB k.bytes e))] [(0, some (.box m0 [.val (sumV x)] 40)), (1, some (.box m1 (nodF s v A k.bytes.length c B ps.length d many own) 165))] [] rfl rfl rfl 2 ?_
      have hBf : isB k.bytes e = false := by simpa using hB
      have hkl := k.len
      have hple := posB_le k.bytes e
      obtain ⟨he1, he2⟩ := kput_not r' x hBf
      have hdr : (s ++ e :: r').drop (((s.length : Int) + 1).toNat) = r' := by
        rw [show ((s.length : Int) + 1).toNat = s.length + 1 by omega, ← List.drop_drop, List.drop_left]; rfl
      have hpm := many_kput (n := r') (x := x) (c := e) hk
      have hmy : (Tree.node s v (k.put e r' x)).many ≤ 1000000000 := by
        show (if v.isSome = true then 1 else 0) + (k.put e r' x).many ≤ _
        split at hpm <;> split <;> omega
      have hlen' := kbytes_len (kput_wf (c := e) (n := r') (x := x) hk)
      have hrl : r'.length ≤ 1000 := by rw [List.length_append, List.length_cons] at hn; omega
      refine RunH.draw rfl [(0, some (.box m0 [.val (sumV x)] 40))] rfl 25 rfl rfl ?_
      refine RunD.adv tb_ok (by kernel_rfl) [] rfl rfl (by simp <;> omega) ?_
      refine RunD.load (by kernel_rfl) (i := 3) (slE A k.bytes.length c) rfl rfl rfl rfl rfl rfl (fun w' h => h.2.2.lby) ?_
      refine RunD.load (by kernel_rfl) (i := 12) (slE B ps.length d) rfl rfl rfl rfl rfl rfl (fun w' h => h.2.2.lto) ?_
      refine RunD.adv tb_ok (by kernel_rfl) [] rfl rfl (by simp <;> omega) ?_
      rw [hdr]
      rw [g1]
      refine RunD.doesB (i := 8) [] 4 (fun y : Option Addr × Nat => rowS 2 y.1 (k.bytes.take (posB k.bytes e) ++ e :: k.bytes.drop (posB k.bytes e)).length y.2) rfl (by kernel_rfl) rfl rfl rfl rfl Tryz.call246 (insB_spec A c k.bytes (posB k.bytes e) e hple (by omega)) rfl rfl (fun _ => rfl) (fun _ => rfl) (fun u hu => hu.fact.2.2.by_) (fun _ => rfl) (fun _ h => h) ?_
      rintro ⟨A1, c1⟩ m3 hm3
      refine RunD.adv tb_ok (by kernel_rfl) [] rfl rfl (by simp <;> omega) ?_
      refine RunD.doesB (i := 19) [] 4 (fun b1 : Plot => ptrAt b1.b) rfl (by kernel_rfl) rfl rfl rfl rfl Tryz.call167 (put_nil r' x hrl) rfl rfl (fun _ => rfl) (fun _ => rfl) (fun u hu => hu.fact.1.2.1) (fun _ => rfl) (fun _ h => h.1) ?_
      rintro b1 m4 hm4
      refine RunD.adv tb_ok (by kernel_rfl) [] rfl rfl (by simp <;> omega) ?_
      refine RunD.doesB (i := 20) [] 6 (fun y : Option Addr × Nat => rowS 4 y.1 (ps.take (posB k.bytes e) ++ b1 :: ps.drop (posB k.bytes e)).length y.2) rfl (by kernel_rfl) rfl rfl rfl rfl Tryz.call247 (insP_spec B d ps (posB k.bytes e) b1 (by omega) (by omega)) rfl rfl (fun _ => rfl) (fun _ => rfl) (fun u hu => hu.fact.1.1.2.2.to_) (fun _ => rfl) (fun _ h => h.1.1) ?_
      rintro ⟨B1, d1⟩ m5 hm5
      refine RunD.adv tb_ok (by kernel_rfl) [] rfl rfl (by simp <;> omega) ?_
      refine RunD.step tb_ok (nx := 6) (i := 22) rfl (by kernel_rfl) rfl rfl rfl ?_ rfl (fun _ h => h.1.1.1) rfl ?_
      · first | trivial | (simp; done)
      refine RunD.adv tb_ok (by kernel_rfl) [] rfl rfl (by simp <;> omega) ?_
      refine RunD.lastOp (i := 24) tb_ok rfl (by kernel_rfl) rfl (by kernel_rfl) (by kernel_rfl) rfl rfl ?_ (Nat.le_refl _) rfl ?_
      · first | trivial | (simp; done)
      intro m6 hm6
      refine RunH.drop ?_
      refine RunH.adv tb_ok [] rfl rfl (by simp <;> omega) ?_
      have hC := made_spec s v (k.put e r' x) A1 c1 B1 d1 (ps.take (posB k.bytes e) ++ b1 :: ps.drop (posB k.bytes e)) many own hlen' hsl hmy
      rw [he1] at hC
      have hkids : ∀ u, Part u b s v k A c B d ps many own → IsTree u b1 (leaf r' x) → IsKids u (ps.take (posB k.bytes e) ++ b1 :: ps.drop (posB k.bytes e)) (k.put e r' x) := fun u hp hb1 => hp.kids.ins (by omega) he2 hb1
      have hl1 : (k.bytes.take (posB k.bytes e) ++ e :: k.bytes.drop (posB k.bytes e)).length ≤ lim := by rw [← he1]; omega
      have hl2 : (ps.take (posB k.bytes e) ++ b1 :: ps.drop (posB k.bytes e)).length ≤ lim := by simp [hl]; omega
      refine RunH.doesB [] 9 (hc := Tryz.call173) (ho := rfl) (hw := rfl) (hd := rfl) (hf := rfl) (hes := rfl) (hσ := rfl) (hn := rfl) (hV := fun _ => rfl) (hG := fun _ => rfl) (e := fun b' : Nat => ptrAt b') (hC := hC) (hp := fun u hu => ⟨hu.fact.1.1.2.1, Sl.own (B := m0) (hu.row (κ := kByte) (l := k.bytes.take (posB k.bytes e) ++ e :: k.bytes.drop (posB k.bytes e)) (id := 2) rfl) hl1, Sl.own (B := m0) (hu.row (κ := kP) (l := ps.take (posB k.bytes e) ++ b1 :: ps.drop (posB k.bytes e)) (id := 4) rfl) hl2, hkids u hu.fact.1.1.2.2 (hu.fact.2.now trivial)⟩) ?_
      rintro b' m7 hm7
      refine RunH.drop ?_
      refine RunH.free (i := 6) rfl ?_
      refine RunH.free (i := 4) rfl ?_
      refine RunH.free (i := 2) rfl ?_
      refine RunH.adv tb_ok [] rfl rfl (by simp <;> omega) ?_
      refine RunH.ret1 Tryz.func167 rfl rfl fun w hst => ⟨.node b' A1 c1 B1 d1 (ps.take (posB k.bytes e) ++ b1 :: ps.drop (posB k.bytes e)), rfl, hst.out [] rfl rfl fun u h => ⟨h.1.1.1.1.1.1, fun v' hv hp => ?_⟩⟩
      have hr1 : v'.ownsRow m0 kByte.T kByte.sz (.slice A1 (k.bytes.take (posB k.bytes e) ++ e :: k.bytes.drop (posB k.bytes e)).length c1) (k.bytes.take (posB k.bytes e) ++ e :: k.bytes.drop (posB k.bytes e)).length ((k.bytes.take (posB k.bytes e) ++ e :: k.bytes.drop (posB k.bytes e)).flatMap kByte.cs) := holds_late h.2 hv
      have hr2 : v'.ownsRow m0 kP.T kP.sz (.slice B1 (ps.take (posB k.bytes e) ++ b1 :: ps.drop (posB k.bytes e)).length d1) (ps.take (posB k.bytes e) ++ b1 :: ps.drop (posB k.bytes e)).length ((ps.take (posB k.bytes e) ++ b1 :: ps.drop (posB k.bytes e)).flatMap kP.cs) := holds_late h.1.2 hv
      refine Go.Proofs.YtbfjmimiigjenaaGreatDoor.Part.tree (A := A1) (c := c1) (B := B1) (d := d1) (ps := ps.take (posB k.bytes e) ++ b1 :: ps.drop (posB k.bytes e)) ⟨?_, ?_, Sl.own hr2 hl2, hkids v' hp (h.1.1.1.2.up (by omega) hv trivial)⟩
      · rw [he1]
        exact box_node (holds_late h.1.1.2 hv)
      · rw [he1]; exact Sl.own hr1 hl1
end Go.Proofs.YtbfjmimiigjenaaGreatDoor

namespace Go.Proofs.YtbfjmimiigjenaaGreatDoor
open Go V RowKit

section
variable {P : Program} {f : Fr} {n : Nat} {S : Stops} {R : Ending → World → Prop} {tb : TT} {B0 : Nat} {I : World → Prop} {H : Heap} {nx m : Nat} {env : SEnv} {todo k : List Item}
variable {α : Type} {ops : Array Oper} {i : Nat} {l : List Bool} {o : Oper}
variable {rs : List Nat} {d : Nat} {fo : Operand} {args : Array Operand} {tys : Array TypeId} {ty : TypeId} {ps : String} {af : Array Edge} {gd : Option (Nat × Bool)} {g : FuncId} {es : List EV} {f1 c1 : List Value}
theorem V.opD_doesB {G0 : Heap} {I0 : World → Prop} {fuel : Nat} {Gi : Heap} {pre : World → Prop} {W : α → Value} {G' : α → Heap} {J : α → Nat → World → Prop} [∀ x, From (J x)] (σ : List (Nat × Nat)) (nx nx' : Nat) (e : α → EV)
    (ho : ops.toList[i]? = some ⟨some d, .call ⟨.value fo, args, tys⟩, ty, ps, af, gd⟩) (hw : wantE env ops gd = .yes) (hd : Nat.blt d n = true) (hf : fnE (evE env fo) = some (g, f1, c1)) (hes : evsE env args.toList = some es)
    (hc : ∀ (xs : Array Value) w, (callFunc g xs).run P w = .ok (.enter g xs) w) (hC : Does P tb g (f1 ++ es.map EV.v ++ c1) Gi pre W G' J)
    (hσ : SelEq Gi H σ) (hn : nodupN (Gi.map fun p => ren σ p.1) = true) (hV : ∀ x, W x = (e x).v) (hG : ∀ x, nodupN ((G' x).map fun p => renB Gi σ nx p.1) = true) (hp : ∀ u, St tb B0 (rest Gi H σ) I u → pre u)
    (hG0 : ∀ x, SubH G0 (afterH Gi (G' x) H σ nx)) (hI : ∀ w, I w → I0 w)
    (hk : ∀ x m', m ≤ m' → RunD P f n tb B0 S R k ops G0 I0 fuel (l.set i true) ((d, e x) :: env) (afterH Gi (G' x) H σ nx) nx' m' (fun u => I u ∧ J x m u)) :
    ∀ w a, w.heap.size = m → St tb B0 H I w → Agree n a (kn env) → wpOp P ops (QD P f n S R k) i (fun a' w' => St tb B0 G0 I0 w' ∧ V.wpAnyH P .any ops (QD P f n S R k) (St tb B0 G0 I0) fuel (l.set i true).toArray a' w') a w :=
  let ⟨_, h1, h2⟩ := fnE_ok hf; opD_go ho hw (OpGo.doesB σ nx e hd h1 h2 hes hc hC hσ hn hp hV hG) nx' hG0 (fun _ w h => hI w h.1) hk
end

section
variable {P : Program} {f : Fr} {n : Nat} {S : Stops} {R : Ending → World → Prop} {tb : TT} {B0 : Nat} {I : World → Prop} {H : Heap} {nx m : Nat} {env : SEnv} {todo : List Item}
theorem V.RunH.above {id k : Nat} {x : HE} (hH : lookH H id = some x) (hk : x.blk = some k) (h : B0 ≤ k → k < m → RunH P f n tb B0 S R todo env H nx m I) : RunH P f n tb B0 S R todo env H nx m I :=
  fun w hm hst => h (HE.lt (hst.holds id x hH) hk).1 (hm ▸ (HE.lt (hst.holds id x hH) hk).2) w hm hst
end

theorem put_split_eq (p : Str) (e : UInt8) (q r : Str) (v : Option Sum) (k : Kids) (x : Sum) (hr : r = [] ∨ ∃ c r', r = c :: r' ∧ e ≠ c) :
    (Tree.node (p ++ e :: q) v k).put (p ++ r) x = (Tree.node p none (.cons e (.node q v k) .nil)).put (p ++ r) x := by
  rcases hr with rfl | ⟨c, r', rfl, h⟩
  · rw [List.append_nil, put_up, put_here]
  · rw [put_fork _ _ _ _ _ _ _ _ h, put_kid]
    congr 1
    unfold Kids.ins Kids.put
    by_cases h1 : e < c
    · rw [if_pos h1, if_pos h1]; rfl
    · rw [if_neg h1, if_neg h1, if_neg h]

set_option maxRecDepth 10000 in
set_option maxHeartbeats 4000000 in
theorem put_split (p : Str) (e : UInt8) (q r : Str) (x : Sum) (v : Option Sum) (k : Kids) (hk : k.wf) (hth : k.thin 1000) {M : Nat} (hM : M ≤ 900000000) (hm : (Tree.node q v k).many ≤ M) (hs : (p ++ e :: q).length ≤ 1000) (hn : (p ++ r).length ≤ 1000)
    (hr : r = [] ∨ ∃ c r', r = c :: r' ∧ e ≠ c) (ih : ∀ t : Tree, t.wf → t.thin 1000 → t.many ≤ M → ∀ c r', r = c :: r' → PutOk t r' x) (hv : (Tree.node q v k).wf)
    (b : Nat) (A : Option Addr) (c : Nat) (B : Option Addr) (d : Nat) (ps : List Plot) (many : Int) (own : Sum) :
    Does Tryz.prog tb 167 [ptrV b, strV (p ++ r), sumV x] [] (fun u => Glob u ∧ Part u b (p ++ e :: q) v k A c B d ps many own) (fun b' : Plot => ptrV b'.b) (fun _ => []) (fun b' => Late (fun u => Part u b (p ++ e :: q) v k A c B d ps many own) (fun u => IsTree u b' ((Tree.node (p ++ e :: q) v k).put (p ++ r) x))) := by
  have hl : lim = 140737488351232 := rfl
  have hlen := kbytes_len hk
  have hpl : p.length ≤ 1000 := by rw [List.length_append] at hs; omega
  have hql : q.length ≤ 1000 := by rw [List.length_append, List.length_cons] at hs; omega
  have hlcp : lcp (p ++ e :: q) (p ++ r) = p.length := by
    rw [lcp_app]
    rcases hr with rfl | ⟨c, r', rfl, h⟩
    · rw [lcp_nil]; rfl
    · rw [lcp_ne h]; rfl
  have hsl : (p ++ e :: q).length = p.length + (q.length + 1) := by rw [List.length_append, List.length_cons]
  have hdr : (p ++ e :: q).drop (((p.length : Int) + 1).toNat) = q := by
    rw [show ((p.length : Int) + 1).toNat = p.length + 1 by omega, ← List.drop_drop, List.drop_left]; rfl
  have htk : (p ++ e :: q).take ((p.length : Int)).toNat = p := by rw [Int.toNat_natCast, List.take_left]
  have hg1 : List.getD (p ++ e :: q) ((p.length : Int)).toNat 0 = e := by rw [getD_at (by rw [hsl]; omega)]; simp
  have hmy : (Tree.node q v k).many ≤ 1000000000 := by omega
  rw [put_split_eq p e q r v k x hr]
  refine V.Does.enter0 [(0, ptrAt b), (1, strE (p ++ r)), (2, sumE x)] Tryz.func167 rfl Tryz.ntmps167 rfl rfl 0 ?_
  intro m0 K
  refine RunH.adv tb_ok [] rfl rfl (by simp <;> omega) ?_
  refine RunH.read (.av (.val (.bool (some (⟨b, 0, none⟩ : Addr)).isNone))) rfl rfl rfl rfl (fun u q _ ha => op_eqPtr ha rfl rfl rfl rfl) ?_
  refine RunH.adv tb_ok [false] rfl rfl (by simp <;> omega) ?_
  refine RunH.loadS (strE (p ++ e :: q)) rfl rfl rfl rfl (fun u hu => hu.fact.2.2.stem) ?_
  refine RunH.adv tb_ok [] rfl rfl (by simp <;> omega) ?_
  refine RunH.gives (ho := rfl) (hw := rfl) (hd := rfl) (hf := rfl) (hes := rfl) (hc := Tryz.call245) (e := intE (lcp (p ++ e :: q) (p ++ r))) (hC := fun u hu => shared_spec u (p ++ e :: q) (p ++ r) (by omega) (by omega)) ?_
  intro m1 hm1
  rw [hlcp]
  refine RunH.adv tb_ok [] rfl rfl (by simp <;> omega) ?_
  refine RunH.loadS (strE (p ++ e :: q)) rfl rfl rfl rfl (fun u hu => hu.fact.2.2.stem) ?_
  refine RunH.adv tb_ok [true] rfl rfl (by simp <;> omega) ?_
  refine RunH.loadS (nodE (p ++ e :: q) v A k.bytes.length c B ps.length d many own) rfl rfl rfl rfl (fun u hu => hu.fact.2.2.all) ?_
  refine RunH.adv tb_ok [] rfl rfl (by simp <;> omega) ?_
  refine RunH.loadS (strE (p ++ e :: q)) rfl rfl rfl rfl (fun u hu => hu.fact.2.2.stem) ?_
  refine RunH.adv tb_ok [] rfl rfl (by simp <;> omega) ?_
  rw [hdr]
  refine RunH.tell [(0, ptrAt b), (1, strE (p ++ r)), (5, .av (.box 0 m0 0)), (7, intE p.length), (8, .av (.box 1 m1 0))] [(0, some (.box m0 [.val (sumV x)] 40)), (1, some (.box m1 (nodF q v A k.bytes.length c B ps.length d many own) 165))] [] rfl rfl rfl 2 ?_
  apply RunH.joinK (α := Nat × Nat × Nat × Nat) (fun z => [(1, strE (p ++ r)), (5, .av (.box 0 m0 0)), (9, .av (.box 17 z.1 0))]) (fun z => [(0, some (.box m0 [.val (sumV x)] 40)), (17, some (.box z.1 [.val (strV p), .val (.bool false), .val (sumV Sum.zero), .val (.slice (some ⟨z.2.1, 0, none⟩) 1 1), .val (.slice (some ⟨z.2.2.1, 0, none⟩) 1 1), .val (intV 0), .val (sumV Sum.zero)] 165)), (12, rowE kByte (some ⟨z.2.1, 0, none⟩) 1 [e]), (15, rowE kP (some ⟨z.2.2.1, 0, none⟩) 1 [Plot.node z.2.2.2 A c B d ps]), (14, some (.box z.2.2.2 (nodF q v A k.bytes.length c B ps.length d (Tree.node q v k).many (Tree.node q v k).own) 165))]) (fun _ u => K u ∧ (Glob u ∧ Part u b (p ++ e :: q) v k A c B d ps many own))
  · refine RunH.draw rfl [(1, some (.box m1 (nodF q v A k.bytes.length c B ps.length d many own) 165))] rfl 19 rfl rfl ?_
    refine RunD.adv tb_ok (by kernel_rfl) [] rfl rfl (by simp <;> omega) ?_
    refine RunD.load (by kernel_rfl) (i := 3) (strE (p ++ e :: q)) rfl rfl rfl rfl rfl rfl (fun w' h => h.2.2.stem) ?_
    refine RunD.load (by kernel_rfl) (i := 9) (strE (p ++ e :: q)) rfl rfl rfl rfl rfl rfl (fun w' h => h.2.2.stem) ?_
    refine RunD.adv tb_ok (by kernel_rfl) [] rfl rfl (by simp <;> omega) ?_
    rw [htk, hg1]
    refine RunD.three (i := 12) (j := 14) (q := 17) (by kernel_rfl) ?_ ?_ ?_
    · refine opD_step tb_ok (nx := 12) (i := 12) rfl rfl rfl rfl ?_ rfl (fun _ h => h) ⟨rfl, rfl⟩ ?_
      · first | trivial | (simp; done)
      refine RunD.adv tb_ok (by kernel_rfl) [] rfl rfl (by simp <;> omega) ?_
      refine RunD.two (i := 14) (j := 17) (by kernel_rfl) ?_ ?_
      · refine V.opD_doesB (i := 14) [] 14 20 (e := fun b1 : Nat => ptrAt b1) rfl rfl rfl rfl rfl Tryz.call173 (made_spec q v k A c B d ps many own hlen hql hmy) rfl rfl (fun _ => rfl) (fun _ => rfl) (fun u hu => ⟨hu.fact.2.1, hu.fact.2.2.by_, hu.fact.2.2.to_, hu.fact.2.2.kids⟩) (fun _ => rfl) (fun _ h => h) ?_
        rintro b14 m14 hm14
        refine RunD.adv tb_ok (by kernel_rfl) [] rfl rfl (by simp <;> omega) ?_
        refine RunD.two (i := 15) (j := 17) (by kernel_rfl) ?_ ?_
        · refine opD_step tb_ok (nx := 15) (i := 15) rfl rfl rfl rfl ?_ rfl (fun _ h => h.1) ⟨rfl, rfl⟩ ?_
          · first | trivial | (simp; done)
          refine RunD.adv tb_ok (by kernel_rfl) [] rfl rfl (by simp <;> omega) ?_
          refine RunD.step tb_ok (nx := 17) (i := 17) rfl (by kernel_rfl) rfl rfl rfl ?_ rfl (fun _ h => h.1) ⟨rfl, rfl⟩ ?_
          · first | trivial | (simp; done)
          refine RunD.adv tb_ok (by kernel_rfl) [] rfl rfl (by simp <;> omega) ?_
          refine RunD.lastOp (i := 18) tb_ok rfl (by kernel_rfl) rfl (by kernel_rfl) (by kernel_rfl) rfl rfl ?_ (Nat.le_refl _) rfl ?_
          · first | trivial | (simp; done)
          intro m18 hm18
          exact RunH.meetS (m14 + 1, m1 + 1, m14, b14) [] (.head _) rfl rfl rfl fun u h => h.1
        · refine opD_step tb_ok (nx := 17) (i := 17) rfl rfl rfl rfl ?_ rfl (fun _ h => h.1) ⟨rfl, rfl⟩ ?_
          · first | trivial | (simp; done)
          refine RunD.adv tb_ok (by kernel_rfl) [] rfl rfl (by simp <;> omega) ?_
          refine RunD.step tb_ok (nx := 15) (i := 15) rfl (by kernel_rfl) rfl rfl rfl ?_ rfl (fun _ h => h.1) ⟨rfl, rfl⟩ ?_
          · first | trivial | (simp; done)
          refine RunD.adv tb_ok (by kernel_rfl) [] rfl rfl (by simp <;> omega) ?_
          refine RunD.lastOp (i := 18) tb_ok rfl (by kernel_rfl) rfl (by kernel_rfl) (by kernel_rfl) rfl rfl ?_ (Nat.le_refl _) rfl ?_
          · first | trivial | (simp; done)
          intro m18 hm18
          exact RunH.meetS (m14, m1 + 1, m14 + 1, b14) [] (.head _) rfl rfl rfl fun u h => h.1
      · refine opD_step tb_ok (nx := 17) (i := 17) rfl rfl rfl rfl ?_ rfl (fun _ h => h) ⟨rfl, rfl⟩ ?_
        · first | trivial | (simp; done)
        refine RunD.adv tb_ok (by kernel_rfl) [] rfl rfl (by simp <;> omega) ?_
        refine RunD.doesB (nx := 14) (i := 14) [] 20 (e := fun b1 : Nat => ptrAt b1) rfl (by kernel_rfl) rfl rfl rfl rfl Tryz.call173 (made_spec q v k A c B d ps many own hlen hql hmy) rfl rfl (fun _ => rfl) (fun _ => rfl) (fun u hu => ⟨hu.fact.2.1, hu.fact.2.2.by_, hu.fact.2.2.to_, hu.fact.2.2.kids⟩) (fun _ => rfl) (fun _ h => h) ?_
        rintro b14 m14 hm14
        refine RunD.adv tb_ok (by kernel_rfl) [] rfl rfl (by simp <;> omega) ?_
        refine RunD.step tb_ok (nx := 15) (i := 15) rfl (by kernel_rfl) rfl rfl rfl ?_ rfl (fun _ h => h.1) ⟨rfl, rfl⟩ ?_
        · first | trivial | (simp; done)
        refine RunD.adv tb_ok (by kernel_rfl) [] rfl rfl (by simp <;> omega) ?_
        refine RunD.lastOp (i := 18) tb_ok rfl (by kernel_rfl) rfl (by kernel_rfl) (by kernel_rfl) rfl rfl ?_ (Nat.le_refl _) rfl ?_
        · first | trivial | (simp; done)
        intro m18 hm18
        exact RunH.meetS (m1 + 1 + 1, m1 + 1, m14, b14) [] (.head _) rfl rfl rfl fun u h => h.1
    · refine V.opD_doesB (i := 14) [] 14 20 (e := fun b1 : Nat => ptrAt b1) rfl rfl rfl rfl rfl Tryz.call173 (made_spec q v k A c B d ps many own hlen hql hmy) rfl rfl (fun _ => rfl) (fun _ => rfl) (fun u hu => ⟨hu.fact.2.1, hu.fact.2.2.by_, hu.fact.2.2.to_, hu.fact.2.2.kids⟩) (fun _ => rfl) (fun _ h => h) ?_
      rintro b14 m14 hm14
      refine RunD.adv tb_ok (by kernel_rfl) [] rfl rfl (by simp <;> omega) ?_
      refine RunD.three (i := 12) (j := 15) (q := 17) (by kernel_rfl) ?_ ?_ ?_
      · refine opD_step tb_ok (nx := 12) (i := 12) rfl rfl rfl rfl ?_ rfl (fun _ h => h.1) ⟨rfl, rfl⟩ ?_
        · first | trivial | (simp; done)
        refine RunD.adv tb_ok (by kernel_rfl) [] rfl rfl (by simp <;> omega) ?_
        refine RunD.two (i := 15) (j := 17) (by kernel_rfl) ?_ ?_
        · refine opD_step tb_ok (nx := 15) (i := 15) rfl rfl rfl rfl ?_ rfl (fun _ h => h.1) ⟨rfl, rfl⟩ ?_
          · first | trivial | (simp; done)
          refine RunD.adv tb_ok (by kernel_rfl) [] rfl rfl (by simp <;> omega) ?_
          refine RunD.step tb_ok (nx := 17) (i := 17) rfl (by kernel_rfl) rfl rfl rfl ?_ rfl (fun _ h => h.1) ⟨rfl, rfl⟩ ?_
          · first | trivial | (simp; done)
          refine RunD.adv tb_ok (by kernel_rfl) [] rfl rfl (by simp <;> omega) ?_
          refine RunD.lastOp (i := 18) tb_ok rfl (by kernel_rfl) rfl (by kernel_rfl) (by kernel_rfl) rfl rfl ?_ (Nat.le_refl _) rfl ?_
          · first | trivial | (simp; done)
          intro m18 hm18
          exact RunH.meetS (m14 + 1 + 1, m14, m14 + 1, b14) [] (.head _) rfl rfl rfl fun u h => h.1
        · refine opD_step tb_ok (nx := 17) (i := 17) rfl rfl rfl rfl ?_ rfl (fun _ h => h.1) ⟨rfl, rfl⟩ ?_
          · first | trivial | (simp; done)
          refine RunD.adv tb_ok (by kernel_rfl) [] rfl rfl (by simp <;> omega) ?_
          refine RunD.step tb_ok (nx := 15) (i := 15) rfl (by kernel_rfl) rfl rfl rfl ?_ rfl (fun _ h => h.1) ⟨rfl, rfl⟩ ?_
          · first | trivial | (simp; done)
          refine RunD.adv tb_ok (by kernel_rfl) [] rfl rfl (by simp <;> omega) ?_
          refine RunD.lastOp (i := 18) tb_ok rfl (by kernel_rfl) rfl (by kernel_rfl) (by kernel_rfl) rfl rfl ?_ (Nat.le_refl _) rfl ?_
          · first | trivial | (simp; done)
          intro m18 hm18
          exact RunH.meetS (m14 + 1, m14, m14 + 1 + 1, b14) [] (.head _) rfl rfl rfl fun u h => h.1
      · refine opD_step tb_ok (nx := 15) (i := 15) rfl rfl rfl rfl ?_ rfl (fun _ h => h.1) ⟨rfl, rfl⟩ ?_
        · first | trivial | (simp; done)
        refine RunD.adv tb_ok (by kernel_rfl) [] rfl rfl (by simp <;> omega) ?_
        refine RunD.two (i := 12) (j := 17) (by kernel_rfl) ?_ ?_
        · refine opD_step tb_ok (nx := 12) (i := 12) rfl rfl rfl rfl ?_ rfl (fun _ h => h.1) ⟨rfl, rfl⟩ ?_
          · first | trivial | (simp; done)
          refine RunD.adv tb_ok (by kernel_rfl) [] rfl rfl (by simp <;> omega) ?_
          refine RunD.step tb_ok (nx := 17) (i := 17) rfl (by kernel_rfl) rfl rfl rfl ?_ rfl (fun _ h => h.1) ⟨rfl, rfl⟩ ?_
          · first | trivial | (simp; done)
          refine RunD.adv tb_ok (by kernel_rfl) [] rfl rfl (by simp <;> omega) ?_
          refine RunD.lastOp (i := 18) tb_ok rfl (by kernel_rfl) rfl (by kernel_rfl) (by kernel_rfl) rfl rfl ?_ (Nat.le_refl _) rfl ?_
          · first | trivial | (simp; done)
          intro m18 hm18
          exact RunH.meetS (m14 + 1 + 1, m14 + 1, m14, b14) [] (.head _) rfl rfl rfl fun u h => h.1
        · refine opD_step tb_ok (nx := 17) (i := 17) rfl rfl rfl rfl ?_ rfl (fun _ h => h.1) ⟨rfl, rfl⟩ ?_
          · first | trivial | (simp; done)
          refine RunD.adv tb_ok (by kernel_rfl) [] rfl rfl (by simp <;> omega) ?_
          refine RunD.step tb_ok (nx := 12) (i := 12) rfl (by kernel_rfl) rfl rfl rfl ?_ rfl (fun _ h => h.1) ⟨rfl, rfl⟩ ?_
          · first | trivial | (simp; done)
          refine RunD.adv tb_ok (by kernel_rfl) [] rfl rfl (by simp <;> omega) ?_
          refine RunD.lastOp (i := 18) tb_ok rfl (by kernel_rfl) rfl (by kernel_rfl) (by kernel_rfl) rfl rfl ?_ (Nat.le_refl _) rfl ?_
          · first | trivial | (simp; done)
          intro m18 hm18
          exact RunH.meetS (m14 + 1, m14 + 1 + 1, m14, b14) [] (.head _) rfl rfl rfl fun u h => h.1
      · refine opD_step tb_ok (nx := 17) (i := 17) rfl rfl rfl rfl ?_ rfl (fun _ h => h.1) ⟨rfl, rfl⟩ ?_
        · first | trivial | (simp; done)
        refine RunD.adv tb_ok (by kernel_rfl) [] rfl rfl (by simp <;> omega) ?_
        refine RunD.two (i := 12) (j := 15) (by kernel_rfl) ?_ ?_
        · refine opD_step tb_ok (nx := 12) (i := 12) rfl rfl rfl rfl ?_ rfl (fun _ h => h.1) ⟨rfl, rfl⟩ ?_
          · first | trivial | (simp; done)
          refine RunD.adv tb_ok (by kernel_rfl) [] rfl rfl (by simp <;> omega) ?_
          refine RunD.step tb_ok (nx := 15) (i := 15) rfl (by kernel_rfl) rfl rfl rfl ?_ rfl (fun _ h => h.1) ⟨rfl, rfl⟩ ?_
          · first | trivial | (simp; done)
          refine RunD.adv tb_ok (by kernel_rfl) [] rfl rfl (by simp <;> omega) ?_
          refine RunD.lastOp (i := 18) tb_ok rfl (by kernel_rfl) rfl (by kernel_rfl) (by kernel_rfl) rfl rfl ?_ (Nat.le_refl _) rfl ?_
          · first | trivial | (simp; done)
          intro m18 hm18
          exact RunH.meetS (m14, m14 + 1, m14 + 1 + 1, b14) [] (.head _) rfl rfl rfl fun u h => h.1
        · refine opD_step tb_ok (nx := 15) (i := 15) rfl rfl rfl rfl ?_ rfl (fun _ h => h.1) ⟨rfl, rfl⟩ ?_
          · first | trivial | (simp; done)
          refine RunD.adv tb_ok (by kernel_rfl) [] rfl rfl (by simp <;> omega) ?_
          refine RunD.step tb_ok (nx := 12) (i := 12) rfl (by kernel_rfl) rfl rfl rfl ?_ rfl (fun _ h => h.1) ⟨rfl, rfl⟩ ?_
          · first | trivial | (simp; done)
          refine RunD.adv tb_ok (by kernel_rfl) [] rfl rfl (by simp <;> omega) ?_
          refine RunD.lastOp (i := 18) tb_ok rfl (by kernel_rfl) rfl (by kernel_rfl) (by kernel_rfl) rfl rfl ?_ (Nat.le_refl _) rfl ?_
          · first | trivial | (simp; done)
          intro m18 hm18
          exact RunH.meetS (m14, m14 + 1 + 1, m14 + 1, b14) [] (.head _) rfl rfl rfl fun u h => h.1
    · refine opD_step tb_ok (nx := 17) (i := 17) rfl rfl rfl rfl ?_ rfl (fun _ h => h) ⟨rfl, rfl⟩ ?_
      · first | trivial | (simp; done)
      refine RunD.adv tb_ok (by kernel_rfl) [] rfl rfl (by simp <;> omega) ?_
      refine RunD.two (i := 12) (j := 14) (by kernel_rfl) ?_ ?_
      · refine opD_step tb_ok (nx := 12) (i := 12) rfl rfl rfl rfl ?_ rfl (fun _ h => h) ⟨rfl, rfl⟩ ?_
        · first | trivial | (simp; done)
        refine RunD.adv tb_ok (by kernel_rfl) [] rfl rfl (by simp <;> omega) ?_
        refine RunD.doesB (nx := 14) (i := 14) [] 20 (e := fun b1 : Nat => ptrAt b1) rfl (by kernel_rfl) rfl rfl rfl rfl Tryz.call173 (made_spec q v k A c B d ps many own hlen hql hmy) rfl rfl (fun _ => rfl) (fun _ => rfl) (fun u hu => ⟨hu.fact.2.1, hu.fact.2.2.by_, hu.fact.2.2.to_, hu.fact.2.2.kids⟩) (fun _ => rfl) (fun _ h => h) ?_
        rintro b14 m14 hm14
        refine RunD.adv tb_ok (by kernel_rfl) [] rfl rfl (by simp <;> omega) ?_
        refine RunD.step tb_ok (nx := 15) (i := 15) rfl (by kernel_rfl) rfl rfl rfl ?_ rfl (fun _ h => h.1) ⟨rfl, rfl⟩ ?_
        · first | trivial | (simp; done)
        refine RunD.adv tb_ok (by kernel_rfl) [] rfl rfl (by simp <;> omega) ?_
        refine RunD.lastOp (i := 18) tb_ok rfl (by kernel_rfl) rfl (by kernel_rfl) (by kernel_rfl) rfl rfl ?_ (Nat.le_refl _) rfl ?_
        · first | trivial | (simp; done)
        intro m18 hm18
        exact RunH.meetS (m1 + 1, m1 + 1 + 1, m14, b14) [] (.head _) rfl rfl rfl fun u h => h.1
      · refine V.opD_doesB (i := 14) [] 14 20 (e := fun b1 : Nat => ptrAt b1) rfl rfl rfl rfl rfl Tryz.call173 (made_spec q v k A c B d ps many own hlen hql hmy) rfl rfl (fun _ => rfl) (fun _ => rfl) (fun u hu => ⟨hu.fact.2.1, hu.fact.2.2.by_, hu.fact.2.2.to_, hu.fact.2.2.kids⟩) (fun _ => rfl) (fun _ h => h) ?_
        rintro b14 m14 hm14
        refine RunD.adv tb_ok (by kernel_rfl) [] rfl rfl (by simp <;> omega) ?_
        refine RunD.two (i := 12) (j := 15) (by kernel_rfl) ?_ ?_
        · refine opD_step tb_ok (nx := 12) (i := 12) rfl rfl rfl rfl ?_ rfl (fun _ h => h.1) ⟨rfl, rfl⟩ ?_
          · first | trivial | (simp; done)
          refine RunD.adv tb_ok (by kernel_rfl) [] rfl rfl (by simp <;> omega) ?_
          refine RunD.step tb_ok (nx := 15) (i := 15) rfl (by kernel_rfl) rfl rfl rfl ?_ rfl (fun _ h => h.1) ⟨rfl, rfl⟩ ?_
          · first | trivial | (simp; done)
          refine RunD.adv tb_ok (by kernel_rfl) [] rfl rfl (by simp <;> omega) ?_
          refine RunD.lastOp (i := 18) tb_ok rfl (by kernel_rfl) rfl (by kernel_rfl) (by kernel_rfl) rfl rfl ?_ (Nat.le_refl _) rfl ?_
          · first | trivial | (simp; done)
          intro m18 hm18
          exact RunH.meetS (m1 + 1, m14, m14 + 1, b14) [] (.head _) rfl rfl rfl fun u h => h.1
        · refine opD_step tb_ok (nx := 15) (i := 15) rfl rfl rfl rfl ?_ rfl (fun _ h => h.1) ⟨rfl, rfl⟩ ?_
          · first | trivial | (simp; done)
          refine RunD.adv tb_ok (by kernel_rfl) [] rfl rfl (by simp <;> omega) ?_
          refine RunD.step tb_ok (nx := 12) (i := 12) rfl (by kernel_rfl) rfl rfl rfl ?_ rfl (fun _ h => h.1) ⟨rfl, rfl⟩ ?_
          · first | trivial | (simp; done)
          refine RunD.adv tb_ok (by kernel_rfl) [] rfl rfl (by simp <;> omega) ?_
          refine RunD.lastOp (i := 18) tb_ok rfl (by kernel_rfl) rfl (by kernel_rfl) (by kernel_rfl) rfl rfl ?_ (Nat.le_refl _) rfl ?_
          · first | trivial | (simp; done)
          intro m18 hm18
          exact RunH.meetS (m1 + 1, m14 + 1, m14, b14) [] (.head _) rfl rfl rfl fun u h => h.1
  rintro ⟨mz, ma, mp, bl⟩ m2
  refine RunH.toNx 20 ?_
  dsimp only
  refine RunH.above (id := 17) rfl rfl fun hz1 hz2 => ?_
  have hmid : ∀ u, Part u b (p ++ e :: q) v k A c B d ps many own → (HE.box mz [.val (strV p), .val (.bool false), .val (sumV Sum.zero), .val (.slice (some ⟨ma, 0, none⟩) 1 1), .val (.slice (some ⟨mp, 0, none⟩) 1 1), .val (intV 0), .val (sumV Sum.zero)] 165).holds tb m0 u → (HE.row (.slice (some ⟨ma, 0, none⟩) 1 1) kByte.T kByte.sz 1 ([e].flatMap kByte.cs)).holds tb m0 u → (HE.row (.slice (some ⟨mp, 0, none⟩) 1 1) kP.T kP.sz 1 ([Plot.node bl A c B d ps].flatMap kP.cs)).holds tb m0 u → (HE.box bl (nodF q v A k.bytes.length c B ps.length d (Tree.node q v k).many (Tree.node q v k).own) 165).holds tb m0 u →
      Part u mz p none (.cons e (.node q v k) .nil) (some ⟨ma, 0, none⟩) 1 (some ⟨mp, 0, none⟩) 1 [Plot.node bl A c B d ps] 0 Sum.zero := by
    intro u hp h1 h2 h3 h4
    have hs1 : (1 : Nat) ≤ lim := by rw [hl]; decide
    refine ⟨box_node h1, Sl.own (κ := kByte) (l := [e]) h2 hs1, Sl.own (κ := kP) (l := [Plot.node bl A c B d ps]) h3 hs1, ?_⟩
    unfold IsKids
    exact ⟨Go.Proofs.YtbfjmimiigjenaaGreatDoor.Part.tree ⟨box_node h4, hp.by_, hp.to_, hp.kids⟩, trivial⟩
  have hKw : (Kids.cons e (.node q v k) .nil).wf := ⟨hv, trivial, by intro c hc; cases hc⟩
  have hKt : (Kids.cons e (.node q v k) .nil).thin 1000 := ⟨⟨hql, hth⟩, trivial⟩
  have hKm : (Kids.cons e (.node q v k) .nil).many ≤ M := hm
  refine RunH.free (i := 17) rfl ?_
  refine RunH.free (i := 12) rfl ?_
  refine RunH.free (i := 15) rfl ?_
  refine RunH.free (i := 14) rfl ?_
  refine RunH.adv tb_ok [] rfl rfl (by simp <;> omega) ?_
  refine RunH.doesB [] 30 (hc := Tryz.call167) (ho := rfl) (hw := rfl) (hd := rfl) (hf := rfl) (hes := rfl) (hσ := rfl) (hn := rfl) (hV := fun _ => rfl) (hG := fun _ => rfl) (e := fun b' : Plot => ptrAt b'.b) (hC := put_ns p r x none (.cons e (.node q v k) .nil) hKw hKt hM hKm hn ih mz (some ⟨ma, 0, none⟩) 1 (some ⟨mp, 0, none⟩) 1 [Plot.node bl A c B d ps] 0 Sum.zero) (hp := fun u hu => ⟨hu.fact.1.1.1.1.2.1, hmid u hu.fact.1.1.1.1.2.2 hu.fact.1.1.1.2 hu.fact.1.1.2 hu.fact.1.2 hu.fact.2⟩) ?_
  rintro b' m6 hm6
  refine RunH.adv tb_ok [] rfl rfl (by simp <;> omega) ?_
  refine RunH.ret1 Tryz.func167 rfl rfl fun w hst => ⟨b', rfl, hst.out [] rfl rfl fun u h => ⟨h.1.1.1.1.1.1, fun v' hv' hp => ?_⟩⟩
  exact h.2.up (by omega) hv' (hmid v' hp (holds_late h.1.1.1.1.2 hv') (holds_late h.1.1.1.2 hv') (holds_late h.1.1.2 hv') (holds_late h.1.2 hv'))

theorem PutOk.of (t : Tree) (name : Str) (x : Sum) (h : ∀ (s : Str) (v : Option Sum) (k : Kids), t = .node s v k → ∀ (b : Nat) (A : Option Addr) (c : Nat) (B : Option Addr) (d : Nat) (ps : List Plot) (many : Int) (own : Sum),
    Does Tryz.prog tb 167 [ptrV b, strV name, sumV x] [] (fun u => Glob u ∧ Part u b s v k A c B d ps many own) (fun b' : Plot => ptrV b'.b) (fun _ => []) (fun b' => Late (fun u => Part u b s v k A c B d ps many own) (fun u => IsTree u b' ((Tree.node s v k).put name x)))) : PutOk t name x := by
  cases t with
  | node s v k =>
    intro L B0 w K hst hp
    refine (h s v k rfl L.b L.A L.c L.B L.d L.ps _ _ B0 w K hst fun u hu => ⟨(hp u hu).1, Go.Proofs.YtbfjmimiigjenaaGreatDoor.IsTree.part (hp u hu).2⟩).mono ?_
    rintro r w' ⟨b', hr, h2⟩
    exact ⟨b', hr, h2.mono fun u _ hu => ⟨hu.1, fun v' hv hp' => hu.2 v' hv (Go.Proofs.YtbfjmimiigjenaaGreatDoor.IsTree.part hp')⟩⟩

theorem PutOk.go (x : Sum) {M : Nat} (hM : M ≤ 900000000) (name : Str) (hn : name.length ≤ 1000) (t : Tree) (hw : t.wf) (ht : t.thin 1000) (hm : t.many ≤ M)
    (ih : ∀ (c : UInt8) (r' q : Str), name = q ++ c :: r' → ∀ t' : Tree, t'.wf → t'.thin 1000 → t'.many ≤ M → PutOk t' r' x) : PutOk t name x := by
  refine PutOk.of t name x ?_
  rintro s v k rfl b A c B d ps many own
  unfold Tree.wf at hw
  unfold Tree.thin at ht
  have hkm : k.many ≤ M := by
    have : (if v.isSome = true then 1 else 0) + k.many ≤ M := hm
    omega
  rcases part_cases s name with rfl | ⟨e, r, rfl⟩ | ⟨p, e, q, rfl, rfl⟩ | ⟨p, e, q, c2, r, rfl, rfl, hne⟩
  · have := put_ns name [] x v k hw.1 ht.2 hM hkm (by rw [List.append_nil]; exact hn) (fun t' h1 h2 h3 c r' h => by cases h) b A c B d ps many own
    rw [List.append_nil] at this
    exact this
  · exact put_ns s (e :: r) x v k hw.1 ht.2 hM hkm hn (fun t' h1 h2 h3 c r' h => ih c r' s (by rw [h]) t' h1 h2 h3) b A c B d ps many own
  · have := put_split name e q [] x v k hw.1 ht.2 hM hm ht.1 (by rw [List.append_nil]; exact hn) (.inl rfl) (fun t' h1 h2 h3 c r' h => by cases h) hw b A c B d ps many own
    rw [List.append_nil] at this
    exact this
  · exact put_split p e q (c2 :: r) x v k hw.1 ht.2 hM hm ht.1 hn (.inr ⟨c2, r, rfl, hne⟩) (fun t' h1 h2 h3 c r' h => ih c r' p (by rw [h]) t' h1 h2 h3) hw b A c B d ps many own

theorem PutOk.all (x : Sum) {M : Nat} (hM : M ≤ 900000000) : ∀ (n : Nat) (name : Str), name.length ≤ n → name.length ≤ 1000 → ∀ t : Tree, t.wf → t.thin 1000 → t.many ≤ M → PutOk t name x := by
  intro n
  induction n with
  | zero =>
    intro name h0 hn t hw ht hm
    have : name = [] := List.length_eq_zero_iff.1 (by omega)
    subst this
    exact PutOk.go x hM [] hn t hw ht hm (fun c r' n h => by simp at h)
  | succ n ih =>
    intro name h0 hn t hw ht hm
    exact PutOk.go x hM name hn t hw ht hm fun c r' q h t' hw' ht' hm' => ih r' (by rw [h] at h0; simp at h0; omega) (by rw [h] at hn; simp at hn; omega) t' hw' ht' hm'
end Go.Proofs.YtbfjmimiigjenaaGreatDoor
