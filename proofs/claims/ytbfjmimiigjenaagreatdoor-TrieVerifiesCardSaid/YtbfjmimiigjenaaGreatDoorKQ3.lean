/-
Lemmas. No condition.
-/
import Derived.Laws.IdiomStrings
import Derived.Test.YtbfjmimiigjenaaGreatDoorKR1
set_option maxRecDepth 10000
set_option linter.unusedVariables false
set_option linter.unusedSectionVars false
set_option linter.unusedSimpArgs false
namespace Go.Proofs.YtbfjmimiigjenaaGreatDoor
open Go V RowKit
theorem V.Sl.ptr0 {α : Type} {κ : Kd α} {w : World} {A : Option Addr} {c : Nat} {l : List α} (h : Sl κ w A c l) : l ≠ [] → Ptr A := h.addr
theorem V.IT.lown {u : World} {b : Plot} : ∀ {t : Tree}, IT u b t → (loadVar 40 ⟨b.b, 37, none⟩).run Tryz.prog u = .ok (sumV t.own) u
 | .node s v k, h => (YtbfjmimiigjenaaGreatDoor.IT.part h).lown
theorem V.IT.lmany {u : World} {b : Plot} : ∀ {t : Tree}, IT u b t → (loadVar 3 ⟨b.b, 36, none⟩).run Tryz.prog u = .ok (intV t.many) u
 | .node s v k, h => (YtbfjmimiigjenaaGreatDoor.IT.part h).lmany
theorem owns_len : ∀ k : Kids, k.owns.length = k.bytes.length
 | .nil => rfl
 | .cons b t r => by simp [Kids.owns, Kids.bytes, owns_len r]
theorem kid_own {u : World} {k : Kids} {ps : List Plot} (h : IK u ps k) {i : Nat} (hi : i < ps.length) (ho : i < k.owns.length) : (loadVar 40 ⟨ps[i].b, 37, none⟩).run Tryz.prog u = .ok (sumV k.owns[i]) u := by
 have h2 : i < k.trees.length := by rw [← k.len, ← owns_len]; exact ho
 have e : k.owns[i] = (k.trees[i]).own := by simp [k.owns_eq]
 rw [e]
 exact V.IT.lown (h.at i hi h2)
theorem step_spec (b : Nat) (s : Str) (v : Option Sum) (k : Kids) (A : Option Addr) (c : Nat) (B : Option Addr) (d : Nat) (ps : List Plot) (many : Int) (own : Sum) (hn : k.bytes.length ≤ 256) :
  Does Tryz.prog tb 124 [ptrV b] [] (fun u => Part u b s v k A c B d ps many own) (fun y : (Option Addr × Nat) × (Option Addr × Nat) => (stepE s v y.1.1 k.bytes.length y.1.2 y.2.1 k.owns.length y.2.2).v) (fun y => [(0, rowE kBy y.1.1 y.1.2 k.bytes), (1, rowE kSum y.2.1 y.2.2 k.owns)]) (fun _ _ _ => True) := by
 have hl : lim = 140737488351232 := rfl
 refine Does.enter tk [(0, ptrAt b)] Tryz.func124 rfl Tryz.ntmps124 rfl rfl 10 ?_
 intro B0 m0 K
 refine RH.adv tk [] rfl rfl (by simp) ?_
 apply RH.joinK (α := Nat × Nat) (fun z => [(0, ptrAt b), (2, .av (.box 10 m0 0)), (3, .av (.box 13 z.1 0))]) (fun z => [(10, some (.box m0 [.val (strV []), .val (.bool false), .val (sumV Sum.zero), .val (.slice none 0 0), .val (.slice none 0 0)] 61)), (13, some (.box z.1 [.val (strV s), .val (.bool v.isSome), .val (sumV (v.getD Sum.zero)), .val (.slice (some ⟨z.2, 0, none⟩) k.bytes.length k.bytes.length), .val (.slice none 0 0)] 61)), (12, some (.obj z.2 (.cells (bsC (List.replicate k.bytes.length 0)) 5)))]) (fun _ u => K u ∧ Part u b s v k A c B d ps many own)
 ·refine RH.draw rfl [(10, some (.box m0 [.val (strV []), .val (.bool false), .val (sumV Sum.zero), .val (.slice none 0 0), .val (.slice none 0 0)] 61))] rfl 21 rfl rfl ?_
  refine RD.adv tk (by kernel_rfl) [] rfl rfl (by simp <;> omega) ?_
  refine RD.load (by kernel_rfl) (i := 3) (strE s) rfl rfl rfl rfl rfl rfl (fun w' h => h.2.stem) ?_
  refine RD.load (by kernel_rfl) (i := 7) (boE v.isSome) rfl rfl rfl rfl rfl rfl (fun w' h => h.2.has) ?_
  refine RD.load (by kernel_rfl) (i := 11) (sumE (v.getD Sum.zero)) rfl rfl rfl rfl rfl rfl (fun w' h => h.2.sum) ?_
  refine RD.load (by kernel_rfl) (i := 15) (slE A k.bytes.length c) rfl rfl rfl rfl rfl rfl (fun w' h => h.2.lby) ?_
  refine RD.adv tk (by kernel_rfl) [] rfl rfl (by simp <;> omega) ?_
  refine RD.two (i := 17) (j := 19) (by kernel_rfl) ?_ ?_
  ·refine opD_go rfl rfl (OpGo.make8 (id := 12) (q := k.bytes.length) (c := k.bytes.length) (z := k.bytes.length) rfl (Nat.le_refl _) (by omega) rfl rfl rfl) 13 (fun _ => rfl) (fun _ _ h => h) ?_
   rintro ⟨⟩ m17 hm17
   refine RD.adv tk (by kernel_rfl) [] rfl rfl (by simp <;> omega) ?_
   refine RD.step tk (nx := 13) (i := 19) rfl (by kernel_rfl) rfl rfl rfl ?_ rfl (fun _ h => h) ⟨rfl, rfl⟩ ?_
   ·first | trivial | (simp; done)
   refine RD.adv tk (by kernel_rfl) [] rfl rfl (by simp <;> omega) ?_
   refine RD.lastOp (i := 20) tk rfl (by kernel_rfl) rfl (by kernel_rfl) (by kernel_rfl) rfl rfl ?_ (Nat.le_refl _) rfl ?_
   ·first | trivial | (simp; done)
   intro m20 hm20
   exact RH.mtS (m17, m0 + 1) [] (.head _) rfl rfl rfl fun u h => h
  ·refine opD_step tk (nx := 13) (i := 19) rfl rfl rfl rfl ?_ rfl (fun _ h => h) ⟨rfl, rfl⟩ ?_
   ·first | trivial | (simp; done)
   refine RD.adv tk (by kernel_rfl) [] rfl rfl (by simp <;> omega) ?_
   refine RD.go (i := 17) rfl (by kernel_rfl) rfl (OpGo.make8 (id := 12) (q := k.bytes.length) (c := k.bytes.length) (z := k.bytes.length) rfl (Nat.le_refl _) (by omega) rfl rfl rfl) 14 (fun _ => rfl) (fun _ _ h => h) ?_
   rintro ⟨⟩ m17 hm17
   refine RD.adv tk (by kernel_rfl) [] rfl rfl (by simp <;> omega) ?_
   refine RD.lastOp (i := 20) tk rfl (by kernel_rfl) rfl (by kernel_rfl) (by kernel_rfl) rfl rfl ?_ (Nat.le_refl _) rfl ?_
   ·first | trivial | (simp; done)
   intro m20 hm20
   exact RH.mtS (m0 + 1, m0 + 1 + 1) [] (.head _) rfl rfl rfl fun u h => h
 rintro ⟨mb, mg⟩ m1
 refine RH.toNx 20 ?_
 dsimp only
 refine RH.pure (fun u h => (⟨h.2.by_.ptr0, h.2.by_.nil, h.2.to_.ptr0⟩ : (k.bytes ≠ [] → Ptr A) ∧ (A = none → k.bytes = [] ∧ c = 0) ∧ (ps ≠ [] → Ptr B))) fun ⟨hpA, hnA, hpB⟩ => ?_
 have hfl : (k.bytes.flatMap kBy.cs).length = k.bytes.length := by rw [kBy.flL, show kBy.sz = 1 from rfl, Nat.mul_one]
 have hbs : (bsC (List.replicate k.bytes.length 0)).size = k.bytes.length := by unfold bsC; simp
 refine RH.adv tk [] rfl rfl (by simp <;> omega) ?_
 refine RH.draw rfl [(13, some (.box mb [.val (strV s), .val (.bool v.isSome), .val (sumV (v.getD Sum.zero)), .val (.slice (some ⟨mg, 0, none⟩) k.bytes.length k.bytes.length), .val (.slice none 0 0)] 61))] rfl 7 rfl rfl ?_
 refine RD.adv tk (by kernel_rfl) [] rfl rfl (by simp <;> omega) ?_
 refine RD.load (by kernel_rfl) (i := 5) (slE A k.bytes.length c) rfl rfl rfl rfl rfl rfl (fun w' h => h.2.lby) ?_
 refine RD.go (i := 6) rfl (by kernel_rfl) rfl (OpGo.copyRaw (id := 12) (g := mg) (off := 0) (dl := k.bytes.length) (dc := k.bytes.length) (q := k.bytes.length) (c := c) (A := A) (cur := bsC (List.replicate k.bytes.length 0)) (cs := k.bytes.flatMap kBy.cs) (i := Tryz.t5) (e := 5) tk rfl rfl rfl rfl rfl rfl rfl rfl ?_ (kBy.one _) ?_ ?_ ?_ ?_) 20 (fun _ => rfl) (fun _ _ h => h) ?_
 ·rw [hfl, show k.bytes.length.min k.bytes.length = k.bytes.length from Nat.min_self _]; exact (Nat.mul_one _).symm
 ·exact fun w hst => hst.fact.2.by_.cells
 ·intro hne; exact hpA fun e => hne (by rw [e]; rfl)
 ·intro e; rw [(hnA e).1]; rfl
 ·rw [hbs, hfl]; omega
 rintro ⟨⟩ m2 hm2
 refine RD.done (.inl rfl) (by kernel_rfl) ?_
 refine RH.cook (id := 12) (g := mg) (sz := 1) k.bytes.length k.bytes.length rfl (Nat.le_refl _) (by show k.bytes.length ≤ 9223372036854775807; omega) (by rw [putC_size (by rw [hbs, hfl]; omega), hbs]; exact (Nat.mul_one _).symm) ?_
 have hrow : (HE.row (.slice (some ⟨mg, 0, none⟩) k.bytes.length k.bytes.length) 5 1 k.bytes.length ((putC (bsC (List.replicate k.bytes.length 0)) 0 (k.bytes.flatMap kBy.cs)).toList.take (k.bytes.length * 1))) = HE.row (.slice (some ⟨mg, 0, none⟩) k.bytes.length k.bytes.length) kBy.T kBy.sz k.bytes.length (k.bytes.flatMap kBy.cs) := by
  have e2 := putC_take2 (X := bsC (List.replicate k.bytes.length 0)) (o := 0) (cs := k.bytes.flatMap kBy.cs) (Nat.zero_le _)
  rw [hfl, Nat.zero_add, List.take_zero, List.nil_append] at e2
  rw [Nat.mul_one, e2]; rfl
 rw [hrow]
 refine RH.nilrow 14 kSum.T kSum.sz 20 ?_
 refine RH.tell [(0, ptrAt b), (2, .av (.box 10 m0 0)), (3, .av (.box 13 mb 0))] [(10, some (.box m0 [.val (strV []), .val (.bool false), .val (sumV Sum.zero), .val (.slice none 0 0), .val (.slice none 0 0)] 61)), (13, some (.box mb [.val (strV s), .val (.bool v.isSome), .val (sumV (v.getD Sum.zero)), .val (.slice (some ⟨mg, 0, none⟩) k.bytes.length k.bytes.length), .row 14 (.slice none 0 0)] 61)), (12, rowE kBy (some ⟨mg, 0, none⟩) k.bytes.length k.bytes), (14, rowE kSum none 0 [])] [] rfl rfl rfl 20 ?_
 refine RH.adv tk [] rfl rfl (by simp <;> omega) ?_
 refine RH.loadS (slE B ps.length d) rfl rfl rfl rfl (fun u hu => hu.fact.2.lto) ?_
 refine RH.adv tk [] rfl rfl (by simp <;> omega) ?_
 refine RH.pure (fun u h => h.2.kids.len) fun hpl => ?_
 have hol := owns_len k
 refine RH.loop (α := Nat × (Option Addr × Nat)) (fun y => [(0, ptrAt b), (2, .av (.box 10 m0 0)), (3, .av (.box 13 mb 0)), (35, slE B ps.length d), (36, intE ps.length), (37, intE y.1)]) (fun y => [(10, some (.box m0 [.val (strV []), .val (.bool false), .val (sumV Sum.zero), .val (.slice none 0 0), .val (.slice none 0 0)] 61)), (13, some (.box mb [.val (strV s), .val (.bool v.isSome), .val (sumV (v.getD Sum.zero)), .val (.slice (some ⟨mg, 0, none⟩) k.bytes.length k.bytes.length), .row 14 (.slice y.2.1 (k.owns.take y.1).length y.2.2)] 61)), (12, rowE kBy (some ⟨mg, 0, none⟩) k.bytes.length k.bytes), (14, rowE kSum y.2.1 y.2.2 (k.owns.take y.1))]) (fun y u => (K u ∧ Part u b s v k A c B d ps many own) ∧ y.1 ≤ ps.length) (fun y => ps.length - y.1) (0, (none, 0)) rfl rfl (fun u hu => ⟨hu, Nat.zero_le _⟩) ?_
 rintro ⟨i, A9, c9⟩ m9
 refine RH.pure (fun u hu => hu.2) fun hi => ?_
 dsimp only at hi ⊢
 have htl : (k.owns.take i).length = i := by rw [List.length_take]; omega
 by_cases hlt : i < ps.length
 ·have hts : k.owns.take (i + 1) = k.owns.take i ++ [k.owns[i]'(by omega)] := List.take_succ_eq_append_getElem (by omega)
  have hq1 : Ptr B := hpB fun e => by rw [e] at hlt; cases hlt
  refine RH.adv tk [true] rfl rfl (by simp [hq1] <;> omega) ?_
  refine RH.loadS (ptrAt ps[i].b) rfl rfl rfl rfl (fun u hu => hu.fact.1.2.to_.load hlt) ?_
  refine RH.adv tk [] rfl rfl (by simp <;> omega) ?_
  refine RH.draw rfl [(13, some (.box mb [.val (strV s), .val (.bool v.isSome), .val (sumV (v.getD Sum.zero)), .val (.slice (some ⟨mg, 0, none⟩) k.bytes.length k.bytes.length), .row 14 (.slice A9 (k.owns.take i).length c9)] 61))] rfl 10 rfl rfl ?_
  refine RD.adv tk (by kernel_rfl) [] rfl rfl (by simp <;> omega) ?_
  refine RD.load (by kernel_rfl) (i := 5) (sumE (k.owns[i]'(by omega))) rfl rfl rfl rfl rfl rfl (fun w' h => kid_own h.1.2.kids hlt (by omega)) ?_
  refine RD.adv tk (by kernel_rfl) [] rfl rfl (by simp <;> omega) ?_
  refine RD.step tk (nx := 20) (i := 6) rfl (by kernel_rfl) rfl rfl rfl ?_ rfl (fun _ h => h) ⟨rfl, rfl⟩ ?_
  ·first | trivial | (simp; done)
  refine RD.adv tk (by kernel_rfl) [] rfl rfl (by simp <;> omega) ?_
  refine RD.apK (nx := 30) (i := 7) (κ := kSum) (id := 14) (r := [k.owns[i]'(by omega)]) (l := k.owns.take i) rfl (by kernel_rfl) rfl rfl rfl rfl rfl elt_sum rfl rfl (fun w hst => hst.liR (id := 20) (κ := kSum) (l := [k.owns[i]'(by omega)]) rfl (by simp [hl])) (by rw [htl]; simp; omega) (by rw [htl]; simp; omega) (fun _ _ => rfl) (fun _ h => h) ?_
  intro A2 c2 m10 hm10
  rw [← hts]
  refine RD.adv tk (by kernel_rfl) [] rfl rfl (by simp <;> omega) ?_
  refine RD.lastOp (i := 9) tk rfl (by kernel_rfl) rfl (by kernel_rfl) (by kernel_rfl) rfl rfl ?_ (Nat.le_refl _) rfl ?_
  ·first | trivial | (simp; done)
  intro m11 hm11
  refine RH.adv tk [] rfl rfl (by simp <;> omega) ?_
  exact RH.again (i + 1, (A2, c2)) (.head _) rfl rfl (by show ps.length - (i + 1) < ps.length - i; omega) fun u hu => ⟨hu.1, hlt⟩
 ·have hi' : i = ps.length := by omega
  have hta : k.owns.take i = k.owns := List.take_of_length_le (by omega)
  rw [hta]
  refine RH.adv tk [false] rfl rfl (by simp <;> omega) ?_
  exact RH.retBox tk (.st [.val (strV s), .val (.bool v.isSome), .val (sumV (v.getD Sum.zero)), .val (.slice (some ⟨mg, 0, none⟩) k.bytes.length k.bytes.length), .row 14 (.slice A9 k.owns.length c9)]) Tryz.func124 rfl rfl rfl rfl fun w hst => ⟨((some ⟨mg, 0, none⟩, k.bytes.length), (A9, c9)), rfl, hst.out [(0, 12), (1, 14)] rfl rfl fun u h => ⟨h.1.1, trivial⟩⟩
theorem many_sum : ∀ k : Kids, k.many = (k.trees.map Tree.many).sum
 | .nil => rfl
 | .cons b t r => by simp [Kids.many, Kids.trees, many_sum r]
theorem sum_take (l : List Nat) (i : Nat) : (l.take i).sum ≤ l.sum := by
 have : l = l.take i ++ l.drop i := (List.take_append_drop i l).symm
 conv => rhs; rw [this]
 rw [List.sum_append]; omega
def own1 (v : Option Sum) : Nat := if v.isSome = true then 1 else 0
def upto (v : Option Sum) (k : Kids) (i : Nat) : Nat := own1 v + ((k.trees.map Tree.many).take i).sum
theorem upto_le (v : Option Sum) (k : Kids) (s : Str) (i : Nat) : upto v k i ≤ (Tree.node s v k).many := by
 have := sum_take (k.trees.map Tree.many) i
 rw [← many_sum] at this
 unfold upto own1
 show _ ≤ (if v.isSome = true then 1 else 0) + k.many
 omega
theorem upto_all (v : Option Sum) (k : Kids) (s : Str) : upto v k k.trees.length = (Tree.node s v k).many := by
 unfold upto own1
 rw [List.take_of_length_le (by simp), ← many_sum]; rfl
theorem upto_succ (v : Option Sum) (k : Kids) {i : Nat} (h : i < k.trees.length) : upto v k (i + 1) = upto v k i + (k.trees[i]).many := by
 unfold upto
 rw [List.take_succ_eq_append_getElem (by simpa using h), List.sum_append]
 simp; omega
abbrev nodE (s : Str) (v : Option Sum) (A : Option Addr) (q c : Nat) (B : Option Addr) (p d : Nat) (many : Int) (own : Sum) : EV := .st (nodF s v A q c B p d many own)
theorem made_spec (s : Str) (v : Option Sum) (k : Kids) (A : Option Addr) (c : Nat) (B : Option Addr) (d : Nat) (ps : List Plot) (mn : Int) (own0 : Sum) (hn : k.bytes.length ≤ 256) (hs : s.length ≤ 1000) (hm : (Tree.node s v k).many ≤ 1000000000) :
  Does Tryz.prog tb 173 [(nodE s v A k.bytes.length c B ps.length d mn own0).v] [] (fun u => Glob u ∧ Sl kBy u A c k.bytes ∧ Sl kP u B d ps ∧ IK u ps k) (fun b : Nat => ptrV b) (fun b => [(0, some (.box b (nodF s v A k.bytes.length c B ps.length d (Tree.node s v k).many (Tree.node s v k).own) 165))]) (fun _ _ _ => True) := by
 have hl : lim = 140737488351232 := rfl
 refine Does.enter tk [(0, nodE s v A k.bytes.length c B ps.length d mn own0)] Tryz.func173 rfl Tryz.ntmps173 rfl rfl 0 ?_
 intro B0 m0 K
 refine RH.pure (fun u h => (⟨h.2.2.2.2.len, h.2.2.2.1.ptr0⟩ : ps.length = k.bytes.length ∧ (ps ≠ [] → Ptr B))) fun ⟨hpl, hpB⟩ => ?_
 have hkl := k.len
 apply RH.joinK (α := Unit) (fun _ => [(1, .av (.box 0 m0 0)), (10, slE B ps.length d), (11, intE ps.length), (12, intE ((0 : Nat) : Int))]) (fun _ => [(0, some (.box m0 [.val (strV s), .val (.bool v.isSome), .val (sumV (v.getD Sum.zero)), .val (.slice A k.bytes.length c), .val (.slice B ps.length d), .val (intV (upto v k 0)), .val (sumV own0)] 165))]) (fun _ u => K u ∧ (Glob u ∧ Sl kBy u A c k.bytes ∧ Sl kP u B d ps ∧ IK u ps k))
 ·cases v with
  | none =>
   refine RH.adv tk [false] rfl rfl (by simp) ?_
   exact RH.mtS () [] (.head _) rfl rfl rfl fun u h => h
  | some x =>
   refine RH.adv tk [true] rfl rfl (by simp) ?_
   exact RH.mtS () [] (.head _) rfl rfl rfl fun u h => h
 rintro ⟨⟩ m1
 refine RH.toNx 10 ?_
 refine RH.loop (α := Nat) (fun y => [(1, .av (.box 0 m0 0)), (10, slE B ps.length d), (11, intE ps.length), (12, intE y)]) (fun y => [(0, some (.box m0 [.val (strV s), .val (.bool v.isSome), .val (sumV (v.getD Sum.zero)), .val (.slice A k.bytes.length c), .val (.slice B ps.length d), .val (intV (upto v k y)), .val (sumV own0)] 165))]) (fun y u => (K u ∧ (Glob u ∧ Sl kBy u A c k.bytes ∧ Sl kP u B d ps ∧ IK u ps k)) ∧ y ≤ ps.length) (fun y => ps.length - y) 0 rfl rfl (fun u hu => ⟨hu, Nat.zero_le _⟩) ?_
 rintro i m9
 refine RH.pure (fun u hu => hu.2) fun hi => ?_
 dsimp only at hi ⊢
 by_cases hlt : i < ps.length
 ·have hq1 : Ptr B := hpB fun e => by rw [e] at hlt; cases hlt
  have hu1 := upto_succ v k (i := i) (by omega)
  have hu2 := upto_le v k s (i + 1)
  refine RH.adv tk [true] rfl rfl (by simp [hq1] <;> omega) ?_
  refine RH.loadS (ptrAt ps[i].b) rfl rfl rfl rfl (fun u hu => hu.fact.1.2.2.2.1.load hlt) ?_
  refine RH.adv tk [] rfl rfl (by simp <;> omega) ?_
  refine RH.draw rfl [(0, some (.box m0 [.val (strV s), .val (.bool v.isSome), .val (sumV (v.getD Sum.zero)), .val (.slice A k.bytes.length c), .val (.slice B ps.length d), .val (intV (upto v k i)), .val (sumV own0)] 165))] rfl 9 rfl rfl ?_
  refine RD.adv tk (by kernel_rfl) [] rfl rfl (by simp <;> omega) ?_
  refine RD.load (by kernel_rfl) (i := 5) (intE (k.trees[i]'(by omega)).many) rfl rfl rfl rfl rfl rfl (fun w' h => V.IT.lmany (h.1.2.2.2.2.at i hlt (by omega))) ?_
  refine RD.adv tk (by kernel_rfl) [] rfl rfl (by simp <;> omega) ?_
  rw [show ((upto v k i : Nat) : Int) + (((k.trees[i]'(by omega)).many : Nat) : Int) = ((upto v k (i + 1) : Nat) : Int) by omega]
  refine RD.lastOp (i := 8) tk rfl (by kernel_rfl) rfl (by kernel_rfl) (by kernel_rfl) rfl rfl ?_ (Nat.le_refl _) rfl ?_
  ·first | trivial | (simp; done)
  intro m11 hm11
  refine RH.adv tk [] rfl rfl (by simp <;> omega) ?_
  exact RH.again (i + 1) (.head _) rfl rfl (by show ps.length - (i + 1) < ps.length - i; omega) fun u hu => ⟨hu.1, hlt⟩
 ·have hi' : i = k.trees.length := by omega
  rw [hi', upto_all v k s]
  refine RH.adv tk [false] rfl rfl (by simp <;> omega) ?_
  refine RH.doB [] 12 (hc := Tryz.call124) (ho := rfl) (hw := rfl) (hd := rfl) (hf := rfl) (hes := rfl) (hσ := rfl) (hn := rfl) (hV := fun _ => rfl) (hG := fun _ => rfl) (e := fun y : (Option Addr × Nat) × (Option Addr × Nat) => stepE s v y.1.1 k.bytes.length y.1.2 y.2.1 k.owns.length y.2.2) (hC := step_spec m0 s v k A c B d ps (Tree.node s v k).many own0 hn) (hp := fun u hu => ⟨(hu.holds 0 _ rfl).2.1, hu.fact.1.2.2.1, hu.fact.1.2.2.2.1, hu.fact.1.2.2.2.2⟩) ?_
  rintro ⟨⟨A1, c1⟩, A2, c2⟩ m12 hm12; refine RH.drop ?_
  dsimp only
  refine RH.gives (ho := rfl) (hw := rfl) (hd := rfl) (hf := rfl) (hes := rfl) (hc := Tryz.call107) (e := .av (.val (sumV (Tree.node s v k).own))) (hC := fun u hu => digest_spec u hu.fact.1.2.1 s v A1 c1 k.bytes A2 c2 k.owns (Sl.own (B := B0) (hu.row (κ := kBy) (id := 10) (l := k.bytes) rfl) (by omega)) (Sl.own (B := B0) (hu.row (κ := kSum) (id := 11) (l := k.owns) rfl) (by rw [owns_len]; omega)) (owns_len k) hs (by omega)) ?_
  intro m13 hm13
  refine RH.adv tk [] rfl rfl (by simp) ?_
  refine RH.ret1 Tryz.func173 rfl rfl fun w hst => ⟨m0, rfl, hst.out [] rfl rfl fun u h => ⟨h.1.1, trivial⟩⟩
theorem sHas_spec (w : World) (s p : Str) : Gives Tryz.prog 134 [strV s, strV p] w (boE (hasPre s p)) := by
 refine enterH tk [(0, strE s), (1, strE p)] Tryz.func134 rfl Tryz.ntmps134 rfl rfl ?_
 refine RH.adv tk [] rfl rfl (by simp <;> omega) ?_
 refine RH.gives (ho := rfl) (hw := rfl) (hd := rfl) (hf := rfl) (hes := rfl) (hc := Tryz.call185) (e := boE (hasPre s p)) (hC := fun u _ => HasPrefix_spec u s p) ?_
 intro m1 hm1
 refine RH.adv tk [] rfl rfl (by simp <;> omega) ?_
 refine RH.ret1 Tryz.func134 rfl rfl fun w' hst => ⟨rfl, hst.fact⟩
theorem lcp_le1 : ∀ a b : Str, lcp a b ≤ a.length
 | [], _ => by simp [lcp]
 | x :: a, [] => by simp [lcp]
 | x :: a, y :: b => by
  have := lcp_le1 a b
  unfold lcp
  split <;> simp <;> omega
theorem lcp_le2 : ∀ a b : Str, lcp a b ≤ b.length
 | [], _ => by simp [lcp]
 | x :: a, [] => by simp [lcp]
 | x :: a, y :: b => by
  have := lcp_le2 a b
  unfold lcp
  split <;> simp <;> omega
theorem lcp_at : ∀ (a b : Str) (n : Nat) (h1 : n < a.length) (h2 : n < b.length), n ≤ lcp a b → (a[n] = b[n] ↔ n < lcp a b)
 | [], _, _, h, _, _ => by cases h
 | _ :: _, [], _, _, h, _ => by cases h
 | x :: a, y :: b, n, h1, h2, h => by
  unfold lcp at h ⊢
  by_cases e : x = y
  ·rw [if_pos e] at h ⊢
   cases n with
   | zero => simp [e]
   | succ n =>
    have := lcp_at a b n (by simpa using h1) (by simpa using h2) (by omega)
    simp only [List.getElem_cons_succ]
    rw [this]; omega
  ·rw [if_neg e] at h ⊢
   have : n = 0 := by omega
   subst this
   simp [e]
theorem hasPre_lcp {a b : Str} {p : Nat} (hp : p ≤ a.length) (h : hasPre b (a.take p) = true) : p ≤ lcp a b := by
 unfold hasPre at h
 rw [Bool.and_eq_true, decide_eq_true_eq, decide_eq_true_eq, List.length_take, Nat.min_eq_left hp] at h
 have e2 : b = a.take p ++ b.drop p := by rw [← h.2]; exact (List.take_append_drop p b).symm
 have hl : ((a.take p).length) = p := by rw [List.length_take]; omega
 have h3 := lcp_app (a.take p) (a.drop p) (b.drop p)
 rw [List.take_append_drop, ← e2] at h3
 omega
theorem getD_at {a : Str} {j : Nat} (h : j < a.length) : List.getD a ((j : Int)).toNat 0 = a[j] := by
 rw [Int.toNat_natCast]
 simp [List.getD, List.getElem?_eq_getElem h]
theorem op_min {P : Program} {n : Nat} {env : SEnv} {a : Act} (ha : Agree n a (kn env)) {d : Option Nat} {x y : Operand} {T T2 ty : TypeId} {ps : String} {af : Array Edge} {gd : Option (Nat × Bool)} {p q : Nat} {w : World}
  (hx : evE env x = some (intE p)) (hy : evE env y = some (intE q)) :
  (execOp a.eval ⟨d, .call ⟨.builtin .min, #[x, y], #[T, T2]⟩, ty, ps, af, gd⟩).run P w = .ok (.value (intE ((min p q : Nat) : Int)).v) w := by
 have hxv : a.eval x = .int .i64 p := ev_run ha hx
 have hyv : a.eval y = .int .i64 q := ev_run ha hy
 have e : (if (q : Int) < (p : Int) then (q : Int) else (p : Int)) = ((min p q : Nat) : Int) := by split <;> omega
 have h2 : (Builtin.min_ #[T, T2] ty #[.int .i64 p, .int .i64 q]).run P w = .ok (.int .i64 ((min p q : Nat) : Int)) w := by
  simp [Builtin.min_, Builtin.min2]
  split <;> omega
 simp only [execOp, resolve, invoke, builtin, Sem.run_bind, Sem.run_pure, Result.andThen_ok, List.map_toArray, List.map_cons, List.map_nil, hxv, hyv, h2]
 rfl
theorem shared_spec (w : World) (a b : Str) (ha : a.length ≤ 1000000) (hb : b.length ≤ 1000000) : Gives Tryz.prog 245 [strV a, strV b] w (intE (lcp a b)) := by
 have hl1 := lcp_le1 a b
 have hl2 := lcp_le2 a b
 refine enterH tk [(0, strE a), (1, strE b)] Tryz.func245 rfl Tryz.ntmps245 rfl rfl ?_
 refine RH.adv tk [] rfl rfl (by simp <;> omega) ?_
 refine RH.range 0 1 tk rfl rfl rfl rfl rfl ?_
 intro m1 hm1
 refine RH.adv tk [] rfl rfl (by simp <;> omega) ?_
 refine RH.loop (α := Nat × Nat) (fun y => [(0, strE a), (1, strE b), (8, .av (.box 0 w.heap.size 0)), (5, intE y.2)]) (fun y => [(0, some (.obj w.heap.size (.stringIter ⟨⟨a⟩⟩ y.1)))]) (fun y u => Ext w u ∧ y.2 ≤ lcp a b) (fun y => a.length - y.1) (0, 0) rfl rfl (fun u hu => ⟨hu, Nat.zero_le _⟩) ?_
 rintro ⟨p, n⟩ m2
 refine RH.pure (fun u hu => hu.2) fun hn => ?_
 dsimp only at hn ⊢
 by_cases hlt : p < a.length
 ·have hle := decode_le ⟨⟨a⟩⟩ p
  have hq : 1 ≤ (Utf8.decode ⟨⟨a⟩⟩ p).2 := by
   by_cases h1 : (a[p]).toNat < 128
   ·rw [decode_ascii ⟨⟨a⟩⟩ p hlt h1]; exact Nat.le_refl _
   ·exact (decode_high ⟨⟨a⟩⟩ p hlt (by show 128 ≤ (a[p]).toNat; omega)).2
  refine RH.adv tk [] rfl rfl (by simp <;> omega) ?_
  refine RH.next (r := (Utf8.decode ⟨⟨a⟩⟩ p).1) (q := (Utf8.decode ⟨⟨a⟩⟩ p).2) rfl rfl rfl rfl rfl hlt rfl ?_
  intro m3 hm3
  refine RH.adv tk [true] rfl rfl (by simp <;> omega) ?_
  rw [Int.toNat_natCast]
  refine RH.gives (ho := rfl) (hw := rfl) (hd := rfl) (hf := rfl) (hes := rfl) (hc := Tryz.call134) (e := boE (hasPre b (a.take p))) (hC := fun u _ => sHas_spec u b (a.take p)) ?_
  intro m4 hm4
  by_cases h : hasPre b (a.take p) = true
  ·have := hasPre_lcp (by omega) h
   refine RH.adv tk [true] rfl rfl (by simp [h] <;> omega) ?_
   exact RH.again (p + (Utf8.decode ⟨⟨a⟩⟩ p).2, p) (.head _) rfl rfl (by dsimp only; omega) fun u hu => ⟨hu.1, this⟩
  ·refine RH.adv tk [false] rfl rfl (by simp [h] <;> omega) ?_
   exact RH.again (p + (Utf8.decode ⟨⟨a⟩⟩ p).2, n) (.head _) rfl rfl (by dsimp only; omega) fun u hu => hu
 ·refine RH.adv tk [] rfl rfl (by simp <;> omega) ?_
  refine RH.nextEnd rfl rfl rfl rfl rfl hlt ?_
  intro m3 hm3
  refine RH.adv tk [false] rfl rfl (by simp <;> omega) ?_
  refine RH.loop (α := Nat) (fun y => [(0, strE a), (1, strE b), (5, intE y)]) (fun y => []) (fun y u => Ext w u ∧ y ≤ lcp a b) (fun y => lcp a b - y) n rfl rfl (fun u hu => hu) ?_
  rintro j m5
  refine RH.pure (fun u hu => hu.2) fun hj => ?_
  dsimp only at hj ⊢
  by_cases hmin : j < min a.length b.length
  ·have hiff := lcp_at a b j (by omega) (by omega) hj
   have g1 : List.getD a ((j : Int)).toNat 0 = a[j]'(by omega) := getD_at (by omega)
   have g2 : List.getD b ((j : Int)).toNat 0 = b[j]'(by omega) := getD_at (by omega)
   by_cases he : a[j]'(by omega) = b[j]'(by omega)
   ·have hlt2 := hiff.1 he
    refine RH.adv tk [] rfl rfl (by simp <;> omega) ?_
    refine RH.draw rfl [] rfl 16 rfl rfl ?_
    refine RD.adv tk (by kernel_rfl) [] rfl rfl (by simp <;> omega) ?_
    refine RD.read (by kernel_rfl) (i := 5) (intE ((min a.length b.length : Nat) : Int)) rfl rfl rfl rfl rfl rfl (fun u q hI ha => op_min ha rfl rfl) ?_
    refine RD.adv tk (by kernel_rfl) [true] rfl rfl (by simp <;> omega) ?_
    rw [g1, g2, he]
    refine RD.done (.inl rfl) (by kernel_rfl) ?_
    refine RH.adv tk [true] rfl rfl (by simp <;> omega) ?_
    exact RH.again (j + 1) (.head _) rfl rfl (by omega) fun u hu => ⟨hu.1, hlt2⟩
   ·have heq : j = lcp a b := by
     have h2 : ¬ j < lcp a b := fun h => he (hiff.2 h)
     omega
    have hne : ¬ (a[j]'(by omega)).toNat = (b[j]'(by omega)).toNat := fun h => he (UInt8.toNat_inj.1 h)
    refine RH.adv tk [] rfl rfl (by simp <;> omega) ?_
    refine RH.draw rfl [] rfl 16 rfl rfl ?_
    refine RD.adv tk (by kernel_rfl) [] rfl rfl (by simp <;> omega) ?_
    refine RD.read (by kernel_rfl) (i := 5) (intE ((min a.length b.length : Nat) : Int)) rfl rfl rfl rfl rfl rfl (fun u q hI ha => op_min ha rfl rfl) ?_
    refine RD.adv tk (by kernel_rfl) [true] rfl rfl (by simp <;> omega) ?_
    rw [g1, g2]
    refine RD.done (.inl rfl) (by kernel_rfl) ?_
    refine RH.adv tk [false] rfl rfl (by simp [hne] <;> omega) ?_
    refine RH.ret1 Tryz.func245 rfl rfl fun u hst => ⟨by rw [← heq], hst.fact.1⟩
  ·have heq : j = lcp a b := by omega
   refine RH.adv tk [] rfl rfl (by simp <;> omega) ?_
   refine RH.draw rfl [] rfl 16 rfl rfl ?_
   refine RD.adv tk (by kernel_rfl) [] rfl rfl (by simp <;> omega) ?_
   refine RD.read (by kernel_rfl) (i := 5) (intE ((min a.length b.length : Nat) : Int)) rfl rfl rfl rfl rfl rfl (fun u q hI ha => op_min ha rfl rfl) ?_
   refine RD.adv tk (by kernel_rfl) [false] rfl rfl (by simp <;> omega) ?_
   refine RD.done (.inr (by kernel_rfl)) (by kernel_rfl) ?_
   refine RH.adv tk [false] rfl rfl (by simp <;> omega) ?_
   refine RH.ret1 Tryz.func245 rfl rfl fun u hst => ⟨by rw [← heq], hst.fact.1⟩
theorem posB_at : ∀ (bs : List UInt8) (c : UInt8) (i : Nat) (h : i < bs.length), i ≤ posB bs c → (bs[i] < c ↔ i < posB bs c)
 | [], _, _, h, _ => by cases h
 | b :: bs, c, i, h, hi => by
  rw [posB_cons] at hi ⊢
  by_cases hb : b < c
  ·rw [if_pos hb] at hi ⊢
   cases i with
   | zero => simp [hb]
   | succ i =>
    have := posB_at bs c i (by simpa using h) (by omega)
    simp only [List.getElem_cons_succ]
    rw [this]; omega
  ·rw [if_neg hb] at hi ⊢
   have : i = 0 := by omega
   subst this
   simp [hb]
theorem u8_lt {a b : UInt8} : a < b ↔ a.toNat < b.toNat := UInt8.lt_iff_toNat_lt
theorem branch_spec (b : Nat) (x : UInt8) (s : Str) (v : Option Sum) (k : Kids) (A : Option Addr) (c : Nat) (B : Option Addr) (d : Nat) (ps : List Plot) (many : Int) (own : Sum) (w : World) (h : Part w b s v k A c B d ps many own) (hn : k.bytes.length ≤ 256) :
  Gives Tryz.prog 168 [ptrV b, u8V x] w (.av (.val (.tuple #[intV (posB k.bytes x), .bool (isB k.bytes x)]))) := by
 have hl : lim = 140737488351232 := rfl
 have hpA := h.by_.ptr0
 have hple := posB_le k.bytes x
 refine enterH tk [(0, ptrAt b), (1, .av (.val (u8V x)))] Tryz.func168 rfl Tryz.ntmps168 rfl rfl ?_
 apply RH.joinK (α := Unit) (fun _ => [(0, ptrAt b), (1, .av (.val (u8V x))), (6, intE (posB k.bytes x))]) (fun _ => []) (fun _ u => Ext w u)
 ·refine RH.adv tk [] rfl rfl (by simp <;> omega) ?_
  refine RH.loadS (slE A k.bytes.length c) rfl rfl rfl rfl (fun u hu => (h.ext hu.fact).lby) ?_
  refine RH.adv tk [] rfl rfl (by simp <;> omega) ?_
  refine RH.loadS (slE A k.bytes.length c) rfl rfl rfl rfl (fun u hu => (h.ext hu.fact).lby) ?_
  refine RH.adv tk [] rfl rfl (by simp <;> omega) ?_
  refine RH.loop (α := Nat) (fun y => [(0, ptrAt b), (1, .av (.val (u8V x))), (6, intE k.bytes.length), (17, slE A k.bytes.length c), (18, intE k.bytes.length), (19, intE y)]) (fun _ => []) (fun y u => Ext w u ∧ y ≤ posB k.bytes x) (fun y => k.bytes.length - y) 0 rfl rfl (fun u hu => ⟨hu, Nat.zero_le _⟩) ?_
  rintro i m2
  refine RH.pure (fun u hu => hu.2) fun hi => ?_
  dsimp only at hi ⊢
  by_cases hlt : i < k.bytes.length
  ·have hiff := posB_at k.bytes x i hlt hi
   rw [u8_lt] at hiff
   refine RH.adv tk [true] rfl rfl (by simp [hpA (fun e => by rw [e] at hlt; cases hlt)] <;> omega) ?_
   refine RH.loadS (.av (.val (u8V k.bytes[i]))) rfl rfl rfl rfl (fun u hu => (h.by_.ext hu.fact.1).load hlt) ?_
   by_cases hb : k.bytes[i].toNat < x.toNat
   ·have hlt2 := hiff.1 hb
    refine RH.adv tk [false] rfl rfl (by simp <;> omega) ?_
    exact RH.again (i + 1) (.head _) rfl rfl (by omega) fun u hu => ⟨hu.1, hlt2⟩
   ·have heq : i = posB k.bytes x := by
     have h2 : ¬ i < posB k.bytes x := fun h => hb (hiff.2 h)
     omega
    refine RH.adv tk [true] rfl rfl (by simp [hb] <;> omega) ?_
    exact RH.mtS () [] (.tail _ (.head _)) (by rw [← heq]; rfl) rfl rfl fun u hu => hu.1
  ·have heq : k.bytes.length = posB k.bytes x := by omega
   refine RH.adv tk [false] rfl rfl (by simp <;> omega) ?_
   exact RH.mtS () [] (.tail _ (.head _)) (by rw [← heq]; rfl) rfl rfl fun u hu => hu.1
 rintro ⟨⟩ m3
 refine RH.toNx 2 ?_
 refine RH.adv tk [] rfl rfl (by simp <;> omega) ?_
 refine RH.draw rfl [] rfl 21 rfl rfl ?_
 refine RD.adv tk (by kernel_rfl) [] rfl rfl (by simp <;> omega) ?_
 refine RD.load (by kernel_rfl) (i := 5) (slE A k.bytes.length c) rfl rfl rfl rfl rfl rfl (fun w' hw => (h.ext hw).lby) ?_
 have hcap := h.by_.cap
 by_cases hlt : posB k.bytes x < k.bytes.length
 ·refine RD.adv tk (by kernel_rfl) [true] rfl rfl (by simp <;> omega) ?_
  refine RD.load (by kernel_rfl) (i := 12) (slE A k.bytes.length c) rfl rfl rfl rfl rfl rfl (fun w' hw => (h.ext hw).lby) ?_
  refine RD.adv tk (by kernel_rfl) [] rfl rfl (by simp [hpA (fun e => by rw [e] at hlt; cases hlt)] <;> omega) ?_
  refine RD.load (by kernel_rfl) (i := 15) (.av (.val (u8V k.bytes[posB k.bytes x]))) rfl rfl rfl rfl rfl rfl (fun w' hw => (h.by_.ext hw).load hlt) ?_
  refine RD.adv tk (by kernel_rfl) [] rfl rfl (by simp <;> omega) ?_
  refine RD.done (.inl rfl) (by kernel_rfl) ?_
  refine RH.adv tk [] rfl rfl (by simp <;> omega) ?_
  have e1 : isB k.bytes x = decide (((k.bytes[posB k.bytes x]).toNat : Int) = (x.toNat : Int)) := by
   unfold isB
   have g : List.getD k.bytes (posB k.bytes x) 0 = k.bytes[posB k.bytes x] := by simp [List.getD, List.getElem?_eq_getElem hlt]
   rw [g]
   simp only [hlt, decide_true, Bool.true_and, Int.ofNat_inj]
   exact decide_eq_decide.2 UInt8.toNat_inj.symm
  refine RH.ret2 Tryz.func168 rfl rfl rfl fun u hst => ⟨by rw [e1]; rfl, hst.fact⟩
 ·refine RD.adv tk (by kernel_rfl) [false] rfl rfl (by simp <;> omega) ?_
  refine RD.done (.inl rfl) (by kernel_rfl) ?_
  refine RH.adv tk [] rfl rfl (by simp <;> omega) ?_
  have e1 : isB k.bytes x = false := by
   unfold isB
   simp [hlt]
  refine RH.ret2 Tryz.func168 rfl rfl rfl fun u hst => ⟨by rw [e1]; rfl, hst.fact⟩
abbrev byE (x : UInt8) : EV := .av (.val (u8V x))
abbrev ptrL (L : Plot) : Value := ptrV L.b
abbrev ptrLE (L : Plot) : EV := ptrAt L.b
theorem elt_p : ElT tb kP.T 1 8 := ⟨⟨Tryz.t29, (Tryz.t29).zero.getD undef, by kernel_rfl, by kernel_rfl, by kernel_rfl, by kernel_rfl, by kernel_rfl⟩, by decide⟩
theorem cloneP (A : Option Addr) (c : Nat) (l : List Plot) (hb : l.length * 8 ≤ 140737488355328) : Does Tryz.prog tb 172 [.slice A l.length c] [] (fun u => Sl kP u A c l) (fun y : Option Addr × Nat => .slice y.1 l.length y.2) (fun y => [(0, rowE kP y.1 y.2 l)]) (fun _ _ _ => True) := by
 refine Does.enter tk [(0, slE A l.length c)] Tryz.func172 rfl Tryz.ntmps172 rfl rfl 0 ?_
 intro B0 m K
 refine RH.pure (fun u h => And.intro h.2.nil h.2.small) fun ⟨hnil, hsm⟩ => ?_
 cases hA : A.isNone with
 | true =>
  have hn : A = none := Option.isNone_iff_eq_none.1 hA
  obtain ⟨rfl, rfl⟩ := hnil hn
  subst hn
  refine RH.adv tk [true] rfl rfl (by simp <;> omega) ?_
  refine RH.ret1 Tryz.func172 rfl rfl fun w hst => ⟨(none, 0), rfl, (hst.nilrow 0 kP).out [] rfl rfl fun u h => ⟨h.1, trivial⟩⟩
 | false =>
  refine RH.adv tk [false] rfl rfl ⟨hA, trivial⟩ ?_
  refine RH.apK (κ := kP) (id := 0) (l := []) (r := l) rfl rfl rfl rfl rfl rfl elt_p rfl rfl (fun w hst => hst.fact.2.lies) (by simp; omega) (by simp; omega) ?_
  intro A' c' m' hm'
  refine RH.adv tk [] rfl rfl (by simp <;> omega) ?_
  refine RH.ret1 Tryz.func172 rfl rfl fun w hst => ⟨(A', c'), rfl, hst.out [] rfl rfl fun u h => ⟨h.1, trivial⟩⟩
theorem GrowP_spec (n : Nat) (hn : n ≤ 1000000) : Does Tryz.prog tb 294 [.slice none 0 0, intV n] [] (fun _ => True) (fun y : Option Addr × Nat => .slice y.1 0 y.2) (fun y => [(0, rowE kP y.1 y.2 [])]) (fun _ _ _ => True) := by
 refine Does.enter tk [(0, .av (.val (.slice none 0 0))), (1, intE n)] Tryz.func294 rfl Tryz.ntmps294 rfl rfl 0 ?_
 intro B0 m0 K
 refine RH.adv tk [false] rfl rfl (by simp <;> omega) ?_
 refine RH.read (intE ((0 : Nat) : Int)) rfl rfl rfl rfl (fun w a _ ha => op_cap (A := none) (n_ := 0) (c := 0) (e := 29) ha rfl rfl (tk.und (by kernel_rfl))) ?_
 by_cases h0 : 0 < n
 ·refine RH.adv tk [true] rfl rfl (by simp <;> omega) ?_
  refine RH.read (intE ((0 : Nat) : Int)) rfl rfl rfl rfl (fun w a _ ha => op_cap (A := none) (n_ := 0) (c := 0) (e := 29) ha rfl rfl (tk.und (by kernel_rfl))) ?_
  refine RH.adv tk [] rfl rfl (by simp <;> omega) ?_
  refine RH.go rfl rfl (OpGo.appendMake0 (id := 0) (q := n) (e := 29) (i := Tryz.t29) (z := (Tryz.t29).zero.getD undef) tk rfl (by kernel_rfl) (by kernel_rfl) (by kernel_rfl) (by kernel_rfl) (by decide) (by kernel_rfl) rfl rfl rfl h0 (by show n * 8 ≤ _; omega) (by simp only [maxLen]; omega)) 1 ?_
  rintro ⟨cap', X⟩ m1 hm1
  refine RH.pure (fun w h => h.2) fun ⟨hX1, hX2, hX3⟩ => ?_
  dsimp only at hX1 hX2 hX3 ⊢
  refine RH.adv tk [] rfl rfl (by simp <;> omega) ?_
  refine RH.cook (id := 0) (g := m0) (sz := 1) 0 cap' rfl (by omega) hX2 hX3 ?_
  refine RH.ret1 Tryz.func294 rfl rfl fun w hst => ⟨(some ⟨m0, 0, none⟩, cap'), rfl, hst.out [] rfl rfl fun u h => ⟨h.1.1, trivial⟩⟩
 ·refine RH.adv tk [false] rfl rfl (by simp <;> omega) ?_
  refine RH.nilrow 0 kP.T kP.sz 1 ?_
  refine RH.ret1 Tryz.func294 rfl rfl fun w hst => ⟨(none, 0), rfl, hst.out [] rfl rfl fun u h => ⟨h.1, trivial⟩⟩
def kSliP : Kd (Option Addr × Nat × Nat) where
 T := 163
 sz := 1
 ev x := .av (.val (.slice x.1 x.2.1 x.2.2))
 ok x := ⟨rfl, Tryz.t163, rfl, rfl⟩
 size x := rfl
abbrev sliOfP (r : Row Plot) : Option Addr × Nat × Nat := (r.A, r.l.length, r.c)
def lenP (rs : List (Row Plot)) : Nat := (rs.map fun r => r.l.length).sum
theorem ConcatP_spec (A : Option Addr) (c : Nat) (rs : List (Row Plot)) (hn : lenP rs ≤ 1000000) :
  Does Tryz.prog tb 279 [.slice A rs.length c] [] (fun u => Sl kSliP u A c (rs.map sliOfP) ∧ ∀ r ∈ rs, Sl kP u r.A r.c r.l) (fun y : Option Addr × Nat => .slice y.1 (rs.flatMap Row.l).length y.2) (fun y => [(0, rowE kP y.1 y.2 (rs.flatMap Row.l))]) (fun _ _ _ => True) := by
 have hl : lim = 140737488351232 := rfl
 refine Does.enter tk [(0, slE A rs.length c)] Tryz.func279 rfl Tryz.ntmps279 rfl rfl 0 ?_
 intro B0 m0 K
 refine RH.pure (fun u h => h.2.1.small) fun hsm => ?_
 rw [List.length_map] at hsm
 have hls : ∀ i, lenP (rs.take i) ≤ lenP rs := by
  intro i
  have : rs = rs.take i ++ rs.drop i := (List.take_append_drop i rs).symm
  conv => rhs; rw [this]
  unfold lenP
  rw [List.map_append, List.sum_append]; omega
 have hlf : ∀ l : List (Row Plot), (l.flatMap Row.l).length = lenP l := by
  intro l
  unfold lenP
  rw [List.length_flatMap]
 refine RH.adv tk [] rfl rfl (by simp <;> omega) ?_
 refine RH.loop (α := Nat) (fun i => [(0, slE A rs.length c), (9, slE A rs.length c), (10, intE rs.length), (11, intE i), (3, intE (lenP (rs.take i)))]) (fun _ => []) (fun i u => (K u ∧ Sl kSliP u A c (rs.map sliOfP) ∧ ∀ r ∈ rs, Sl kP u r.A r.c r.l) ∧ i ≤ rs.length) (fun i => rs.length - i) 0 rfl rfl (fun u hu => ⟨hu, Nat.zero_le _⟩) ?_
 intro i m
 refine RH.pure (fun u hu => hu.2) fun hi => ?_
 by_cases hlt : i < rs.length
 ·have hts : rs.take (i + 1) = rs.take i ++ [rs[i]] := List.take_succ_eq_append_getElem hlt
  have hle : lenP (rs.take (i + 1)) = lenP (rs.take i) + rs[i].l.length := by rw [hts]; unfold lenP; rw [List.map_append, List.sum_append]; simp only [List.map_cons, List.map_nil, List.sum_cons, List.sum_nil, Nat.add_zero]
  have hb1 := hls (i + 1)
  refine RH.pure (fun u hu => hu.1.2.1.ptr (i := i) (by simpa using hlt)) fun hptr => ?_
  refine RH.adv tk [true] rfl rfl (by simp [hptr] <;> omega) ?_
  refine RH.loadS (slE rs[i].A rs[i].l.length rs[i].c) rfl rfl rfl rfl (fun u hu => by
   have h1 := hu.fact.1.2.1.load (i := i) (by simpa using hlt)
   rw [List.getElem_map] at h1
   exact h1) ?_
  refine RH.adv tk [false] rfl rfl (by simp <;> omega) ?_
  refine RH.again (i + 1) (.head _) ?_ rfl (by show rs.length - (i + 1) < rs.length - i; omega) fun u hu => ⟨hu.1, hlt⟩
  rw [hle]
  rfl
 ·have hi' : i = rs.length := by omega
  subst hi'
  rw [List.take_length]
  refine RH.adv tk [false] rfl rfl (by simp <;> omega) ?_
  refine RH.doB [] 1 (hc := Tryz.call294) (ho := rfl) (hw := rfl) (hd := rfl) (hf := rfl) (hes := rfl) (hσ := rfl) (hn := rfl) (hV := fun _ => rfl) (hG := fun _ => rfl) (e := fun y : Option Addr × Nat => rowS 0 y.1 0 y.2) (hC := GrowP_spec (lenP rs) hn) (hp := fun _ _ => trivial) ?_
  rintro ⟨A1, c1⟩ m1 hm1
  refine RH.drop ?_
  refine RH.adv tk [] rfl rfl (by simp <;> omega) ?_
  refine RH.loop (α := Nat × (Option Addr × Nat)) (fun y => [(0, slE A rs.length c), (25, slE A rs.length c), (26, intE rs.length), (27, intE y.1), (6, rowS 0 y.2.1 ((rs.take y.1).flatMap Row.l).length y.2.2)]) (fun y => [(0, rowE kP y.2.1 y.2.2 ((rs.take y.1).flatMap Row.l))]) (fun y u => (K u ∧ Sl kSliP u A c (rs.map sliOfP) ∧ ∀ r ∈ rs, Sl kP u r.A r.c r.l) ∧ y.1 ≤ rs.length) (fun y => rs.length - y.1) (0, (A1, c1)) rfl rfl (fun u hu => ⟨hu.1, Nat.zero_le _⟩) ?_
  rintro ⟨i, A2, c2⟩ m2
  refine RH.pure (fun u hu => hu.2) fun hi => ?_
  dsimp only at hi ⊢
  by_cases hlt : i < rs.length
  ·have hts : rs.take (i + 1) = rs.take i ++ [rs[i]] := List.take_succ_eq_append_getElem hlt
   have hfm : (rs.take (i + 1)).flatMap Row.l = (rs.take i).flatMap Row.l ++ rs[i].l := by rw [hts, List.flatMap_append]; simp
   have hb1 := hls (i + 1)
   rw [← hlf, hfm, List.length_append] at hb1
   refine RH.pure (fun u hu => hu.1.2.1.ptr (i := i) (by simpa using hlt)) fun hptr => ?_
   refine RH.adv tk [true] rfl rfl (by simp [hptr] <;> omega) ?_
   refine RH.loadS (slE rs[i].A rs[i].l.length rs[i].c) rfl rfl rfl rfl (fun u hu => by
    have h1 := hu.fact.1.2.1.load (i := i) (by simpa using hlt)
    rw [List.getElem_map] at h1
    exact h1) ?_
   refine RH.adv tk [] rfl rfl (by simp <;> omega) ?_
   refine RH.apK (κ := kP) (id := 0) (l := (rs.take i).flatMap Row.l) (r := rs[i].l) rfl rfl rfl rfl rfl rfl elt_p rfl rfl (fun u hu => (hu.fact.1.2.2 _ (List.getElem_mem hlt)).lies) (by omega) (by omega) ?_
   intro A3 c3 m3 hm3
   rw [← hfm]
   refine RH.adv tk [] rfl rfl (by simp <;> omega) ?_
   exact RH.again (i + 1, (A3, c3)) (.head _) rfl rfl (by show rs.length - (i + 1) < rs.length - i; omega) fun u hu => ⟨hu.1, hlt⟩
  ·have hi' : i = rs.length := by omega
   subst hi'
   rw [List.take_length]
   refine RH.adv tk [false] rfl rfl (by simp <;> omega) ?_
   refine RH.ret1 Tryz.func279 rfl rfl fun w hst => ⟨(A2, c2), rfl, hst.out [] rfl rfl fun u h => ⟨h.1.1, trivial⟩⟩
theorem V.Sl.dropA {α : Type} {κ : Kd α} {w : World} {A : Option Addr} {c : Nat} {l : List α} (h : Sl κ w A c l) (i : Nat) (hi : i ≤ l.length) : Sl κ w (V.subA A i c κ.sz) (c - i) (l.drop i) := by
 have hcap := h.cap
 have hsm := h.small
 have hlen : (l.drop i).length = l.length - i := List.length_drop
 by_cases hc : c = i
 ·have hd : l.drop i = [] := List.drop_eq_nil_of_le (by omega)
  rw [hd]
  refine ⟨Nat.zero_le _, Nat.zero_le _, fun e => absurd rfl e, fun j v hj => by simp at hj, fun _ => ⟨rfl, by omega⟩⟩
 ·unfold V.subA
  rw [if_neg hc]
  cases A with
  | none => obtain ⟨rfl, rfl⟩ := h.nil rfl; simp at hi; omega
  | some a =>
   refine ⟨by omega, by omega, fun e => ?_, fun j v hj => ?_, nofun⟩
   ·have hp := h.addr (by rintro rfl; simp at e)
    unfold Ptr at hp
    injection hp with hp
    simp only [Option.map_some]
    rw [hp, Addr.add_lit]
    rfl
   ·have hp := h.addr (by rintro rfl; simp at hj)
    unfold Ptr at hp
    injection hp with hp
    simp only [Option.map_some]
    rw [hp, Addr.add_lit]
    have e1 : (l.drop i).flatMap κ.cs = (l.flatMap κ.cs).drop (i * κ.sz) := by
     have e2 : l.flatMap κ.cs = (l.take i).flatMap κ.cs ++ (l.drop i).flatMap κ.cs := by rw [← List.flatMap_append, List.take_append_drop]
     have e3 : ((l.take i).flatMap κ.cs).length = i * κ.sz := by rw [κ.flL, List.length_take, Nat.min_eq_left hi]
     rw [e2, ← e3, List.drop_left]
    rw [e1, List.getElem?_drop] at hj
    have := h.cells _ v hj
    rw [← Nat.add_assoc] at this
    exact this
theorem replaced_spec (A : Option Addr) (c : Nat) (l : List Plot) (i : Nat) (x : Plot) (hi : i < l.length) (hl : l.length ≤ 1000) : Does Tryz.prog tb 169 [.slice A l.length c, intV i, ptrV x.b] [] (fun u => Sl kP u A c l) (fun y : Option Addr × Nat => .slice y.1 l.length y.2) (fun y => [(0, rowE kP y.1 y.2 (l.set i x))]) (fun _ _ _ => True) := by
 refine Does.enter tk [(0, slE A l.length c), (1, intE i), (2, ptrAt x.b)] Tryz.func169 rfl Tryz.ntmps169 rfl rfl 0 ?_
 intro B0 m0 K
 refine RH.adv tk [] rfl rfl (by simp <;> omega) ?_
 refine RH.doB [] 1 (hc := Tryz.call172) (ho := rfl) (hw := rfl) (hd := rfl) (hf := rfl) (hes := rfl) (hσ := rfl) (hn := rfl) (hV := fun _ => rfl) (hG := fun _ => rfl) (e := fun y : Option Addr × Nat => rowS 0 y.1 l.length y.2) (hC := cloneP A c l (by omega)) (hp := fun u hu => hu.fact.2) ?_
 rintro ⟨A1, c1⟩ m1 hm1
 refine RH.drop ?_
 dsimp only
 refine RH.pureS (fun u hu => hu.ptr (id := 0) (κ := kP) (l := l) rfl (by intro e; rw [e] at hi; cases hi)) fun hptr => ?_
 refine RH.adv tk [] rfl rfl (by simp [hptr] <;> omega) ?_
 refine RH.storeK (κ := kP) (id := 0) (l := l) i x rfl rfl rfl rfl rfl rfl hi rfl rfl ?_
 intro m2 hm2
 refine RH.adv tk [] rfl rfl (by simp <;> omega) ?_
 refine RH.ret1 Tryz.func169 rfl rfl fun w hst => ⟨(A1, c1), rfl, by
  have := hst.out (G := [(0, rowE kP A1 c1 (l.set i x))]) (J := fun u => K u ∧ True) [] rfl rfl fun u h => ⟨h.1, trivial⟩
  exact this⟩
theorem insB_spec (A : Option Addr) (c : Nat) (l : List UInt8) (i : Nat) (x : UInt8) (hi : i ≤ l.length) (hl : l.length ≤ 1000) : Does Tryz.prog tb 246 [.slice A l.length c, intV i, u8V x] [] (fun u => Sl kBy u A c l) (fun y : Option Addr × Nat => .slice y.1 (l.take i ++ x :: l.drop i).length y.2) (fun y => [(0, rowE kBy y.1 y.2 (l.take i ++ x :: l.drop i))]) (fun _ _ _ => True) := by
 have hlim : lim = 140737488351232 := rfl
 refine Does.enter tk [(0, slE A l.length c), (1, intE i), (2, byE x)] Tryz.func246 rfl Tryz.ntmps246 rfl rfl 0 ?_
 intro B0 m0 K
 refine RH.pure (fun u h => h.2.cap) fun hcap => ?_
 have hz : (Tryz.t5).size = 1 := by kernel_rfl
 have htl : (l.take i).length = i := by rw [List.length_take]; omega
 have hdl : (l.drop i).length = l.length - i := List.length_drop
 have hfm : ([⟨A, c, l.take i⟩, ⟨some ⟨m0, 0, none⟩, 1, [x]⟩, ⟨V.subA A i c 1, c - i, l.drop i⟩] : List (Row UInt8)).flatMap Row.l = l.take i ++ x :: l.drop i := by simp
 refine RH.adv tk [] rfl rfl (by simp <;> omega) ?_
 refine RH.draw rfl [] rfl 11 rfl rfl ?_
 refine RD.adv tk (by kernel_rfl) [] rfl rfl (by simp <;> omega) ?_
 rw [Int.toNat_natCast, hz]
 refine RD.step tk (nx := 0) (i := 4) rfl (by kernel_rfl) rfl rfl rfl ?_ rfl (fun _ h => h) ⟨rfl, rfl⟩ ?_
 ·first | trivial | (simp; done)
 refine RD.adv tk (by kernel_rfl) [] rfl rfl (by simp <;> omega) ?_
 refine RD.step tk (nx := 1) (i := 8) rfl (by kernel_rfl) rfl rfl rfl ?_ rfl (fun _ h => h) ⟨rfl, rfl⟩ ?_
 ·first | trivial | (simp; done)
 refine RD.adv tk (by kernel_rfl) [] rfl rfl (by simp <;> omega) ?_
 have hC := Concat_spec (some ⟨m0 + 1, 0, none⟩) 3 [⟨A, c, l.take i⟩, ⟨some ⟨m0, 0, none⟩, 1, [x]⟩, ⟨V.subA A i c 1, c - i, l.drop i⟩] (by simp [lenS, htl, hdl]; omega)
 rw [hfm] at hC
 refine RD.doB (i := 9) [] 3 (fun y : Option Addr × Nat => rowS 2 y.1 (l.take i ++ x :: l.drop i).length y.2) rfl (by kernel_rfl) rfl rfl rfl rfl Tryz.call115 hC rfl rfl (fun _ => rfl) (fun _ => rfl) (fun u hu => ⟨?_, ?_⟩) (fun _ => rfl) (fun _ h => h) ?_
 ·have h := Sl.own (B := B0) (hu.row (κ := kSli) (l := [(A, i, c), (some ⟨m0, 0, none⟩, 1, 1), (V.subA A i c 1, l.length - i, c - i)]) (id := 1) rfl) (by simp [hlim])
  have e : ([⟨A, c, l.take i⟩, ⟨some ⟨m0, 0, none⟩, 1, [x]⟩, ⟨V.subA A i c 1, c - i, l.drop i⟩] : List (Row UInt8)).map sliOf = [(A, i, c), (some ⟨m0, 0, none⟩, 1, 1), (V.subA A i c 1, l.length - i, c - i)] := by simp [htl, hdl]
  rw [e]
  exact h
 ·intro r hr
  simp only [List.mem_cons, List.not_mem_nil, or_false] at hr
  rcases hr with rfl | rfl | rfl
  ·exact YtbfjmimiigjenaaGreatDoor.Sl.take hu.fact.2 i hi
  ·exact Sl.own (B := B0) (hu.row (κ := kBy) (l := [x]) (id := 0) rfl) (by simp [hlim])
  ·exact hu.fact.2.dropA i hi
 rintro ⟨A1, c1⟩ m1 hm1
 refine RD.adv tk (by kernel_rfl) [] rfl rfl (by simp <;> omega) ?_
 refine RD.done (.inl rfl) (by kernel_rfl) ?_
 refine RH.adv tk [] rfl rfl (by simp <;> omega) ?_
 refine RH.ret1 Tryz.func246 rfl rfl fun w hst => ⟨(A1, c1), rfl, hst.out [(0, 2)] rfl rfl fun u h => ⟨h.1.1, trivial⟩⟩
theorem insP_spec (A : Option Addr) (c : Nat) (l : List Plot) (i : Nat) (x : Plot) (hi : i ≤ l.length) (hl : l.length ≤ 1000) : Does Tryz.prog tb 247 [.slice A l.length c, intV i, ptrL x] [] (fun u => Sl kP u A c l) (fun y : Option Addr × Nat => .slice y.1 (l.take i ++ x :: l.drop i).length y.2) (fun y => [(0, rowE kP y.1 y.2 (l.take i ++ x :: l.drop i))]) (fun _ _ _ => True) := by
 have hlim : lim = 140737488351232 := rfl
 refine Does.enter tk [(0, slE A l.length c), (1, intE i), (2, ptrLE x)] Tryz.func247 rfl Tryz.ntmps247 rfl rfl 0 ?_
 intro B0 m0 K
 refine RH.pure (fun u h => h.2.cap) fun hcap => ?_
 have hz : (Tryz.t29).size = 1 := by kernel_rfl
 have htl : (l.take i).length = i := by rw [List.length_take]; omega
 have hdl : (l.drop i).length = l.length - i := List.length_drop
 have hfm : ([⟨A, c, l.take i⟩, ⟨some ⟨m0, 0, none⟩, 1, [x]⟩, ⟨V.subA A i c 1, c - i, l.drop i⟩] : List (Row Plot)).flatMap Row.l = l.take i ++ x :: l.drop i := by simp
 refine RH.adv tk [] rfl rfl (by simp <;> omega) ?_
 refine RH.draw rfl [] rfl 11 rfl rfl ?_
 refine RD.adv tk (by kernel_rfl) [] rfl rfl (by simp <;> omega) ?_
 rw [Int.toNat_natCast, hz]
 refine RD.step tk (nx := 0) (i := 4) rfl (by kernel_rfl) rfl rfl rfl ?_ rfl (fun _ h => h) ⟨rfl, rfl⟩ ?_
 ·first | trivial | (simp; done)
 refine RD.adv tk (by kernel_rfl) [] rfl rfl (by simp <;> omega) ?_
 refine RD.step tk (nx := 1) (i := 8) rfl (by kernel_rfl) rfl rfl rfl ?_ rfl (fun _ h => h) ⟨rfl, rfl⟩ ?_
 ·first | trivial | (simp; done)
 refine RD.adv tk (by kernel_rfl) [] rfl rfl (by simp <;> omega) ?_
 have hC := ConcatP_spec (some ⟨m0 + 1, 0, none⟩) 3 [⟨A, c, l.take i⟩, ⟨some ⟨m0, 0, none⟩, 1, [x]⟩, ⟨V.subA A i c 1, c - i, l.drop i⟩] (by simp [lenP, htl, hdl]; omega)
 rw [hfm] at hC
 refine RD.doB (i := 9) [] 3 (fun y : Option Addr × Nat => rowS 2 y.1 (l.take i ++ x :: l.drop i).length y.2) rfl (by kernel_rfl) rfl rfl rfl rfl Tryz.call279 hC rfl rfl (fun _ => rfl) (fun _ => rfl) (fun u hu => ⟨?_, ?_⟩) (fun _ => rfl) (fun _ h => h) ?_
 ·have h := Sl.own (B := B0) (hu.row (κ := kSliP) (l := [(A, i, c), (some ⟨m0, 0, none⟩, 1, 1), (V.subA A i c 1, l.length - i, c - i)]) (id := 1) rfl) (by simp [hlim])
  have e : ([⟨A, c, l.take i⟩, ⟨some ⟨m0, 0, none⟩, 1, [x]⟩, ⟨V.subA A i c 1, c - i, l.drop i⟩] : List (Row Plot)).map sliOfP = [(A, i, c), (some ⟨m0, 0, none⟩, 1, 1), (V.subA A i c 1, l.length - i, c - i)] := by simp [htl, hdl]
  rw [e]
  exact h
 ·intro r hr
  simp only [List.mem_cons, List.not_mem_nil, or_false] at hr
  rcases hr with rfl | rfl | rfl
  ·exact YtbfjmimiigjenaaGreatDoor.Sl.take hu.fact.2 i hi
  ·exact Sl.own (B := B0) (hu.row (κ := kP) (l := [x]) (id := 0) rfl) (by simp [hlim])
  ·exact hu.fact.2.dropA i hi
 rintro ⟨A1, c1⟩ m1 hm1
 refine RD.adv tk (by kernel_rfl) [] rfl rfl (by simp <;> omega) ?_
 refine RD.done (.inl rfl) (by kernel_rfl) ?_
 refine RH.adv tk [] rfl rfl (by simp <;> omega) ?_
 refine RH.ret1 Tryz.func247 rfl rfl fun w hst => ⟨(A1, c1), rfl, hst.out [(0, 2)] rfl rfl fun u h => ⟨h.1.1, trivial⟩⟩
def Late (pre Q : World → Prop) (m : Nat) (u : World) : Prop := ∀ v, Agr (fun k => k < m) u v → pre v → Q v
instance Late.from {pre Q : World → Prop} : From (Late pre Q) := ⟨fun _ _ _ _ h hj v hv hp => hj v (h.trans hv) hp⟩
theorem Late.now {pre Q : World → Prop} {m : Nat} {u : World} (h : Late pre Q m u) (hp : pre u) : Q u := h u (Agr.refl _ _) hp
theorem Late.up {pre Q : World → Prop} {m m' : Nat} {u v : World} (h : Late pre Q m' u) (hm : m ≤ m') (hv : Agr (fun k => k < m) u v) (hp : pre v) : Q v :=
 h v (hv.mono fun k _ hk => Nat.lt_of_lt_of_le hk hm) hp
theorem hoL {m : Nat} {u v : World} {x : HE} (h : x.holds tb m u) (hv : Agr (fun k => k < m) u v) : x.holds tb m v :=
 HE.kept h fun k hk => hv.block k (HE.lt h hk).2 (Nat.not_lt.2 (HE.lt h hk).1)
theorem holds_low {m B : Nat} {u : World} {x : HE} (hB : B ≤ m) (h : x.holds tb m u) : x.holds tb B u := by
 cases x with
 | box b fs T => exact ⟨Nat.le_trans hB h.1, h.2⟩
 | row v e sz n xs =>
  refine ⟨h.1, ?_⟩
  rcases h.2 with h2 | ⟨g, cap, cur, hv, hg, r⟩
  ·exact .inl h2
  ·exact .inr ⟨g, cap, cur, hv, Nat.le_trans hB hg, r⟩
 | obj b o => exact ⟨Nat.le_trans hB h.1, h.2⟩
theorem St.low {m B : Nat} {H : Heap} {I : World → Prop} {w : World} (hB : B ≤ m) (h : St tb m H I w) : St tb B H I w :=
 ⟨Nat.le_trans hB h.base, fun id x hx => holds_low hB (h.holds id x hx), h.apart, h.keeps⟩
theorem V.Does.enter0 {n : Nat} {g : FuncId} {fn : Func} {c : Code} {args : List Value} {pre : World → Prop} {α : Type} {W : α → Value} {G' : α → Heap} {J : α → Nat → World → Prop} (E : SEnv) (hf : Tryz.prog.funcs[g]? = some fn) (hb : fn.body = some c) (hn : fn.ntmps = n)
  (hl : Nat.ble args.length n = true) (hE : V.Sub E (fun t => args[t]?)) (nx : Nat)
  (h : ∀ (m : Nat) (K : World → Prop), RH Tryz.prog (fr g) n tb m [] (fun r w' => ∃ x, r = .returned (W x) ∧ St tb m (G' x) (fun u => K u ∧ J x m u) w') [.code c] E [] nx m (fun u => K u ∧ pre u)) : Does Tryz.prog tb g args [] pre W G' J := by
 intro B0 w K hst hp
 have hst2 : St tb w.heap.size [] (fun u => K u ∧ pre u) w := ⟨Nat.le_refl _, (fun id x hx => nomatch hx), (fun i j x y _ hx => nomatch hx), fun u hu => ⟨hst.keeps u hu, hp u (hst.keeps u hu)⟩⟩
 have := YtbfjmimiigjenaaGreatDoor.V.enter (f := g) (n := n) hf hb hn hl (Run.weaken _ hE.le (h w.heap.size K w rfl hst2))
 refine this.mono ?_
 rintro r w' ⟨x, hr, hx⟩
 exact ⟨x, hr, St.low hst.base hx⟩
mutual
def Tree.thin (N : Nat) : Tree → Prop
 | .node s _ k => s.length ≤ N ∧ k.thin N
def Kids.thin (N : Nat) : Kids → Prop
 | .nil => True
 | .cons _ t r => t.thin N ∧ r.thin N
end
theorem Kids.thin_at {N : Nat} : ∀ {k : Kids}, k.thin N → ∀ i (h : i < k.trees.length), (k.trees[i]).thin N
 | .nil, _, i, h => by cases h
 | .cons b t r, ht, i, h => by
  unfold Kids.thin at ht
  cases i with
  | zero => exact ht.1
  | succ i => exact Kids.thin_at ht.2 i (by simpa [Kids.trees] using h)
theorem IK.of {u : World} : ∀ {k : Kids} {ps : List Plot}, ps.length = k.trees.length → (∀ i (h : i < ps.length) (h2 : i < k.trees.length), IT u ps[i] k.trees[i]) → IK u ps k
 | .nil, [], _, _ => trivial
 | .nil, _ :: _, h, _ => by simp [Kids.trees] at h
 | .cons _ t r, [], h, _ => by simp [Kids.trees] at h
 | .cons _ t r, p :: ps, h, ha => by
  unfold IK
  refine ⟨ha 0 (by simp) (by simp [Kids.trees]), IK.of (by simpa [Kids.trees] using h) fun i h1 h2 => ?_⟩
  exact ha (i + 1) (by simpa using h1) (by simpa [Kids.trees] using h2)
theorem box_node {m : Nat} {u : World} {b : Nat} {fs : List AV} (h : (HE.box b fs 165).holds tb m u) : u.heap[b]? = some (.cells (boxCells fs) 165 (0, 0)) := h.2.1
theorem opP {n : Nat} {env : SEnv} {a : Act} (ha : Agree n a (kn env)) {o : Oper} {T' : TypeId} {x y : Operand} {u : EV} {p : Option Addr} {w : World} (hop : o.op = .binOp .eql 29 x y T') (hx : evE env x = some u) (hu : u.v = .pointer p) (hy : a.eval y = .pointer none) :
  (execOp a.eval o).run Tryz.prog w = .ok (.value (EV.av (.val (.bool p.isNone))).v) w := by
 have h := run_eql_pointer_nil (P := Tryz.prog) (w := w) 29 p (by kernel_rfl)
 simp only [execOp, hop, ev_run ha hx, hu, hy]
 have hg : (eqGuard .eql 29 x y (.pointer p) (.pointer none)).run Tryz.prog w = .ok () w := by
  simp [eqGuard]
 rw [Sem.run_bind, Sem.run_bind, hg, Result.andThen_ok, h]
 rfl
theorem put_nil (name : Str) (x : Sum) (hn : name.length ≤ 1000) : Does Tryz.prog tb 167 [.pointer none, strV name, sumV x] [] (fun u => Glob u) (fun b : Plot => ptrV b.b) (fun _ => []) (fun b => Late (fun _ => True) (fun u => IT u b (leaf name x))) := by
 refine V.Does.enter0 [(0, .av (.val (.pointer none))), (1, strE name), (2, sumE x)] Tryz.func167 rfl Tryz.ntmps167 rfl rfl 0 ?_
 intro m0 K
 refine RH.adv tk [] rfl rfl (by simp) ?_
 refine RH.read (.av (.val (.bool (none : Option Addr).isNone))) rfl rfl rfl rfl (fun u q _ ha => opP ha rfl rfl rfl rfl) ?_
 refine RH.adv tk [true] rfl rfl (by simp) ?_
 have hmany : (Tree.node name (some x) .nil).many = 1 := rfl
 refine RH.doB [] 3 (hc := Tryz.call173) (ho := rfl) (hw := rfl) (hd := rfl) (hf := rfl) (hes := rfl) (hσ := rfl) (hn := rfl) (hV := fun _ => rfl) (hG := fun _ => rfl) (e := fun b : Nat => ptrAt b) (hC := made_spec name (some x) .nil none 0 none 0 [] 0 Sum.zero (by decide) hn (by rw [hmany]; decide)) (hp := fun u hu => ⟨hu.fact.2, Sl.void u, Sl.void u, trivial⟩) ?_
 rintro b m1 hm1
 refine RH.drop ?_
 dsimp only
 refine RH.free (i := 1) rfl ?_
 refine RH.adv tk [] rfl rfl (by simp <;> omega) ?_
 refine RH.ret1 Tryz.func167 rfl rfl fun w hst => ⟨.node b none 0 none 0 [], rfl, hst.out [] rfl rfl fun u h => ⟨h.1.1, fun v hv _ => ?_⟩⟩
 refine YtbfjmimiigjenaaGreatDoor.Part.tree (A := none) (c := 0) (B := none) (d := 0) (ps := []) ⟨box_node (hoL h.2 hv), Sl.void v, Sl.void v, trivial⟩
theorem vok_node (s : Str) (v : Option Sum) (A : Option Addr) (q c : Nat) (B : Option Addr) (p d : Nat) (many : Int) (own : Sum) : VOk tb 165 (nodE s v A q c B p d many own).v := by
 refine ⟨_, Tryz.t165, rfl, rfl, ?_, ?_⟩
 ·have h1 : (sumV (v.getD Sum.zero)).cells.size = 32 := (sumV_ok _).1
  have h2 : (sumV own).cells.size = 32 := (sumV_ok _).1
  simp only [nodF, List.map_cons, List.map_nil, flat_cons, flat_nil, AV.v, List.append_nil, List.size_toArray, List.length_append, Array.length_toList, h1, h2]
  rfl
 ·intro u hu
  have : u ∈ (boxCells (nodF s v A q c B p d many own)).toList := hu
  rw [nod_cells] at this
  simp only [List.mem_append, List.mem_cons, List.not_mem_nil, or_false, List.mem_map] at this
  rcases this with (rfl | rfl) | ⟨x, _, rfl⟩ | (rfl | rfl | rfl) | ⟨x, _, rfl⟩ <;> rfl
theorem Part.all {u : World} {b : Nat} {s : Str} {v : Option Sum} {k : Kids} {A : Option Addr} {c : Nat} {B : Option Addr} {d : Nat} {ps : List Plot} {many : Int} {own : Sum} (h : YtbfjmimiigjenaaGreatDoor.Part u b s v k A c B d ps many own) : (loadVar 165 ⟨b, 0, none⟩).run Tryz.prog u = .ok (nodE s v A k.bytes.length c B ps.length d many own).v u := by
 refine V.run_load tk (vok_node s v A k.bytes.length c B ps.length d many own) fun j x hj => ?_
 rw [Nat.zero_add]
 refine h.cell j x ?_
 rw [← nod_cells]
 exact hj
theorem ins_get {α : Type} (l : List α) (p : Nat) (a : α) (hp : p ≤ l.length) (i : Nat) (h : i < (l.take p ++ a :: l.drop p).length) :
  (l.take p ++ a :: l.drop p)[i] = if h1 : i < p then l[i]'(by omega) else if h2 : i = p then a else l[i - 1]'(by simp at h; omega) := by
 have ht : (l.take p).length = p := by rw [List.length_take]; omega
 by_cases h1 : i < p
 ·rw [dif_pos h1, List.getElem_append_left (by omega), List.getElem_take]
 ·rw [dif_neg h1, List.getElem_append_right (by omega)]
  by_cases h2 : i = p
  ·subst h2
   rw [dif_pos rfl]
   simp [ht]
  ·rw [dif_neg h2]
   have e1 : i - (l.take p).length = (i - p - 1) + 1 := by omega
   simp only [e1, List.getElem_cons_succ, List.getElem_drop]
   congr 1
   omega
theorem IK.ins {u : World} {k k' : Kids} {ps : List Plot} {p : Nat} {b : Plot} {t : Tree} (h : IK u ps k) (hp : p ≤ k.trees.length) (ht : k'.trees = k.trees.take p ++ t :: k.trees.drop p) (hb : IT u b t) : IK u (ps.take p ++ b :: ps.drop p) k' := by
 have hpl := h.len
 rw [k.len] at hpl
 refine IK.of (by rw [ht]; simp [hpl]) fun i h1 h2 => ?_
 have h3 : k'.trees[i] = (k.trees.take p ++ t :: k.trees.drop p)[i]'(by rw [← ht]; exact h2) := by simp only [ht]
 rw [h3, ins_get ps p b (by omega) i h1, ins_get k.trees p t hp i]
 simp at h1
 by_cases c1 : i < p
 ·rw [dif_pos c1, dif_pos c1]
  exact h.at i _ _
 ·rw [dif_neg c1, dif_neg c1]
  by_cases c2 : i = p
  ·rw [dif_pos c2, dif_pos c2]; exact hb
  ·rw [dif_neg c2, dif_neg c2]
   exact h.at (i - 1) _ _
def PutOk (t : Tree) (name : Str) (x : Sum) : Prop := ∀ b : Plot, Does Tryz.prog tb 167 [ptrV b.b, strV name, sumV x] [] (fun u => Glob u ∧ IT u b t) (fun b' : Plot => ptrV b'.b) (fun _ => []) (fun b' => Late (fun u => IT u b t) (fun u => IT u b' (t.put name x)))
theorem put_ns (s : Str) (r : Str) (x : Sum) (v : Option Sum) (k : Kids) (hk : k.wf) (hth : k.thin 1000) {M : Nat} (hM : M ≤ 900000000) (hm : k.many ≤ M) (hn : (s ++ r).length ≤ 1000)
  (ih : ∀ t : Tree, t.wf → t.thin 1000 → t.many ≤ M → ∀ c r', r = c :: r' → PutOk t r' x)
  (b : Nat) (A : Option Addr) (c : Nat) (B : Option Addr) (d : Nat) (ps : List Plot) (many : Int) (own : Sum) :
  Does Tryz.prog tb 167 [ptrV b, strV (s ++ r), sumV x] [] (fun u => Glob u ∧ Part u b s v k A c B d ps many own) (fun b' : Plot => ptrV b'.b) (fun _ => []) (fun b' => Late (fun u => Part u b s v k A c B d ps many own) (fun u => IT u b' ((Tree.node s v k).put (s ++ r) x))) := by
 have hl : lim = 140737488351232 := rfl
 have hlen := kbL hk
 have hsl : s.length ≤ 1000 := by rw [List.length_append] at hn; omega
 have hlcp : lcp s (s ++ r) = s.length := by
  have := lcp_app s [] r
  rw [List.append_nil, lcp_nil2] at this
  exact this
 refine V.Does.enter0 [(0, ptrAt b), (1, strE (s ++ r)), (2, sumE x)] Tryz.func167 rfl Tryz.ntmps167 rfl rfl 0 ?_
 intro m0 K
 refine RH.adv tk [] rfl rfl (by simp <;> omega) ?_
 refine RH.read (.av (.val (.bool (some (⟨b, 0, none⟩ : Addr)).isNone))) rfl rfl rfl rfl (fun u q _ ha => opP ha rfl rfl rfl rfl) ?_
 refine RH.adv tk [false] rfl rfl (by simp <;> omega) ?_
 refine RH.loadS (strE s) rfl rfl rfl rfl (fun u hu => hu.fact.2.2.stem) ?_
 refine RH.adv tk [] rfl rfl (by simp <;> omega) ?_
 refine RH.gives (ho := rfl) (hw := rfl) (hd := rfl) (hf := rfl) (hes := rfl) (hc := Tryz.call245) (e := intE (lcp s (s ++ r))) (hC := fun u hu => shared_spec u s (s ++ r) (by omega) (by omega)) ?_
 intro m1 hm1
 rw [hlcp]
 refine RH.adv tk [] rfl rfl (by simp <;> omega) ?_
 refine RH.loadS (strE s) rfl rfl rfl rfl (fun u hu => hu.fact.2.2.stem) ?_
 refine RH.adv tk [false] rfl rfl (by simp <;> omega) ?_
 refine RH.loadS (nodE s v A k.bytes.length c B ps.length d many own) rfl rfl rfl rfl (fun u hu => hu.fact.2.2.all) ?_
 cases r with
 | nil =>
  simp only [List.append_nil] at *
  refine RH.adv tk [true] rfl rfl (by simp <;> omega) ?_
  refine RH.draw rfl [(0, some (.box m0 [.val (sumV x)] 40))] rfl 5 rfl rfl ?_
  refine RD.adv tk (by kernel_rfl) [] rfl rfl (by simp <;> omega) ?_
  refine RD.step tk (nx := 2) (i := 2) rfl (by kernel_rfl) rfl rfl rfl ?_ rfl (fun _ h => h) rfl ?_
  ·first | trivial | (simp; done)
  refine RD.adv tk (by kernel_rfl) [] rfl rfl (by simp <;> omega) ?_
  refine RD.lastOp (i := 4) tk rfl (by kernel_rfl) rfl (by kernel_rfl) (by kernel_rfl) rfl rfl ?_ (Nat.le_refl _) rfl ?_
  ·first | trivial | (simp; done)
  intro m2 hm2
  refine RH.adv tk [] rfl rfl (by simp <;> omega) ?_
  have hmy : (Tree.node s (some x) k).many = 1 + k.many := rfl
  refine RH.doB [] 5 (hc := Tryz.call173) (ho := rfl) (hw := rfl) (hd := rfl) (hf := rfl) (hes := rfl) (hσ := rfl) (hn := rfl) (hV := fun _ => rfl) (hG := fun _ => rfl) (e := fun b' : Nat => ptrAt b') (hC := made_spec s (some x) k A c B d ps many own hlen hsl (by rw [hmy]; omega)) (hp := fun u hu => ⟨hu.fact.2.1, hu.fact.2.2.by_, hu.fact.2.2.to_, hu.fact.2.2.kids⟩) ?_
  rintro b' m3 hm3
  refine RH.drop ?_
  dsimp only
  refine RH.free (i := 2) rfl ?_
  refine RH.adv tk [] rfl rfl (by simp <;> omega) ?_
  refine RH.ret1 Tryz.func167 rfl rfl fun w hst => ⟨.node b' A c B d ps, rfl, hst.out [] rfl rfl fun u h => ⟨h.1.1, fun v' hv hp => ?_⟩⟩
  rw [put_here]
  exact YtbfjmimiigjenaaGreatDoor.Part.tree ⟨box_node (hoL h.2 hv), hp.by_, hp.to_, hp.kids⟩
 | cons e r' =>
  refine RH.adv tk [false] rfl rfl (by simp <;> omega) ?_
  have g1 : List.getD (s ++ e :: r') ((s.length : Int)).toNat 0 = e := by rw [getD_at (by simp)]; simp
  rw [g1]
  refine RH.gives (ho := rfl) (hw := rfl) (hd := rfl) (hf := rfl) (hes := rfl) (hc := Tryz.call168) (e := .av (.val (.tuple #[intV (posB k.bytes e), .bool (isB k.bytes e)]))) (hC := fun u hu => branch_spec b e s v k A c B d ps many own u hu.fact.2.2 hlen) ?_
  intro m2 hm2
  rw [put_kid]
  refine RH.pure (fun u h => (⟨h.2.2.kids.len, h.2.2.to_.ptr0⟩ : ps.length = k.bytes.length ∧ (ps ≠ [] → Ptr B))) fun ⟨hpl, hpB⟩ => ?_
  by_cases hB : isB k.bytes e = true
  ·refine RH.adv tk [true] rfl rfl (by simp [hB] <;> omega) ?_
   refine RH.tell [(0, ptrAt b), (1, strE (s ++ e :: r')), (5, .av (.box 0 m0 0)), (7, intE s.length), (10, .av (.box 1 m1 0)), (11, intE (posB k.bytes e))] [(0, some (.box m0 [.val (sumV x)] 40)), (1, some (.box m1 (nodF s v A k.bytes.length c B ps.length d many own) 165))] [] rfl rfl rfl 2 ?_
   obtain ⟨hpos, hput⟩ := (kget_pos (n := r') hk).1 hB
   have hkl := k.len
   have hpos' : posB k.bytes e < ps.length := by omega
   obtain ⟨he1, _, he2⟩ := kput_is r' x hk hB
   have hdr : (s ++ e :: r').drop (((s.length : Int) + 1).toNat) = r' := by
    rw [show ((s.length : Int) + 1).toNat = s.length + 1 by omega, ← List.drop_drop, List.drop_left]; rfl
   refine RH.draw rfl [(0, some (.box m0 [.val (sumV x)] 40))] rfl 21 rfl rfl ?_
   refine RD.adv tk (by kernel_rfl) [] rfl rfl (by simp <;> omega) ?_
   refine RD.load (by kernel_rfl) (i := 3) (slE B ps.length d) rfl rfl rfl rfl rfl rfl (fun w' h => h.2.2.lto) ?_
   refine RD.load (by kernel_rfl) (i := 8) (slE B ps.length d) rfl rfl rfl rfl rfl rfl (fun w' h => h.2.2.lto) ?_
   refine RD.adv tk (by kernel_rfl) [] rfl rfl (by simp [hpB (fun e => by rw [e] at hpos'; cases hpos')] <;> omega) ?_
   refine RD.load (by kernel_rfl) (i := 11) (ptrAt ps[posB k.bytes e].b) rfl rfl rfl rfl rfl rfl (fun w' h => h.2.2.to_.load hpos') ?_
   refine RD.adv tk (by kernel_rfl) [] rfl rfl (by simp <;> omega) ?_
   rw [hdr]
   have hkw := (kid_at hk (posB k.bytes e) hpos (by omega)).1
   have hkm := many_kid (k := k) (posB k.bytes e) hpos
   have hpm := many_kput (n := r') (x := x) (c := e) hk
   have hmy : (Tree.node s v (k.put e r' x)).many ≤ 1000000000 := by
    show (if v.isSome = true then 1 else 0) + (k.put e r' x).many ≤ _
    split at hpm <;> split <;> omega
   have hkids : ∀ u b1, Part u b s v k A c B d ps many own → IT u b1 ((k.trees[posB k.bytes e]).put r' x) → IK u (ps.set (posB k.bytes e) b1) (k.put e r' x) := by
    intro u b1 hp hb1
    refine IK.of (by rw [List.length_set, he2, List.length_set]; omega) fun i h1 h2 => ?_
    rw [List.length_set] at h1
    have h3 : i < k.trees.length := by omega
    have h4 : (k.put e r' x).trees[i] = (k.trees.set (posB k.bytes e) ((k.trees[posB k.bytes e]).put r' x))[i]'(by rw [List.length_set]; exact h3) := by simp only [he2]
    rw [h4, List.getElem_set, List.getElem_set]
    split
    ·exact hb1
    ·exact hp.kids.at i h1 h3
   refine RD.doB (i := 17) [] 2 (fun b1 : Plot => ptrAt b1.b) rfl (by kernel_rfl) rfl rfl rfl rfl Tryz.call167 (ih _ hkw (Kids.thin_at hth _ hpos) (by omega) e r' rfl ps[posB k.bytes e]) rfl rfl (fun _ => rfl) (fun _ => rfl) (fun u hu => ⟨hu.fact.2.1, hu.fact.2.2.kids.at _ hpos' hpos⟩) (fun _ => rfl) (fun _ h => h) ?_
   rintro b1 m3 hm3
   refine RD.doB (i := 18) [] 4 (fun y : Option Addr × Nat => rowS 2 y.1 ps.length y.2) rfl (by kernel_rfl) rfl rfl rfl rfl Tryz.call169 (replaced_spec B d ps (posB k.bytes e) b1 hpos' (by omega)) rfl rfl (fun _ => rfl) (fun _ => rfl) (fun u hu => hu.fact.1.2.2.to_) (fun _ => rfl) (fun _ h => h.1) ?_
   rintro ⟨B1, d1⟩ m4 hm4
   refine RD.adv tk (by kernel_rfl) [] rfl rfl (by simp <;> omega) ?_
   refine RD.lastOp (i := 20) tk rfl (by kernel_rfl) rfl (by kernel_rfl) (by kernel_rfl) rfl rfl ?_ (Nat.le_refl _) rfl ?_
   ·first | trivial | (simp; done)
   intro m5 hm5
   refine RH.drop ?_
   refine RH.adv tk [] rfl rfl (by simp <;> omega) ?_
   have hC := made_spec s v (k.put e r' x) A c B1 d1 (ps.set (posB k.bytes e) b1) many own (by rw [he1]; exact hlen) hsl hmy
   rw [he1, List.length_set] at hC
   refine RH.doB [] 8 (hc := Tryz.call173) (ho := rfl) (hw := rfl) (hd := rfl) (hf := rfl) (hes := rfl) (hσ := rfl) (hn := rfl) (hV := fun _ => rfl) (hG := fun _ => rfl) (e := fun b' : Nat => ptrAt b') (hC := hC) (hp := fun u hu => ⟨hu.fact.1.2.1, hu.fact.1.2.2.by_, Sl.own (B := m0) (hu.row (κ := kP) (l := ps.set (posB k.bytes e) b1) (id := 2) rfl) (by rw [List.length_set]; omega), hkids u b1 hu.fact.1.2.2 (hu.fact.2.now (hu.fact.1.2.2.kids.at _ hpos' hpos))⟩) ?_
   rintro b' m6 hm6
   refine RH.drop ?_
   refine RH.free (i := 4) rfl ?_
   refine RH.free (i := 2) rfl ?_
   refine RH.adv tk [] rfl rfl (by simp <;> omega) ?_
   refine RH.ret1 Tryz.func167 rfl rfl fun w hst => ⟨.node b' A c B1 d1 (ps.set (posB k.bytes e) b1), rfl, hst.out [] rfl rfl fun u h => ⟨h.1.1.1.1, fun v' hv hp => ?_⟩⟩
   have hrow : v'.ownsRow m0 kP.T kP.sz (.slice B1 (ps.set (posB k.bytes e) b1).length d1) (ps.set (posB k.bytes e) b1).length ((ps.set (posB k.bytes e) b1).flatMap kP.cs) := hoL h.2 hv
   refine YtbfjmimiigjenaaGreatDoor.Part.tree (A := A) (c := c) (B := B1) (d := d1) (ps := ps.set (posB k.bytes e) b1) ⟨?_, ?_, Sl.own hrow (by rw [List.length_set]; omega), hkids v' b1 hp (h.1.1.2.up (by omega) hv (hp.kids.at _ hpos' hpos))⟩
   ·rw [he1, List.length_set]
    exact box_node (hoL h.1.2 hv)
   ·rw [he1]; exact hp.by_
  ·refine RH.adv tk [false] rfl rfl (by simp [hB] <;> omega) ?_
   refine RH.tell [(0, ptrAt b), (1, strE (s ++ e :: r')), (5, .av (.box 0 m0 0)), (7, intE s.length), (10, .av (.box 1 m1 0)), (11, intE (posB k.bytes e))] [(0, some (.box m0 [.val (sumV x)] 40)), (1, some (.box m1 (nodF s v A k.bytes.length c B ps.length d many own) 165))] [] rfl rfl rfl 2 ?_
   have hBf : isB k.bytes e = false := by simpa using hB
   have hkl := k.len
   have hple := posB_le k.bytes e
   obtain ⟨he1, he2⟩ := kput_not r' x hBf
   have hdr : (s ++ e :: r').drop (((s.length : Int) + 1).toNat) = r' := by
    rw [show ((s.length : Int) + 1).toNat = s.length + 1 by omega, ← List.drop_drop, List.drop_left]; rfl
   have hpm := many_kput (n := r') (x := x) (c := e) hk
   have hmy : (Tree.node s v (k.put e r' x)).many ≤ 1000000000 := by
    show (if v.isSome = true then 1 else 0) + (k.put e r' x).many ≤ _
    split at hpm <;> split <;> omega
   have hlen' := kbL (kput_wf (c := e) (n := r') (x := x) hk)
   have hrl : r'.length ≤ 1000 := by rw [List.length_append, List.length_cons] at hn; omega
   refine RH.draw rfl [(0, some (.box m0 [.val (sumV x)] 40))] rfl 25 rfl rfl ?_
   refine RD.adv tk (by kernel_rfl) [] rfl rfl (by simp <;> omega) ?_
   refine RD.load (by kernel_rfl) (i := 3) (slE A k.bytes.length c) rfl rfl rfl rfl rfl rfl (fun w' h => h.2.2.lby) ?_
   refine RD.load (by kernel_rfl) (i := 12) (slE B ps.length d) rfl rfl rfl rfl rfl rfl (fun w' h => h.2.2.lto) ?_
   refine RD.adv tk (by kernel_rfl) [] rfl rfl (by simp <;> omega) ?_
   rw [hdr]
   rw [g1]
   refine RD.doB (i := 8) [] 4 (fun y : Option Addr × Nat => rowS 2 y.1 (k.bytes.take (posB k.bytes e) ++ e :: k.bytes.drop (posB k.bytes e)).length y.2) rfl (by kernel_rfl) rfl rfl rfl rfl Tryz.call246 (insB_spec A c k.bytes (posB k.bytes e) e hple (by omega)) rfl rfl (fun _ => rfl) (fun _ => rfl) (fun u hu => hu.fact.2.2.by_) (fun _ => rfl) (fun _ h => h) ?_
   rintro ⟨A1, c1⟩ m3 hm3
   refine RD.adv tk (by kernel_rfl) [] rfl rfl (by simp <;> omega) ?_
   refine RD.doB (i := 19) [] 4 (fun b1 : Plot => ptrAt b1.b) rfl (by kernel_rfl) rfl rfl rfl rfl Tryz.call167 (put_nil r' x hrl) rfl rfl (fun _ => rfl) (fun _ => rfl) (fun u hu => hu.fact.1.2.1) (fun _ => rfl) (fun _ h => h.1) ?_
   rintro b1 m4 hm4
   refine RD.adv tk (by kernel_rfl) [] rfl rfl (by simp <;> omega) ?_
   refine RD.doB (i := 20) [] 6 (fun y : Option Addr × Nat => rowS 4 y.1 (ps.take (posB k.bytes e) ++ b1 :: ps.drop (posB k.bytes e)).length y.2) rfl (by kernel_rfl) rfl rfl rfl rfl Tryz.call247 (insP_spec B d ps (posB k.bytes e) b1 (by omega) (by omega)) rfl rfl (fun _ => rfl) (fun _ => rfl) (fun u hu => hu.fact.1.1.2.2.to_) (fun _ => rfl) (fun _ h => h.1.1) ?_
   rintro ⟨B1, d1⟩ m5 hm5
   refine RD.adv tk (by kernel_rfl) [] rfl rfl (by simp <;> omega) ?_
   refine RD.step tk (nx := 6) (i := 22) rfl (by kernel_rfl) rfl rfl rfl ?_ rfl (fun _ h => h.1.1.1) rfl ?_
   ·first | trivial | (simp; done)
   refine RD.adv tk (by kernel_rfl) [] rfl rfl (by simp <;> omega) ?_
   refine RD.lastOp (i := 24) tk rfl (by kernel_rfl) rfl (by kernel_rfl) (by kernel_rfl) rfl rfl ?_ (Nat.le_refl _) rfl ?_
   ·first | trivial | (simp; done)
   intro m6 hm6
   refine RH.drop ?_
   refine RH.adv tk [] rfl rfl (by simp <;> omega) ?_
   have hC := made_spec s v (k.put e r' x) A1 c1 B1 d1 (ps.take (posB k.bytes e) ++ b1 :: ps.drop (posB k.bytes e)) many own hlen' hsl hmy
   rw [he1] at hC
   have hkids : ∀ u, Part u b s v k A c B d ps many own → IT u b1 (leaf r' x) → IK u (ps.take (posB k.bytes e) ++ b1 :: ps.drop (posB k.bytes e)) (k.put e r' x) := fun u hp hb1 => hp.kids.ins (by omega) he2 hb1
   have hl1 : (k.bytes.take (posB k.bytes e) ++ e :: k.bytes.drop (posB k.bytes e)).length ≤ lim := by rw [← he1]; omega
   have hl2 : (ps.take (posB k.bytes e) ++ b1 :: ps.drop (posB k.bytes e)).length ≤ lim := by simp [hl]; omega
   refine RH.doB [] 9 (hc := Tryz.call173) (ho := rfl) (hw := rfl) (hd := rfl) (hf := rfl) (hes := rfl) (hσ := rfl) (hn := rfl) (hV := fun _ => rfl) (hG := fun _ => rfl) (e := fun b' : Nat => ptrAt b') (hC := hC) (hp := fun u hu => ⟨hu.fact.1.1.2.1, Sl.own (B := m0) (hu.row (κ := kBy) (l := k.bytes.take (posB k.bytes e) ++ e :: k.bytes.drop (posB k.bytes e)) (id := 2) rfl) hl1, Sl.own (B := m0) (hu.row (κ := kP) (l := ps.take (posB k.bytes e) ++ b1 :: ps.drop (posB k.bytes e)) (id := 4) rfl) hl2, hkids u hu.fact.1.1.2.2 (hu.fact.2.now trivial)⟩) ?_
   rintro b' m7 hm7
   refine RH.drop ?_
   refine RH.free (i := 6) rfl ?_
   refine RH.free (i := 4) rfl ?_
   refine RH.free (i := 2) rfl ?_
   refine RH.adv tk [] rfl rfl (by simp <;> omega) ?_
   refine RH.ret1 Tryz.func167 rfl rfl fun w hst => ⟨.node b' A1 c1 B1 d1 (ps.take (posB k.bytes e) ++ b1 :: ps.drop (posB k.bytes e)), rfl, hst.out [] rfl rfl fun u h => ⟨h.1.1.1.1.1.1, fun v' hv hp => ?_⟩⟩
   have hr1 : v'.ownsRow m0 kBy.T kBy.sz (.slice A1 (k.bytes.take (posB k.bytes e) ++ e :: k.bytes.drop (posB k.bytes e)).length c1) (k.bytes.take (posB k.bytes e) ++ e :: k.bytes.drop (posB k.bytes e)).length ((k.bytes.take (posB k.bytes e) ++ e :: k.bytes.drop (posB k.bytes e)).flatMap kBy.cs) := hoL h.2 hv
   have hr2 : v'.ownsRow m0 kP.T kP.sz (.slice B1 (ps.take (posB k.bytes e) ++ b1 :: ps.drop (posB k.bytes e)).length d1) (ps.take (posB k.bytes e) ++ b1 :: ps.drop (posB k.bytes e)).length ((ps.take (posB k.bytes e) ++ b1 :: ps.drop (posB k.bytes e)).flatMap kP.cs) := hoL h.1.2 hv
   refine YtbfjmimiigjenaaGreatDoor.Part.tree (A := A1) (c := c1) (B := B1) (d := d1) (ps := ps.take (posB k.bytes e) ++ b1 :: ps.drop (posB k.bytes e)) ⟨?_, ?_, Sl.own hr2 hl2, hkids v' hp (h.1.1.1.2.up (by omega) hv trivial)⟩
   ·rw [he1]
    exact box_node (hoL h.1.1.2 hv)
   ·rw [he1]; exact Sl.own hr1 hl1
section
variable {P : Program} {f : Fr} {n : Nat} {S : Stops} {R : Ending → World → Prop} {tb : TT} {B0 : Nat} {I : World → Prop} {H : Heap} {nx m : Nat} {env : SEnv} {todo k : List Item}
variable {α : Type} {ops : Array Oper} {i : Nat} {l : List Bool} {o : Oper}
variable {rs : List Nat} {d : Nat} {fo : Operand} {args : Array Operand} {tys : Array TypeId} {ty : TypeId} {ps : String} {af : Array Edge} {gd : Option (Nat × Bool)} {g : FuncId} {es : List EV} {f1 c1 : List Value}
theorem V.opD_doesB {G0 : Heap} {I0 : World → Prop} {fuel : Nat} {Gi : Heap} {pre : World → Prop} {W : α → Value} {G' : α → Heap} {J : α → Nat → World → Prop} [∀ x, From (J x)] (σ : List (Nat × Nat)) (nx nx' : Nat) (e : α → EV)
  (ho : ops.toList[i]? = some ⟨some d, .call ⟨.value fo, args, tys⟩, ty, ps, af, gd⟩) (hw : wantE env ops gd = .yes) (hd : Nat.blt d n = true) (hf : fnE (evE env fo) = some (g, f1, c1)) (hes : evsE env args.toList = some es)
  (hc : ∀ (xs : Array Value) w, (callFunc g xs).run P w = .ok (.enter g xs) w) (hC : Does P tb g (f1 ++ es.map EV.v ++ c1) Gi pre W G' J)
  (hσ : SelEq Gi H σ) (hn : nodupN (Gi.map fun p => ren σ p.1) = true) (hV : ∀ x, W x = (e x).v) (hG : ∀ x, nodupN ((G' x).map fun p => renB Gi σ nx p.1) = true) (hp : ∀ u, St tb B0 (rest Gi H σ) I u → pre u)
  (hG0 : ∀ x, SubH G0 (afterH Gi (G' x) H σ nx)) (hI : ∀ w, I w → I0 w)
  (hk : ∀ x m', m ≤ m' → RD P f n tb B0 S R k ops G0 I0 fuel (l.set i true) ((d, e x) :: env) (afterH Gi (G' x) H σ nx) nx' m' (fun u => I u ∧ J x m u)) :
  ∀ w a, w.heap.size = m → St tb B0 H I w → Agree n a (kn env) → wpOp P ops (QD P f n S R k) i (fun a' w' => St tb B0 G0 I0 w' ∧ V.wpAnyH P .any ops (QD P f n S R k) (St tb B0 G0 I0) fuel (l.set i true).toArray a' w') a w :=
 let ⟨_, h1, h2⟩ := fnE_ok hf; opD_go ho hw (OpGo.doB σ nx e hd h1 h2 hes hc hC hσ hn hp hV hG) nx' hG0 (fun _ w h => hI w h.1) hk
end
section
variable {P : Program} {f : Fr} {n : Nat} {S : Stops} {R : Ending → World → Prop} {tb : TT} {B0 : Nat} {I : World → Prop} {H : Heap} {nx m : Nat} {env : SEnv} {todo : List Item}
theorem V.RH.above {id k : Nat} {x : HE} (hH : loH H id = some x) (hk : x.blk = some k) (h : B0 ≤ k → k < m → RH P f n tb B0 S R todo env H nx m I) : RH P f n tb B0 S R todo env H nx m I :=
 fun w hm hst => h (HE.lt (hst.holds id x hH) hk).1 (hm ▸ (HE.lt (hst.holds id x hH) hk).2) w hm hst
end
theorem put_split_eq (p : Str) (e : UInt8) (q r : Str) (v : Option Sum) (k : Kids) (x : Sum) (hr : r = [] ∨ ∃ c r', r = c :: r' ∧ e ≠ c) :
  (Tree.node (p ++ e :: q) v k).put (p ++ r) x = (Tree.node p none (.cons e (.node q v k) .nil)).put (p ++ r) x := by
 rcases hr with rfl | ⟨c, r', rfl, h⟩
 ·rw [List.append_nil, put_up, put_here]
 ·rw [put_fork _ _ _ _ _ _ _ _ h, put_kid]
  congr 1
  unfold Kids.ins Kids.put
  by_cases h1 : e < c
  ·rw [if_pos h1, if_pos h1]; rfl
  ·rw [if_neg h1, if_neg h1, if_neg h]
set_option maxHeartbeats 4000000 in
theorem put_split (p : Str) (e : UInt8) (q r : Str) (x : Sum) (v : Option Sum) (k : Kids) (hk : k.wf) (hth : k.thin 1000) {M : Nat} (hM : M ≤ 900000000) (hm : (Tree.node q v k).many ≤ M) (hs : (p ++ e :: q).length ≤ 1000) (hn : (p ++ r).length ≤ 1000)
  (hr : r = [] ∨ ∃ c r', r = c :: r' ∧ e ≠ c) (ih : ∀ t : Tree, t.wf → t.thin 1000 → t.many ≤ M → ∀ c r', r = c :: r' → PutOk t r' x) (hv : (Tree.node q v k).wf)
  (b : Nat) (A : Option Addr) (c : Nat) (B : Option Addr) (d : Nat) (ps : List Plot) (many : Int) (own : Sum) :
  Does Tryz.prog tb 167 [ptrV b, strV (p ++ r), sumV x] [] (fun u => Glob u ∧ Part u b (p ++ e :: q) v k A c B d ps many own) (fun b' : Plot => ptrV b'.b) (fun _ => []) (fun b' => Late (fun u => Part u b (p ++ e :: q) v k A c B d ps many own) (fun u => IT u b' ((Tree.node (p ++ e :: q) v k).put (p ++ r) x))) := by
 have hl : lim = 140737488351232 := rfl
 have hlen := kbL hk
 have hpl : p.length ≤ 1000 := by rw [List.length_append] at hs; omega
 have hql : q.length ≤ 1000 := by rw [List.length_append, List.length_cons] at hs; omega
 have hlcp : lcp (p ++ e :: q) (p ++ r) = p.length := by
  rw [lcp_app]
  rcases hr with rfl | ⟨c, r', rfl, h⟩
  ·rw [lcp_nil]; rfl
  ·rw [lcp_ne h]; rfl
 have hsl : (p ++ e :: q).length = p.length + (q.length + 1) := by rw [List.length_append, List.length_cons]
 have hdr : (p ++ e :: q).drop (((p.length : Int) + 1).toNat) = q := by
  rw [show ((p.length : Int) + 1).toNat = p.length + 1 by omega, ← List.drop_drop, List.drop_left]; rfl
 have htk : (p ++ e :: q).take ((p.length : Int)).toNat = p := by rw [Int.toNat_natCast, List.take_left]
 have hg1 : List.getD (p ++ e :: q) ((p.length : Int)).toNat 0 = e := by rw [getD_at (by rw [hsl]; omega)]; simp
 have hmy : (Tree.node q v k).many ≤ 1000000000 := by omega
 rw [put_split_eq p e q r v k x hr]
 refine V.Does.enter0 [(0, ptrAt b), (1, strE (p ++ r)), (2, sumE x)] Tryz.func167 rfl Tryz.ntmps167 rfl rfl 0 ?_
 intro m0 K
 refine RH.adv tk [] rfl rfl (by simp <;> omega) ?_
 refine RH.read (.av (.val (.bool (some (⟨b, 0, none⟩ : Addr)).isNone))) rfl rfl rfl rfl (fun u q _ ha => opP ha rfl rfl rfl rfl) ?_
 refine RH.adv tk [false] rfl rfl (by simp <;> omega) ?_
 refine RH.loadS (strE (p ++ e :: q)) rfl rfl rfl rfl (fun u hu => hu.fact.2.2.stem) ?_
 refine RH.adv tk [] rfl rfl (by simp <;> omega) ?_
 refine RH.gives (ho := rfl) (hw := rfl) (hd := rfl) (hf := rfl) (hes := rfl) (hc := Tryz.call245) (e := intE (lcp (p ++ e :: q) (p ++ r))) (hC := fun u hu => shared_spec u (p ++ e :: q) (p ++ r) (by omega) (by omega)) ?_
 intro m1 hm1
 rw [hlcp]
 refine RH.adv tk [] rfl rfl (by simp <;> omega) ?_
 refine RH.loadS (strE (p ++ e :: q)) rfl rfl rfl rfl (fun u hu => hu.fact.2.2.stem) ?_
 refine RH.adv tk [true] rfl rfl (by simp <;> omega) ?_
 refine RH.loadS (nodE (p ++ e :: q) v A k.bytes.length c B ps.length d many own) rfl rfl rfl rfl (fun u hu => hu.fact.2.2.all) ?_
 refine RH.adv tk [] rfl rfl (by simp <;> omega) ?_
 refine RH.loadS (strE (p ++ e :: q)) rfl rfl rfl rfl (fun u hu => hu.fact.2.2.stem) ?_
 refine RH.adv tk [] rfl rfl (by simp <;> omega) ?_
 rw [hdr]
 refine RH.tell [(0, ptrAt b), (1, strE (p ++ r)), (5, .av (.box 0 m0 0)), (7, intE p.length), (8, .av (.box 1 m1 0))] [(0, some (.box m0 [.val (sumV x)] 40)), (1, some (.box m1 (nodF q v A k.bytes.length c B ps.length d many own) 165))] [] rfl rfl rfl 2 ?_
 apply RH.joinK (α := Nat × Nat × Nat × Nat) (fun z => [(1, strE (p ++ r)), (5, .av (.box 0 m0 0)), (9, .av (.box 17 z.1 0))]) (fun z => [(0, some (.box m0 [.val (sumV x)] 40)), (17, some (.box z.1 [.val (strV p), .val (.bool false), .val (sumV Sum.zero), .val (.slice (some ⟨z.2.1, 0, none⟩) 1 1), .val (.slice (some ⟨z.2.2.1, 0, none⟩) 1 1), .val (intV 0), .val (sumV Sum.zero)] 165)), (12, rowE kBy (some ⟨z.2.1, 0, none⟩) 1 [e]), (15, rowE kP (some ⟨z.2.2.1, 0, none⟩) 1 [Plot.node z.2.2.2 A c B d ps]), (14, some (.box z.2.2.2 (nodF q v A k.bytes.length c B ps.length d (Tree.node q v k).many (Tree.node q v k).own) 165))]) (fun _ u => K u ∧ (Glob u ∧ Part u b (p ++ e :: q) v k A c B d ps many own))
 ·refine RH.draw rfl [(1, some (.box m1 (nodF q v A k.bytes.length c B ps.length d many own) 165))] rfl 19 rfl rfl ?_
  refine RD.adv tk (by kernel_rfl) [] rfl rfl (by simp <;> omega) ?_
  refine RD.load (by kernel_rfl) (i := 3) (strE (p ++ e :: q)) rfl rfl rfl rfl rfl rfl (fun w' h => h.2.2.stem) ?_
  refine RD.load (by kernel_rfl) (i := 9) (strE (p ++ e :: q)) rfl rfl rfl rfl rfl rfl (fun w' h => h.2.2.stem) ?_
  refine RD.adv tk (by kernel_rfl) [] rfl rfl (by simp <;> omega) ?_
  rw [htk, hg1]
  refine RD.three (i := 12) (j := 14) (q := 17) (by kernel_rfl) ?_ ?_ ?_
  ·refine opD_step tk (nx := 12) (i := 12) rfl rfl rfl rfl ?_ rfl (fun _ h => h) ⟨rfl, rfl⟩ ?_
   ·first | trivial | (simp; done)
   refine RD.adv tk (by kernel_rfl) [] rfl rfl (by simp <;> omega) ?_
   refine RD.two (i := 14) (j := 17) (by kernel_rfl) ?_ ?_
   ·refine V.opD_doesB (i := 14) [] 14 20 (e := fun b1 : Nat => ptrAt b1) rfl rfl rfl rfl rfl Tryz.call173 (made_spec q v k A c B d ps many own hlen hql hmy) rfl rfl (fun _ => rfl) (fun _ => rfl) (fun u hu => ⟨hu.fact.2.1, hu.fact.2.2.by_, hu.fact.2.2.to_, hu.fact.2.2.kids⟩) (fun _ => rfl) (fun _ h => h) ?_
    rintro b14 m14 hm14
    refine RD.adv tk (by kernel_rfl) [] rfl rfl (by simp <;> omega) ?_
    refine RD.two (i := 15) (j := 17) (by kernel_rfl) ?_ ?_
    ·refine opD_step tk (nx := 15) (i := 15) rfl rfl rfl rfl ?_ rfl (fun _ h => h.1) ⟨rfl, rfl⟩ ?_
     ·first | trivial | (simp; done)
     refine RD.adv tk (by kernel_rfl) [] rfl rfl (by simp <;> omega) ?_
     refine RD.step tk (nx := 17) (i := 17) rfl (by kernel_rfl) rfl rfl rfl ?_ rfl (fun _ h => h.1) ⟨rfl, rfl⟩ ?_
     ·first | trivial | (simp; done)
     refine RD.adv tk (by kernel_rfl) [] rfl rfl (by simp <;> omega) ?_
     refine RD.lastOp (i := 18) tk rfl (by kernel_rfl) rfl (by kernel_rfl) (by kernel_rfl) rfl rfl ?_ (Nat.le_refl _) rfl ?_
     ·first | trivial | (simp; done)
     intro m18 hm18
     exact RH.mtS (m14 + 1, m1 + 1, m14, b14) [] (.head _) rfl rfl rfl fun u h => h.1
    ·refine opD_step tk (nx := 17) (i := 17) rfl rfl rfl rfl ?_ rfl (fun _ h => h.1) ⟨rfl, rfl⟩ ?_
     ·first | trivial | (simp; done)
     refine RD.adv tk (by kernel_rfl) [] rfl rfl (by simp <;> omega) ?_
     refine RD.step tk (nx := 15) (i := 15) rfl (by kernel_rfl) rfl rfl rfl ?_ rfl (fun _ h => h.1) ⟨rfl, rfl⟩ ?_
     ·first | trivial | (simp; done)
     refine RD.adv tk (by kernel_rfl) [] rfl rfl (by simp <;> omega) ?_
     refine RD.lastOp (i := 18) tk rfl (by kernel_rfl) rfl (by kernel_rfl) (by kernel_rfl) rfl rfl ?_ (Nat.le_refl _) rfl ?_
     ·first | trivial | (simp; done)
     intro m18 hm18
     exact RH.mtS (m14, m1 + 1, m14 + 1, b14) [] (.head _) rfl rfl rfl fun u h => h.1
   ·refine opD_step tk (nx := 17) (i := 17) rfl rfl rfl rfl ?_ rfl (fun _ h => h) ⟨rfl, rfl⟩ ?_
    ·first | trivial | (simp; done)
    refine RD.adv tk (by kernel_rfl) [] rfl rfl (by simp <;> omega) ?_
    refine RD.doB (nx := 14) (i := 14) [] 20 (e := fun b1 : Nat => ptrAt b1) rfl (by kernel_rfl) rfl rfl rfl rfl Tryz.call173 (made_spec q v k A c B d ps many own hlen hql hmy) rfl rfl (fun _ => rfl) (fun _ => rfl) (fun u hu => ⟨hu.fact.2.1, hu.fact.2.2.by_, hu.fact.2.2.to_, hu.fact.2.2.kids⟩) (fun _ => rfl) (fun _ h => h) ?_
    rintro b14 m14 hm14
    refine RD.adv tk (by kernel_rfl) [] rfl rfl (by simp <;> omega) ?_
    refine RD.step tk (nx := 15) (i := 15) rfl (by kernel_rfl) rfl rfl rfl ?_ rfl (fun _ h => h.1) ⟨rfl, rfl⟩ ?_
    ·first | trivial | (simp; done)
    refine RD.adv tk (by kernel_rfl) [] rfl rfl (by simp <;> omega) ?_
    refine RD.lastOp (i := 18) tk rfl (by kernel_rfl) rfl (by kernel_rfl) (by kernel_rfl) rfl rfl ?_ (Nat.le_refl _) rfl ?_
    ·first | trivial | (simp; done)
    intro m18 hm18
    exact RH.mtS (m1 + 1 + 1, m1 + 1, m14, b14) [] (.head _) rfl rfl rfl fun u h => h.1
  ·refine V.opD_doesB (i := 14) [] 14 20 (e := fun b1 : Nat => ptrAt b1) rfl rfl rfl rfl rfl Tryz.call173 (made_spec q v k A c B d ps many own hlen hql hmy) rfl rfl (fun _ => rfl) (fun _ => rfl) (fun u hu => ⟨hu.fact.2.1, hu.fact.2.2.by_, hu.fact.2.2.to_, hu.fact.2.2.kids⟩) (fun _ => rfl) (fun _ h => h) ?_
   rintro b14 m14 hm14
   refine RD.adv tk (by kernel_rfl) [] rfl rfl (by simp <;> omega) ?_
   refine RD.three (i := 12) (j := 15) (q := 17) (by kernel_rfl) ?_ ?_ ?_
   ·refine opD_step tk (nx := 12) (i := 12) rfl rfl rfl rfl ?_ rfl (fun _ h => h.1) ⟨rfl, rfl⟩ ?_
    ·first | trivial | (simp; done)
    refine RD.adv tk (by kernel_rfl) [] rfl rfl (by simp <;> omega) ?_
    refine RD.two (i := 15) (j := 17) (by kernel_rfl) ?_ ?_
    ·refine opD_step tk (nx := 15) (i := 15) rfl rfl rfl rfl ?_ rfl (fun _ h => h.1) ⟨rfl, rfl⟩ ?_
     ·first | trivial | (simp; done)
     refine RD.adv tk (by kernel_rfl) [] rfl rfl (by simp <;> omega) ?_
     refine RD.step tk (nx := 17) (i := 17) rfl (by kernel_rfl) rfl rfl rfl ?_ rfl (fun _ h => h.1) ⟨rfl, rfl⟩ ?_
     ·first | trivial | (simp; done)
     refine RD.adv tk (by kernel_rfl) [] rfl rfl (by simp <;> omega) ?_
     refine RD.lastOp (i := 18) tk rfl (by kernel_rfl) rfl (by kernel_rfl) (by kernel_rfl) rfl rfl ?_ (Nat.le_refl _) rfl ?_
     ·first | trivial | (simp; done)
     intro m18 hm18
     exact RH.mtS (m14 + 1 + 1, m14, m14 + 1, b14) [] (.head _) rfl rfl rfl fun u h => h.1
    ·refine opD_step tk (nx := 17) (i := 17) rfl rfl rfl rfl ?_ rfl (fun _ h => h.1) ⟨rfl, rfl⟩ ?_
     ·first | trivial | (simp; done)
     refine RD.adv tk (by kernel_rfl) [] rfl rfl (by simp <;> omega) ?_
     refine RD.step tk (nx := 15) (i := 15) rfl (by kernel_rfl) rfl rfl rfl ?_ rfl (fun _ h => h.1) ⟨rfl, rfl⟩ ?_
     ·first | trivial | (simp; done)
     refine RD.adv tk (by kernel_rfl) [] rfl rfl (by simp <;> omega) ?_
     refine RD.lastOp (i := 18) tk rfl (by kernel_rfl) rfl (by kernel_rfl) (by kernel_rfl) rfl rfl ?_ (Nat.le_refl _) rfl ?_
     ·first | trivial | (simp; done)
     intro m18 hm18
     exact RH.mtS (m14 + 1, m14, m14 + 1 + 1, b14) [] (.head _) rfl rfl rfl fun u h => h.1
   ·refine opD_step tk (nx := 15) (i := 15) rfl rfl rfl rfl ?_ rfl (fun _ h => h.1) ⟨rfl, rfl⟩ ?_
    ·first | trivial | (simp; done)
    refine RD.adv tk (by kernel_rfl) [] rfl rfl (by simp <;> omega) ?_
    refine RD.two (i := 12) (j := 17) (by kernel_rfl) ?_ ?_
    ·refine opD_step tk (nx := 12) (i := 12) rfl rfl rfl rfl ?_ rfl (fun _ h => h.1) ⟨rfl, rfl⟩ ?_
     ·first | trivial | (simp; done)
     refine RD.adv tk (by kernel_rfl) [] rfl rfl (by simp <;> omega) ?_
     refine RD.step tk (nx := 17) (i := 17) rfl (by kernel_rfl) rfl rfl rfl ?_ rfl (fun _ h => h.1) ⟨rfl, rfl⟩ ?_
     ·first | trivial | (simp; done)
     refine RD.adv tk (by kernel_rfl) [] rfl rfl (by simp <;> omega) ?_
     refine RD.lastOp (i := 18) tk rfl (by kernel_rfl) rfl (by kernel_rfl) (by kernel_rfl) rfl rfl ?_ (Nat.le_refl _) rfl ?_
     ·first | trivial | (simp; done)
     intro m18 hm18
     exact RH.mtS (m14 + 1 + 1, m14 + 1, m14, b14) [] (.head _) rfl rfl rfl fun u h => h.1
    ·refine opD_step tk (nx := 17) (i := 17) rfl rfl rfl rfl ?_ rfl (fun _ h => h.1) ⟨rfl, rfl⟩ ?_
     ·first | trivial | (simp; done)
     refine RD.adv tk (by kernel_rfl) [] rfl rfl (by simp <;> omega) ?_
     refine RD.step tk (nx := 12) (i := 12) rfl (by kernel_rfl) rfl rfl rfl ?_ rfl (fun _ h => h.1) ⟨rfl, rfl⟩ ?_
     ·first | trivial | (simp; done)
     refine RD.adv tk (by kernel_rfl) [] rfl rfl (by simp <;> omega) ?_
     refine RD.lastOp (i := 18) tk rfl (by kernel_rfl) rfl (by kernel_rfl) (by kernel_rfl) rfl rfl ?_ (Nat.le_refl _) rfl ?_
     ·first | trivial | (simp; done)
     intro m18 hm18
     exact RH.mtS (m14 + 1, m14 + 1 + 1, m14, b14) [] (.head _) rfl rfl rfl fun u h => h.1
   ·refine opD_step tk (nx := 17) (i := 17) rfl rfl rfl rfl ?_ rfl (fun _ h => h.1) ⟨rfl, rfl⟩ ?_
    ·first | trivial | (simp; done)
    refine RD.adv tk (by kernel_rfl) [] rfl rfl (by simp <;> omega) ?_
    refine RD.two (i := 12) (j := 15) (by kernel_rfl) ?_ ?_
    ·refine opD_step tk (nx := 12) (i := 12) rfl rfl rfl rfl ?_ rfl (fun _ h => h.1) ⟨rfl, rfl⟩ ?_
     ·first | trivial | (simp; done)
     refine RD.adv tk (by kernel_rfl) [] rfl rfl (by simp <;> omega) ?_
     refine RD.step tk (nx := 15) (i := 15) rfl (by kernel_rfl) rfl rfl rfl ?_ rfl (fun _ h => h.1) ⟨rfl, rfl⟩ ?_
     ·first | trivial | (simp; done)
     refine RD.adv tk (by kernel_rfl) [] rfl rfl (by simp <;> omega) ?_
     refine RD.lastOp (i := 18) tk rfl (by kernel_rfl) rfl (by kernel_rfl) (by kernel_rfl) rfl rfl ?_ (Nat.le_refl _) rfl ?_
     ·first | trivial | (simp; done)
     intro m18 hm18
     exact RH.mtS (m14, m14 + 1, m14 + 1 + 1, b14) [] (.head _) rfl rfl rfl fun u h => h.1
    ·refine opD_step tk (nx := 15) (i := 15) rfl rfl rfl rfl ?_ rfl (fun _ h => h.1) ⟨rfl, rfl⟩ ?_
     ·first | trivial | (simp; done)
     refine RD.adv tk (by kernel_rfl) [] rfl rfl (by simp <;> omega) ?_
     refine RD.step tk (nx := 12) (i := 12) rfl (by kernel_rfl) rfl rfl rfl ?_ rfl (fun _ h => h.1) ⟨rfl, rfl⟩ ?_
     ·first | trivial | (simp; done)
     refine RD.adv tk (by kernel_rfl) [] rfl rfl (by simp <;> omega) ?_
     refine RD.lastOp (i := 18) tk rfl (by kernel_rfl) rfl (by kernel_rfl) (by kernel_rfl) rfl rfl ?_ (Nat.le_refl _) rfl ?_
     ·first | trivial | (simp; done)
     intro m18 hm18
     exact RH.mtS (m14, m14 + 1 + 1, m14 + 1, b14) [] (.head _) rfl rfl rfl fun u h => h.1
  ·refine opD_step tk (nx := 17) (i := 17) rfl rfl rfl rfl ?_ rfl (fun _ h => h) ⟨rfl, rfl⟩ ?_
   ·first | trivial | (simp; done)
   refine RD.adv tk (by kernel_rfl) [] rfl rfl (by simp <;> omega) ?_
   refine RD.two (i := 12) (j := 14) (by kernel_rfl) ?_ ?_
   ·refine opD_step tk (nx := 12) (i := 12) rfl rfl rfl rfl ?_ rfl (fun _ h => h) ⟨rfl, rfl⟩ ?_
    ·first | trivial | (simp; done)
    refine RD.adv tk (by kernel_rfl) [] rfl rfl (by simp <;> omega) ?_
    refine RD.doB (nx := 14) (i := 14) [] 20 (e := fun b1 : Nat => ptrAt b1) rfl (by kernel_rfl) rfl rfl rfl rfl Tryz.call173 (made_spec q v k A c B d ps many own hlen hql hmy) rfl rfl (fun _ => rfl) (fun _ => rfl) (fun u hu => ⟨hu.fact.2.1, hu.fact.2.2.by_, hu.fact.2.2.to_, hu.fact.2.2.kids⟩) (fun _ => rfl) (fun _ h => h) ?_
    rintro b14 m14 hm14
    refine RD.adv tk (by kernel_rfl) [] rfl rfl (by simp <;> omega) ?_
    refine RD.step tk (nx := 15) (i := 15) rfl (by kernel_rfl) rfl rfl rfl ?_ rfl (fun _ h => h.1) ⟨rfl, rfl⟩ ?_
    ·first | trivial | (simp; done)
    refine RD.adv tk (by kernel_rfl) [] rfl rfl (by simp <;> omega) ?_
    refine RD.lastOp (i := 18) tk rfl (by kernel_rfl) rfl (by kernel_rfl) (by kernel_rfl) rfl rfl ?_ (Nat.le_refl _) rfl ?_
    ·first | trivial | (simp; done)
    intro m18 hm18
    exact RH.mtS (m1 + 1, m1 + 1 + 1, m14, b14) [] (.head _) rfl rfl rfl fun u h => h.1
   ·refine V.opD_doesB (i := 14) [] 14 20 (e := fun b1 : Nat => ptrAt b1) rfl rfl rfl rfl rfl Tryz.call173 (made_spec q v k A c B d ps many own hlen hql hmy) rfl rfl (fun _ => rfl) (fun _ => rfl) (fun u hu => ⟨hu.fact.2.1, hu.fact.2.2.by_, hu.fact.2.2.to_, hu.fact.2.2.kids⟩) (fun _ => rfl) (fun _ h => h) ?_
    rintro b14 m14 hm14
    refine RD.adv tk (by kernel_rfl) [] rfl rfl (by simp <;> omega) ?_
    refine RD.two (i := 12) (j := 15) (by kernel_rfl) ?_ ?_
    ·refine opD_step tk (nx := 12) (i := 12) rfl rfl rfl rfl ?_ rfl (fun _ h => h.1) ⟨rfl, rfl⟩ ?_
     ·first | trivial | (simp; done)
     refine RD.adv tk (by kernel_rfl) [] rfl rfl (by simp <;> omega) ?_
     refine RD.step tk (nx := 15) (i := 15) rfl (by kernel_rfl) rfl rfl rfl ?_ rfl (fun _ h => h.1) ⟨rfl, rfl⟩ ?_
     ·first | trivial | (simp; done)
     refine RD.adv tk (by kernel_rfl) [] rfl rfl (by simp <;> omega) ?_
     refine RD.lastOp (i := 18) tk rfl (by kernel_rfl) rfl (by kernel_rfl) (by kernel_rfl) rfl rfl ?_ (Nat.le_refl _) rfl ?_
     ·first | trivial | (simp; done)
     intro m18 hm18
     exact RH.mtS (m1 + 1, m14, m14 + 1, b14) [] (.head _) rfl rfl rfl fun u h => h.1
    ·refine opD_step tk (nx := 15) (i := 15) rfl rfl rfl rfl ?_ rfl (fun _ h => h.1) ⟨rfl, rfl⟩ ?_
     ·first | trivial | (simp; done)
     refine RD.adv tk (by kernel_rfl) [] rfl rfl (by simp <;> omega) ?_
     refine RD.step tk (nx := 12) (i := 12) rfl (by kernel_rfl) rfl rfl rfl ?_ rfl (fun _ h => h.1) ⟨rfl, rfl⟩ ?_
     ·first | trivial | (simp; done)
     refine RD.adv tk (by kernel_rfl) [] rfl rfl (by simp <;> omega) ?_
     refine RD.lastOp (i := 18) tk rfl (by kernel_rfl) rfl (by kernel_rfl) (by kernel_rfl) rfl rfl ?_ (Nat.le_refl _) rfl ?_
     ·first | trivial | (simp; done)
     intro m18 hm18
     exact RH.mtS (m1 + 1, m14 + 1, m14, b14) [] (.head _) rfl rfl rfl fun u h => h.1
 rintro ⟨mz, ma, mp, bl⟩ m2
 refine RH.toNx 20 ?_
 dsimp only
 refine RH.above (id := 17) rfl rfl fun hz1 hz2 => ?_
 have hmid : ∀ u, Part u b (p ++ e :: q) v k A c B d ps many own → (HE.box mz [.val (strV p), .val (.bool false), .val (sumV Sum.zero), .val (.slice (some ⟨ma, 0, none⟩) 1 1), .val (.slice (some ⟨mp, 0, none⟩) 1 1), .val (intV 0), .val (sumV Sum.zero)] 165).holds tb m0 u → (HE.row (.slice (some ⟨ma, 0, none⟩) 1 1) kBy.T kBy.sz 1 ([e].flatMap kBy.cs)).holds tb m0 u → (HE.row (.slice (some ⟨mp, 0, none⟩) 1 1) kP.T kP.sz 1 ([Plot.node bl A c B d ps].flatMap kP.cs)).holds tb m0 u → (HE.box bl (nodF q v A k.bytes.length c B ps.length d (Tree.node q v k).many (Tree.node q v k).own) 165).holds tb m0 u →
   Part u mz p none (.cons e (.node q v k) .nil) (some ⟨ma, 0, none⟩) 1 (some ⟨mp, 0, none⟩) 1 [Plot.node bl A c B d ps] 0 Sum.zero := by
  intro u hp h1 h2 h3 h4
  have hs1 : (1 : Nat) ≤ lim := by rw [hl]; decide
  refine ⟨box_node h1, Sl.own (κ := kBy) (l := [e]) h2 hs1, Sl.own (κ := kP) (l := [Plot.node bl A c B d ps]) h3 hs1, ?_⟩
  unfold IK
  exact ⟨YtbfjmimiigjenaaGreatDoor.Part.tree ⟨box_node h4, hp.by_, hp.to_, hp.kids⟩, trivial⟩
 have hKw : (Kids.cons e (.node q v k) .nil).wf := ⟨hv, trivial, by intro c hc; cases hc⟩
 have hKt : (Kids.cons e (.node q v k) .nil).thin 1000 := ⟨⟨hql, hth⟩, trivial⟩
 have hKm : (Kids.cons e (.node q v k) .nil).many ≤ M := hm
 refine RH.free (i := 17) rfl ?_
 refine RH.free (i := 12) rfl ?_
 refine RH.free (i := 15) rfl ?_
 refine RH.free (i := 14) rfl ?_
 refine RH.adv tk [] rfl rfl (by simp <;> omega) ?_
 refine RH.doB [] 30 (hc := Tryz.call167) (ho := rfl) (hw := rfl) (hd := rfl) (hf := rfl) (hes := rfl) (hσ := rfl) (hn := rfl) (hV := fun _ => rfl) (hG := fun _ => rfl) (e := fun b' : Plot => ptrAt b'.b) (hC := put_ns p r x none (.cons e (.node q v k) .nil) hKw hKt hM hKm hn ih mz (some ⟨ma, 0, none⟩) 1 (some ⟨mp, 0, none⟩) 1 [Plot.node bl A c B d ps] 0 Sum.zero) (hp := fun u hu => ⟨hu.fact.1.1.1.1.2.1, hmid u hu.fact.1.1.1.1.2.2 hu.fact.1.1.1.2 hu.fact.1.1.2 hu.fact.1.2 hu.fact.2⟩) ?_
 rintro b' m6 hm6
 refine RH.adv tk [] rfl rfl (by simp <;> omega) ?_
 refine RH.ret1 Tryz.func167 rfl rfl fun w hst => ⟨b', rfl, hst.out [] rfl rfl fun u h => ⟨h.1.1.1.1.1.1, fun v' hv' hp => ?_⟩⟩
 exact h.2.up (by omega) hv' (hmid v' hp (hoL h.1.1.1.1.2 hv') (hoL h.1.1.1.2 hv') (hoL h.1.1.2 hv') (hoL h.1.2 hv'))
theorem PutOk.of (t : Tree) (name : Str) (x : Sum) (h : ∀ (s : Str) (v : Option Sum) (k : Kids), t = .node s v k → ∀ (b : Nat) (A : Option Addr) (c : Nat) (B : Option Addr) (d : Nat) (ps : List Plot) (many : Int) (own : Sum),
  Does Tryz.prog tb 167 [ptrV b, strV name, sumV x] [] (fun u => Glob u ∧ Part u b s v k A c B d ps many own) (fun b' : Plot => ptrV b'.b) (fun _ => []) (fun b' => Late (fun u => Part u b s v k A c B d ps many own) (fun u => IT u b' ((Tree.node s v k).put name x)))) : PutOk t name x := by
 cases t with
 | node s v k =>
  intro L B0 w K hst hp
  refine (h s v k rfl L.b L.A L.c L.B L.d L.ps _ _ B0 w K hst fun u hu => ⟨(hp u hu).1, YtbfjmimiigjenaaGreatDoor.IT.part (hp u hu).2⟩).mono ?_
  rintro r w' ⟨b', hr, h2⟩
  exact ⟨b', hr, h2.mono fun u _ hu => ⟨hu.1, fun v' hv hp' => hu.2 v' hv (YtbfjmimiigjenaaGreatDoor.IT.part hp')⟩⟩
theorem PutOk.go (x : Sum) {M : Nat} (hM : M ≤ 900000000) (name : Str) (hn : name.length ≤ 1000) (t : Tree) (hw : t.wf) (ht : t.thin 1000) (hm : t.many ≤ M)
  (ih : ∀ (c : UInt8) (r' q : Str), name = q ++ c :: r' → ∀ t' : Tree, t'.wf → t'.thin 1000 → t'.many ≤ M → PutOk t' r' x) : PutOk t name x := by
 refine PutOk.of t name x ?_
 rintro s v k rfl b A c B d ps many own
 unfold Tree.wf at hw
 unfold Tree.thin at ht
 have hkm : k.many ≤ M := by
  have : (if v.isSome = true then 1 else 0) + k.many ≤ M := hm
  omega
 rcases paC s name with rfl | ⟨e, r, rfl⟩ | ⟨p, e, q, rfl, rfl⟩ | ⟨p, e, q, c2, r, rfl, rfl, hne⟩
 ·have := put_ns name [] x v k hw.1 ht.2 hM hkm (by rw [List.append_nil]; exact hn) (fun t' h1 h2 h3 c r' h => by cases h) b A c B d ps many own
  rw [List.append_nil] at this
  exact this
 ·exact put_ns s (e :: r) x v k hw.1 ht.2 hM hkm hn (fun t' h1 h2 h3 c r' h => ih c r' s (by rw [h]) t' h1 h2 h3) b A c B d ps many own
 ·have := put_split name e q [] x v k hw.1 ht.2 hM hm ht.1 (by rw [List.append_nil]; exact hn) (.inl rfl) (fun t' h1 h2 h3 c r' h => by cases h) hw b A c B d ps many own
  rw [List.append_nil] at this
  exact this
 ·exact put_split p e q (c2 :: r) x v k hw.1 ht.2 hM hm ht.1 hn (.inr ⟨c2, r, rfl, hne⟩) (fun t' h1 h2 h3 c r' h => ih c r' p (by rw [h]) t' h1 h2 h3) hw b A c B d ps many own
theorem PutOk.all (x : Sum) {M : Nat} (hM : M ≤ 900000000) : ∀ (n : Nat) (name : Str), name.length ≤ n → name.length ≤ 1000 → ∀ t : Tree, t.wf → t.thin 1000 → t.many ≤ M → PutOk t name x := by
 intro n
 induction n with
 | zero =>
  intro name h0 hn t hw ht hm
  have : name = [] := List.length_eq_zero_iff.1 (by omega)
  subst this
  exact PutOk.go x hM [] hn t hw ht hm (fun c r' n h => by simp at h)
 | succ n ih =>
  intro name h0 hn t hw ht hm
  exact PutOk.go x hM name hn t hw ht hm fun c r' q h t' hw' ht' hm' => ih r' (by rw [h] at h0; simp at h0; omega) (by rw [h] at hn; simp at hn; omega) t' hw' ht' hm'
def kEnt : Kd (Str × Sum) where
 T := 155
 sz := 33
 ev x := .st [.val (strV x.1), .val (sumV x.2)]
 ok x := by
  refine ⟨_, Tryz.t155, rfl, rfl, ?_, ?_⟩
  ·have : (sumV x.2).cells.size = 32 := (sumV_ok x.2).1
   simp only [List.map_cons, List.map_nil, flat_cons, flat_nil, AV.v, List.append_nil, List.size_toArray, List.length_append, Array.length_toList, this]
   rfl
  ·intro u hu
   simp only [List.map_cons, List.map_nil, flat_cons, flat_nil, AV.v, List.append_nil, List.mem_append] at hu
   rcases hu with hu | hu
   ·exact (vok_str x.1).one u hu
   ·exact (vok_sum x.2).one u hu
 size x := by
  have : (sumV x.2).cells.size = 32 := (sumV_ok x.2).1
  show (flat [strV x.1, sumV x.2]).toArray.size = 33
  simp only [flat_cons, flat_nil, List.append_nil, List.size_toArray, List.length_append, Array.length_toList, this]
  rfl
theorem elt_ent : ElT tb kEnt.T 33 48 := ⟨⟨Tryz.t155, (Tryz.t155).zero.getD undef, by kernel_rfl, by kernel_rfl, by kernel_rfl, by kernel_rfl, by kernel_rfl⟩, by decide⟩
section
variable {n : Nat} {B0 : Nat} {I : World → Prop} {H : Heap} {m : Nat} {env : SEnv}
theorem V.OpGo.byteStr {d : Nat} {x : Operand} {ty : TypeId} {ps : String} {af : Array Edge} {gd : Option (Nat × Bool)} {ex : EV} {A : Option Addr} {c : Nat} {l : List UInt8}
  (hd : Nat.blt d n = true) (hx : evE env x = some ex) (hxv : ex.v = .slice A l.length c) (hne : l ≠ []) (hl : ∀ w, St tb B0 H I w → Sl kBy w A c l) :
  OpGo Tryz.prog tb B0 n ⟨some d, .convert 22 9 x, ty, ps, af, gd⟩ env H m I (fun _ : Unit => (d, strE l) :: env) (fun _ => H) (fun _ => I) := by
 intro w a hm hst ha
 have hdn : d < n := Nat.lt_of_lt_of_le (Nat.lt_succ_self d) (Nat.le_of_ble_eq_true hd)
 have hs := hl w hst
 have hxv' : a.eval x = .slice A l.length c := (ev_run ha hx).trans hxv
 have hp := hs.addr hne
 unfold Ptr at hp
 have h := run_convert_bytes_back (P := Tryz.prog) w 22 9 5 ⟨blkA A, offA A, none⟩ c l (tk.und rfl) (tk.und rfl) (tk.und rfl) (fun j hj => by
  rw [Addr.add_lit]
  refine hs.cells j _ ?_
  rw [← map_flat, List.getElem?_map, List.getElem?_eq_getElem hj]
  rfl)
 unfold Oper.wp
 have : (execOp a.eval ⟨some d, .convert 22 9 x, ty, ps, af, gd⟩).run Tryz.prog w = .ok (.value (strV l)) w := by
  simp only [execOp, hxv']
  rw [hp, Sem.run_bind, h]
  rfl
 rw [this]
 refine ⟨(), ?_, by rw [← hm]; exact Nat.le_refl _, hst⟩
 rw [kn_cons]; exact ha.put hdn _
end
def entsTo (k : Kids) (beg : Str) (i : Nat) : List (Str × Sum) := ((k.bytes.zip k.trees).take i).flatMap fun p => p.2.ents (beg ++ [p.1])
theorem entsTo_all : ∀ (k : Kids) (beg : Str), (k.bytes.zip k.trees).flatMap (fun p => p.2.ents (beg ++ [p.1])) = k.ents beg
 | .nil, _ => rfl
 | .cons b t r, beg => by
  show t.ents (beg ++ [b]) ++ ((r.bytes.zip r.trees).flatMap fun p => p.2.ents (beg ++ [p.1])) = t.ents (beg ++ [b]) ++ r.ents beg
  rw [entsTo_all r beg]
theorem entsTo_len (k : Kids) (beg : Str) : entsTo k beg k.bytes.length = k.ents beg := by
 unfold entsTo
 rw [List.take_of_length_le (by rw [List.length_zip]; omega), entsTo_all]
theorem entsTo_succ (k : Kids) (beg : Str) {i : Nat} (h : i < k.bytes.length) (h2 : i < k.trees.length) : entsTo k beg (i + 1) = entsTo k beg i ++ (k.trees[i]).ents (beg ++ [k.bytes[i]]) := by
 unfold entsTo
 have hz : i < (k.bytes.zip k.trees).length := by simp; omega
 rw [List.take_succ_eq_append_getElem hz, List.flatMap_append]
 simp
theorem entsTo_le (k : Kids) (beg : Str) (i : Nat) : (entsTo k beg i).length ≤ (k.ents beg).length := by
 have : (k.bytes.zip k.trees).flatMap (fun p => p.2.ents (beg ++ [p.1])) = entsTo k beg i ++ ((k.bytes.zip k.trees).drop i).flatMap fun p => p.2.ents (beg ++ [p.1]) := by
  unfold entsTo
  rw [← List.flatMap_append, List.take_append_drop]
 rw [← entsTo_all, this, List.length_append]
 omega
theorem low_kid2 {N : Nat} {s : Str} {v : Option Sum} {k : Kids} (h : (Tree.node s v k).wf) (hl : (Tree.node s v k).low N) (i : Nat) (hi : i < k.trees.length) : s.length + 1 ≤ N ∧ (k.trees[i]).low (N - (s.length + 1)) := by
 unfold Tree.wf at h
 have h2 : i < k.bytes.length := by rw [Kids.len]; exact hi
 obtain ⟨a1, a2⟩ := kid_at h.1 i hi h2
 have key : ∀ n x, (k.trees[i]).get n = some x → s.length + 1 + n.length ≤ N := by
  intro n x hx
  have := hl (s ++ k.bytes[i] :: n) x (by rw [get_kid, a2]; exact hx)
  simp at this
  omega
 refine ⟨?_, fun n x hx => by have := key n x hx; omega⟩
 obtain ⟨n, x, hx⟩ := has_name a1
 have := key n x hx
 omega
def EntOk (t : Tree) : Prop := ∀ (L : Plot) (beg : Str) (N : Nat), t.wf → t.low N → beg.length + N ≤ 1000 → (t.ents beg).length ≤ 900000000 →
 Does Tryz.prog tb 97 [ptrV L.b, strV beg] [] (fun u => IT u L t) (fun y : Option Addr × Nat => .slice y.1 (t.ents beg).length y.2) (fun y => [(0, rowE kEnt y.1 y.2 (t.ents beg))]) (fun _ _ _ => True)
def ownL (v : Option Sum) (beg : Str) : List (Str × Sum) := match v with
 | some s => [(beg, s)]
 | none => []
theorem ents_node (s : Str) (v : Option Sum) (k : Kids) (beg : Str) : (Tree.node s v k).ents beg = ownL v (beg ++ s) ++ k.ents (beg ++ s) := by
 cases v <;> rfl
theorem entries_node (s : Str) (v : Option Sum) (k : Kids) (ih : ∀ i (h : i < k.trees.length), EntOk k.trees[i]) : EntOk (.node s v k) := by
 intro L beg N hw hlow hN hm
 have hl : lim = 140737488351232 := rfl
 have hst := low_stem hw hlow
 have hkw : k.wf := by unfold Tree.wf at hw; exact hw.1
 have hkl := k.len
 rw [ents_node] at hm ⊢
 rw [List.length_append] at hm
 refine Does.enter tk [(0, ptrAt L.b), (1, strE beg)] Tryz.func97 rfl Tryz.ntmps97 rfl rfl 0 ?_
 intro B0 m0 K
 refine RH.facts (fun u => K u ∧ Part u L.b s v k L.A L.c L.B L.d L.ps (Tree.node s v k).many (Tree.node s v k).own) (fun u h => ⟨h.1, YtbfjmimiigjenaaGreatDoor.IT.part h.2⟩) ?_
 refine RH.adv tk [] rfl rfl (by simp <;> omega) ?_
 refine RH.read (.av (.val (.bool (some (⟨L.b, 0, none⟩ : Addr)).isNone))) rfl rfl rfl rfl (fun u q _ ha => opP ha rfl rfl rfl rfl) ?_
 refine RH.adv tk [false] rfl rfl (by simp <;> omega) ?_
 refine RH.loadS (strE s) rfl rfl rfl rfl (fun u hu => hu.fact.2.stem) ?_
 refine RH.adv tk [] rfl rfl (by simp <;> omega) ?_
 refine RH.loadS (boE v.isSome) rfl rfl rfl rfl (fun u hu => hu.fact.2.has) ?_
 refine RH.pure (fun u h => (⟨h.2.kids.len, h.2.to_.ptr0, h.2.by_.ptr0⟩ : L.ps.length = k.bytes.length ∧ (L.ps ≠ [] → Ptr L.B) ∧ (k.bytes ≠ [] → Ptr L.A))) fun ⟨hpl, hpB, hpA⟩ => ?_
 have hkm : (k.ents (beg ++ s)).length ≤ 900000000 := by omega
 have hlb := kbL hkw
 refine RH.nilrow 50 kEnt.T kEnt.sz 51 ?_
 refine RH.tell [(0, ptrAt L.b), (1, strE (beg ++ s)), (5, rowS 50 none 0 0), (19, boE v.isSome)] [(50, rowE kEnt none 0 [])] [] rfl rfl rfl 51 ?_
 apply RH.joinK (α := Option Addr × Nat) (fun z => [(0, ptrAt L.b), (1, strE (beg ++ s)), (5, rowS 50 z.1 (ownL v (beg ++ s)).length z.2), (31, .av (.val (.pointer (some ⟨L.b, 35, none⟩))))]) (fun z => [(50, rowE kEnt z.1 z.2 (ownL v (beg ++ s)))]) (fun _ u => K u ∧ Part u L.b s v k L.A L.c L.B L.d L.ps (Tree.node s v k).many (Tree.node s v k).own)
 ·cases v with
  | none =>
   refine RH.adv tk [false] rfl rfl (by simp <;> omega) ?_
   exact RH.mtS (none, 0) [] (.head _) rfl rfl rfl fun u hu => hu
  | some x =>
   refine RH.adv tk [true] rfl rfl (by simp <;> omega) ?_
   refine RH.loadS (sumE x) rfl rfl rfl rfl (fun u hu => hu.fact.2.sum) ?_
   refine RH.adv tk [] rfl rfl (by simp <;> omega) ?_
   refine RH.apK (κ := kEnt) (id := 50) (l := []) (r := [(beg ++ s, x)]) rfl rfl rfl rfl rfl rfl elt_ent rfl rfl (fun u hu => hu.liR (κ := kEnt) (l := [(beg ++ s, x)]) (id := 51) rfl (by simp [hl])) (by simp) (by simp [hl]) ?_
   intro A1 c1 m1 hm1
   refine RH.adv tk [] rfl rfl (by simp <;> omega) ?_
   exact RH.mtS (A1, c1) [] (.head _) rfl rfl rfl fun u hu => hu
 rintro ⟨A1, c1⟩ m1
 refine RH.toNx 60 ?_
 refine RH.loadS (slE L.B L.ps.length L.d) rfl rfl rfl rfl (fun u hu => hu.fact.2.lto) ?_
 refine RH.adv tk [] rfl rfl (by simp <;> omega) ?_
 dsimp only
 have e0 : ownL v (beg ++ s) = ownL v (beg ++ s) ++ entsTo k (beg ++ s) 0 := by simp [entsTo]
 rw [e0]
 refine RH.loop (α := Nat × (Option Addr × Nat)) (fun y => [(0, ptrAt L.b), (1, strE (beg ++ s)), (32, slE L.B L.ps.length L.d), (33, intE L.ps.length), (34, intE y.1), (5, rowS 50 y.2.1 (ownL v (beg ++ s) ++ entsTo k (beg ++ s) y.1).length y.2.2)]) (fun y => [(50, rowE kEnt y.2.1 y.2.2 (ownL v (beg ++ s) ++ entsTo k (beg ++ s) y.1))]) (fun y u => (K u ∧ Part u L.b s v k L.A L.c L.B L.d L.ps (Tree.node s v k).many (Tree.node s v k).own) ∧ y.1 ≤ L.ps.length) (fun y => L.ps.length - y.1) (0, (A1, c1)) rfl rfl (fun u hu => ⟨hu, Nat.zero_le _⟩) ?_
 rintro ⟨i, A2, c2⟩ m2
 refine RH.pure (fun u hu => hu.2) fun hi => ?_
 dsimp only at hi ⊢
 by_cases hlt : i < L.ps.length
 ·have hs1 := entsTo_succ k (beg ++ s) (i := i) (by omega) (by omega)
  have hle := entsTo_le k (beg ++ s) (i + 1)
  have hN2 := low_kid2 hw hlow i (by omega)
  refine RH.adv tk [true] rfl rfl (by simp [hpB (fun e => by rw [e] at hlt; cases hlt)] <;> omega) ?_
  refine RH.loadS (ptrAt L.ps[i].b) rfl rfl rfl rfl (fun u hu => hu.fact.1.2.to_.load hlt) ?_
  refine RH.adv tk [] rfl rfl (by simp <;> omega) ?_
  refine RH.loadS (slE L.A k.bytes.length L.c) rfl rfl rfl rfl (fun u hu => hu.fact.1.2.lby) ?_
  refine RH.adv tk [] rfl rfl (by simp [hpA (fun e => by rw [e] at hpl; rw [hpl] at hlt; cases hlt)] <;> omega) ?_
  refine RH.loadS (byE (k.bytes[i]'(by omega))) rfl rfl rfl rfl (fun u hu => hu.fact.1.2.by_.load (by omega)) ?_
  refine RH.adv tk [] rfl rfl (by simp <;> omega) ?_
  refine RH.go rfl rfl (OpGo.byteStr (l := [k.bytes[i]'(by omega)]) rfl rfl rfl (by simp) fun u hu => Sl.own (B := B0) (hu.row (κ := kBy) (l := [k.bytes[i]'(by omega)]) (id := 60) rfl) (by simp [hl])) 70 ?_
  rintro ⟨⟩ m3 hm3
  have hme : ((k.trees[i]'(by omega)).ents (beg ++ s ++ [k.bytes[i]'(by omega)])).length ≤ (k.ents (beg ++ s)).length := by
   rw [hs1, List.length_append] at hle; omega
  refine RH.adv tk [] rfl rfl (by simp <;> omega) ?_
  refine RH.doB [] 80 (hc := Tryz.call97) (ho := rfl) (hw := rfl) (hd := rfl) (hf := rfl) (hes := rfl) (hσ := rfl) (hn := rfl) (hV := fun _ => rfl) (hG := fun _ => rfl) (e := fun y : Option Addr × Nat => rowS 70 y.1 ((k.trees[i]'(by omega)).ents (beg ++ s ++ [k.bytes[i]'(by omega)])).length y.2) (hC := ih i (by omega) L.ps[i] (beg ++ s ++ [k.bytes[i]'(by omega)]) (N - (s.length + 1)) (kid_at hkw i (by omega) (by omega)).1 hN2.2 (by simp; omega) (by omega)) (hp := fun u hu => hu.fact.1.2.kids.at i hlt (by omega)) ?_
  rintro ⟨A3, c3⟩ m4 hm4
  refine RH.drop ?_
  dsimp only
  refine RH.apK (κ := kEnt) (id := 50) (l := ownL v (beg ++ s) ++ entsTo k (beg ++ s) i) (r := (k.trees[i]'(by omega)).ents (beg ++ s ++ [k.bytes[i]'(by omega)])) rfl rfl rfl rfl rfl rfl elt_ent rfl rfl (fun u hu => hu.liR (κ := kEnt) (l := (k.trees[i]'(by omega)).ents (beg ++ s ++ [k.bytes[i]'(by omega)])) (id := 70) rfl (by omega)) (by rw [hs1, List.length_append] at hle; rw [List.length_append]; omega) (by rw [hs1, List.length_append] at hle; rw [List.length_append]; omega) ?_
  intro A4 c4 m5 hm5
  rw [List.append_assoc (ownL v (beg ++ s)) (entsTo k (beg ++ s) i), ← hs1]
  refine RH.adv tk [] rfl rfl (by simp <;> omega) ?_
  exact RH.again (i + 1, (A4, c4)) (.head _) rfl rfl (by show L.ps.length - (i + 1) < L.ps.length - i; omega) fun u hu => ⟨hu.1, hlt⟩
 ·have hi' : i = k.bytes.length := by omega
  have hall : entsTo k (beg ++ s) i = k.ents (beg ++ s) := by rw [hi', entsTo_len]
  rw [hall]
  refine RH.adv tk [false] rfl rfl (by simp <;> omega) ?_
  rw [← e0]
  refine RH.ret1 Tryz.func97 rfl rfl fun w hst => ⟨(A2, c2), rfl, hst.out [(0, 50)] rfl rfl fun u h => ⟨h.1.1, trivial⟩⟩
mutual
theorem entries_ok : ∀ t : Tree, EntOk t
 | .node s v k => entries_node s v k (kids_entries_ok k)
theorem kids_entries_ok : ∀ (k : Kids) (i : Nat) (h : i < k.trees.length), EntOk k.trees[i]
 | .nil, i, h => by cases h
 | .cons b t r, 0, _ => entries_ok t
 | .cons b t r, i + 1, h => kids_entries_ok r i (by simpa [Kids.trees] using h)
end
def IsO (u : World) : Option Plot → Option Tree → Prop
 | none, none => True
 | some L, some t => IT u L t
 | _, _ => False
abbrev ptrO (po : Option Plot) : Value := .pointer (po.map fun L => ⟨L.b, 0, none⟩)
theorem IsO.ext {u u' : World} (he : Ext u u') {po : Option Plot} {t : Option Tree} (h : IsO u po t) : IsO u' po t := by
 cases po <;> cases t <;> first | trivial | exact h.elim | exact YtbfjmimiigjenaaGreatDoor.IT.ext he h
def okO (t : Option Tree) : Prop := match t with
 | none => True
 | some t => t.wf ∧ t.thin 1000 ∧ t.many ≤ 900000000
theorem putO_ok (po : Option Plot) (t : Option Tree) (ht : okO t) (name : Str) (x : Sum) (hn : name.length ≤ 1000) :
  Does Tryz.prog tb 167 [ptrO po, strV name, sumV x] [] (fun u => Glob u ∧ IsO u po t) (fun b' : Plot => ptrV b'.b) (fun _ => []) (fun b' => Late (fun u => IsO u po t) (fun u => IT u b' (putO t name x))) := by
 cases t with
 | none =>
  cases po with
  | none =>
   intro B0 w K hst hp
   refine (put_nil name x hn B0 w K hst fun u hu => (hp u hu).1).mono ?_
   rintro r w' ⟨b', hr, h2⟩
   exact ⟨b', hr, h2.mono fun u _ hu => ⟨hu.1, fun v hv _ => hu.2 v hv trivial⟩⟩
  | some L =>
   intro B0 w K hst hp
   exact ((hp w hst.fact).2).elim
 | some t =>
  cases po with
  | none =>
   intro B0 w K hst hp
   exact ((hp w hst.fact).2).elim
  | some L => exact PutOk.all x (M := 900000000) (Nat.le_refl _) name.length name (Nat.le_refl _) hn t ht.1 ht.2.1 ht.2.2 L
def wkB (b : Nat) (po : Option Plot) : Option HE := some (.obj b (.cells #[ptrO po] 159))
theorem vok_ptr (po : Option Plot) : VOk tb 29 (ptrO po) := ⟨rfl, Tryz.t29, rfl, rfl⟩
theorem load_root {w : World} {b : Nat} {po : Option Plot} {T : TypeId} {fr : Nat × Nat} (h : w.heap[b]? = some (.cells #[ptrO po] T fr)) : (loadVar 29 ⟨b, 0, none⟩).run Tryz.prog w = .ok (ptrO po) w := by
 refine V.run_load tk (vok_ptr po) (range_of_blk h (o := 0) (l := [ptrO po]) fun j v hv => ?_)
 rw [Nat.zero_add]; exact hv
theorem store_root {w : World} {B0 : Nat} {H : Heap} {I : World → Prop} {id b : Nat} {po po' : Option Plot} (hst : St tb B0 H I w) (hH : loH H id = wkB b po) :
  ∃ w', (storeVar 29 ⟨b, 0, none⟩ (ptrO po')).run Tryz.prog w = .ok () w' ∧ w.heap.size ≤ w'.heap.size ∧ St tb B0 ((id, wkB b po') :: H) I w' := by
 have hH' : loH H id = some (.obj b (.cells #[ptrO po] 159)) := hH
 have ho := hst.holds id _ hH'
 obtain ⟨w', q1, q2, q3, q4⟩ := run_storeAt (P := Tryz.prog) tk (vok_ptr po') (o := 0) ho.2 (by show 0 + 1 ≤ 1; exact Nat.le_refl 1)
 refine ⟨w', q1, by rw [q4]; exact Nat.le_refl _, ?_⟩
 exact hst.turn (w' := w') id (.obj b (.cells #[ptrO po] 159)) (.obj b (.cells #[ptrO po'] 159)) hH' (q3.mono fun j _ hj => by rw [hj]; rfl) ⟨ho.1, q2⟩ fun j hj => .inl hj
theorem V.RD.lastSt {P : Program} {f : Fr} {n : Nat} {S : Stops} {R : Ending → World → Prop} {tb : TT} {B0 : Nat} {I : World → Prop} {H : Heap} {nx m : Nat} {env : SEnv} {k : List Item} {ops : Array Oper} {i : Nat} {l : List Bool} {G0 : Heap} {I0 : World → Prop} {ty : TypeId} {ps : String} {af : Array Edge} {gd : Option (Nat × Bool)} {T : TypeId} {px y : Operand} {pa : Addr} {ey : EV} (H' : Heap)
  (ho : ops.toList[i]? = some ⟨none, .store T px y, ty, ps, af, gd⟩) (hr : Region.ready .any ops l.toArray = [i]) (hw : wantE env ops gd = .yes) (hf : finB ops i = true) (hl : Region.ready .any ops (l.set i true).toArray = []) (hx : ptrE (evE env px) = some pa) (hy : evE env y = some ey)
  (hv : ∀ w, w.heap.size = m → St tb B0 H I w → ∃ w', (storeVar T pa ey.v).run P w = .ok () w' ∧ w.heap.size ≤ w'.heap.size ∧ St tb B0 H' I w')
  (hk : ∀ m', m ≤ m' → RH P f n tb B0 S R k env H' nx m' I) : RD P f n tb B0 S R k ops G0 I0 (0 + 1) l env H nx m I :=
 let ⟨_, h1, h2⟩ := ptrE_ok hx; RD.last ho hr hw hf (OpGo.store h1 h2 hy hv) nx hl fun _ => hk
theorem wput_spec (wb : Nat) (po : Option Plot) (t : Option Tree) (ht : okO t) (name : Str) (x : Sum) (hn : name.length ≤ 1000) :
  Does Tryz.prog tb 94 [ptrV wb, strV name, sumV x] [(0, wkB wb po)] (fun u => Glob u ∧ IsO u po t) (fun _ : Plot => .tuple #[]) (fun b' => [(0, wkB wb (some b'))]) (fun b' => Late (fun u => IsO u po t) (fun u => IT u b' (putO t name x))) := by
 refine Does.enter tk [(0, ptrAt wb), (1, strE name), (2, sumE x)] Tryz.func94 rfl Tryz.ntmps94 rfl rfl 1 ?_
 intro B0 m0 K
 refine RH.adv tk [] rfl rfl (by simp) ?_
 refine RH.draw rfl [(1, some (.box m0 [.val (sumV x)] 40))] rfl 13 rfl rfl ?_
 refine RD.adv tk (by kernel_rfl) [] rfl rfl (by simp <;> omega) ?_
 refine RD.loadS (i := 5) (.av (.val (ptrO po))) rfl (by kernel_rfl) rfl rfl rfl (fun u hu => load_root (hu.holds 0 _ rfl).2) rfl (fun _ h => h) ?_
 intro m2 hm2
 refine RD.doB (i := 8) [] 4 (fun b1 : Plot => ptrAt b1.b) rfl (by kernel_rfl) rfl rfl rfl rfl Tryz.call167 (putO_ok po t ht name x hn) rfl rfl (fun _ => rfl) (fun _ => rfl) (fun u hu => hu.fact.2) (fun _ => rfl) (fun _ h => h) ?_
 rintro b1 m3 hm3
 refine RD.adv tk (by kernel_rfl) [] rfl rfl (by simp <;> omega) ?_
 refine RD.lastSt [(0, wkB wb (some b1)), (1, some (.box m0 [.val (sumV x)] 40))] (i := 12) rfl (by kernel_rfl) rfl (by kernel_rfl) (by kernel_rfl) rfl rfl (fun w _ hst => ?_) ?_
 ·obtain ⟨w', q1, q2, q3⟩ := store_root (po' := some b1) hst (id := 0) rfl
  exact ⟨w', q1, q2, q3.out [] rfl rfl fun _ h => h⟩
 intro m4 hm4
 refine RH.adv tk [] rfl rfl (by simp <;> omega) ?_
 refine RH.fin0 Tryz.func94 rfl fun w hst => ⟨b1, rfl, hst.out [] rfl rfl fun u h => ⟨h.1.1, fun v hv hp => h.2.up (by omega) hv hp⟩⟩
abbrev mapE (po : Option Plot) : EV := .st [.val (ptrO po)]
theorem Many_spec (w : World) (po : Option Plot) (t : Option Tree) (h : IsO w po t) : Gives Tryz.prog 25 [(mapE po).v] w (intE (maO t)) := by
 refine enterH tk [(0, mapE po)] Tryz.func25 rfl Tryz.ntmps25 rfl rfl ?_
 cases po with
 | none =>
  cases t with
  | some t => exact h.elim
  | none =>
   refine RH.adv tk [] rfl rfl (by simp <;> omega) ?_
   refine RH.read (.av (.val (.bool (none : Option Addr).isNone))) rfl rfl rfl rfl (fun u q _ ha => opP ha rfl rfl rfl rfl) ?_
   refine RH.adv tk [true] rfl rfl (by simp <;> omega) ?_
   refine RH.ret1 Tryz.func25 rfl rfl fun u hst => ⟨rfl, hst.fact⟩
 | some L =>
  cases t with
  | none => exact h.elim
  | some t =>
   have ht : IT w L t := h
   refine RH.adv tk [] rfl rfl (by simp <;> omega) ?_
   refine RH.read (.av (.val (.bool (some (⟨L.b, 0, none⟩ : Addr)).isNone))) rfl rfl rfl rfl (fun u q _ ha => opP ha rfl rfl rfl rfl) ?_
   refine RH.adv tk [false] rfl rfl (by simp <;> omega) ?_
   refine RH.loadS (intE t.many) rfl rfl rfl rfl (fun u hu => V.IT.lmany (YtbfjmimiigjenaaGreatDoor.IT.ext hu.fact ht)) ?_
   refine RH.adv tk [] rfl rfl (by simp <;> omega) ?_
   refine RH.ret1 Tryz.func25 rfl rfl fun u hst => ⟨rfl, hst.fact⟩
theorem Root_spec (w : World) (hG : Glob w) (po : Option Plot) (t : Option Tree) (h : IsO w po t) : Gives Tryz.prog 24 [(mapE po).v] w (sumE (rootO t)) := by
 refine enterH tk [(0, mapE po)] Tryz.func24 rfl Tryz.ntmps24 rfl rfl ?_
 cases po with
 | none =>
  cases t with
  | some t => exact h.elim
  | none =>
   refine RH.adv tk [] rfl rfl (by simp) ?_
   refine RH.read (.av (.val (.bool (none : Option Addr).isNone))) rfl rfl rfl rfl (fun u q _ ha => opP ha rfl rfl rfl rfl) ?_
   refine RH.adv tk [true] rfl rfl (by simp <;> omega) ?_
   refine RH.gives (ho := rfl) (hw := rfl) (hd := rfl) (hf := rfl) (hes := rfl) (hc := Tryz.call78) (e := sumE (shaW [])) (hC := fun u hu => Of_spec u (hG.ext hu.fact) none 0 [] (Sl.void u) (by decide)) ?_
   intro m1 hm1
   refine RH.adv tk [] rfl rfl (by simp) ?_
   exact RH.retBox tk (sumE (shaW [])) Tryz.func24 rfl rfl rfl rfl fun u hu => ⟨rfl, hu.fact⟩
 | some L =>
  cases t with
  | none => exact h.elim
  | some t =>
   have ht : IT w L t := h
   refine RH.adv tk [] rfl rfl (by simp) ?_
   refine RH.read (.av (.val (.bool (some (⟨L.b, 0, none⟩ : Addr)).isNone))) rfl rfl rfl rfl (fun u q _ ha => opP ha rfl rfl rfl rfl) ?_
   refine RH.adv tk [false] rfl rfl (by simp <;> omega) ?_
   refine RH.loadS (sumE t.own) rfl rfl rfl rfl (fun u hu => V.IT.lown (YtbfjmimiigjenaaGreatDoor.IT.ext hu.fact ht)) ?_
   refine RH.adv tk [] rfl rfl (by simp) ?_
   exact RH.retBox tk (sumE t.own) Tryz.func24 rfl rfl rfl rfl fun u hu => ⟨rfl, hu.fact⟩
mutual
def Tree.way : Tree → Plot → Str → List (Plot × Tree × Str)
 | .node s v k, L, name => (L, .node s v k, name) :: (match cutP s name with
  | some (c :: r) => k.way L.ps c r
  | _ => [])
def Kids.way : Kids → List Plot → UInt8 → Str → List (Plot × Tree × Str)
 | .cons b t r, p :: ps, c, n => if b = c then t.way p n else r.way ps c n
 | .nil, _, _, _ => []
 | .cons _ _ _, [], _, _ => []
end
theorem way_end (s : Str) (v : Option Sum) (k : Kids) (L : Plot) : (Tree.node s v k).way L s = [(L, .node s v k, s)] := by
 have h := cutP_app s []
 rw [List.append_nil] at h
 simp [Tree.way, h]
theorem way_kid (s : Str) (v : Option Sum) (k : Kids) (L : Plot) (c : UInt8) (r : Str) : (Tree.node s v k).way L (s ++ c :: r) = (L, .node s v k, s ++ c :: r) :: k.way L.ps c r := by
 simp [Tree.way, cutP_app]
theorem way_off {s n : Str} (v : Option Sum) (k : Kids) (L : Plot) (h : ∀ r, n ≠ s ++ r) : (Tree.node s v k).way L n = [(L, .node s v k, n)] := by
 simp [Tree.way, cutP_none h]
theorem kway_is : ∀ {k : Kids} {ps : List Plot} {c : UInt8} (n : Str), k.wf → ps.length = k.trees.length → isB k.bytes c = true → ∃ (h : posB k.bytes c < k.trees.length) (h2 : posB k.bytes c < ps.length), k.way ps c n = (k.trees[posB k.bytes c]).way ps[posB k.bytes c] n
 | .nil, ps, c, n, _, _, h => by simp [isB, Kids.bytes] at h
 | .cons b t r, [], c, n, _, hl, h => by simp [Kids.trees] at hl
 | .cons b t r, p :: ps, c, n, hw, hl, h => by
  unfold Kids.wf at hw
  obtain ⟨w1, w2, w3⟩ := hw
  unfold Kids.bytes at h ⊢
  rw [isB_cons] at h
  have hl' : ps.length = r.trees.length := by simpa [Kids.trees] using hl
  by_cases e : b = c
  ·subst e
   have hp : posB (b :: r.bytes) b = 0 := by rw [posB_cons, if_neg (by rw [u8_lt]; omega)]
   refine ⟨by rw [hp]; simp [Kids.trees], by rw [hp]; simp, ?_⟩
   simp only [hp]
   simp [Kids.way, Kids.trees]
  ·by_cases hb : b < c
   ·rw [if_pos hb] at h
    obtain ⟨h1, h2, h3⟩ := kway_is (k := r) (ps := ps) n w2 hl' h
    have hp : posB (b :: r.bytes) c = posB r.bytes c + 1 := by rw [posB_cons, if_pos hb]
    refine ⟨by rw [hp]; simp [Kids.trees]; omega, by rw [hp]; simp; omega, ?_⟩
    simp only [hp]
    rw [Kids.way, if_neg e, h3]
    simp [Kids.trees]
   ·rw [if_neg hb] at h
    simp [e] at h
theorem kway_not : ∀ {k : Kids} {ps : List Plot} {c : UInt8} (n : Str), k.wf → isB k.bytes c = false → k.way ps c n = []
 | .nil, ps, c, n, _, _ => by cases ps <;> rfl
 | .cons b t r, [], c, n, _, _ => rfl
 | .cons b t r, p :: ps, c, n, hw, h => by
  unfold Kids.wf at hw
  obtain ⟨w1, w2, w3⟩ := hw
  unfold Kids.bytes at h
  rw [isB_cons] at h
  by_cases hb : b < c
  ·rw [if_pos hb] at h
   rw [Kids.way, if_neg (u8_ne hb)]
   exact kway_not n w2 h
  ·rw [if_neg hb] at h
   have e : ¬ b = c := by simpa using h
   rw [Kids.way, if_neg e]
   refine kway_not n w2 ?_
   cases hi : isB r.bytes c with
   | false => rfl
   | true =>
    exfalso
    unfold isB at hi
    simp only [Bool.and_eq_true, decide_eq_true_eq] at hi
    have hm : c ∈ r.bytes := by
     have h2 : r.bytes.getD (posB r.bytes c) 0 = r.bytes[posB r.bytes c] := by simp [List.getD, List.getElem?_eq_getElem hi.1]
     rw [h2] at hi
     rw [← hi.2]; exact List.getElem_mem _
    exact hb (w3 c hm)
theorem way_facts {u : World} : ∀ (n : Nat) {t : Tree} {L : Plot} {name : Str}, t.wf → IT u L t → (t.way L name).length ≤ n → ∀ z ∈ t.way L name, IT u z.1 z.2.1 ∧ z.2.1.wf
 | 0, .node s v k, L, name, _, _, h => by simp [Tree.way] at h
 | n + 1, .node s v k, L, name, hw, hu, h => by
  intro z hz
  have hp := YtbfjmimiigjenaaGreatDoor.IT.part hu
  have hkw : k.wf := by unfold Tree.wf at hw; exact hw.1
  rcases paC s name with rfl | ⟨c, r, rfl⟩ | ⟨p, b, q, rfl, rfl⟩ | ⟨p, b, q, c, r, rfl, rfl, hne⟩
  ·rw [way_end] at hz
   simp at hz; subst hz; exact ⟨hu, hw⟩
  ·rw [way_kid] at hz h
   rcases List.mem_cons.1 hz with rfl | hz
   ·exact ⟨hu, hw⟩
   ·have hpl := hp.kids.len
    rw [k.len] at hpl
    cases hB : isB k.bytes c with
    | false => rw [kway_not r hkw hB] at hz; cases hz
    | true =>
     obtain ⟨h1, h2, h3⟩ := kway_is r hkw hpl hB
     rw [h3] at hz h
     exact way_facts n (kid_at hkw _ h1 (by rw [k.len]; exact h1)).1 (hp.kids.at _ h2 h1) (by simpa using h) z hz
  ·rw [way_off v k L (fun r h => by have := congrArg List.length h; simp at this)] at hz
   simp at hz; subst hz; exact ⟨hu, hw⟩
  ·rw [way_off v k L (fun r' h => by
    rw [List.append_assoc] at h
    have := List.append_cancel_left h
    simp at this
    exact hne this.1.symm)] at hz
   simp at hz; subst hz; exact ⟨hu, hw⟩
theorem op_neqPtr {n : Nat} {env : SEnv} {a : Act} (ha : Agree n a (kn env)) {o : Oper} {T' : TypeId} {x y : Operand} {u : EV} {p : Option Addr} {w : World} (hop : o.op = .binOp .neq 29 x y T') (hx : evE env x = some u) (hu : u.v = .pointer p) (hy : a.eval y = .pointer none) :
  (execOp a.eval o).run Tryz.prog w = .ok (.value (EV.av (.val (.bool (!p.isNone)))).v) w := by
 have h := run_neq_pointer_nil (P := Tryz.prog) (w := w) 29 p (by kernel_rfl)
 simp only [execOp, hop, ev_run ha hx, hu, hy]
 have hg : (eqGuard .neq 29 x y (.pointer p) (.pointer none)).run Tryz.prog w = .ok () w := by
  simp [eqGuard]
 rw [Sem.run_bind, Sem.run_bind, hg, Result.andThen_ok, h]
 rfl
abbrev wayG (bn br : Nat) (L : Plot) (r : Str) : Heap := [(0, some (.box bn [.val (ptrV L.b)] 29)), (1, some (.box br [.val (strV r)] 9))]
def lastG (bn br : Nat) (L : Plot) (name : Str) (xs : List (Plot × Tree × Str)) : Heap := match xs.getLast? with
 | some z => wayG bn br z.1 z.2.2
 | none => wayG bn br L name
theorem hasPre_app (s q : Str) : hasPre (s ++ q) s = true := by
 unfold hasPre
 simp
theorem cutS_app (s q : Str) : cutS (s ++ q) s = q := by
 unfold cutS
 rw [if_pos (hasPre_app s q), List.drop_left]
theorem hasPre_not {s n : Str} (h : ∀ r, n ≠ s ++ r) : hasPre n s = false := by
 unfold hasPre
 cases hd : (decide (s.length ≤ n.length) && decide (n.take s.length = s)) with
 | false => rfl
 | true =>
  exfalso
  simp only [Bool.and_eq_true, decide_eq_true_eq] at hd
  exact h (n.drop s.length) (by conv => lhs; rw [← List.take_append_drop s.length n, hd.2])
theorem way1_spec (bn br : Nat) (L : Plot) (t : Tree) (name : Str) (hw : t.wf) (hn : name.length ≤ 1000) (xs : List (Plot × Tree × Str)) (hxs0 : xs = t.way L name) :
  Iter Tryz.prog tb 197 (fun Y => [Y, ptrV bn, ptrV br]) (wayG bn br L name) (fun u => IT u L t) xs (fun z => [ptrAt z.1.b, strE z.2.2].map EV.v) (lastG bn br L name xs) := by
 have hN := Tryz.ntmps197
 refine V.Iter.enter (tb := tb) (n := 48) (args := fun Y => [Y, ptrV bn, ptrV br]) (Gi := wayG bn br L name) (pre := fun u => IT u L t) (xs := xs) (G' := lastG bn br L name xs) (enc := fun z => [ptrAt z.1.b, strE z.2.2]) (fun l => [(0, .av (.val (.func (.yield l) #[] #[]))), (1, .av (.box 0 bn 0)), (2, .av (.box 1 br 0))]) Tryz.func197 rfl hN (fun _ => rfl) (fun _ => rfl) 2 ?_
 intro α σ B0 l m Z Zs hZ hY x
 refine RH.adv tk [] rfl rfl trivial ?_
 refine RH.loop (α := Plot × Tree × Str × Nat × α) (fun z => [(0, .av (.val (.func (.yield l) #[] #[]))), (1, .av (.box 0 bn 0)), (2, .av (.box 1 br 0))]) (fun z => wayG bn br z.1 z.2.2.1)
  (fun z u => Z z.2.2.2.1 z.2.2.2.2 u ∧ xs.drop z.2.2.2.1 = z.2.1.way z.1 z.2.2.1 ∧ z.2.1.wf ∧ (∀ u, IT u L t → IT u z.1 z.2.1) ∧ z.2.2.1.length ≤ 1000) (fun z => (z.2.1.way z.1 z.2.2.1).length) (L, t, name, 0, x) rfl rfl (fun u hu => ⟨hu, hxs0, hw, fun _ h => h, hn⟩) ?_
 rintro ⟨L', t', r', j, y⟩ m2
 refine RH.pure (fun u hu => hu.2) fun ⟨hdr, hw', hsub, hr'⟩ => ?_
 dsimp only at hdr hw' hsub hr' ⊢
 obtain ⟨s, v, k⟩ := t'
 have hkw : k.wf := by unfold Tree.wf at hw'; exact hw'.1
 have hcons : ∃ xs', (Tree.node s v k).way L' r' = (L', .node s v k, r') :: xs' := by unfold Tree.way; exact ⟨_, rfl⟩
 obtain ⟨xs', hxs⟩ := hcons
 have hj : j < xs.length := by
  rcases Nat.lt_or_ge j xs.length with h | h
  ·exact h
  ·rw [List.drop_eq_nil_of_le h, hxs] at hdr; cases hdr
 have hget : xs[j] = (L', .node s v k, r') := by
  have h1 : xs.drop j = xs[j] :: xs.drop (j + 1) := List.drop_eq_getElem_cons hj
  rw [hdr, hxs] at h1
  injection h1 with h1 _
  exact h1.symm
 have hdr2 : xs.drop (j + 1) = xs' := by
  have h1 : xs.drop j = xs[j] :: xs.drop (j + 1) := List.drop_eq_getElem_cons hj
  rw [hdr, hxs] at h1
  injection h1 with _ h1
  exact h1.symm
 refine RH.adv tk [] rfl rfl (by simp <;> omega) ?_
 refine RH.read (.av (.val (.bool (!(some (⟨L'.b, 0, none⟩ : Addr)).isNone)))) rfl rfl rfl rfl (fun u q _ ha => op_neqPtr ha rfl rfl rfl rfl) ?_
 refine RH.adv tk [true] rfl rfl (by simp <;> omega) ?_
 refine RH.yield (It := fun y u => Z (j + 1) y u) (If := fun y u => Zs j y u) rfl rfl rfl rfl rfl (fun w hst => ?_) ?_ ?_
 ·have := hY j hj y _ w (hst.mono fun u _ hu => hu.1)
  rw [hget] at this
  exact this
 ·intro y2 m4 hm4
  have hfact : ∀ u, Z (j + 1) y2 u → Part u L'.b s v k L'.A L'.c L'.B L'.d L'.ps (Tree.node s v k).many (Tree.node s v k).own := fun u h => YtbfjmimiigjenaaGreatDoor.IT.part (hsub u (hZ _ _ _ h))
  have hend : xs' = [] → ∀ w, St tb B0 (wayG bn br L' r') (Z (j + 1) y2) w → ∃ y, St tb B0 (lastG bn br L name xs) (Z xs.length y) w := by
   intro he w hst
   rw [he] at hdr2
   have hlen : xs.length = j + 1 := by
    have := List.drop_eq_nil_iff.1 hdr2
    omega
   have hl2 : xs.getLast? = some (L', .node s v k, r') := by
    rw [List.getLast?_eq_getElem?, hlen, Nat.add_sub_cancel, List.getElem?_eq_getElem hj, hget]
   refine ⟨y2, ?_⟩
   unfold lastG
   rw [hl2, hlen]
   exact hst
  refine RH.adv tk [] rfl rfl (by simp <;> omega) ?_
  refine RH.draw rfl (wayG bn br L' r') rfl 11 rfl rfl ?_
  refine RD.adv tk (by kernel_rfl) [] rfl rfl (by simp <;> omega) ?_
  refine RD.load (by kernel_rfl) (i := 4) (strE s) rfl rfl rfl rfl rfl rfl (fun w' h => (hfact w' h).stem) ?_
  refine RD.adv tk (by kernel_rfl) [] rfl rfl (by simp <;> omega) ?_
  refine RD.gives (i := 5) (cutV r' s) rfl (by kernel_rfl) rfl rfl rfl rfl Tryz.call32 (fun u _ => CutPre_spec u r' s) rfl (fun _ h => h) ?_
  intro m5 hm5
  refine RD.adv tk (by kernel_rfl) [] rfl rfl (by simp <;> omega) ?_
  refine RD.done (.inr (by kernel_rfl)) (by kernel_rfl) ?_
  rcases paC s r' with hc | ⟨c, q, hc⟩ | hc
  ·subst hc
   rw [show cutS r' r' = [] from by have := cutS_app r' []; rwa [List.append_nil] at this, show hasPre r' r' = true from by have := hasPre_app r' []; rwa [List.append_nil] at this]
   have hx : xs' = [] := by rw [way_end] at hxs; injection hxs with _ h; exact h.symm
   refine RH.adv tk [false, true] rfl rfl (by simp <;> omega) ?_
   refine RH.ret0 Tryz.func197 rfl fun w hst => ⟨⟨_, rfl⟩, .inl (hend hx w (hst.out [] rfl rfl fun u h => h))⟩
  ·subst hc
   rw [cutS_app, hasPre_app]
   refine RH.adv tk [false, false] rfl rfl (by simp <;> omega) ?_
   refine RH.pure (fun u h => (⟨(hfact u h).kids.len, (hfact u h).to_.ptr0⟩ : L'.ps.length = k.bytes.length ∧ (L'.ps ≠ [] → Ptr L'.B))) fun ⟨hpl, hpB⟩ => ?_
   have hlb := kbL hkw
   have hkl := k.len
   refine RH.tell [(0, .av (.val (.func (.yield l) #[] #[]))), (1, .av (.box 0 bn 0)), (2, .av (.box 1 br 0)), (4, strE (c :: q))] (wayG bn br L' (s ++ c :: q)) [] rfl rfl rfl 2 ?_
   refine RH.draw rfl (wayG bn br L' (s ++ c :: q)) rfl 9 rfl rfl ?_
   refine RD.adv tk (by kernel_rfl) [] rfl rfl (by simp <;> omega) ?_
   refine RD.gives (i := 3) (.av (.val (.tuple #[intV (posB k.bytes c), .bool (isB k.bytes c)]))) rfl (by kernel_rfl) rfl rfl rfl rfl Tryz.call168 (fun u hu => branch_spec L'.b c s v k L'.A L'.c L'.B L'.d L'.ps _ _ u (hfact u hu.fact) hlb) rfl (fun _ h => h) ?_
   intro m6 hm6
   refine RD.adv tk (by kernel_rfl) [] rfl rfl (by simp <;> omega) ?_
   refine RD.done (.inr (by kernel_rfl)) (by kernel_rfl) ?_
   rw [way_kid] at hxs
   injection hxs with _ hxs
   cases hB : isB k.bytes c with
   | false =>
    have hx : xs' = [] := by rw [← hxs, kway_not q hkw hB]
    refine RH.adv tk [true] rfl rfl (by simp <;> omega) ?_
    refine RH.ret0 Tryz.func197 rfl fun w hst => ⟨⟨_, rfl⟩, .inl (hend hx w (hst.out [] rfl rfl fun u h => h))⟩
   | true =>
    obtain ⟨h1, h2, h3⟩ := kway_is (ps := L'.ps) q hkw (by omega) hB
    have hpos : posB k.bytes c < L'.ps.length := h2
    refine RH.adv tk [false] rfl rfl (by simp <;> omega) ?_
    refine RH.tell [(0, .av (.val (.func (.yield l) #[] #[]))), (1, .av (.box 0 bn 0)), (2, .av (.box 1 br 0)), (4, strE (c :: q)), (6, intE (posB k.bytes c))] (wayG bn br L' (s ++ c :: q)) [] rfl rfl rfl 2 ?_
    refine RH.draw rfl [] rfl 11 rfl rfl ?_
    refine RD.adv tk (by kernel_rfl) [] rfl rfl (by simp <;> omega) ?_
    refine RD.loadS (i := 0) (ptrAt L'.b) rfl (by kernel_rfl) rfl rfl rfl (fun u hu => hu.loadBox (id := 0) (e := ptrAt L'.b) tk rfl rfl u (Ext.rfl' u)) rfl (fun _ h => h) ?_
    intro m7 hm7
    refine RD.adv tk (by kernel_rfl) [] rfl rfl (by simp <;> omega) ?_
    refine RD.load (by kernel_rfl) (i := 3) (slE L'.B L'.ps.length L'.d) rfl rfl rfl rfl rfl rfl (fun w' h => (hfact w' h).lto) ?_
    refine RD.adv tk (by kernel_rfl) [] rfl rfl (by simp [hpB (fun e => by rw [e] at hpos; cases hpos)] <;> omega) ?_
    refine RD.load (by kernel_rfl) (i := 6) (ptrAt L'.ps[posB k.bytes c].b) rfl rfl rfl rfl rfl rfl (fun w' h => (hfact w' h).to_.load hpos) ?_
    refine RD.adv tk (by kernel_rfl) [] rfl rfl (by simp <;> omega) ?_
    refine RD.step tk (nx := 2) (i := 9) rfl (by kernel_rfl) rfl rfl rfl ?_ rfl (fun _ h => h) rfl ?_
    ·first | trivial | (simp; done)
    refine RD.adv tk (by kernel_rfl) [] rfl rfl (by simp <;> omega) ?_
    refine RD.lastOp (i := 10) tk rfl (by kernel_rfl) rfl (by kernel_rfl) (by kernel_rfl) rfl rfl ?_ (Nat.le_refl _) rfl ?_
    ·first | trivial | (simp; done)
    intro m8 hm8
    refine RH.adv tk [] rfl rfl (by simp <;> omega) ?_
    refine RH.again (L'.ps[posB k.bytes c], k.trees[posB k.bytes c], q, j + 1, y2) (.head _) rfl rfl ?_ fun u hu => ⟨hu, ?_, ?_, ?_, ?_⟩
    ·dsimp only
     rw [way_kid, List.length_cons, h3]; omega
    ·show xs.drop (j + 1) = _
     rw [hdr2, ← hxs, h3]
    ·exact (kid_at hkw _ h1 (by omega)).1
    ·exact fun u hu => (YtbfjmimiigjenaaGreatDoor.IT.part (hsub u hu)).kids.at _ hpos h1
    ·have : (s ++ c :: q).length ≤ 1000 := hr'
     rw [List.length_append, List.length_cons] at this
     show q.length ≤ 1000
     omega
  ·have hno : ∀ q, r' ≠ s ++ q := by
    rcases hc with ⟨p, b, q, rfl, rfl⟩ | ⟨p, b, q, c, r, rfl, rfl, hne⟩
    ·intro r h
     have := congrArg List.length h
     simp at this
    ·intro q' h
     rw [List.append_assoc] at h
     have := List.append_cancel_left h
     simp at this
     exact hne this.1.symm
   have hx : xs' = [] := by rw [way_off v k L' hno] at hxs; injection hxs with _ h; exact h.symm
   rw [hasPre_not hno]
   refine RH.adv tk [true] rfl rfl (by simp <;> omega) ?_
   refine RH.ret0 Tryz.func197 rfl fun w hst => ⟨⟨_, rfl⟩, .inl (hend hx w (hst.out [] rfl rfl fun u h => h))⟩
 ·intro y2 m4 hm4
  refine RH.adv tk [] rfl rfl (by simp <;> omega) ?_
  refine RH.fin0 Tryz.func197 rfl fun w hst => ⟨⟨_, rfl⟩, .inr ⟨j, _, y2, hj, hst⟩⟩
end Go.Proofs.YtbfjmimiigjenaaGreatDoor
