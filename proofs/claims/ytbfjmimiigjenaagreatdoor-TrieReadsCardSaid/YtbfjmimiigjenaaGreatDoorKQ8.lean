/-
Contracts of functions, and lemmas on them. No condition.
-/
import Derived.Laws.IdiomStrings
import Derived.Test.YtbfjmimiigjenaaGreatDoorKQ3
set_option linter.unusedVariables false
set_option linter.unusedSectionVars false
set_option linter.unusedSimpArgs false
namespace Go.Proofs.YtbfjmimiigjenaaGreatDoor
open Go V RowKit
section
variable {P : Program} {f : Fr} {n : Nat} {S : Stops} {R : Ending → World → Prop} {tb : TT} {B0 : Nat} {I : World → Prop} {H : Heap} {nx m : Nat} {env : SEnv} {todo k : List Item}
variable {α : Type} {ops : Array Oper} {i : Nat} {l : List Bool} {o : Oper}
variable {rs : List Nat} {d : Nat} {fo : Operand} {args : Array Operand} {tys : Array TypeId} {ty : TypeId} {ps : String} {af : Array Edge} {gd : Option (Nat × Bool)} {g : FuncId} {es : List EV} {f1 c1 : List Value}
theorem V.opD_doesB {G0 : Heap} {I0 : World → Prop} {fuel : Nat} {Gi : Heap} {pre : World → Prop} {W : α → Value} {G' : α → Heap} {J : α → Nat → World → Prop} [∀ x, From (J x)] (σ : List (Nat × Nat)) (nx nx' : Nat) (e : α → EV)
    (ho : ops.toList[i]? = some ⟨some d, .call ⟨.value fo, args, tys⟩, ty, ps, af, gd⟩) (hw : wantE env ops gd = .yes) (hd : Nat.blt d n = true) (hf : fnE (evE env fo) = some (g, f1, c1)) (hes : evsE env args.toList = some es)
    (hc : ∀ (xs : Array Value) w, (callFunc g xs).run P w = .ok (.enter g xs) w) (hC : Does P tb g (f1 ++ es.map EV.v ++ c1) Gi pre W G' J)
    (hσ : SelEq Gi H σ) (hn : nodupN (Gi.map fun p => ren σ p.1) = true) (hV : ∀ x, W x = (e x).v) (hG : ∀ x, nodupN ((G' x).map fun p => renB Gi σ nx p.1) = true) (hp : ∀ u, St tb B0 (rest Gi H σ) I u → pre u)
    (hG0 : ∀ x, SubH G0 (afterH Gi (G' x) H σ nx)) (hI : ∀ w, I w → I0 w)
    (hk : ∀ x m', m ≤ m' → RunD P f n tb B0 S R k ops G0 I0 fuel (l.set i true) ((d, e x) :: env) (afterH Gi (G' x) H σ nx) nx' m' (fun u => I u ∧ J x m u)) :
    ∀ w a, w.heap.size = m → St tb B0 H I w → Agree n a (kn env) → wpOp P ops (QD P f n S R k) i (fun a' w' => St tb B0 G0 I0 w' ∧ V.wpAnyH P .any ops (QD P f n S R k) (St tb B0 G0 I0) fuel (l.set i true).toArray a' w') a w :=
  let ⟨_, h1, h2⟩ := fnE_ok hf; opD_go ho hw (OpGo.doesB σ nx e hd h1 h2 hes hc hC hσ hn hp hV hG) nx' hG0 (fun _ w h => hI w h.1) hk
end
section
variable {P : Program} {f : Fr} {n : Nat} {S : Stops} {R : Ending → World → Prop} {tb : TT} {B0 : Nat} {I : World → Prop} {H : Heap} {nx m : Nat} {env : SEnv} {todo : List Item}
theorem V.RunH.above {id k : Nat} {x : HE} (hH : lookH H id = some x) (hk : x.blk = some k) (h : B0 ≤ k → k < m → RunH P f n tb B0 S R todo env H nx m I) : RunH P f n tb B0 S R todo env H nx m I :=
  fun w hm hst => h (HE.lt (hst.holds id x hH) hk).1 (hm ▸ (HE.lt (hst.holds id x hH) hk).2) w hm hst
end
theorem put_split_eq (p : Str) (e : UInt8) (q r : Str) (v : Option Sum) (k : Kids) (x : Sum) (hr : r = [] ∨ ∃ c r', r = c :: r' ∧ e ≠ c) :
    (Tree.node (p ++ e :: q) v k).put (p ++ r) x = (Tree.node p none (.cons e (.node q v k) .nil)).put (p ++ r) x := by
  rcases hr with rfl | ⟨c, r', rfl, h⟩
  · rw [List.append_nil, put_up, put_here]
  · rw [put_fork _ _ _ _ _ _ _ _ h, put_kid]
    congr 1
    unfold Kids.ins Kids.put
    by_cases h1 : e < c
    · rw [if_pos h1, if_pos h1]; rfl
    · rw [if_neg h1, if_neg h1, if_neg h]
set_option maxRecDepth 10000 in
set_option maxHeartbeats 4000000 in
theorem put_split (p : Str) (e : UInt8) (q r : Str) (x : Sum) (v : Option Sum) (k : Kids) (hk : k.wf) (hth : k.thin 1000) {M : Nat} (hM : M ≤ 900000000) (hm : (Tree.node q v k).many ≤ M) (hs : (p ++ e :: q).length ≤ 1000) (hn : (p ++ r).length ≤ 1000)
    (hr : r = [] ∨ ∃ c r', r = c :: r' ∧ e ≠ c) (ih : ∀ t : Tree, t.wf → t.thin 1000 → t.many ≤ M → ∀ c r', r = c :: r' → PutOk t r' x) (hv : (Tree.node q v k).wf)
    (b : Nat) (A : Option Addr) (c : Nat) (B : Option Addr) (d : Nat) (ps : List Plot) (many : Int) (own : Sum) :
    Does Tryz.prog tb 167 [ptrV b, strV (p ++ r), sumV x] [] (fun u => Glob u ∧ Part u b (p ++ e :: q) v k A c B d ps many own) (fun b' : Plot => ptrV b'.b) (fun _ => []) (fun b' => Late (fun u => Part u b (p ++ e :: q) v k A c B d ps many own) (fun u => IsTree u b' ((Tree.node (p ++ e :: q) v k).put (p ++ r) x))) := by
  have hl : lim = 140737488351232 := rfl
  have hlen := kbytes_len hk
  have hpl : p.length ≤ 1000 := by rw [List.length_append] at hs; omega
  have hql : q.length ≤ 1000 := by rw [List.length_append, List.length_cons] at hs; omega
  have hlcp : lcp (p ++ e :: q) (p ++ r) = p.length := by
    rw [lcp_app]
    rcases hr with rfl | ⟨c, r', rfl, h⟩
    · rw [lcp_nil]; rfl
    · rw [lcp_ne h]; rfl
  have hsl : (p ++ e :: q).length = p.length + (q.length + 1) := by rw [List.length_append, List.length_cons]
  have hdr : (p ++ e :: q).drop (((p.length : Int) + 1).toNat) = q := by
    rw [show ((p.length : Int) + 1).toNat = p.length + 1 by omega, ← List.drop_drop, List.drop_left]; rfl
  have htk : (p ++ e :: q).take ((p.length : Int)).toNat = p := by rw [Int.toNat_natCast, List.take_left]
  have hg1 : List.getD (p ++ e :: q) ((p.length : Int)).toNat 0 = e := by rw [getD_at (by rw [hsl]; omega)]; simp
  have hmy : (Tree.node q v k).many ≤ 1000000000 := by omega
  rw [put_split_eq p e q r v k x hr]
  refine V.Does.enter0 [(0, ptrAt b), (1, strE (p ++ r)), (2, sumE x)] Tryz.func167 rfl Tryz.ntmps167 rfl rfl 0 ?_
  intro m0 K
  refine RunH.adv tb_ok [] rfl rfl (by simp <;> omega) ?_
  refine RunH.read (.av (.val (.bool (some (⟨b, 0, none⟩ : Addr)).isNone))) rfl rfl rfl rfl (fun u q _ ha => op_eqPtr ha rfl rfl rfl rfl) ?_
  refine RunH.adv tb_ok [false] rfl rfl (by simp <;> omega) ?_
  refine RunH.loadS (strE (p ++ e :: q)) rfl rfl rfl rfl (fun u hu => hu.fact.2.2.stem) ?_
  refine RunH.adv tb_ok [] rfl rfl (by simp <;> omega) ?_
  refine RunH.gives (ho := rfl) (hw := rfl) (hd := rfl) (hf := rfl) (hes := rfl) (hc := Tryz.call245) (e := intE (lcp (p ++ e :: q) (p ++ r))) (hC := fun u hu => shared_spec u (p ++ e :: q) (p ++ r) (by omega) (by omega)) ?_
  intro m1 hm1
  rw [hlcp]
  refine RunH.adv tb_ok [] rfl rfl (by simp <;> omega) ?_
  refine RunH.loadS (strE (p ++ e :: q)) rfl rfl rfl rfl (fun u hu => hu.fact.2.2.stem) ?_
  refine RunH.adv tb_ok [true] rfl rfl (by simp <;> omega) ?_
  refine RunH.loadS (nodE (p ++ e :: q) v A k.bytes.length c B ps.length d many own) rfl rfl rfl rfl (fun u hu => hu.fact.2.2.all) ?_
  refine RunH.adv tb_ok [] rfl rfl (by simp <;> omega) ?_
  refine RunH.loadS (strE (p ++ e :: q)) rfl rfl rfl rfl (fun u hu => hu.fact.2.2.stem) ?_
  refine RunH.adv tb_ok [] rfl rfl (by simp <;> omega) ?_
  rw [hdr]
  refine RunH.tell [(0, ptrAt b), (1, strE (p ++ r)), (5, .av (.box 0 m0 0)), (7, intE p.length), (8, .av (.box 1 m1 0))] [(0, some (.box m0 [.val (sumV x)] 40)), (1, some (.box m1 (nodF q v A k.bytes.length c B ps.length d many own) 165))] [] rfl rfl rfl 2 ?_
  apply RunH.joinK (α := Nat × Nat × Nat × Nat) (fun z => [(1, strE (p ++ r)), (5, .av (.box 0 m0 0)), (9, .av (.box 17 z.1 0))]) (fun z => [(0, some (.box m0 [.val (sumV x)] 40)), (17, some (.box z.1 [.val (strV p), .val (.bool false), .val (sumV Sum.zero), .val (.slice (some ⟨z.2.1, 0, none⟩) 1 1), .val (.slice (some ⟨z.2.2.1, 0, none⟩) 1 1), .val (intV 0), .val (sumV Sum.zero)] 165)), (12, rowE kByte (some ⟨z.2.1, 0, none⟩) 1 [e]), (15, rowE kP (some ⟨z.2.2.1, 0, none⟩) 1 [Plot.node z.2.2.2 A c B d ps]), (14, some (.box z.2.2.2 (nodF q v A k.bytes.length c B ps.length d (Tree.node q v k).many (Tree.node q v k).own) 165))]) (fun _ u => K u ∧ (Glob u ∧ Part u b (p ++ e :: q) v k A c B d ps many own))
  · refine RunH.draw rfl [(1, some (.box m1 (nodF q v A k.bytes.length c B ps.length d many own) 165))] rfl 19 rfl rfl ?_
    refine RunD.adv tb_ok (by kernel_rfl) [] rfl rfl (by simp <;> omega) ?_
    refine RunD.load (by kernel_rfl) (i := 3) (strE (p ++ e :: q)) rfl rfl rfl rfl rfl rfl (fun w' h => h.2.2.stem) ?_
    refine RunD.load (by kernel_rfl) (i := 9) (strE (p ++ e :: q)) rfl rfl rfl rfl rfl rfl (fun w' h => h.2.2.stem) ?_
    refine RunD.adv tb_ok (by kernel_rfl) [] rfl rfl (by simp <;> omega) ?_
    rw [htk, hg1]
    refine RunD.three (i := 12) (j := 14) (q := 17) (by kernel_rfl) ?_ ?_ ?_
    · refine opD_step tb_ok (nx := 12) (i := 12) rfl rfl rfl rfl ?_ rfl (fun _ h => h) ⟨rfl, rfl⟩ ?_
      · first | trivial | (simp; done)
      refine RunD.adv tb_ok (by kernel_rfl) [] rfl rfl (by simp <;> omega) ?_
      refine RunD.two (i := 14) (j := 17) (by kernel_rfl) ?_ ?_
      · refine V.opD_doesB (i := 14) [] 14 20 (e := fun b1 : Nat => ptrAt b1) rfl rfl rfl rfl rfl Tryz.call173 (made_spec q v k A c B d ps many own hlen hql hmy) rfl rfl (fun _ => rfl) (fun _ => rfl) (fun u hu => ⟨hu.fact.2.1, hu.fact.2.2.by_, hu.fact.2.2.to_, hu.fact.2.2.kids⟩) (fun _ => rfl) (fun _ h => h) ?_
        rintro b14 m14 hm14
        refine RunD.adv tb_ok (by kernel_rfl) [] rfl rfl (by simp <;> omega) ?_
        refine RunD.two (i := 15) (j := 17) (by kernel_rfl) ?_ ?_
        · refine opD_step tb_ok (nx := 15) (i := 15) rfl rfl rfl rfl ?_ rfl (fun _ h => h.1) ⟨rfl, rfl⟩ ?_
          · first | trivial | (simp; done)
          refine RunD.adv tb_ok (by kernel_rfl) [] rfl rfl (by simp <;> omega) ?_
          refine RunD.step tb_ok (nx := 17) (i := 17) rfl (by kernel_rfl) rfl rfl rfl ?_ rfl (fun _ h => h.1) ⟨rfl, rfl⟩ ?_
          · first | trivial | (simp; done)
          refine RunD.adv tb_ok (by kernel_rfl) [] rfl rfl (by simp <;> omega) ?_
          refine RunD.lastOp (i := 18) tb_ok rfl (by kernel_rfl) rfl (by kernel_rfl) (by kernel_rfl) rfl rfl ?_ (Nat.le_refl _) rfl ?_
          · first | trivial | (simp; done)
          intro m18 hm18
          exact RunH.meetS (m14 + 1, m1 + 1, m14, b14) [] (.head _) rfl rfl rfl fun u h => h.1
        · refine opD_step tb_ok (nx := 17) (i := 17) rfl rfl rfl rfl ?_ rfl (fun _ h => h.1) ⟨rfl, rfl⟩ ?_
          · first | trivial | (simp; done)
          refine RunD.adv tb_ok (by kernel_rfl) [] rfl rfl (by simp <;> omega) ?_
          refine RunD.step tb_ok (nx := 15) (i := 15) rfl (by kernel_rfl) rfl rfl rfl ?_ rfl (fun _ h => h.1) ⟨rfl, rfl⟩ ?_
          · first | trivial | (simp; done)
          refine RunD.adv tb_ok (by kernel_rfl) [] rfl rfl (by simp <;> omega) ?_
          refine RunD.lastOp (i := 18) tb_ok rfl (by kernel_rfl) rfl (by kernel_rfl) (by kernel_rfl) rfl rfl ?_ (Nat.le_refl _) rfl ?_
          · first | trivial | (simp; done)
          intro m18 hm18
          exact RunH.meetS (m14, m1 + 1, m14 + 1, b14) [] (.head _) rfl rfl rfl fun u h => h.1
      · refine opD_step tb_ok (nx := 17) (i := 17) rfl rfl rfl rfl ?_ rfl (fun _ h => h) ⟨rfl, rfl⟩ ?_
        · first | trivial | (simp; done)
        refine RunD.adv tb_ok (by kernel_rfl) [] rfl rfl (by simp <;> omega) ?_
        refine RunD.doesB (nx := 14) (i := 14) [] 20 (e := fun b1 : Nat => ptrAt b1) rfl (by kernel_rfl) rfl rfl rfl rfl Tryz.call173 (made_spec q v k A c B d ps many own hlen hql hmy) rfl rfl (fun _ => rfl) (fun _ => rfl) (fun u hu => ⟨hu.fact.2.1, hu.fact.2.2.by_, hu.fact.2.2.to_, hu.fact.2.2.kids⟩) (fun _ => rfl) (fun _ h => h) ?_
        rintro b14 m14 hm14
        refine RunD.adv tb_ok (by kernel_rfl) [] rfl rfl (by simp <;> omega) ?_
        refine RunD.step tb_ok (nx := 15) (i := 15) rfl (by kernel_rfl) rfl rfl rfl ?_ rfl (fun _ h => h.1) ⟨rfl, rfl⟩ ?_
        · first | trivial | (simp; done)
        refine RunD.adv tb_ok (by kernel_rfl) [] rfl rfl (by simp <;> omega) ?_
        refine RunD.lastOp (i := 18) tb_ok rfl (by kernel_rfl) rfl (by kernel_rfl) (by kernel_rfl) rfl rfl ?_ (Nat.le_refl _) rfl ?_
        · first | trivial | (simp; done)
        intro m18 hm18
        exact RunH.meetS (m1 + 1 + 1, m1 + 1, m14, b14) [] (.head _) rfl rfl rfl fun u h => h.1
    · refine V.opD_doesB (i := 14) [] 14 20 (e := fun b1 : Nat => ptrAt b1) rfl rfl rfl rfl rfl Tryz.call173 (made_spec q v k A c B d ps many own hlen hql hmy) rfl rfl (fun _ => rfl) (fun _ => rfl) (fun u hu => ⟨hu.fact.2.1, hu.fact.2.2.by_, hu.fact.2.2.to_, hu.fact.2.2.kids⟩) (fun _ => rfl) (fun _ h => h) ?_
      rintro b14 m14 hm14
      refine RunD.adv tb_ok (by kernel_rfl) [] rfl rfl (by simp <;> omega) ?_
      refine RunD.three (i := 12) (j := 15) (q := 17) (by kernel_rfl) ?_ ?_ ?_
      · refine opD_step tb_ok (nx := 12) (i := 12) rfl rfl rfl rfl ?_ rfl (fun _ h => h.1) ⟨rfl, rfl⟩ ?_
        · first | trivial | (simp; done)
        refine RunD.adv tb_ok (by kernel_rfl) [] rfl rfl (by simp <;> omega) ?_
        refine RunD.two (i := 15) (j := 17) (by kernel_rfl) ?_ ?_
        · refine opD_step tb_ok (nx := 15) (i := 15) rfl rfl rfl rfl ?_ rfl (fun _ h => h.1) ⟨rfl, rfl⟩ ?_
          · first | trivial | (simp; done)
          refine RunD.adv tb_ok (by kernel_rfl) [] rfl rfl (by simp <;> omega) ?_
          refine RunD.step tb_ok (nx := 17) (i := 17) rfl (by kernel_rfl) rfl rfl rfl ?_ rfl (fun _ h => h.1) ⟨rfl, rfl⟩ ?_
          · first | trivial | (simp; done)
          refine RunD.adv tb_ok (by kernel_rfl) [] rfl rfl (by simp <;> omega) ?_
          refine RunD.lastOp (i := 18) tb_ok rfl (by kernel_rfl) rfl (by kernel_rfl) (by kernel_rfl) rfl rfl ?_ (Nat.le_refl _) rfl ?_
          · first | trivial | (simp; done)
          intro m18 hm18
          exact RunH.meetS (m14 + 1 + 1, m14, m14 + 1, b14) [] (.head _) rfl rfl rfl fun u h => h.1
        · refine opD_step tb_ok (nx := 17) (i := 17) rfl rfl rfl rfl ?_ rfl (fun _ h => h.1) ⟨rfl, rfl⟩ ?_
          · first | trivial | (simp; done)
          refine RunD.adv tb_ok (by kernel_rfl) [] rfl rfl (by simp <;> omega) ?_
          refine RunD.step tb_ok (nx := 15) (i := 15) rfl (by kernel_rfl) rfl rfl rfl ?_ rfl (fun _ h => h.1) ⟨rfl, rfl⟩ ?_
          · first | trivial | (simp; done)
          refine RunD.adv tb_ok (by kernel_rfl) [] rfl rfl (by simp <;> omega) ?_
          refine RunD.lastOp (i := 18) tb_ok rfl (by kernel_rfl) rfl (by kernel_rfl) (by kernel_rfl) rfl rfl ?_ (Nat.le_refl _) rfl ?_
          · first | trivial | (simp; done)
          intro m18 hm18
          exact RunH.meetS (m14 + 1, m14, m14 + 1 + 1, b14) [] (.head _) rfl rfl rfl fun u h => h.1
      · refine opD_step tb_ok (nx := 15) (i := 15) rfl rfl rfl rfl ?_ rfl (fun _ h => h.1) ⟨rfl, rfl⟩ ?_
        · first | trivial | (simp; done)
        refine RunD.adv tb_ok (by kernel_rfl) [] rfl rfl (by simp <;> omega) ?_
        refine RunD.two (i := 12) (j := 17) (by kernel_rfl) ?_ ?_
        · refine opD_step tb_ok (nx := 12) (i := 12) rfl rfl rfl rfl ?_ rfl (fun _ h => h.1) ⟨rfl, rfl⟩ ?_
          · first | trivial | (simp; done)
          refine RunD.adv tb_ok (by kernel_rfl) [] rfl rfl (by simp <;> omega) ?_
          refine RunD.step tb_ok (nx := 17) (i := 17) rfl (by kernel_rfl) rfl rfl rfl ?_ rfl (fun _ h => h.1) ⟨rfl, rfl⟩ ?_
          · first | trivial | (simp; done)
          refine RunD.adv tb_ok (by kernel_rfl) [] rfl rfl (by simp <;> omega) ?_
          refine RunD.lastOp (i := 18) tb_ok rfl (by kernel_rfl) rfl (by kernel_rfl) (by kernel_rfl) rfl rfl ?_ (Nat.le_refl _) rfl ?_
          · first | trivial | (simp; done)
          intro m18 hm18
          exact RunH.meetS (m14 + 1 + 1, m14 + 1, m14, b14) [] (.head _) rfl rfl rfl fun u h => h.1
        · refine opD_step tb_ok (nx := 17) (i := 17) rfl rfl rfl rfl ?_ rfl (fun _ h => h.1) ⟨rfl, rfl⟩ ?_
          · first | trivial | (simp; done)
          refine RunD.adv tb_ok (by kernel_rfl) [] rfl rfl (by simp <;> omega) ?_
          refine RunD.step tb_ok (nx := 12) (i := 12) rfl (by kernel_rfl) rfl rfl rfl ?_ rfl (fun _ h => h.1) ⟨rfl, rfl⟩ ?_
          · first | trivial | (simp; done)
          refine RunD.adv tb_ok (by kernel_rfl) [] rfl rfl (by simp <;> omega) ?_
          refine RunD.lastOp (i := 18) tb_ok rfl (by kernel_rfl) rfl (by kernel_rfl) (by kernel_rfl) rfl rfl ?_ (Nat.le_refl _) rfl ?_
          · first | trivial | (simp; done)
          intro m18 hm18
          exact RunH.meetS (m14 + 1, m14 + 1 + 1, m14, b14) [] (.head _) rfl rfl rfl fun u h => h.1
      · refine opD_step tb_ok (nx := 17) (i := 17) rfl rfl rfl rfl ?_ rfl (fun _ h => h.1) ⟨rfl, rfl⟩ ?_
        · first | trivial | (simp; done)
        refine RunD.adv tb_ok (by kernel_rfl) [] rfl rfl (by simp <;> omega) ?_
        refine RunD.two (i := 12) (j := 15) (by kernel_rfl) ?_ ?_
        · refine opD_step tb_ok (nx := 12) (i := 12) rfl rfl rfl rfl ?_ rfl (fun _ h => h.1) ⟨rfl, rfl⟩ ?_
          · first | trivial | (simp; done)
          refine RunD.adv tb_ok (by kernel_rfl) [] rfl rfl (by simp <;> omega) ?_
          refine RunD.step tb_ok (nx := 15) (i := 15) rfl (by kernel_rfl) rfl rfl rfl ?_ rfl (fun _ h => h.1) ⟨rfl, rfl⟩ ?_
          · first | trivial | (simp; done)
          refine RunD.adv tb_ok (by kernel_rfl) [] rfl rfl (by simp <;> omega) ?_
          refine RunD.lastOp (i := 18) tb_ok rfl (by kernel_rfl) rfl (by kernel_rfl) (by kernel_rfl) rfl rfl ?_ (Nat.le_refl _) rfl ?_
          · first | trivial | (simp; done)
          intro m18 hm18
          exact RunH.meetS (m14, m14 + 1, m14 + 1 + 1, b14) [] (.head _) rfl rfl rfl fun u h => h.1
        · refine opD_step tb_ok (nx := 15) (i := 15) rfl rfl rfl rfl ?_ rfl (fun _ h => h.1) ⟨rfl, rfl⟩ ?_
          · first | trivial | (simp; done)
          refine RunD.adv tb_ok (by kernel_rfl) [] rfl rfl (by simp <;> omega) ?_
          refine RunD.step tb_ok (nx := 12) (i := 12) rfl (by kernel_rfl) rfl rfl rfl ?_ rfl (fun _ h => h.1) ⟨rfl, rfl⟩ ?_
          · first | trivial | (simp; done)
          refine RunD.adv tb_ok (by kernel_rfl) [] rfl rfl (by simp <;> omega) ?_
          refine RunD.lastOp (i := 18) tb_ok rfl (by kernel_rfl) rfl (by kernel_rfl) (by kernel_rfl) rfl rfl ?_ (Nat.le_refl _) rfl ?_
          · first | trivial | (simp; done)
          intro m18 hm18
          exact RunH.meetS (m14, m14 + 1 + 1, m14 + 1, b14) [] (.head _) rfl rfl rfl fun u h => h.1
    · refine opD_step tb_ok (nx := 17) (i := 17) rfl rfl rfl rfl ?_ rfl (fun _ h => h) ⟨rfl, rfl⟩ ?_
      · first | trivial | (simp; done)
      refine RunD.adv tb_ok (by kernel_rfl) [] rfl rfl (by simp <;> omega) ?_
      refine RunD.two (i := 12) (j := 14) (by kernel_rfl) ?_ ?_
      · refine opD_step tb_ok (nx := 12) (i := 12) rfl rfl rfl rfl ?_ rfl (fun _ h => h) ⟨rfl, rfl⟩ ?_
        · first | trivial | (simp; done)
        refine RunD.adv tb_ok (by kernel_rfl) [] rfl rfl (by simp <;> omega) ?_
        refine RunD.doesB (nx := 14) (i := 14) [] 20 (e := fun b1 : Nat => ptrAt b1) rfl (by kernel_rfl) rfl rfl rfl rfl Tryz.call173 (made_spec q v k A c B d ps many own hlen hql hmy) rfl rfl (fun _ => rfl) (fun _ => rfl) (fun u hu => ⟨hu.fact.2.1, hu.fact.2.2.by_, hu.fact.2.2.to_, hu.fact.2.2.kids⟩) (fun _ => rfl) (fun _ h => h) ?_
        rintro b14 m14 hm14
        refine RunD.adv tb_ok (by kernel_rfl) [] rfl rfl (by simp <;> omega) ?_
        refine RunD.step tb_ok (nx := 15) (i := 15) rfl (by kernel_rfl) rfl rfl rfl ?_ rfl (fun _ h => h.1) ⟨rfl, rfl⟩ ?_
        · first | trivial | (simp; done)
        refine RunD.adv tb_ok (by kernel_rfl) [] rfl rfl (by simp <;> omega) ?_
        refine RunD.lastOp (i := 18) tb_ok rfl (by kernel_rfl) rfl (by kernel_rfl) (by kernel_rfl) rfl rfl ?_ (Nat.le_refl _) rfl ?_
        · first | trivial | (simp; done)
        intro m18 hm18
        exact RunH.meetS (m1 + 1, m1 + 1 + 1, m14, b14) [] (.head _) rfl rfl rfl fun u h => h.1
      · refine V.opD_doesB (i := 14) [] 14 20 (e := fun b1 : Nat => ptrAt b1) rfl rfl rfl rfl rfl Tryz.call173 (made_spec q v k A c B d ps many own hlen hql hmy) rfl rfl (fun _ => rfl) (fun _ => rfl) (fun u hu => ⟨hu.fact.2.1, hu.fact.2.2.by_, hu.fact.2.2.to_, hu.fact.2.2.kids⟩) (fun _ => rfl) (fun _ h => h) ?_
        rintro b14 m14 hm14
        refine RunD.adv tb_ok (by kernel_rfl) [] rfl rfl (by simp <;> omega) ?_
        refine RunD.two (i := 12) (j := 15) (by kernel_rfl) ?_ ?_
        · refine opD_step tb_ok (nx := 12) (i := 12) rfl rfl rfl rfl ?_ rfl (fun _ h => h.1) ⟨rfl, rfl⟩ ?_
          · first | trivial | (simp; done)
          refine RunD.adv tb_ok (by kernel_rfl) [] rfl rfl (by simp <;> omega) ?_
          refine RunD.step tb_ok (nx := 15) (i := 15) rfl (by kernel_rfl) rfl rfl rfl ?_ rfl (fun _ h => h.1) ⟨rfl, rfl⟩ ?_
          · first | trivial | (simp; done)
          refine RunD.adv tb_ok (by kernel_rfl) [] rfl rfl (by simp <;> omega) ?_
          refine RunD.lastOp (i := 18) tb_ok rfl (by kernel_rfl) rfl (by kernel_rfl) (by kernel_rfl) rfl rfl ?_ (Nat.le_refl _) rfl ?_
          · first | trivial | (simp; done)
          intro m18 hm18
          exact RunH.meetS (m1 + 1, m14, m14 + 1, b14) [] (.head _) rfl rfl rfl fun u h => h.1
        · refine opD_step tb_ok (nx := 15) (i := 15) rfl rfl rfl rfl ?_ rfl (fun _ h => h.1) ⟨rfl, rfl⟩ ?_
          · first | trivial | (simp; done)
          refine RunD.adv tb_ok (by kernel_rfl) [] rfl rfl (by simp <;> omega) ?_
          refine RunD.step tb_ok (nx := 12) (i := 12) rfl (by kernel_rfl) rfl rfl rfl ?_ rfl (fun _ h => h.1) ⟨rfl, rfl⟩ ?_
          · first | trivial | (simp; done)
          refine RunD.adv tb_ok (by kernel_rfl) [] rfl rfl (by simp <;> omega) ?_
          refine RunD.lastOp (i := 18) tb_ok rfl (by kernel_rfl) rfl (by kernel_rfl) (by kernel_rfl) rfl rfl ?_ (Nat.le_refl _) rfl ?_
          · first | trivial | (simp; done)
          intro m18 hm18
          exact RunH.meetS (m1 + 1, m14 + 1, m14, b14) [] (.head _) rfl rfl rfl fun u h => h.1
  rintro ⟨mz, ma, mp, bl⟩ m2
  refine RunH.toNx 20 ?_
  dsimp only
  refine RunH.above (id := 17) rfl rfl fun hz1 hz2 => ?_
  have hmid : ∀ u, Part u b (p ++ e :: q) v k A c B d ps many own → (HE.box mz [.val (strV p), .val (.bool false), .val (sumV Sum.zero), .val (.slice (some ⟨ma, 0, none⟩) 1 1), .val (.slice (some ⟨mp, 0, none⟩) 1 1), .val (intV 0), .val (sumV Sum.zero)] 165).holds tb m0 u → (HE.row (.slice (some ⟨ma, 0, none⟩) 1 1) kByte.T kByte.sz 1 ([e].flatMap kByte.cs)).holds tb m0 u → (HE.row (.slice (some ⟨mp, 0, none⟩) 1 1) kP.T kP.sz 1 ([Plot.node bl A c B d ps].flatMap kP.cs)).holds tb m0 u → (HE.box bl (nodF q v A k.bytes.length c B ps.length d (Tree.node q v k).many (Tree.node q v k).own) 165).holds tb m0 u →
      Part u mz p none (.cons e (.node q v k) .nil) (some ⟨ma, 0, none⟩) 1 (some ⟨mp, 0, none⟩) 1 [Plot.node bl A c B d ps] 0 Sum.zero := by
    intro u hp h1 h2 h3 h4
    have hs1 : (1 : Nat) ≤ lim := by rw [hl]; decide
    refine ⟨box_node h1, Sl.own (κ := kByte) (l := [e]) h2 hs1, Sl.own (κ := kP) (l := [Plot.node bl A c B d ps]) h3 hs1, ?_⟩
    unfold IsKids
    exact ⟨Go.Proofs.YtbfjmimiigjenaaGreatDoor.Part.tree ⟨box_node h4, hp.by_, hp.to_, hp.kids⟩, trivial⟩
  have hKw : (Kids.cons e (.node q v k) .nil).wf := ⟨hv, trivial, by intro c hc; cases hc⟩
  have hKt : (Kids.cons e (.node q v k) .nil).thin 1000 := ⟨⟨hql, hth⟩, trivial⟩
  have hKm : (Kids.cons e (.node q v k) .nil).many ≤ M := hm
  refine RunH.free (i := 17) rfl ?_
  refine RunH.free (i := 12) rfl ?_
  refine RunH.free (i := 15) rfl ?_
  refine RunH.free (i := 14) rfl ?_
  refine RunH.adv tb_ok [] rfl rfl (by simp <;> omega) ?_
  refine RunH.doesB [] 30 (hc := Tryz.call167) (ho := rfl) (hw := rfl) (hd := rfl) (hf := rfl) (hes := rfl) (hσ := rfl) (hn := rfl) (hV := fun _ => rfl) (hG := fun _ => rfl) (e := fun b' : Plot => ptrAt b'.b) (hC := put_ns p r x none (.cons e (.node q v k) .nil) hKw hKt hM hKm hn ih mz (some ⟨ma, 0, none⟩) 1 (some ⟨mp, 0, none⟩) 1 [Plot.node bl A c B d ps] 0 Sum.zero) (hp := fun u hu => ⟨hu.fact.1.1.1.1.2.1, hmid u hu.fact.1.1.1.1.2.2 hu.fact.1.1.1.2 hu.fact.1.1.2 hu.fact.1.2 hu.fact.2⟩) ?_
  rintro b' m6 hm6
  refine RunH.adv tb_ok [] rfl rfl (by simp <;> omega) ?_
  refine RunH.ret1 Tryz.func167 rfl rfl fun w hst => ⟨b', rfl, hst.out [] rfl rfl fun u h => ⟨h.1.1.1.1.1.1, fun v' hv' hp => ?_⟩⟩
  exact h.2.up (by omega) hv' (hmid v' hp (holds_late h.1.1.1.1.2 hv') (holds_late h.1.1.1.2 hv') (holds_late h.1.1.2 hv') (holds_late h.1.2 hv'))
theorem PutOk.of (t : Tree) (name : Str) (x : Sum) (h : ∀ (s : Str) (v : Option Sum) (k : Kids), t = .node s v k → ∀ (b : Nat) (A : Option Addr) (c : Nat) (B : Option Addr) (d : Nat) (ps : List Plot) (many : Int) (own : Sum),
    Does Tryz.prog tb 167 [ptrV b, strV name, sumV x] [] (fun u => Glob u ∧ Part u b s v k A c B d ps many own) (fun b' : Plot => ptrV b'.b) (fun _ => []) (fun b' => Late (fun u => Part u b s v k A c B d ps many own) (fun u => IsTree u b' ((Tree.node s v k).put name x)))) : PutOk t name x := by
  cases t with
  | node s v k =>
    intro L B0 w K hst hp
    refine (h s v k rfl L.b L.A L.c L.B L.d L.ps _ _ B0 w K hst fun u hu => ⟨(hp u hu).1, Go.Proofs.YtbfjmimiigjenaaGreatDoor.IsTree.part (hp u hu).2⟩).mono ?_
    rintro r w' ⟨b', hr, h2⟩
    exact ⟨b', hr, h2.mono fun u _ hu => ⟨hu.1, fun v' hv hp' => hu.2 v' hv (Go.Proofs.YtbfjmimiigjenaaGreatDoor.IsTree.part hp')⟩⟩
theorem PutOk.go (x : Sum) {M : Nat} (hM : M ≤ 900000000) (name : Str) (hn : name.length ≤ 1000) (t : Tree) (hw : t.wf) (ht : t.thin 1000) (hm : t.many ≤ M)
    (ih : ∀ (c : UInt8) (r' q : Str), name = q ++ c :: r' → ∀ t' : Tree, t'.wf → t'.thin 1000 → t'.many ≤ M → PutOk t' r' x) : PutOk t name x := by
  refine PutOk.of t name x ?_
  rintro s v k rfl b A c B d ps many own
  unfold Tree.wf at hw
  unfold Tree.thin at ht
  have hkm : k.many ≤ M := by
    have : (if v.isSome = true then 1 else 0) + k.many ≤ M := hm
    omega
  rcases part_cases s name with rfl | ⟨e, r, rfl⟩ | ⟨p, e, q, rfl, rfl⟩ | ⟨p, e, q, c2, r, rfl, rfl, hne⟩
  · have := put_ns name [] x v k hw.1 ht.2 hM hkm (by rw [List.append_nil]; exact hn) (fun t' h1 h2 h3 c r' h => by cases h) b A c B d ps many own
    rw [List.append_nil] at this
    exact this
  · exact put_ns s (e :: r) x v k hw.1 ht.2 hM hkm hn (fun t' h1 h2 h3 c r' h => ih c r' s (by rw [h]) t' h1 h2 h3) b A c B d ps many own
  · have := put_split name e q [] x v k hw.1 ht.2 hM hm ht.1 (by rw [List.append_nil]; exact hn) (.inl rfl) (fun t' h1 h2 h3 c r' h => by cases h) hw b A c B d ps many own
    rw [List.append_nil] at this
    exact this
  · exact put_split p e q (c2 :: r) x v k hw.1 ht.2 hM hm ht.1 hn (.inr ⟨c2, r, rfl, hne⟩) (fun t' h1 h2 h3 c r' h => ih c r' p (by rw [h]) t' h1 h2 h3) hw b A c B d ps many own
theorem PutOk.all (x : Sum) {M : Nat} (hM : M ≤ 900000000) : ∀ (n : Nat) (name : Str), name.length ≤ n → name.length ≤ 1000 → ∀ t : Tree, t.wf → t.thin 1000 → t.many ≤ M → PutOk t name x := by
  intro n
  induction n with
  | zero =>
    intro name h0 hn t hw ht hm
    have : name = [] := List.length_eq_zero_iff.1 (by omega)
    subst this
    exact PutOk.go x hM [] hn t hw ht hm (fun c r' n h => by simp at h)
  | succ n ih =>
    intro name h0 hn t hw ht hm
    exact PutOk.go x hM name hn t hw ht hm fun c r' q h t' hw' ht' hm' => ih r' (by rw [h] at h0; simp at h0; omega) (by rw [h] at hn; simp at hn; omega) t' hw' ht' hm'
end Go.Proofs.YtbfjmimiigjenaaGreatDoor
namespace Go.Proofs.YtbfjmimiigjenaaGreatDoor
open Go V RowKit
def kEnt : Kd (Str × Sum) where
  T := 155
  sz := 33
  ev x := .st [.val (strV x.1), .val (sumV x.2)]
  ok x := by
    refine ⟨_, Tryz.t155, rfl, rfl, ?_, ?_⟩
    · have : (sumV x.2).cells.size = 32 := (sumV_ok x.2).1
      simp only [List.map_cons, List.map_nil, flat_cons, flat_nil, AV.v, List.append_nil, List.size_toArray, List.length_append, Array.length_toList, this]
      rfl
    · intro u hu
      simp only [List.map_cons, List.map_nil, flat_cons, flat_nil, AV.v, List.append_nil, List.mem_append] at hu
      rcases hu with hu | hu
      · exact (vok_str x.1).one u hu
      · exact (vok_sum x.2).one u hu
  size x := by
    have : (sumV x.2).cells.size = 32 := (sumV_ok x.2).1
    show (flat [strV x.1, sumV x.2]).toArray.size = 33
    simp only [flat_cons, flat_nil, List.append_nil, List.size_toArray, List.length_append, Array.length_toList, this]
    rfl
theorem elt_ent : ElT tb kEnt.T 33 48 := ⟨⟨Tryz.t155, (Tryz.t155).zero.getD undef, by kernel_rfl, by kernel_rfl, by kernel_rfl, by kernel_rfl, by kernel_rfl⟩, by decide⟩
section
variable {n : Nat} {B0 : Nat} {I : World → Prop} {H : Heap} {m : Nat} {env : SEnv}
theorem V.OpGo.byteStr {d : Nat} {x : Operand} {ty : TypeId} {ps : String} {af : Array Edge} {gd : Option (Nat × Bool)} {ex : EV} {A : Option Addr} {c : Nat} {l : List UInt8}
    (hd : Nat.blt d n = true) (hx : evE env x = some ex) (hxv : ex.v = .slice A l.length c) (hne : l ≠ []) (hl : ∀ w, St tb B0 H I w → Sl kByte w A c l) :
    OpGo Tryz.prog tb B0 n ⟨some d, .convert 22 9 x, ty, ps, af, gd⟩ env H m I (fun _ : Unit => (d, strE l) :: env) (fun _ => H) (fun _ => I) := by
  intro w a hm hst ha
  have hdn : d < n := Nat.lt_of_lt_of_le (Nat.lt_succ_self d) (Nat.le_of_ble_eq_true hd)
  have hs := hl w hst
  have hxv' : a.eval x = .slice A l.length c := (ev_run ha hx).trans hxv
  have hp := hs.addr hne
  unfold Ptr at hp
  have h := run_convert_bytes_back (P := Tryz.prog) w 22 9 5 ⟨blkA A, offA A, none⟩ c l (tb_ok.und rfl) (tb_ok.und rfl) (tb_ok.und rfl) (fun j hj => by
    rw [Addr.add_lit]
    refine hs.cells j _ ?_
    rw [← map_flat, List.getElem?_map, List.getElem?_eq_getElem hj]
    rfl)
  unfold Oper.wp
  have : (execOp a.eval ⟨some d, .convert 22 9 x, ty, ps, af, gd⟩).run Tryz.prog w = .ok (.value (strV l)) w := by
    simp only [execOp, hxv']
    rw [hp, Sem.run_bind, h]
    rfl
  rw [this]
  refine ⟨(), ?_, by rw [← hm]; exact Nat.le_refl _, hst⟩
  rw [kn_cons]; exact ha.put hdn _
end
def entsTo (k : Kids) (beg : Str) (i : Nat) : List (Str × Sum) := ((k.bytes.zip k.trees).take i).flatMap fun p => p.2.ents (beg ++ [p.1])
theorem entsTo_all : ∀ (k : Kids) (beg : Str), (k.bytes.zip k.trees).flatMap (fun p => p.2.ents (beg ++ [p.1])) = k.ents beg
  | .nil, _ => rfl
  | .cons b t r, beg => by
    show t.ents (beg ++ [b]) ++ ((r.bytes.zip r.trees).flatMap fun p => p.2.ents (beg ++ [p.1])) = t.ents (beg ++ [b]) ++ r.ents beg
    rw [entsTo_all r beg]
theorem entsTo_len (k : Kids) (beg : Str) : entsTo k beg k.bytes.length = k.ents beg := by
  unfold entsTo
  rw [List.take_of_length_le (by rw [List.length_zip]; omega), entsTo_all]
theorem entsTo_succ (k : Kids) (beg : Str) {i : Nat} (h : i < k.bytes.length) (h2 : i < k.trees.length) : entsTo k beg (i + 1) = entsTo k beg i ++ (k.trees[i]).ents (beg ++ [k.bytes[i]]) := by
  unfold entsTo
  have hz : i < (k.bytes.zip k.trees).length := by simp; omega
  rw [List.take_succ_eq_append_getElem hz, List.flatMap_append]
  simp
theorem entsTo_le (k : Kids) (beg : Str) (i : Nat) : (entsTo k beg i).length ≤ (k.ents beg).length := by
  have : (k.bytes.zip k.trees).flatMap (fun p => p.2.ents (beg ++ [p.1])) = entsTo k beg i ++ ((k.bytes.zip k.trees).drop i).flatMap fun p => p.2.ents (beg ++ [p.1]) := by
    unfold entsTo
    rw [← List.flatMap_append, List.take_append_drop]
  rw [← entsTo_all, this, List.length_append]
  omega
theorem low_kid2 {N : Nat} {s : Str} {v : Option Sum} {k : Kids} (h : (Tree.node s v k).wf) (hl : (Tree.node s v k).low N) (i : Nat) (hi : i < k.trees.length) : s.length + 1 ≤ N ∧ (k.trees[i]).low (N - (s.length + 1)) := by
  unfold Tree.wf at h
  have h2 : i < k.bytes.length := by rw [Kids.len]; exact hi
  obtain ⟨a1, a2⟩ := kid_at h.1 i hi h2
  have key : ∀ n x, (k.trees[i]).get n = some x → s.length + 1 + n.length ≤ N := by
    intro n x hx
    have := hl (s ++ k.bytes[i] :: n) x (by rw [get_kid, a2]; exact hx)
    simp at this
    omega
  refine ⟨?_, fun n x hx => by have := key n x hx; omega⟩
  obtain ⟨n, x, hx⟩ := has_name a1
  have := key n x hx
  omega
def EntOk (t : Tree) : Prop := ∀ (L : Plot) (beg : Str) (N : Nat), t.wf → t.low N → beg.length + N ≤ 1000 → (t.ents beg).length ≤ 900000000 →
  Does Tryz.prog tb 97 [ptrV L.b, strV beg] [] (fun u => IsTree u L t) (fun y : Option Addr × Nat => .slice y.1 (t.ents beg).length y.2) (fun y => [(0, rowE kEnt y.1 y.2 (t.ents beg))]) (fun _ _ _ => True)
def ownL (v : Option Sum) (beg : Str) : List (Str × Sum) := match v with
  | some s => [(beg, s)]
  | none => []
theorem ents_node (s : Str) (v : Option Sum) (k : Kids) (beg : Str) : (Tree.node s v k).ents beg = ownL v (beg ++ s) ++ k.ents (beg ++ s) := by
  cases v <;> rfl
set_option maxRecDepth 10000 in
theorem entries_node (s : Str) (v : Option Sum) (k : Kids) (ih : ∀ i (h : i < k.trees.length), EntOk k.trees[i]) : EntOk (.node s v k) := by
  intro L beg N hw hlow hN hm
  have hl : lim = 140737488351232 := rfl
  have hst := low_stem hw hlow
  have hkw : k.wf := by unfold Tree.wf at hw; exact hw.1
  have hkl := k.len
  rw [ents_node] at hm ⊢
  rw [List.length_append] at hm
  refine Does.enter tb_ok [(0, ptrAt L.b), (1, strE beg)] Tryz.func97 rfl Tryz.ntmps97 rfl rfl 0 ?_
  intro B0 m0 K
  refine RunH.facts (fun u => K u ∧ Part u L.b s v k L.A L.c L.B L.d L.ps (Tree.node s v k).many (Tree.node s v k).own) (fun u h => ⟨h.1, Go.Proofs.YtbfjmimiigjenaaGreatDoor.IsTree.part h.2⟩) ?_
  refine RunH.adv tb_ok [] rfl rfl (by simp <;> omega) ?_
  refine RunH.read (.av (.val (.bool (some (⟨L.b, 0, none⟩ : Addr)).isNone))) rfl rfl rfl rfl (fun u q _ ha => op_eqPtr ha rfl rfl rfl rfl) ?_
  refine RunH.adv tb_ok [false] rfl rfl (by simp <;> omega) ?_
  refine RunH.loadS (strE s) rfl rfl rfl rfl (fun u hu => hu.fact.2.stem) ?_
  refine RunH.adv tb_ok [] rfl rfl (by simp <;> omega) ?_
  refine RunH.loadS (boolE v.isSome) rfl rfl rfl rfl (fun u hu => hu.fact.2.has) ?_
  refine RunH.pure (fun u h => (⟨h.2.kids.len, h.2.to_.ptr0, h.2.by_.ptr0⟩ : L.ps.length = k.bytes.length ∧ (L.ps ≠ [] → Ptr L.B) ∧ (k.bytes ≠ [] → Ptr L.A))) fun ⟨hpl, hpB, hpA⟩ => ?_
  have hkm : (k.ents (beg ++ s)).length ≤ 900000000 := by omega
  have hlb := kbytes_len hkw
  refine RunH.nilrow 50 kEnt.T kEnt.sz 51 ?_
  refine RunH.tell [(0, ptrAt L.b), (1, strE (beg ++ s)), (5, rowS 50 none 0 0), (19, boolE v.isSome)] [(50, rowE kEnt none 0 [])] [] rfl rfl rfl 51 ?_
  apply RunH.joinK (α := Option Addr × Nat) (fun z => [(0, ptrAt L.b), (1, strE (beg ++ s)), (5, rowS 50 z.1 (ownL v (beg ++ s)).length z.2), (31, .av (.val (.pointer (some ⟨L.b, 35, none⟩))))]) (fun z => [(50, rowE kEnt z.1 z.2 (ownL v (beg ++ s)))]) (fun _ u => K u ∧ Part u L.b s v k L.A L.c L.B L.d L.ps (Tree.node s v k).many (Tree.node s v k).own)
  · cases v with
    | none =>
      refine RunH.adv tb_ok [false] rfl rfl (by simp <;> omega) ?_
      exact RunH.meetS (none, 0) [] (.head _) rfl rfl rfl fun u hu => hu
    | some x =>
      refine RunH.adv tb_ok [true] rfl rfl (by simp <;> omega) ?_
      refine RunH.loadS (sumE x) rfl rfl rfl rfl (fun u hu => hu.fact.2.sum) ?_
      refine RunH.adv tb_ok [] rfl rfl (by simp <;> omega) ?_
      refine RunH.appendK (κ := kEnt) (id := 50) (l := []) (r := [(beg ++ s, x)]) rfl rfl rfl rfl rfl rfl elt_ent rfl rfl (fun u hu => hu.liesRow (κ := kEnt) (l := [(beg ++ s, x)]) (id := 51) rfl (by simp [hl])) (by simp) (by simp [hl]) ?_
      intro A1 c1 m1 hm1
      refine RunH.adv tb_ok [] rfl rfl (by simp <;> omega) ?_
      exact RunH.meetS (A1, c1) [] (.head _) rfl rfl rfl fun u hu => hu
  rintro ⟨A1, c1⟩ m1
  refine RunH.toNx 60 ?_
  refine RunH.loadS (slE L.B L.ps.length L.d) rfl rfl rfl rfl (fun u hu => hu.fact.2.lto) ?_
  refine RunH.adv tb_ok [] rfl rfl (by simp <;> omega) ?_
  dsimp only
  have e0 : ownL v (beg ++ s) = ownL v (beg ++ s) ++ entsTo k (beg ++ s) 0 := by simp [entsTo]
  rw [e0]
  refine RunH.loop (α := Nat × (Option Addr × Nat)) (fun y => [(0, ptrAt L.b), (1, strE (beg ++ s)), (32, slE L.B L.ps.length L.d), (33, intE L.ps.length), (34, intE y.1), (5, rowS 50 y.2.1 (ownL v (beg ++ s) ++ entsTo k (beg ++ s) y.1).length y.2.2)]) (fun y => [(50, rowE kEnt y.2.1 y.2.2 (ownL v (beg ++ s) ++ entsTo k (beg ++ s) y.1))]) (fun y u => (K u ∧ Part u L.b s v k L.A L.c L.B L.d L.ps (Tree.node s v k).many (Tree.node s v k).own) ∧ y.1 ≤ L.ps.length) (fun y => L.ps.length - y.1) (0, (A1, c1)) rfl rfl (fun u hu => ⟨hu, Nat.zero_le _⟩) ?_
  rintro ⟨i, A2, c2⟩ m2
  refine RunH.pure (fun u hu => hu.2) fun hi => ?_
  dsimp only at hi ⊢
  by_cases hlt : i < L.ps.length
  · have hs1 := entsTo_succ k (beg ++ s) (i := i) (by omega) (by omega)
    have hle := entsTo_le k (beg ++ s) (i + 1)
    have hN2 := low_kid2 hw hlow i (by omega)
    refine RunH.adv tb_ok [true] rfl rfl (by simp [hpB (fun e => by rw [e] at hlt; cases hlt)] <;> omega) ?_
    refine RunH.loadS (ptrAt L.ps[i].b) rfl rfl rfl rfl (fun u hu => hu.fact.1.2.to_.load hlt) ?_
    refine RunH.adv tb_ok [] rfl rfl (by simp <;> omega) ?_
    refine RunH.loadS (slE L.A k.bytes.length L.c) rfl rfl rfl rfl (fun u hu => hu.fact.1.2.lby) ?_
    refine RunH.adv tb_ok [] rfl rfl (by simp [hpA (fun e => by rw [e] at hpl; rw [hpl] at hlt; cases hlt)] <;> omega) ?_
    refine RunH.loadS (byE (k.bytes[i]'(by omega))) rfl rfl rfl rfl (fun u hu => hu.fact.1.2.by_.load (by omega)) ?_
    refine RunH.adv tb_ok [] rfl rfl (by simp <;> omega) ?_
    refine RunH.go rfl rfl (OpGo.byteStr (l := [k.bytes[i]'(by omega)]) rfl rfl rfl (by simp) fun u hu => Sl.own (B := B0) (hu.row (κ := kByte) (l := [k.bytes[i]'(by omega)]) (id := 60) rfl) (by simp [hl])) 70 ?_
    rintro ⟨⟩ m3 hm3
    have hme : ((k.trees[i]'(by omega)).ents (beg ++ s ++ [k.bytes[i]'(by omega)])).length ≤ (k.ents (beg ++ s)).length := by
      rw [hs1, List.length_append] at hle; omega
    refine RunH.adv tb_ok [] rfl rfl (by simp <;> omega) ?_
    refine RunH.doesB [] 80 (hc := Tryz.call97) (ho := rfl) (hw := rfl) (hd := rfl) (hf := rfl) (hes := rfl) (hσ := rfl) (hn := rfl) (hV := fun _ => rfl) (hG := fun _ => rfl) (e := fun y : Option Addr × Nat => rowS 70 y.1 ((k.trees[i]'(by omega)).ents (beg ++ s ++ [k.bytes[i]'(by omega)])).length y.2) (hC := ih i (by omega) L.ps[i] (beg ++ s ++ [k.bytes[i]'(by omega)]) (N - (s.length + 1)) (kid_at hkw i (by omega) (by omega)).1 hN2.2 (by simp; omega) (by omega)) (hp := fun u hu => hu.fact.1.2.kids.at i hlt (by omega)) ?_
    rintro ⟨A3, c3⟩ m4 hm4
    refine RunH.drop ?_
    dsimp only
    refine RunH.appendK (κ := kEnt) (id := 50) (l := ownL v (beg ++ s) ++ entsTo k (beg ++ s) i) (r := (k.trees[i]'(by omega)).ents (beg ++ s ++ [k.bytes[i]'(by omega)])) rfl rfl rfl rfl rfl rfl elt_ent rfl rfl (fun u hu => hu.liesRow (κ := kEnt) (l := (k.trees[i]'(by omega)).ents (beg ++ s ++ [k.bytes[i]'(by omega)])) (id := 70) rfl (by omega)) (by rw [hs1, List.length_append] at hle; rw [List.length_append]; omega) (by rw [hs1, List.length_append] at hle; rw [List.length_append]; omega) ?_
    intro A4 c4 m5 hm5
    rw [List.append_assoc (ownL v (beg ++ s)) (entsTo k (beg ++ s) i), ← hs1]
    refine RunH.adv tb_ok [] rfl rfl (by simp <;> omega) ?_
    exact RunH.again (i + 1, (A4, c4)) (.head _) rfl rfl (by show L.ps.length - (i + 1) < L.ps.length - i; omega) fun u hu => ⟨hu.1, hlt⟩
  · have hi' : i = k.bytes.length := by omega
    have hall : entsTo k (beg ++ s) i = k.ents (beg ++ s) := by rw [hi', entsTo_len]
    rw [hall]
    refine RunH.adv tb_ok [false] rfl rfl (by simp <;> omega) ?_
    rw [← e0]
    refine RunH.ret1 Tryz.func97 rfl rfl fun w hst => ⟨(A2, c2), rfl, hst.out [(0, 50)] rfl rfl fun u h => ⟨h.1.1, trivial⟩⟩
mutual
theorem entries_ok : ∀ t : Tree, EntOk t
  | .node s v k => entries_node s v k (kids_entries_ok k)
theorem kids_entries_ok : ∀ (k : Kids) (i : Nat) (h : i < k.trees.length), EntOk k.trees[i]
  | .nil, i, h => by cases h
  | .cons b t r, 0, _ => entries_ok t
  | .cons b t r, i + 1, h => kids_entries_ok r i (by simpa [Kids.trees] using h)
end
end Go.Proofs.YtbfjmimiigjenaaGreatDoor
namespace Go.Proofs.YtbfjmimiigjenaaGreatDoor
open Go V RowKit
def IsO (u : World) : Option Plot → Option Tree → Prop
  | none, none => True
  | some L, some t => IsTree u L t
  | _, _ => False
abbrev ptrO (po : Option Plot) : Value := .pointer (po.map fun L => ⟨L.b, 0, none⟩)
theorem IsO.ext {u u' : World} (he : Ext u u') {po : Option Plot} {t : Option Tree} (h : IsO u po t) : IsO u' po t := by
  cases po <;> cases t <;> first | trivial | exact h.elim | exact Go.Proofs.YtbfjmimiigjenaaGreatDoor.IsTree.ext he h
def okO (t : Option Tree) : Prop := match t with
  | none => True
  | some t => t.wf ∧ t.thin 1000 ∧ t.many ≤ 900000000
theorem putO_ok (po : Option Plot) (t : Option Tree) (ht : okO t) (name : Str) (x : Sum) (hn : name.length ≤ 1000) :
    Does Tryz.prog tb 167 [ptrO po, strV name, sumV x] [] (fun u => Glob u ∧ IsO u po t) (fun b' : Plot => ptrV b'.b) (fun _ => []) (fun b' => Late (fun u => IsO u po t) (fun u => IsTree u b' (putO t name x))) := by
  cases t with
  | none =>
    cases po with
    | none =>
      intro B0 w K hst hp
      refine (put_nil name x hn B0 w K hst fun u hu => (hp u hu).1).mono ?_
      rintro r w' ⟨b', hr, h2⟩
      exact ⟨b', hr, h2.mono fun u _ hu => ⟨hu.1, fun v hv _ => hu.2 v hv trivial⟩⟩
    | some L =>
      intro B0 w K hst hp
      exact ((hp w hst.fact).2).elim
  | some t =>
    cases po with
    | none =>
      intro B0 w K hst hp
      exact ((hp w hst.fact).2).elim
    | some L => exact PutOk.all x (M := 900000000) (Nat.le_refl _) name.length name (Nat.le_refl _) hn t ht.1 ht.2.1 ht.2.2 L
def wkB (b : Nat) (po : Option Plot) : Option HE := some (.obj b (.cells #[ptrO po] 159))
theorem vok_ptr (po : Option Plot) : VOk tb 29 (ptrO po) := ⟨rfl, Tryz.t29, rfl, rfl⟩
theorem load_root {w : World} {b : Nat} {po : Option Plot} {T : TypeId} {fr : Nat × Nat} (h : w.heap[b]? = some (.cells #[ptrO po] T fr)) : (loadVar 29 ⟨b, 0, none⟩).run Tryz.prog w = .ok (ptrO po) w := by
  refine V.run_load tb_ok (vok_ptr po) (range_of_blk h (o := 0) (l := [ptrO po]) fun j v hv => ?_)
  rw [Nat.zero_add]; exact hv
theorem store_root {w : World} {B0 : Nat} {H : Heap} {I : World → Prop} {id b : Nat} {po po' : Option Plot} (hst : St tb B0 H I w) (hH : lookH H id = wkB b po) :
    ∃ w', (storeVar 29 ⟨b, 0, none⟩ (ptrO po')).run Tryz.prog w = .ok () w' ∧ w.heap.size ≤ w'.heap.size ∧ St tb B0 ((id, wkB b po') :: H) I w' := by
  have hH' : lookH H id = some (.obj b (.cells #[ptrO po] 159)) := hH
  have ho := hst.holds id _ hH'
  obtain ⟨w', q1, q2, q3, q4⟩ := run_storeAt (P := Tryz.prog) tb_ok (vok_ptr po') (o := 0) ho.2 (by show 0 + 1 ≤ 1; exact Nat.le_refl 1)
  refine ⟨w', q1, by rw [q4]; exact Nat.le_refl _, ?_⟩
  exact hst.turn (w' := w') id (.obj b (.cells #[ptrO po] 159)) (.obj b (.cells #[ptrO po'] 159)) hH' (q3.mono fun j _ hj => by rw [hj]; rfl) ⟨ho.1, q2⟩ fun j hj => .inl hj
theorem V.RunD.lastSt {P : Program} {f : Fr} {n : Nat} {S : Stops} {R : Ending → World → Prop} {tb : TT} {B0 : Nat} {I : World → Prop} {H : Heap} {nx m : Nat} {env : SEnv} {k : List Item} {ops : Array Oper} {i : Nat} {l : List Bool} {G0 : Heap} {I0 : World → Prop} {ty : TypeId} {ps : String} {af : Array Edge} {gd : Option (Nat × Bool)} {T : TypeId} {px y : Operand} {pa : Addr} {ey : EV} (H' : Heap)
    (ho : ops.toList[i]? = some ⟨none, .store T px y, ty, ps, af, gd⟩) (hr : Region.ready .any ops l.toArray = [i]) (hw : wantE env ops gd = .yes) (hf : finB ops i = true) (hl : Region.ready .any ops (l.set i true).toArray = []) (hx : ptrE (evE env px) = some pa) (hy : evE env y = some ey)
    (hv : ∀ w, w.heap.size = m → St tb B0 H I w → ∃ w', (storeVar T pa ey.v).run P w = .ok () w' ∧ w.heap.size ≤ w'.heap.size ∧ St tb B0 H' I w')
    (hk : ∀ m', m ≤ m' → RunH P f n tb B0 S R k env H' nx m' I) : RunD P f n tb B0 S R k ops G0 I0 (0 + 1) l env H nx m I :=
  let ⟨_, h1, h2⟩ := ptrE_ok hx; RunD.last ho hr hw hf (OpGo.store h1 h2 hy hv) nx hl fun _ => hk
set_option maxRecDepth 10000 in
theorem wput_spec (wb : Nat) (po : Option Plot) (t : Option Tree) (ht : okO t) (name : Str) (x : Sum) (hn : name.length ≤ 1000) :
    Does Tryz.prog tb 94 [ptrV wb, strV name, sumV x] [(0, wkB wb po)] (fun u => Glob u ∧ IsO u po t) (fun _ : Plot => .tuple #[]) (fun b' => [(0, wkB wb (some b'))]) (fun b' => Late (fun u => IsO u po t) (fun u => IsTree u b' (putO t name x))) := by
  refine Does.enter tb_ok [(0, ptrAt wb), (1, strE name), (2, sumE x)] Tryz.func94 rfl Tryz.ntmps94 rfl rfl 1 ?_
  intro B0 m0 K
  refine RunH.adv tb_ok [] rfl rfl (by simp) ?_
  refine RunH.draw rfl [(1, some (.box m0 [.val (sumV x)] 40))] rfl 13 rfl rfl ?_
  refine RunD.adv tb_ok (by kernel_rfl) [] rfl rfl (by simp <;> omega) ?_
  refine RunD.loadS (i := 5) (.av (.val (ptrO po))) rfl (by kernel_rfl) rfl rfl rfl (fun u hu => load_root (hu.holds 0 _ rfl).2) rfl (fun _ h => h) ?_
  intro m2 hm2
  refine RunD.doesB (i := 8) [] 4 (fun b1 : Plot => ptrAt b1.b) rfl (by kernel_rfl) rfl rfl rfl rfl Tryz.call167 (putO_ok po t ht name x hn) rfl rfl (fun _ => rfl) (fun _ => rfl) (fun u hu => hu.fact.2) (fun _ => rfl) (fun _ h => h) ?_
  rintro b1 m3 hm3
  refine RunD.adv tb_ok (by kernel_rfl) [] rfl rfl (by simp <;> omega) ?_
  refine RunD.lastSt [(0, wkB wb (some b1)), (1, some (.box m0 [.val (sumV x)] 40))] (i := 12) rfl (by kernel_rfl) rfl (by kernel_rfl) (by kernel_rfl) rfl rfl (fun w _ hst => ?_) ?_
  · obtain ⟨w', q1, q2, q3⟩ := store_root (po' := some b1) hst (id := 0) rfl
    exact ⟨w', q1, q2, q3.out [] rfl rfl fun _ h => h⟩
  intro m4 hm4
  refine RunH.adv tb_ok [] rfl rfl (by simp <;> omega) ?_
  refine RunH.fin0 Tryz.func94 rfl fun w hst => ⟨b1, rfl, hst.out [] rfl rfl fun u h => ⟨h.1.1, fun v hv hp => h.2.up (by omega) hv hp⟩⟩
end Go.Proofs.YtbfjmimiigjenaaGreatDoor
namespace Go.Proofs.YtbfjmimiigjenaaGreatDoor
open Go V RowKit
abbrev mapE (po : Option Plot) : EV := .st [.val (ptrO po)]
theorem Many_spec (w : World) (po : Option Plot) (t : Option Tree) (h : IsO w po t) : Gives Tryz.prog 25 [(mapE po).v] w (intE (manyO t)) := by
  refine enterH tb_ok [(0, mapE po)] Tryz.func25 rfl Tryz.ntmps25 rfl rfl ?_
  cases po with
  | none =>
    cases t with
    | some t => exact h.elim
    | none =>
      refine RunH.adv tb_ok [] rfl rfl (by simp <;> omega) ?_
      refine RunH.read (.av (.val (.bool (none : Option Addr).isNone))) rfl rfl rfl rfl (fun u q _ ha => op_eqPtr ha rfl rfl rfl rfl) ?_
      refine RunH.adv tb_ok [true] rfl rfl (by simp <;> omega) ?_
      refine RunH.ret1 Tryz.func25 rfl rfl fun u hst => ⟨rfl, hst.fact⟩
  | some L =>
    cases t with
    | none => exact h.elim
    | some t =>
      have ht : IsTree w L t := h
      refine RunH.adv tb_ok [] rfl rfl (by simp <;> omega) ?_
      refine RunH.read (.av (.val (.bool (some (⟨L.b, 0, none⟩ : Addr)).isNone))) rfl rfl rfl rfl (fun u q _ ha => op_eqPtr ha rfl rfl rfl rfl) ?_
      refine RunH.adv tb_ok [false] rfl rfl (by simp <;> omega) ?_
      refine RunH.loadS (intE t.many) rfl rfl rfl rfl (fun u hu => V.IsTree.lmany (Go.Proofs.YtbfjmimiigjenaaGreatDoor.IsTree.ext hu.fact ht)) ?_
      refine RunH.adv tb_ok [] rfl rfl (by simp <;> omega) ?_
      refine RunH.ret1 Tryz.func25 rfl rfl fun u hst => ⟨rfl, hst.fact⟩
theorem Root_spec (w : World) (hG : Glob w) (po : Option Plot) (t : Option Tree) (h : IsO w po t) : Gives Tryz.prog 24 [(mapE po).v] w (sumE (rootO t)) := by
  refine enterH tb_ok [(0, mapE po)] Tryz.func24 rfl Tryz.ntmps24 rfl rfl ?_
  cases po with
  | none =>
    cases t with
    | some t => exact h.elim
    | none =>
      refine RunH.adv tb_ok [] rfl rfl (by simp) ?_
      refine RunH.read (.av (.val (.bool (none : Option Addr).isNone))) rfl rfl rfl rfl (fun u q _ ha => op_eqPtr ha rfl rfl rfl rfl) ?_
      refine RunH.adv tb_ok [true] rfl rfl (by simp <;> omega) ?_
      refine RunH.gives (ho := rfl) (hw := rfl) (hd := rfl) (hf := rfl) (hes := rfl) (hc := Tryz.call78) (e := sumE (shaW [])) (hC := fun u hu => Of_spec u (hG.ext hu.fact) none 0 [] (Sl.void u) (by decide)) ?_
      intro m1 hm1
      refine RunH.adv tb_ok [] rfl rfl (by simp) ?_
      exact RunH.retBox tb_ok (sumE (shaW [])) Tryz.func24 rfl rfl rfl rfl fun u hu => ⟨rfl, hu.fact⟩
  | some L =>
    cases t with
    | none => exact h.elim
    | some t =>
      have ht : IsTree w L t := h
      refine RunH.adv tb_ok [] rfl rfl (by simp) ?_
      refine RunH.read (.av (.val (.bool (some (⟨L.b, 0, none⟩ : Addr)).isNone))) rfl rfl rfl rfl (fun u q _ ha => op_eqPtr ha rfl rfl rfl rfl) ?_
      refine RunH.adv tb_ok [false] rfl rfl (by simp <;> omega) ?_
      refine RunH.loadS (sumE t.own) rfl rfl rfl rfl (fun u hu => V.IsTree.lown (Go.Proofs.YtbfjmimiigjenaaGreatDoor.IsTree.ext hu.fact ht)) ?_
      refine RunH.adv tb_ok [] rfl rfl (by simp) ?_
      exact RunH.retBox tb_ok (sumE t.own) Tryz.func24 rfl rfl rfl rfl fun u hu => ⟨rfl, hu.fact⟩
end Go.Proofs.YtbfjmimiigjenaaGreatDoor
namespace Go.Proofs.YtbfjmimiigjenaaGreatDoor
open Go V RowKit
mutual
def Tree.way : Tree → Plot → Str → List (Plot × Tree × Str)
  | .node s v k, L, name => (L, .node s v k, name) :: (match cutP s name with
    | some (c :: r) => k.way L.ps c r
    | _ => [])
def Kids.way : Kids → List Plot → UInt8 → Str → List (Plot × Tree × Str)
  | .cons b t r, p :: ps, c, n => if b = c then t.way p n else r.way ps c n
  | .nil, _, _, _ => []
  | .cons _ _ _, [], _, _ => []
end
theorem way_end (s : Str) (v : Option Sum) (k : Kids) (L : Plot) : (Tree.node s v k).way L s = [(L, .node s v k, s)] := by
  have h := cutP_app s []
  rw [List.append_nil] at h
  simp [Tree.way, h]
theorem way_kid (s : Str) (v : Option Sum) (k : Kids) (L : Plot) (c : UInt8) (r : Str) : (Tree.node s v k).way L (s ++ c :: r) = (L, .node s v k, s ++ c :: r) :: k.way L.ps c r := by
  simp [Tree.way, cutP_app]
theorem way_off {s n : Str} (v : Option Sum) (k : Kids) (L : Plot) (h : ∀ r, n ≠ s ++ r) : (Tree.node s v k).way L n = [(L, .node s v k, n)] := by
  simp [Tree.way, cutP_none h]
theorem kway_is : ∀ {k : Kids} {ps : List Plot} {c : UInt8} (n : Str), k.wf → ps.length = k.trees.length → isB k.bytes c = true → ∃ (h : posB k.bytes c < k.trees.length) (h2 : posB k.bytes c < ps.length), k.way ps c n = (k.trees[posB k.bytes c]).way ps[posB k.bytes c] n
  | .nil, ps, c, n, _, _, h => by simp [isB, Kids.bytes] at h
  | .cons b t r, [], c, n, _, hl, h => by simp [Kids.trees] at hl
  | .cons b t r, p :: ps, c, n, hw, hl, h => by
    unfold Kids.wf at hw
    obtain ⟨w1, w2, w3⟩ := hw
    unfold Kids.bytes at h ⊢
    rw [isB_cons] at h
    have hl' : ps.length = r.trees.length := by simpa [Kids.trees] using hl
    by_cases e : b = c
    · subst e
      have hp : posB (b :: r.bytes) b = 0 := by rw [posB_cons, if_neg (by rw [u8_lt]; omega)]
      refine ⟨by rw [hp]; simp [Kids.trees], by rw [hp]; simp, ?_⟩
      simp only [hp]
      simp [Kids.way, Kids.trees]
    · by_cases hb : b < c
      · rw [if_pos hb] at h
        obtain ⟨h1, h2, h3⟩ := kway_is (k := r) (ps := ps) n w2 hl' h
        have hp : posB (b :: r.bytes) c = posB r.bytes c + 1 := by rw [posB_cons, if_pos hb]
        refine ⟨by rw [hp]; simp [Kids.trees]; omega, by rw [hp]; simp; omega, ?_⟩
        simp only [hp]
        rw [Kids.way, if_neg e, h3]
        simp [Kids.trees]
      · rw [if_neg hb] at h
        simp [e] at h
theorem kway_not : ∀ {k : Kids} {ps : List Plot} {c : UInt8} (n : Str), k.wf → isB k.bytes c = false → k.way ps c n = []
  | .nil, ps, c, n, _, _ => by cases ps <;> rfl
  | .cons b t r, [], c, n, _, _ => rfl
  | .cons b t r, p :: ps, c, n, hw, h => by
    unfold Kids.wf at hw
    obtain ⟨w1, w2, w3⟩ := hw
    unfold Kids.bytes at h
    rw [isB_cons] at h
    by_cases hb : b < c
    · rw [if_pos hb] at h
      rw [Kids.way, if_neg (u8_ne hb)]
      exact kway_not n w2 h
    · rw [if_neg hb] at h
      have e : ¬ b = c := by simpa using h
      rw [Kids.way, if_neg e]
      refine kway_not n w2 ?_
      cases hi : isB r.bytes c with
      | false => rfl
      | true =>
        exfalso
        unfold isB at hi
        simp only [Bool.and_eq_true, decide_eq_true_eq] at hi
        have hm : c ∈ r.bytes := by
          have h2 : r.bytes.getD (posB r.bytes c) 0 = r.bytes[posB r.bytes c] := by simp [List.getD, List.getElem?_eq_getElem hi.1]
          rw [h2] at hi
          rw [← hi.2]; exact List.getElem_mem _
        exact hb (w3 c hm)
theorem way_facts {u : World} : ∀ (n : Nat) {t : Tree} {L : Plot} {name : Str}, t.wf → IsTree u L t → (t.way L name).length ≤ n → ∀ z ∈ t.way L name, IsTree u z.1 z.2.1 ∧ z.2.1.wf
  | 0, .node s v k, L, name, _, _, h => by simp [Tree.way] at h
  | n + 1, .node s v k, L, name, hw, hu, h => by
    intro z hz
    have hp := Go.Proofs.YtbfjmimiigjenaaGreatDoor.IsTree.part hu
    have hkw : k.wf := by unfold Tree.wf at hw; exact hw.1
    rcases part_cases s name with rfl | ⟨c, r, rfl⟩ | ⟨p, b, q, rfl, rfl⟩ | ⟨p, b, q, c, r, rfl, rfl, hne⟩
    · rw [way_end] at hz
      simp at hz; subst hz; exact ⟨hu, hw⟩
    · rw [way_kid] at hz h
      rcases List.mem_cons.1 hz with rfl | hz
      · exact ⟨hu, hw⟩
      · have hpl := hp.kids.len
        rw [k.len] at hpl
        cases hB : isB k.bytes c with
        | false => rw [kway_not r hkw hB] at hz; cases hz
        | true =>
          obtain ⟨h1, h2, h3⟩ := kway_is r hkw hpl hB
          rw [h3] at hz h
          exact way_facts n (kid_at hkw _ h1 (by rw [k.len]; exact h1)).1 (hp.kids.at _ h2 h1) (by simpa using h) z hz
    · rw [way_off v k L (fun r h => by have := congrArg List.length h; simp at this)] at hz
      simp at hz; subst hz; exact ⟨hu, hw⟩
    · rw [way_off v k L (fun r' h => by
        rw [List.append_assoc] at h
        have := List.append_cancel_left h
        simp at this
        exact hne this.1.symm)] at hz
      simp at hz; subst hz; exact ⟨hu, hw⟩
end Go.Proofs.YtbfjmimiigjenaaGreatDoor
namespace Go.Proofs.YtbfjmimiigjenaaGreatDoor
open Go V RowKit
theorem op_neqPtr {n : Nat} {env : SEnv} {a : Act} (ha : Agree n a (kn env)) {o : Oper} {T' : TypeId} {x y : Operand} {u : EV} {p : Option Addr} {w : World} (hop : o.op = .binOp .neq 29 x y T') (hx : evE env x = some u) (hu : u.v = .pointer p) (hy : a.eval y = .pointer none) :
    (execOp a.eval o).run Tryz.prog w = .ok (.value (EV.av (.val (.bool (!p.isNone)))).v) w := by
  have h := run_neq_pointer_nil (P := Tryz.prog) (w := w) 29 p (by kernel_rfl)
  simp only [execOp, hop, ev_run ha hx, hu, hy]
  have hg : (eqGuard .neq 29 x y (.pointer p) (.pointer none)).run Tryz.prog w = .ok () w := by
    simp [eqGuard]
  rw [Sem.run_bind, Sem.run_bind, hg, Result.andThen_ok, h]
  rfl
abbrev wayG (bn br : Nat) (L : Plot) (r : Str) : Heap := [(0, some (.box bn [.val (ptrV L.b)] 29)), (1, some (.box br [.val (strV r)] 9))]
def lastG (bn br : Nat) (L : Plot) (name : Str) (xs : List (Plot × Tree × Str)) : Heap := match xs.getLast? with
  | some z => wayG bn br z.1 z.2.2
  | none => wayG bn br L name
theorem hasPre_app (s q : Str) : hasPre (s ++ q) s = true := by
  unfold hasPre
  simp
theorem cutS_app (s q : Str) : cutS (s ++ q) s = q := by
  unfold cutS
  rw [if_pos (hasPre_app s q), List.drop_left]
theorem hasPre_not {s n : Str} (h : ∀ r, n ≠ s ++ r) : hasPre n s = false := by
  unfold hasPre
  cases hd : (decide (s.length ≤ n.length) && decide (n.take s.length = s)) with
  | false => rfl
  | true =>
    exfalso
    simp only [Bool.and_eq_true, decide_eq_true_eq] at hd
    exact h (n.drop s.length) (by conv => lhs; rw [← List.take_append_drop s.length n, hd.2])
set_option maxRecDepth 10000 in
theorem way1_spec (bn br : Nat) (L : Plot) (t : Tree) (name : Str) (hw : t.wf) (hn : name.length ≤ 1000) (xs : List (Plot × Tree × Str)) (hxs0 : xs = t.way L name) :
    Iter Tryz.prog tb 197 (fun Y => [Y, ptrV bn, ptrV br]) (wayG bn br L name) (fun u => IsTree u L t) xs (fun z => [ptrAt z.1.b, strE z.2.2].map EV.v) (lastG bn br L name xs) := by
  have hN := Tryz.ntmps197
  refine V.Iter.enter (tb := tb) (n := 48) (args := fun Y => [Y, ptrV bn, ptrV br]) (Gi := wayG bn br L name) (pre := fun u => IsTree u L t) (xs := xs) (G' := lastG bn br L name xs) (enc := fun z => [ptrAt z.1.b, strE z.2.2]) (fun l => [(0, .av (.val (.func (.yield l) #[] #[]))), (1, .av (.box 0 bn 0)), (2, .av (.box 1 br 0))]) Tryz.func197 rfl hN (fun _ => rfl) (fun _ => rfl) 2 ?_
  intro α σ B0 l m Z Zs hZ hY x
  refine RunH.adv tb_ok [] rfl rfl trivial ?_
  refine RunH.loop (α := Plot × Tree × Str × Nat × α) (fun z => [(0, .av (.val (.func (.yield l) #[] #[]))), (1, .av (.box 0 bn 0)), (2, .av (.box 1 br 0))]) (fun z => wayG bn br z.1 z.2.2.1)
    (fun z u => Z z.2.2.2.1 z.2.2.2.2 u ∧ xs.drop z.2.2.2.1 = z.2.1.way z.1 z.2.2.1 ∧ z.2.1.wf ∧ (∀ u, IsTree u L t → IsTree u z.1 z.2.1) ∧ z.2.2.1.length ≤ 1000) (fun z => (z.2.1.way z.1 z.2.2.1).length) (L, t, name, 0, x) rfl rfl (fun u hu => ⟨hu, hxs0, hw, fun _ h => h, hn⟩) ?_
  rintro ⟨L', t', r', j, y⟩ m2
  refine RunH.pure (fun u hu => hu.2) fun ⟨hdr, hw', hsub, hr'⟩ => ?_
  dsimp only at hdr hw' hsub hr' ⊢
  obtain ⟨s, v, k⟩ := t'
  have hkw : k.wf := by unfold Tree.wf at hw'; exact hw'.1
  have hcons : ∃ xs', (Tree.node s v k).way L' r' = (L', .node s v k, r') :: xs' := by unfold Tree.way; exact ⟨_, rfl⟩
  obtain ⟨xs', hxs⟩ := hcons
  have hj : j < xs.length := by
    rcases Nat.lt_or_ge j xs.length with h | h
    · exact h
    · rw [List.drop_eq_nil_of_le h, hxs] at hdr; cases hdr
  have hget : xs[j] = (L', .node s v k, r') := by
    have h1 : xs.drop j = xs[j] :: xs.drop (j + 1) := List.drop_eq_getElem_cons hj
    rw [hdr, hxs] at h1
    injection h1 with h1 _
    exact h1.symm
  have hdr2 : xs.drop (j + 1) = xs' := by
    have h1 : xs.drop j = xs[j] :: xs.drop (j + 1) := List.drop_eq_getElem_cons hj
    rw [hdr, hxs] at h1
    injection h1 with _ h1
    exact h1.symm
  refine RunH.adv tb_ok [] rfl rfl (by simp <;> omega) ?_
  refine RunH.read (.av (.val (.bool (!(some (⟨L'.b, 0, none⟩ : Addr)).isNone)))) rfl rfl rfl rfl (fun u q _ ha => op_neqPtr ha rfl rfl rfl rfl) ?_
  refine RunH.adv tb_ok [true] rfl rfl (by simp <;> omega) ?_
  refine RunH.yield (It := fun y u => Z (j + 1) y u) (If := fun y u => Zs j y u) rfl rfl rfl rfl rfl (fun w hst => ?_) ?_ ?_
  · have := hY j hj y _ w (hst.mono fun u _ hu => hu.1)
    rw [hget] at this
    exact this
  · intro y2 m4 hm4
    have hfact : ∀ u, Z (j + 1) y2 u → Part u L'.b s v k L'.A L'.c L'.B L'.d L'.ps (Tree.node s v k).many (Tree.node s v k).own := fun u h => Go.Proofs.YtbfjmimiigjenaaGreatDoor.IsTree.part (hsub u (hZ _ _ _ h))
    have hend : xs' = [] → ∀ w, St tb B0 (wayG bn br L' r') (Z (j + 1) y2) w → ∃ y, St tb B0 (lastG bn br L name xs) (Z xs.length y) w := by
      intro he w hst
      rw [he] at hdr2
      have hlen : xs.length = j + 1 := by
        have := List.drop_eq_nil_iff.1 hdr2
        omega
      have hl2 : xs.getLast? = some (L', .node s v k, r') := by
        rw [List.getLast?_eq_getElem?, hlen, Nat.add_sub_cancel, List.getElem?_eq_getElem hj, hget]
      refine ⟨y2, ?_⟩
      unfold lastG
      rw [hl2, hlen]
      exact hst
    refine RunH.adv tb_ok [] rfl rfl (by simp <;> omega) ?_
    refine RunH.draw rfl (wayG bn br L' r') rfl 11 rfl rfl ?_
    refine RunD.adv tb_ok (by kernel_rfl) [] rfl rfl (by simp <;> omega) ?_
    refine RunD.load (by kernel_rfl) (i := 4) (strE s) rfl rfl rfl rfl rfl rfl (fun w' h => (hfact w' h).stem) ?_
    refine RunD.adv tb_ok (by kernel_rfl) [] rfl rfl (by simp <;> omega) ?_
    refine RunD.gives (i := 5) (cutV r' s) rfl (by kernel_rfl) rfl rfl rfl rfl Tryz.call32 (fun u _ => CutPre_spec u r' s) rfl (fun _ h => h) ?_
    intro m5 hm5
    refine RunD.adv tb_ok (by kernel_rfl) [] rfl rfl (by simp <;> omega) ?_
    refine RunD.done (.inr (by kernel_rfl)) (by kernel_rfl) ?_
    rcases part_cases s r' with hc | ⟨c, q, hc⟩ | hc
    · subst hc
      rw [show cutS r' r' = [] from by have := cutS_app r' []; rwa [List.append_nil] at this, show hasPre r' r' = true from by have := hasPre_app r' []; rwa [List.append_nil] at this]
      have hx : xs' = [] := by rw [way_end] at hxs; injection hxs with _ h; exact h.symm
      refine RunH.adv tb_ok [false, true] rfl rfl (by simp <;> omega) ?_
      refine RunH.ret0 Tryz.func197 rfl fun w hst => ⟨⟨_, rfl⟩, .inl (hend hx w (hst.out [] rfl rfl fun u h => h))⟩
    · subst hc
      rw [cutS_app, hasPre_app]
      refine RunH.adv tb_ok [false, false] rfl rfl (by simp <;> omega) ?_
      refine RunH.pure (fun u h => (⟨(hfact u h).kids.len, (hfact u h).to_.ptr0⟩ : L'.ps.length = k.bytes.length ∧ (L'.ps ≠ [] → Ptr L'.B))) fun ⟨hpl, hpB⟩ => ?_
      have hlb := kbytes_len hkw
      have hkl := k.len
      refine RunH.tell [(0, .av (.val (.func (.yield l) #[] #[]))), (1, .av (.box 0 bn 0)), (2, .av (.box 1 br 0)), (4, strE (c :: q))] (wayG bn br L' (s ++ c :: q)) [] rfl rfl rfl 2 ?_
      refine RunH.draw rfl (wayG bn br L' (s ++ c :: q)) rfl 9 rfl rfl ?_
      refine RunD.adv tb_ok (by kernel_rfl) [] rfl rfl (by simp <;> omega) ?_
      refine RunD.gives (i := 3) (.av (.val (.tuple #[intV (posB k.bytes c), .bool (isB k.bytes c)]))) rfl (by kernel_rfl) rfl rfl rfl rfl Tryz.call168 (fun u hu => branch_spec L'.b c s v k L'.A L'.c L'.B L'.d L'.ps _ _ u (hfact u hu.fact) hlb) rfl (fun _ h => h) ?_
      intro m6 hm6
      refine RunD.adv tb_ok (by kernel_rfl) [] rfl rfl (by simp <;> omega) ?_
      refine RunD.done (.inr (by kernel_rfl)) (by kernel_rfl) ?_
      rw [way_kid] at hxs
      injection hxs with _ hxs
      cases hB : isB k.bytes c with
      | false =>
        have hx : xs' = [] := by rw [← hxs, kway_not q hkw hB]
        refine RunH.adv tb_ok [true] rfl rfl (by simp <;> omega) ?_
        refine RunH.ret0 Tryz.func197 rfl fun w hst => ⟨⟨_, rfl⟩, .inl (hend hx w (hst.out [] rfl rfl fun u h => h))⟩
      | true =>
        obtain ⟨h1, h2, h3⟩ := kway_is (ps := L'.ps) q hkw (by omega) hB
        have hpos : posB k.bytes c < L'.ps.length := h2
        refine RunH.adv tb_ok [false] rfl rfl (by simp <;> omega) ?_
        refine RunH.tell [(0, .av (.val (.func (.yield l) #[] #[]))), (1, .av (.box 0 bn 0)), (2, .av (.box 1 br 0)), (4, strE (c :: q)), (6, intE (posB k.bytes c))] (wayG bn br L' (s ++ c :: q)) [] rfl rfl rfl 2 ?_
        refine RunH.draw rfl [] rfl 11 rfl rfl ?_
        refine RunD.adv tb_ok (by kernel_rfl) [] rfl rfl (by simp <;> omega) ?_
        refine RunD.loadS (i := 0) (ptrAt L'.b) rfl (by kernel_rfl) rfl rfl rfl (fun u hu => hu.loadBox (id := 0) (e := ptrAt L'.b) tb_ok rfl rfl u (Ext.rfl' u)) rfl (fun _ h => h) ?_
        intro m7 hm7
        refine RunD.adv tb_ok (by kernel_rfl) [] rfl rfl (by simp <;> omega) ?_
        refine RunD.load (by kernel_rfl) (i := 3) (slE L'.B L'.ps.length L'.d) rfl rfl rfl rfl rfl rfl (fun w' h => (hfact w' h).lto) ?_
        refine RunD.adv tb_ok (by kernel_rfl) [] rfl rfl (by simp [hpB (fun e => by rw [e] at hpos; cases hpos)] <;> omega) ?_
        refine RunD.load (by kernel_rfl) (i := 6) (ptrAt L'.ps[posB k.bytes c].b) rfl rfl rfl rfl rfl rfl (fun w' h => (hfact w' h).to_.load hpos) ?_
        refine RunD.adv tb_ok (by kernel_rfl) [] rfl rfl (by simp <;> omega) ?_
        refine RunD.step tb_ok (nx := 2) (i := 9) rfl (by kernel_rfl) rfl rfl rfl ?_ rfl (fun _ h => h) rfl ?_
        · first | trivial | (simp; done)
        refine RunD.adv tb_ok (by kernel_rfl) [] rfl rfl (by simp <;> omega) ?_
        refine RunD.lastOp (i := 10) tb_ok rfl (by kernel_rfl) rfl (by kernel_rfl) (by kernel_rfl) rfl rfl ?_ (Nat.le_refl _) rfl ?_
        · first | trivial | (simp; done)
        intro m8 hm8
        refine RunH.adv tb_ok [] rfl rfl (by simp <;> omega) ?_
        refine RunH.again (L'.ps[posB k.bytes c], k.trees[posB k.bytes c], q, j + 1, y2) (.head _) rfl rfl ?_ fun u hu => ⟨hu, ?_, ?_, ?_, ?_⟩
        · dsimp only
          rw [way_kid, List.length_cons, h3]; omega
        · show xs.drop (j + 1) = _
          rw [hdr2, ← hxs, h3]
        · exact (kid_at hkw _ h1 (by omega)).1
        · exact fun u hu => (Go.Proofs.YtbfjmimiigjenaaGreatDoor.IsTree.part (hsub u hu)).kids.at _ hpos h1
        · have : (s ++ c :: q).length ≤ 1000 := hr'
          rw [List.length_append, List.length_cons] at this
          show q.length ≤ 1000
          omega
    · have hno : ∀ q, r' ≠ s ++ q := by
        rcases hc with ⟨p, b, q, rfl, rfl⟩ | ⟨p, b, q, c, r, rfl, rfl, hne⟩
        · intro r h
          have := congrArg List.length h
          simp at this
        · intro q' h
          rw [List.append_assoc] at h
          have := List.append_cancel_left h
          simp at this
          exact hne this.1.symm
      have hx : xs' = [] := by rw [way_off v k L' hno] at hxs; injection hxs with _ h; exact h.symm
      rw [hasPre_not hno]
      refine RunH.adv tb_ok [true] rfl rfl (by simp <;> omega) ?_
      refine RunH.ret0 Tryz.func197 rfl fun w hst => ⟨⟨_, rfl⟩, .inl (hend hx w (hst.out [] rfl rfl fun u h => h))⟩
  · intro y2 m4 hm4
    refine RunH.adv tb_ok [] rfl rfl (by simp <;> omega) ?_
    refine RunH.fin0 Tryz.func197 rfl fun w hst => ⟨⟨_, rfl⟩, .inr ⟨j, _, y2, hj, hst⟩⟩
end Go.Proofs.YtbfjmimiigjenaaGreatDoor
namespace Go.Proofs.YtbfjmimiigjenaaGreatDoor
open Go V RowKit
def hitB (z : Plot × Tree × Str) : Bool := match z.2.1 with
  | .node s v _ => decide (s = z.2.2) && v.isSome
def valO (z : Plot × Tree × Str) : Option Sum := match z.2.1 with
  | .node _ v _ => v
theorem get_way {u : World} : ∀ (n : Nat) {t : Tree} {L : Plot} {name : Str}, t.wf → IsTree u L t → (t.way L name).length ≤ n → t.get name = ((t.way L name).find? hitB).bind valO
  | 0, .node s v k, L, name, _, _, h => by simp [Tree.way] at h
  | n + 1, .node s v k, L, name, hw, hu, h => by
    have hp := Go.Proofs.YtbfjmimiigjenaaGreatDoor.IsTree.part hu
    have hkw : k.wf := by unfold Tree.wf at hw; exact hw.1
    have off : (∀ r, name ≠ s ++ r) → (Tree.node s v k).get name = (((Tree.node s v k).way L name).find? hitB).bind valO := by
      intro hno
      have hne : ¬ s = name := fun e => hno [] (by rw [List.append_nil]; exact e.symm)
      rw [way_off v k L hno, get_off v k hno]
      simp [hitB, hne]
    rcases part_cases s name with rfl | ⟨c, r, rfl⟩ | ⟨p, b, q, rfl, rfl⟩ | ⟨p, b, q, c, r, rfl, rfl, hne⟩
    · rw [way_end, get_here]
      cases v <;> simp [hitB, valO]
    · rw [way_kid] at h ⊢
      rw [get_kid]
      have hno : hitB (L, Tree.node s v k, s ++ c :: r) = false := by simp [hitB]
      rw [List.find?_cons_of_neg (by rw [hno]; decide)]
      have hpl := hp.kids.len
      rw [k.len] at hpl
      have hkg := kget_pos (k := k) (c := c) (n := r) hkw
      cases hB : isB k.bytes c with
      | false => rw [kway_not r hkw hB, (hkg.2 hB).1]; rfl
      | true =>
        obtain ⟨h1, h2, h3⟩ := kway_is (ps := L.ps) r hkw hpl hB
        obtain ⟨_, h4⟩ := hkg.1 hB
        rw [h3] at h ⊢
        rw [h4]
        exact get_way n (kid_at hkw _ h1 (by rw [k.len]; exact h1)).1 (hp.kids.at _ h2 h1) (by simpa using h)
    · exact off fun r h => by have := congrArg List.length h; simp at this
    · exact off fun r' h => by
        rw [List.append_assoc] at h
        have := List.append_cancel_left h
        simp at this
        exact hne this.1.symm
theorem way_spec (po : Option Plot) (name : Str) : Does Tryz.prog tb 123 [ptrO po, strV name] [] (fun _ => True) (fun b : Nat × Nat => .func (.func 197) #[] #[ptrV b.1, ptrV b.2]) (fun b => [(0, some (.box b.1 [.val (ptrO po)] 29)), (1, some (.box b.2 [.val (strV name)] 9))]) (fun _ _ _ => True) := by
  refine Does.enter tb_ok [(0, .av (.val (ptrO po))), (1, strE name)] Tryz.func123 rfl Tryz.ntmps123 rfl rfl 0 ?_
  intro B0 m0 K
  refine RunH.adv tb_ok [] rfl rfl (by simp <;> omega) ?_
  refine RunH.ret1 Tryz.func123 rfl rfl fun w hst => ⟨(m0, m0 + 1), rfl, hst.out [] rfl rfl fun u h => ⟨h.1, trivial⟩⟩
abbrev nilG (bn br : Nat) (name : Str) : Heap := [(0, some (.box bn [.val (.pointer none)] 29)), (1, some (.box br [.val (strV name)] 9))]
theorem way1_nil (bn br : Nat) (name : Str) (xs : List (Plot × Tree × Str)) (hxs0 : xs = []) : Iter Tryz.prog tb 197 (fun Y => [Y, ptrV bn, ptrV br]) (nilG bn br name) (fun _ => True) xs (fun z => [ptrAt z.1.b, strE z.2.2].map EV.v) (nilG bn br name) := by
  have hN := Tryz.ntmps197
  refine V.Iter.enter (tb := tb) (n := 48) (args := fun Y => [Y, ptrV bn, ptrV br]) (Gi := (nilG bn br name)) (pre := fun _ => True) (β := Plot × Tree × Str) (xs := xs) (G' := (nilG bn br name)) (enc := fun z => [ptrAt z.1.b, strE z.2.2]) (fun l => [(0, .av (.val (.func (.yield l) #[] #[]))), (1, .av (.box 0 bn 0)), (2, .av (.box 1 br 0))]) Tryz.func197 rfl hN (fun _ => rfl) (fun _ => rfl) 2 ?_
  intro α σ B0 l m Z Zs hZ hY x
  subst hxs0
  refine RunH.adv tb_ok [] rfl rfl trivial ?_
  refine RunH.loop (α := Unit) (fun z => [(0, .av (.val (.func (.yield l) #[] #[]))), (1, .av (.box 0 bn 0)), (2, .av (.box 1 br 0))]) (fun z => (nilG bn br name))
    (fun z u => Z 0 x u) (fun z => 0) () rfl rfl (fun u hu => hu) ?_
  rintro ⟨⟩ m2
  refine RunH.adv tb_ok [] rfl rfl (by simp <;> omega) ?_
  refine RunH.read (.av (.val (.bool (!(none : Option Addr).isNone)))) rfl rfl rfl rfl (fun u q _ ha => op_neqPtr ha rfl rfl rfl rfl) ?_
  refine RunH.adv tb_ok [false] rfl rfl (by simp <;> omega) ?_
  refine RunH.fin0 Tryz.func197 rfl fun w hst => ⟨⟨_, rfl⟩, .inl ⟨x, hst.out [] rfl rfl fun u h => h⟩⟩
end Go.Proofs.YtbfjmimiigjenaaGreatDoor
