/-
A part of the proofs of the laws of a seat: contracts of functions and lemmas on them; the listed package variables hold what the program's text lays. No further condition.
-/
import Derived.Test.YtagnkcdhenilbaaGreatDoorKPH4
import Derived.Test.YtagnkcdhenilbaaGreatDoorKPC3
import Derived.Test.YtagnkcdhenilbaaGreatDoorKPC7
set_option linter.unusedVariables false
set_option linter.unusedSectionVars false
set_option linter.unusedSimpArgs false
namespace Go.Proofs.YtagnkcdhenilbaaGreatDoor
open Go V RowKit
set_option maxRecDepth 10000 in
set_option maxHeartbeats 1000000 in
theorem HistoryR_spec (LA : Option Addr) (lc : Nat) (cs : List Com) :
    Does Tryz.prog tb 59 [.slice LA cs.length lc] [] (fun u => Sl kCom u LA lc cs ∧ ∀ x ∈ cs, Sl kSum u x.ps.A x.ps.c x.ps.l) (fun z : Option Addr × Nat => .tuple #[.slice z.1 (hist cs).2.length z.2, intV (hist cs).1]) (fun z => [(0, rowE kSum z.1 z.2 (hist cs).2)]) (fun _ _ _ => True) := by
  have hl : lim = 140737488351232 := rfl
  refine Does.enter tb_ok [(0, slE LA cs.length lc)] Tryz.func59 rfl Tryz.ntmps59 rfl rfl 0 ?_
  intro B0 m0 K
  generalize hre : hist cs = e
  have hE := hre.symm
  unfold hist at hE
  by_cases hbig : 60 < cs.length
  · rw [if_pos hbig] at hE
    subst hE
    refine RunH.adv tb_ok [true] rfl rfl (by simp [hbig] <;> omega) ?_
    refine RunH.nilrow 20 kSum.T kSum.sz 21 ?_
    refine RunH.ret2 Tryz.func59 rfl rfl rfl fun w hst => ⟨(none, 0), rfl, hst.out [(0, 20)] rfl rfl fun u h => ⟨h.1, trivial⟩⟩
  · rw [if_neg hbig] at hE
    refine RunH.adv tb_ok [false] rfl rfl (by simp [hbig] <;> omega) ?_
    refine RunH.nilrow 0 kSum.T kSum.sz 1 ?_
    refine RunH.loop (α := Nat × List Sum × (Option Addr × Nat)) (fun y => [(14, slE LA cs.length lc), (15, intE cs.length), (16, intE y.1), (4, rowS 0 y.2.2.1 y.2.1.length y.2.2.2)])
      (fun y => [(0, rowE kSum y.2.2.1 y.2.2.2 y.2.1)]) (fun y u => (K u ∧ Sl kCom u LA lc cs ∧ ∀ x ∈ cs, Sl kSum u x.ps.A x.ps.c x.ps.l) ∧ y.1 ≤ cs.length ∧ y.2.1.length = y.1 ∧ e = histGo (cs.drop y.1) y.2.1) (fun y => cs.length - y.1) (0, [], (none, 0)) rfl rfl (fun u hu => ⟨hu, Nat.zero_le _, rfl, hE⟩) ?_
    rintro ⟨i, out, A, c⟩ m1
    refine RunH.pure (fun u hu => hu.2) fun ⟨hi, hol, hrest⟩ => ?_
    dsimp only at hi hol hrest ⊢
    by_cases hlt : i < cs.length
    · rw [List.drop_eq_getElem_cons hlt, hist_step] at hrest
      refine RunH.pure (fun u hu => hu.1.2.1.ptr hlt) fun hptr => ?_
      refine RunH.adv tb_ok [true] rfl rfl (by simp [hptr] <;> omega) ?_
      refine RunH.loadS (.st [.val (sumV cs[i].root), cs[i].ps.av, .val (strV cs[i].note)]) rfl rfl rfl rfl (fun u hu => hu.fact.1.2.1.load hlt) ?_
      have hmem := List.getElem_mem hlt
      generalize hx : cs[i] = x at *
      refine RunH.adv tb_ok [] rfl rfl (by simp [AllOb, Ob.P, sum_len, sz_sum, one_int, u8V_one] <;> omega) ?_
      refine RunH.gives (ho := rfl) (hw := rfl) (hd := rfl) (hf := rfl) (hes := rfl) (hc := Tryz.call57) (e := .av (.val (.tuple #[sumV (comS x.root x.ps.l x.note), intV (comE x.ps.l x.note)]))) (hC := fun u hu => CommitR_spec u x (hu.fact.1.2.2 x hmem)) ?_
      intro m2 hm2
      generalize comS x.root x.ps.l x.note = sm at *
      by_cases he : comE x.ps.l x.note = 0
      · rw [if_pos he] at hrest
        refine RunH.adv tb_ok [false] rfl rfl (by simp [AllOb, Ob.P, sum_len, sz_sum, one_int, u8V_one, he] <;> omega) ?_
        refine RunH.loop (α := Nat) (fun j => [(14, slE LA cs.length lc), (15, intE cs.length), (16, intE i), (4, rowS 0 A out.length c), (6, .av (.box 1 m1 0)), (7, .av (.box 2 m2 0)), (29, slE x.ps.A x.ps.l.length x.ps.c), (30, intE x.ps.l.length), (31, intE j)]) (fun _ => [(0, rowE kSum A c out), (1, some (.box m1 [.val (sumV x.root), .val (.slice x.ps.A x.ps.l.length x.ps.c), .val (strV x.note)] 73)), (2, some (.box m2 [.val (sumV sm)] 39))]) (fun j u => ((K u ∧ Sl kCom u LA lc cs ∧ ∀ x ∈ cs, Sl kSum u x.ps.A x.ps.c x.ps.l) ∧ j ≤ x.ps.l.length) ∧ ((x.ps.l.take j).any fun p => !hasD out p) = false) (fun j => x.ps.l.length - j) 0 rfl rfl (fun u hu => ⟨⟨hu.1, Nat.zero_le _⟩, rfl⟩) ?_
        intro j m3
        refine RunH.pure (fun u hu => hu.1.2) fun hj => ?_
        refine RunH.pure (fun u hu => hu.2) fun hno => ?_
        by_cases hjt : j < x.ps.l.length
        · have hts : x.ps.l.take (j + 1) = x.ps.l.take j ++ [x.ps.l[j]] := List.take_succ_eq_append_getElem hjt
          refine RunH.pure (fun u hu => (hu.1.1.2.2 x hmem).ptr hjt) fun hptr2 => ?_
          refine RunH.pure (fun u hu => (hu.1.1.2.2 x hmem).small) fun hsm => ?_
          refine RunH.adv tb_ok [true] rfl rfl (by simp [hptr2] <;> omega) ?_
          refine RunH.loadS (sumE x.ps.l[j]) rfl rfl rfl rfl (fun u hu => (hu.fact.1.1.2.2 x hmem).load hjt) ?_
          refine RunH.adv tb_ok [] rfl rfl (by simp [AllOb, Ob.P, sum_len, sz_sum, one_int, u8V_one] <;> omega) ?_
          refine RunH.gives (ho := rfl) (hw := rfl) (hd := rfl) (hf := rfl) (hes := rfl) (hc := Tryz.call127) (e := boolE (hasD out x.ps.l[j])) (hC := fun u hu => hasR_spec u A c out (Sl.own (B := B0) (hu.row (κ := kSum) (id := 0) (l := out) rfl) (by omega)) _) ?_
          intro m4 hm4
          by_cases hh : hasD out x.ps.l[j] = true
          · refine RunH.adv tb_ok [false] rfl rfl (by simp [AllOb, Ob.P, sum_len, sz_sum, one_int, u8V_one, hh] <;> omega) ?_
            refine RunH.again (j + 1) (.head _) rfl rfl (by show x.ps.l.length - (j + 1) < x.ps.l.length - j; omega) fun u hu => ⟨⟨hu.1.1, hjt⟩, ?_⟩
            rw [hts, List.any_append, hno]; simp [hh]
          · have hp : (x.ps.l.any fun p => !hasD out p) = true := by
              rw [List.any_eq_true]
              exact ⟨_, List.getElem_mem hjt, by simpa using hh⟩
            rw [if_pos hp] at hrest
            subst hrest
            refine RunH.adv tb_ok [true] rfl rfl (by simp [AllOb, Ob.P, sum_len, sz_sum, one_int, u8V_one, hh] <;> omega) ?_
            refine RunH.nilrow 20 kSum.T kSum.sz 21 ?_
            refine RunH.ret2 Tryz.func59 rfl rfl rfl fun w hst => ⟨(none, 0), rfl, hst.out [(0, 20)] rfl rfl fun u h => ⟨h.1.1.1, trivial⟩⟩
        · have hp : ¬ (x.ps.l.any fun p => !hasD out p) = true := by
            rw [List.take_of_length_le (by omega)] at hno
            rw [hno]; decide
          rw [if_neg hp] at hrest
          refine RunH.adv tb_ok [false] rfl rfl (by simp <;> omega) ?_
          refine RunH.gives (ho := rfl) (hw := rfl) (hd := rfl) (hf := rfl) (hes := rfl) (hc := Tryz.call127) (e := boolE (hasD out sm)) (hC := fun u hu => hasR_spec u A c out (Sl.own (B := B0) (hu.row (κ := kSum) (id := 0) (l := out) rfl) (by omega)) sm) ?_
          intro m4 hm4
          by_cases hd : hasD out sm = true
          · rw [if_pos hd] at hrest
            subst hrest
            refine RunH.adv tb_ok [true] rfl rfl (by simp [hd] <;> omega) ?_
            refine RunH.nilrow 20 kSum.T kSum.sz 21 ?_
            refine RunH.ret2 Tryz.func59 rfl rfl rfl fun w hst => ⟨(none, 0), rfl, hst.out [(0, 20)] rfl rfl fun u h => ⟨h.1.1.1, trivial⟩⟩
          · rw [if_neg hd] at hrest
            refine RunH.adv tb_ok [false] rfl rfl (by simp [hd] <;> omega) ?_
            refine RunH.appendK (κ := kSum) (id := 0) (l := out) (r := [sm]) rfl rfl rfl rfl rfl rfl elt_sum rfl rfl (fun u hu => hu.liesRow (κ := kSum) (l := [sm]) (id := 3) rfl (by simp [hl])) (by rw [List.length_singleton]; omega) (by rw [List.length_singleton]; omega) ?_
            intro A2 c2 m5 hm5
            refine RunH.adv tb_ok [] rfl rfl (by simp <;> omega) ?_
            exact RunH.again (i + 1, out ++ [sm], (A2, c2)) (.tail _ (.head _)) rfl rfl (by show cs.length - (i + 1) < cs.length - i; omega) fun u hu => ⟨hu.1.1, by show i + 1 ≤ _; omega, by show (out ++ [sm]).length = i + 1; rw [List.length_append, List.length_singleton, hol], hrest⟩
      · rw [if_neg he] at hrest
        subst hrest
        refine RunH.adv tb_ok [true] rfl rfl (by simp [AllOb, Ob.P, sum_len, sz_sum, one_int, u8V_one, he] <;> omega) ?_
        refine RunH.nilrow 20 kSum.T kSum.sz 21 ?_
        refine RunH.ret2 Tryz.func59 rfl rfl rfl fun w hst => ⟨(none, 0), rfl, hst.out [(0, 20)] rfl rfl fun u h => ⟨h.1.1, trivial⟩⟩
    · have hi' : i = cs.length := by omega
      rw [hi', List.drop_length] at hrest
      have hrest : e = (0, out) := hrest
      subst hrest
      refine RunH.adv tb_ok [false] rfl rfl (by simp <;> omega) ?_
      refine RunH.ret2 Tryz.func59 rfl rfl rfl fun w hst => ⟨(A, c), rfl, hst.out [(0, 0)] rfl rfl fun u h => ⟨h.1.1, trivial⟩⟩
end Go.Proofs.YtagnkcdhenilbaaGreatDoor

namespace Go.Proofs.YtagnkcdhenilbaaGreatDoor
open Go V RowKit
def kBool : Kd Bool where
  T := 4
  sz := 1
  ev b := boolE b
  ok b := ⟨rfl, Tryz.t4, rfl, rfl⟩
  size b := rfl
def blC (l : List Bool) : Array Value := (l.map Value.bool).toArray
theorem made_bool (n : Nat) : madeCells (Value.bool false).cells n = blC (List.replicate n false) := by
  unfold madeCells blC
  apply Array.ext
  · simp
  · intro i h1 h2
    simp [Value.cells, Nat.mod_one]
theorem run_makeB (w : World) (n : Nat) (hn : n ≤ 1000) : (Instr.makeSlice 215 (.int .i64 n) (.int .i64 n)).run Tryz.prog w = .ok (.slice (some ⟨w.heap.size, 0, none⟩) n n) (w.alloc (.cells (blC (List.replicate n false)) 4)) := by
  have h := run_makeSlice (P := Tryz.prog) w 215 4 Tryz.t4 (.bool false) (tb_ok.und rfl) (tb_ok.get (by kernel_rfl)) (by kernel_rfl) .i64 .i64 n n (by omega) (by omega) (by rw [Int.toNat_natCast]; show n * 1 ≤ _; omega) (by show (1 : Int) * n ≤ _; omega) (by omega)
  rw [h, Int.toNat_natCast, show n * (Tryz.t4).size = n from Nat.mul_one n, made_bool]
section
variable {n : Nat} {B0 : Nat} {I : World → Prop} {H : Heap} {m : Nat} {env : SEnv}
theorem V.OpGo.makeB {d id q : Nat} (hq : q ≤ 1000) {x y : Operand} {ty : TypeId} {ps : String} {af : Array Edge} {gd : Option (Nat × Bool)} (hd : Nat.blt d n = true) (hx : evE env x = some (intE q)) (hy : evE env y = some (intE q)) :
    OpGo Tryz.prog tb B0 n ⟨some d, .makeSlice 215 x y, ty, ps, af, gd⟩ env H m I (fun _ : Unit => (d, .av (.val (.slice (some ⟨m, 0, none⟩) q q))) :: env) (fun _ => (id, some (.obj m (.cells (blC (List.replicate q false)) 4))) :: H) (fun _ => I) := by
  intro w a hm hst ha
  have hdn : d < n := Nat.lt_of_lt_of_le (Nat.lt_succ_self d) (Nat.le_of_ble_eq_true hd)
  have hxv : a.eval x = .int .i64 q := ev_run ha hx
  have hyv : a.eval y = .int .i64 q := ev_run ha hy
  unfold Oper.wp
  have : (execOp a.eval ⟨some d, .makeSlice 215 x y, ty, ps, af, gd⟩).run Tryz.prog w = .ok (.value (.slice (some ⟨w.heap.size, 0, none⟩) q q)) (w.alloc (.cells (blC (List.replicate q false)) 4)) := by
    simp only [execOp, hxv, hyv, run_makeB w q hq, Sem.run_bind, Sem.run_pure, Result.andThen_ok]
  rw [this]
  subst hm
  refine ⟨(), ?_, by simp, hst.push (ext_alloc w _) id (.obj w.heap.size (.cells (blC (List.replicate q false)) 4)) ⟨hst.base, heap_alloc_new w _⟩ (fun k hk => by
    have : w.heap.size = k := by injection hk
    subst this; exact Nat.le_refl _)⟩
  rw [kn_cons]; exact ha.put hdn _
end
theorem flat_bool (l : List Bool) : l.map Value.bool = l.flatMap kBool.cs := by
  induction l with
  | nil => rfl
  | cons x r ih => rw [List.map_cons, List.flatMap_cons, ih]; rfl
/-- How many parents are done with when all are. -/
def parN (cs : List Com) (k : Nat) : Nat := if hk : k < cs.length then cs[k].ps.l.length else 0
set_option maxRecDepth 10000 in
set_option maxHeartbeats 1000000 in
theorem above_spec (LA : Option Addr) (lc : Nat) (cs : List Com) (SA : Option Addr) (sc : Nat) (S : List Sum) (hH : Hist cs S) (x : Sum) (hx : x ∈ S) :
    Does Tryz.prog tb 135 [.slice LA cs.length lc, .slice SA S.length sc, intV (ixD S x)] [] (fun u => Sl kCom u LA lc cs ∧ (∀ x ∈ cs, Sl kSum u x.ps.A x.ps.c x.ps.l) ∧ Sl kSum u SA sc S) (fun z : Option Addr × Nat => .slice z.1 (ancsL cs S x).length z.2) (fun z => [(0, rowE kSum z.1 z.2 (ancsL cs S x))]) (fun _ _ _ => True) := by
  have hl : lim = 140737488351232 := rfl
  have hlen := hH.len
  have hsm := hH.small
  obtain ⟨hi, hxi⟩ := at_ixD hx
  have hall := fun {is : List Bool} h0 (hm : Marks cs S (ixD S x) is 0 (cs[0].ps.l.length)) q hq => Marks.all hH hi h0 hm q hq
  rw [hxi] at hall
  have hst0 := Marks.start hH hi
  rw [hlen] at hst0
  generalize ixD S x = i at *
  refine Does.enter tb_ok [(0, slE LA cs.length lc), (1, slE SA S.length sc), (2, intE i)] Tryz.func135 rfl Tryz.ntmps135 rfl rfl 0 ?_
  intro B0 m0 K
  refine RunH.adv tb_ok [] rfl rfl (by simp <;> omega) ?_
  refine RunH.go rfl rfl (OpGo.makeB (id := 0) (q := cs.length) (by omega) rfl rfl rfl) 1 ?_
  rintro ⟨⟩ m1 hm1
  refine RunH.cook (id := 0) (g := m0) (sz := 1) cs.length cs.length rfl (Nat.le_refl _) (by show cs.length ≤ 9223372036854775807; omega) (by unfold blC; simp) ?_
  have hrow : (HE.row (.slice (some ⟨m0, 0, none⟩) cs.length cs.length) 4 1 cs.length ((blC (List.replicate cs.length false)).toList.take (cs.length * 1))) = HE.row (.slice (some ⟨m0, 0, none⟩) (List.replicate cs.length false).length cs.length) kBool.T kBool.sz (List.replicate cs.length false).length ((List.replicate cs.length false).flatMap kBool.cs) := by
    rw [← flat_bool, List.length_replicate]
    unfold blC
    rw [List.take_of_length_le (by simp)]
    rfl
  rw [hrow]
  have hp0 : Ptr (some (⟨m0, 0, none⟩ : Addr)) := rfl
  refine RunH.tell [(0, slE LA cs.length lc), (1, slE SA S.length sc), (2, intE i), (16, rowS 0 (some ⟨m0, 0, none⟩) cs.length cs.length)] [(0, rowE kBool (some ⟨m0, 0, none⟩) cs.length (List.replicate cs.length false))] [] rfl rfl rfl 1 ?_
  refine RunH.adv tb_ok [] rfl rfl (by simp [hp0] <;> omega) ?_
  refine RunH.storeK (κ := kBool) (id := 0) (l := List.replicate cs.length false) i true rfl rfl rfl rfl rfl rfl (by rw [List.length_replicate]; omega) rfl rfl ?_
  intro m2 hm2
  generalize (List.replicate cs.length false).set i true = is0 at *
  refine RunH.adv tb_ok [] rfl rfl (by simp <;> omega) ?_
  refine RunH.loop (α := Nat × List Bool) (fun y => [(0, slE LA cs.length lc), (1, slE SA S.length sc), (7, rowS 0 (some ⟨m0, 0, none⟩) cs.length cs.length), (8, intE ((y.1 : Int) - 1))]) (fun y => [(0, rowE kBool (some ⟨m0, 0, none⟩) cs.length y.2)]) (fun y u => (K u ∧ Sl kCom u LA lc cs ∧ (∀ x ∈ cs, Sl kSum u x.ps.A x.ps.c x.ps.l) ∧ Sl kSum u SA sc S) ∧ y.1 ≤ i + 1 ∧ y.2.length = cs.length ∧ (∀ k, y.1 = k + 1 → Marks cs S i y.2 k 0) ∧ (y.1 = 0 → Marks cs S i y.2 0 (parN cs 0))) (fun y => y.1) (i + 1, is0)
    (by show V.Sub [(0, slE LA cs.length lc), (1, slE SA S.length sc), (7, rowS 0 (some ⟨m0, 0, none⟩) cs.length cs.length), (8, intE (((i + 1 : Nat) : Int) - 1))] _; rw [show ((i + 1 : Nat) : Int) - 1 = i by omega]; rfl) rfl (fun u hu => ⟨hu, Nat.le_refl _, by rw [hst0.len, hlen], fun k hk => by have : i = k := Nat.succ.inj hk; subst this; exact hst0, fun h => by cases h⟩) ?_
  rintro ⟨q, is⟩ m3
  refine RunH.pure (fun u hu => hu.2) fun ⟨hq, hisl, hM1, hM0⟩ => ?_
  dsimp only at hq hisl hM1 hM0 ⊢
  cases q with
  | zero =>
    have hM := hM0 rfl
    have h0 : 0 < cs.length := by omega
    unfold parN at hM
    rw [dif_pos h0] at hM
    have hall := hall h0 hM
    clear hM1 hM0 hM
    refine RunH.adv tb_ok [false] rfl rfl (by simp <;> omega) ?_
    refine RunH.nilrow 1 kSum.T kSum.sz 2 ?_
    refine RunH.loop (α := Nat × (Option Addr × Nat)) (fun y => [(7, rowS 0 (some ⟨m0, 0, none⟩) cs.length cs.length), (45, slE SA S.length sc), (46, intE S.length), (47, intE y.1), (11, rowS 1 y.2.1 (keepL (fun s => !hasD (ancL cs S x) s) (S.take y.1)).length y.2.2)]) (fun y => [(0, rowE kBool (some ⟨m0, 0, none⟩) cs.length is), (1, rowE kSum y.2.1 y.2.2 (keepL (fun s => !hasD (ancL cs S x) s) (S.take y.1)))])
      (fun y u => (K u ∧ Sl kCom u LA lc cs ∧ (∀ x ∈ cs, Sl kSum u x.ps.A x.ps.c x.ps.l) ∧ Sl kSum u SA sc S) ∧ y.1 ≤ S.length) (fun y => S.length - y.1) (0, (none, 0)) rfl rfl (fun u hu => ⟨hu.1, Nat.zero_le _⟩) ?_
    rintro ⟨k, A, c⟩ m4
    refine RunH.pure (fun u hu => hu.2) fun hk => ?_
    dsimp only at hk ⊢
    have hkl : (keepL (fun s => !hasD (ancL cs S x) s) (S.take k)).length ≤ 60 := by
      have := keepL_len (fun s => !hasD (ancL cs S x) s) (S.take k)
      rw [List.length_take] at this
      omega
    by_cases hkt : k < S.length
    · refine RunH.pure (fun u hu => hu.1.2.2.2.ptr hkt) fun hptr => ?_
      have hnext := keep_take (fun s => !hasD (ancL cs S x) s) S k hkt
      have hv := hall k hkt
      rw [← hv] at hnext
      refine RunH.adv tb_ok [true] rfl rfl (by simp [AllOb, Ob.P, sum_len, sz_sum, one_int, u8V_one, hptr] <;> omega) ?_
      refine RunH.loadS (sumE S[k]) rfl rfl rfl rfl (fun u hu => hu.fact.1.2.2.2.load hkt) ?_
      refine RunH.adv tb_ok [] rfl rfl (by simp [AllOb, Ob.P, sum_len, sz_sum, one_int, u8V_one, hp0] <;> omega) ?_
      refine RunH.loadS (boolE (is.getD k false)) rfl rfl rfl rfl (fun u hu => by
        have hk2 : k < is.length := by omega
        have h := hu.loadRow (κ := kBool) (id := 0) (l := is) rfl (by omega) hk2
        rw [List.getD_eq_getElem?_getD, List.getElem?_eq_getElem hk2]
        exact h) ?_
      generalize hO : keepL (fun s => !hasD (ancL cs S x) s) (S.take k) = O at *
      cases hb : is.getD k false with
      | true =>
        rw [hb] at hnext
        have hnext : keepL (fun s => !hasD (ancL cs S x) s) (S.take (k + 1)) = O ++ [S[k]] := hnext
        refine RunH.adv tb_ok [true] rfl rfl (by simp <;> omega) ?_
        refine RunH.appendK (κ := kSum) (id := 1) (l := O) (r := [S[k]]) rfl rfl rfl rfl rfl rfl elt_sum rfl rfl (fun u hu => hu.liesRow (κ := kSum) (l := [S[k]]) (id := 3) rfl (by simp [hl])) (by rw [List.length_singleton]; omega) (by rw [List.length_singleton]; omega) ?_
        intro A2 c2 m5 hm5
        rw [← hnext]
        refine RunH.adv tb_ok [] rfl rfl (by simp <;> omega) ?_
        exact RunH.again (k + 1, (A2, c2)) (.head _) rfl rfl (by show S.length - (k + 1) < S.length - k; omega) fun u hu => ⟨hu.1, hkt⟩
      | false =>
        rw [hb] at hnext
        have hnext : keepL (fun s => !hasD (ancL cs S x) s) (S.take (k + 1)) = O ++ [] := hnext
        rw [List.append_nil] at hnext
        rw [← hnext]
        refine RunH.adv tb_ok [false] rfl rfl (by simp <;> omega) ?_
        exact RunH.again (k + 1, (A, c)) (.head _) rfl rfl (by show S.length - (k + 1) < S.length - k; omega) fun u hu => ⟨hu.1, hkt⟩
    · have hk' : k = S.length := by omega
      subst hk'
      rw [List.take_length]
      refine RunH.adv tb_ok [false] rfl rfl (by simp <;> omega) ?_
      refine RunH.ret1 Tryz.func135 rfl rfl fun w hst => ⟨(A, c), rfl, hst.out [(0, 1)] rfl rfl fun u h => ⟨h.1.1, trivial⟩⟩
  | succ k =>
    have hM := hM1 k rfl
    clear hM1 hM0
    have ek : ((k + 1 : Nat) : Int) - 1 = (k : Int) := by omega
    simp only [ek]
    have hkc : k < cs.length := by omega
    refine RunH.pure (fun u hu => hu.1.2.1.ptr hkc) fun hptr => ?_
    refine RunH.adv tb_ok [true] rfl rfl (by simp [hptr] <;> omega) ?_
    refine RunH.loadS (slE cs[k].ps.A cs[k].ps.l.length cs[k].ps.c) rfl rfl rfl rfl (fun u hu => Sl.parents hu.fact.1.2.1 hkc) ?_
    have hmem := List.getElem_mem hkc
    have hgo := fun {t : Nat} {is : List Bool} hm ht => Marks.go (cs := cs) (S := S) hH (i := i) (k := k) (t := t) (is := is) hm hkc ht
    have hin := fun (p : Sum) (hp : p ∈ cs[k].ps.l) => hH.par (S[k]'(by omega)) p (by rw [hH.pars hkc]; exact hp)
    have hpn : parN cs k = cs[k].ps.l.length := dif_pos hkc
    generalize hxe : cs[k] = X at *
    refine RunH.adv tb_ok [] rfl rfl (by simp <;> omega) ?_
    refine RunH.loop (α := Nat × List Bool) (fun y => [(0, slE LA cs.length lc), (1, slE SA S.length sc), (7, rowS 0 (some ⟨m0, 0, none⟩) cs.length cs.length), (8, intE k), (29, slE X.ps.A X.ps.l.length X.ps.c), (30, intE X.ps.l.length), (31, intE y.1)]) (fun y => [(0, rowE kBool (some ⟨m0, 0, none⟩) cs.length y.2)]) (fun y u => (K u ∧ Sl kCom u LA lc cs ∧ (∀ x ∈ cs, Sl kSum u x.ps.A x.ps.c x.ps.l) ∧ Sl kSum u SA sc S) ∧ y.1 ≤ X.ps.l.length ∧ y.2.length = cs.length ∧ Marks cs S i y.2 k y.1) (fun y => X.ps.l.length - y.1) (0, is)
      rfl rfl (fun u hu => ⟨hu.1, Nat.zero_le _, hisl, hM⟩) ?_
    rintro ⟨t, is⟩ m4
    refine RunH.pure (fun u hu => hu.2) fun ⟨ht, hisl, hM⟩ => ?_
    dsimp only at ht hisl hM ⊢
    by_cases htt : t < X.ps.l.length
    · refine RunH.pure (fun u hu => (hu.1.2.2.1 X hmem).ptr htt) fun hptr2 => ?_
      refine RunH.pure (fun u hu => (hu.1.2.2.1 X hmem).small) fun hxs => ?_
      have hM2 := hgo hM htt
      have hp := hin X.ps.l[t] (List.getElem_mem htt)
      refine RunH.adv tb_ok [true] rfl rfl (by simp [hptr2] <;> omega) ?_
      refine RunH.loadS (sumE X.ps.l[t]) rfl rfl rfl rfl (fun u hu => (hu.fact.1.2.2.1 X hmem).load htt) ?_
      generalize X.ps.l[t] = p at *
      refine RunH.adv tb_ok [] rfl rfl (by simp [AllOb, Ob.P, sum_len, sz_sum, one_int, u8V_one, hp0] <;> omega) ?_
      refine RunH.loadS (boolE (is.getD k false)) rfl rfl rfl rfl (fun u hu => by
        have hk2 : k < is.length := by omega
        have h := hu.loadRow (κ := kBool) (id := 0) (l := is) rfl (by omega) hk2
        rw [List.getD_eq_getElem?_getD, List.getElem?_eq_getElem hk2]
        exact h) ?_
      cases hb : is.getD k false with
      | true =>
        rw [hb] at hM2
        have hM2 : Marks cs S i (is.set (ixD S p) true) k (t + 1) := hM2
        have hixl := ixD_lt (hasD_iff.2 hp.1)
        refine RunH.adv tb_ok [true] rfl rfl (by simp <;> omega) ?_
        refine RunH.gives (ho := rfl) (hw := rfl) (hd := rfl) (hf := rfl) (hes := rfl) (hc := Tryz.call134) (e := intE (ixD S p)) (hC := fun u hu => by
          have := indexR_spec u SA sc S hu.fact.1.2.2.2 p
          rw [idxOf_ix p S 0 (hasD_iff.2 hp.1), Nat.zero_add] at this
          exact this) ?_
        intro m5 hm5
        refine RunH.adv tb_ok [] rfl rfl (by simp [hp0] <;> omega) ?_
        refine RunH.storeK (κ := kBool) (id := 0) (l := is) (ixD S p) true rfl rfl rfl rfl rfl rfl (by omega) rfl rfl ?_
        intro m6 hm6
        refine RunH.adv tb_ok [] rfl rfl (by simp <;> omega) ?_
        exact RunH.again (t + 1, is.set (ixD S p) true) (.head _) rfl rfl (by show X.ps.l.length - (t + 1) < X.ps.l.length - t; omega) fun u hu => ⟨hu.1, htt, by show (is.set _ _).length = _; rw [List.length_set]; exact hisl, hM2⟩
      | false =>
        rw [hb] at hM2
        have hM2 : Marks cs S i is k (t + 1) := hM2
        refine RunH.adv tb_ok [false] rfl rfl (by simp <;> omega) ?_
        exact RunH.again (t + 1, is) (.head _) rfl rfl (by show X.ps.l.length - (t + 1) < X.ps.l.length - t; omega) fun u hu => ⟨hu.1, htt, hisl, hM2⟩
    · have ht' : t = X.ps.l.length := by omega
      subst ht'
      refine RunH.adv tb_ok [false] rfl rfl (by simp <;> omega) ?_
      refine RunH.again (k, is) (.tail _ (.head _)) rfl rfl (Nat.lt_succ_self k) fun u hu => ⟨hu.1, by show k ≤ i + 1; omega, hisl, fun j hj => ?_, fun h0 => ?_⟩
      · have hj : k = j + 1 := hj
        subst hj
        refine Marks.next ?_
        rw [← hpn] at hM
        exact hM
      · have h0 : k = 0 := h0
        subst h0
        rw [hpn]
        exact hM
end Go.Proofs.YtagnkcdhenilbaaGreatDoor

namespace Go.Proofs.YtagnkcdhenilbaaGreatDoor
open Go V RowKit
def ancs (cs : List Com) (x : Sum) : Int × List Sum :=
  if (hist cs).1 = 0 then (if hasD (hist cs).2 x = true then (0, ancsL cs (hist cs).2 x) else (6, [])) else ((hist cs).1, [])
set_option maxRecDepth 10000 in
theorem ancp1_spec (w : World) (b1 ma : Nat) (A : List Sum) (s : Sum)
    (h1 : ∀ u, Ext w u → (loadVar 166 ⟨b1, 0, none⟩).run Tryz.prog u = .ok (.map (some ma)) u) (hA : ∀ u, Ext w u → u.heap[ma]? = some (mapO sumV (isE A))) :
    Gives Tryz.prog 133 [sumV s, .pointer (some ⟨b1, 0, none⟩)] w (boolE (!hasD A s)) := by
  refine enterH tb_ok [(0, sumE s), (1, .av (.val (.pointer (some ⟨b1, 0, none⟩))))] Tryz.func133 rfl Tryz.ntmps133 rfl rfl ?_
  refine RunH.adv tb_ok [] rfl rfl (by simp [AllOb, Ob.P, sum_len, sz_sum, one_int, u8V_one] <;> omega) ?_
  refine RunH.load (.av (.val (.map (some ma)))) rfl rfl rfl rfl (fun u hu => h1 u hu) ?_
  refine RunH.adv tb_ok [] rfl rfl (by simp <;> omega) ?_
  refine RunH.go rfl rfl (OpGo.lookupV (es := isE A) (k := s) (.bool (hasD A s)) key_sum und_is zero_bool rfl rfl rfl rfl rfl (fun u hu => hA u hu.fact) (getM_is A s)) 1 ?_
  rintro ⟨⟩ m1 hm1
  refine RunH.adv tb_ok [] rfl rfl (by simp <;> omega) ?_
  refine RunH.ret1 Tryz.func133 rfl rfl fun u hu => ⟨rfl, hu.fact⟩
set_option maxRecDepth 10000 in
theorem Ancestors_spec (LA : Option Addr) (lc : Nat) (cs : List Com) (x : Sum) :
    Does Tryz.prog tb 60 [.slice LA cs.length lc, sumV x] [] (fun u => Glob u ∧ Sl kCom u LA lc cs ∧ ∀ x ∈ cs, Sl kSum u x.ps.A x.ps.c x.ps.l) (fun z : Option Addr × Nat => .tuple #[.slice z.1 (ancs cs x).2.length z.2, intV (ancs cs x).1]) (fun z => [(0, rowE kSum z.1 z.2 (ancs cs x).2)]) (fun _ _ _ => True) := by
  have hl : lim = 140737488351232 := rfl
  refine Does.enter tb_ok [(0, slE LA cs.length lc), (1, sumE x)] Tryz.func60 rfl Tryz.ntmps60 rfl rfl 0 ?_
  intro B0 m0 K
  generalize hre : ancs cs x = e
  have hE := hre.symm
  unfold ancs at hE
  refine RunH.adv tb_ok [] rfl rfl (by simp [AllOb, Ob.P, sum_len, sz_sum, one_int, u8V_one] <;> omega) ?_
  refine RunH.doesB [] 2 (hc := Tryz.call58) (ho := rfl) (hw := rfl) (hd := rfl) (hf := rfl) (hes := rfl) (hσ := rfl) (hn := rfl) (hV := fun _ => rfl) (hG := fun _ => rfl) (e := fun z : Option Addr × Nat => .av (.val (.tuple #[.slice z.1 (hist cs).2.length z.2, intV (hist cs).1]))) (hC := History_spec LA lc cs) (hp := fun u hu => hu.fact.2) ?_
  rintro ⟨SA, sc⟩ ms hms
  refine RunH.drop ?_
  by_cases h0 : (hist cs).1 = 0
  · rw [if_pos h0] at hE
    have hh : hist cs = (0, (hist cs).2) := by rw [← h0]
    obtain ⟨hlen, hb60, hpar⟩ := hist_ok hh
    generalize hS : (hist cs).2 = S at *
    refine RunH.adv tb_ok [false] rfl rfl (by simp [h0] <;> omega) ?_
    refine RunH.gives (ho := rfl) (hw := rfl) (hd := rfl) (hf := rfl) (hes := rfl) (hc := Tryz.call68) (e := boolE (hasD S x)) (hC := fun u hu => conD_spec u SA sc S (Sl.own (B := B0) (hu.row (κ := kSum) (id := 1) (l := S) rfl) (by omega)) x) ?_
    intro m1 hm1
    by_cases hx : hasD S x = true
    · rw [if_pos hx] at hE
      refine RunH.adv tb_ok [false] rfl rfl (by simp [hx] <;> omega) ?_
      refine RunH.doesB [] 3 (hc := Tryz.call131) (ho := rfl) (hw := rfl) (hd := rfl) (hf := rfl) (hes := rfl) (hσ := rfl) (hn := rfl) (hV := fun _ => rfl) (hG := fun _ => rfl) (e := fun mb : Nat => .av (.val (.map (some mb)))) (hC := anc_spec LA lc cs SA sc S hlen hpar x hx) (hp := fun u hu => ⟨hu.fact.2.2.1, hu.fact.2.2.2, Sl.own (B := B0) (hu.row (κ := kSum) (id := 1) (l := S) rfl) (by omega)⟩) ?_
      rintro mb m2 hm2
      refine RunH.drop ?_
      refine RunH.adv tb_ok [] rfl rfl (by simp [AllOb, Ob.P, sum_len, sz_sum, one_int, u8V_one] <;> omega) ?_
      refine RunH.doesB [(0, 1)] 4 (hc := Tryz.call132) (ho := rfl) (hw := rfl) (hd := rfl) (hf := rfl) (hes := rfl) (hσ := rfl) (hn := rfl) (hV := fun _ => rfl) (hG := fun _ => rfl) (e := fun _ : Unit => rowS 1 SA (ancsL cs S x).length sc) (hC := delF_spec SA sc S 133 [] [.pointer (some ⟨m2, 0, none⟩)] (fun s => !hasD (ancL cs S x) s) (by omega))
        (hp := fun u hu => ⟨Tryz.call133, fun s _ v hv => ancp1_spec v m2 mb (ancL cs S x) s (fun u' hu' => hu.loadBox (id := 3) (e := .av (.val (.map (some mb)))) tb_ok rfl rfl u' (hv.trans' hu')) (fun u' hu' => objExt hu (id := 2) rfl u' (hv.trans' hu'))⟩) ?_
      rintro ⟨⟩ m3 hm3
      refine RunH.drop ?_
      have hCl : keepL (fun s => !hasD (ancL cs S x) s) S = ancsL cs S x := rfl
      rw [hCl]
      generalize ancsL cs S x = O at *
      subst hE
      refine RunH.adv tb_ok [] rfl rfl (by simp <;> omega) ?_
      refine RunH.ret2 Tryz.func60 rfl rfl rfl fun w hst => ⟨(SA, sc), rfl, hst.out [(0, 1)] rfl rfl fun u h => ⟨h.1, trivial⟩⟩
    · rw [if_neg hx] at hE
      refine RunH.adv tb_ok [true] rfl rfl (by simp [hx] <;> omega) ?_
      refine RunH.nilrow 40 kSum.T kSum.sz 41 ?_
      refine RunH.ret2 Tryz.func60 rfl rfl rfl fun w hst => ⟨(none, 0), by rw [hE]; rfl, by rw [hE]; exact hst.out [(0, 40)] rfl rfl fun u h => ⟨h.1, trivial⟩⟩
  · rw [if_neg h0] at hE
    refine RunH.adv tb_ok [true] rfl rfl (by simp [h0] <;> omega) ?_
    refine RunH.nilrow 40 kSum.T kSum.sz 41 ?_
    refine RunH.ret2 Tryz.func60 rfl rfl rfl fun w hst => ⟨(none, 0), by rw [hE]; rfl, by rw [hE]; exact hst.out [(0, 40)] rfl rfl fun u h => ⟨h.1, trivial⟩⟩
set_option maxRecDepth 10000 in
theorem AncestorsR_spec (LA : Option Addr) (lc : Nat) (cs : List Com) (x : Sum) :
    Does Tryz.prog tb 61 [.slice LA cs.length lc, sumV x] [] (fun u => Sl kCom u LA lc cs ∧ ∀ x ∈ cs, Sl kSum u x.ps.A x.ps.c x.ps.l) (fun z : Option Addr × Nat => .tuple #[.slice z.1 (ancs cs x).2.length z.2, intV (ancs cs x).1]) (fun z => [(0, rowE kSum z.1 z.2 (ancs cs x).2)]) (fun _ _ _ => True) := by
  have hl : lim = 140737488351232 := rfl
  refine Does.enter tb_ok [(0, slE LA cs.length lc), (1, sumE x)] Tryz.func61 rfl Tryz.ntmps61 rfl rfl 0 ?_
  intro B0 m0 K
  generalize hre : ancs cs x = e
  have hE := hre.symm
  unfold ancs at hE
  refine RunH.adv tb_ok [] rfl rfl (by simp [AllOb, Ob.P, sum_len, sz_sum, one_int, u8V_one] <;> omega) ?_
  refine RunH.doesB [] 2 (hc := Tryz.call59) (ho := rfl) (hw := rfl) (hd := rfl) (hf := rfl) (hes := rfl) (hσ := rfl) (hn := rfl) (hV := fun _ => rfl) (hG := fun _ => rfl) (e := fun z : Option Addr × Nat => .av (.val (.tuple #[.slice z.1 (hist cs).2.length z.2, intV (hist cs).1]))) (hC := HistoryR_spec LA lc cs) (hp := fun u hu => hu.fact.2) ?_
  rintro ⟨SA, sc⟩ ms hms
  refine RunH.drop ?_
  by_cases h0 : (hist cs).1 = 0
  · rw [if_pos h0] at hE
    have hh : hist cs = (0, (hist cs).2) := by rw [← h0]
    have hH := Hist.of hh
    have hlen := hH.len
    have hb60 := hH.small
    generalize hS : (hist cs).2 = S at *
    refine RunH.adv tb_ok [false] rfl rfl (by simp [h0] <;> omega) ?_
    refine RunH.gives (ho := rfl) (hw := rfl) (hd := rfl) (hf := rfl) (hes := rfl) (hc := Tryz.call134) (e := intE (idxOf (fun y => decide (x = y)) S 0)) (hC := fun u hu => indexR_spec u SA sc S (Sl.own (B := B0) (hu.row (κ := kSum) (id := 1) (l := S) rfl) (by omega)) x) ?_
    intro m1 hm1
    by_cases hx : hasD S x = true
    · rw [if_pos hx] at hE
      rw [idxOf_ix x S 0 hx, Nat.zero_add]
      refine RunH.adv tb_ok [false] rfl rfl (by simp <;> omega) ?_
      refine RunH.doesB [] 3 (hc := Tryz.call135) (ho := rfl) (hw := rfl) (hd := rfl) (hf := rfl) (hes := rfl) (hσ := rfl) (hn := rfl) (hV := fun _ => rfl) (hG := fun _ => rfl) (e := fun z : Option Addr × Nat => rowS 2 z.1 (ancsL cs S x).length z.2) (hC := above_spec LA lc cs SA sc S hH x (hasD_iff.1 hx)) (hp := fun u hu => ⟨hu.fact.2.1, hu.fact.2.2, Sl.own (B := B0) (hu.row (κ := kSum) (id := 1) (l := S) rfl) (by omega)⟩) ?_
      rintro ⟨OA, oc⟩ m2 hm2
      refine RunH.drop ?_
      generalize ancsL cs S x = O at *
      subst hE
      refine RunH.adv tb_ok [] rfl rfl (by simp <;> omega) ?_
      refine RunH.ret2 Tryz.func61 rfl rfl rfl fun w hst => ⟨(OA, oc), rfl, hst.out [(0, 2)] rfl rfl fun u h => ⟨h.1, trivial⟩⟩
    · rw [if_neg hx] at hE
      have hx2 : S.any (fun y => decide (x = y)) = false := by
        have : hasD S x = false := by simpa using hx
        exact this
      rw [idxOf_none _ S 0 hx2]
      refine RunH.adv tb_ok [true] rfl rfl (by simp <;> omega) ?_
      refine RunH.nilrow 40 kSum.T kSum.sz 41 ?_
      refine RunH.ret2 Tryz.func61 rfl rfl rfl fun w hst => ⟨(none, 0), by rw [hE]; rfl, by rw [hE]; exact hst.out [(0, 40)] rfl rfl fun u h => ⟨h.1, trivial⟩⟩
  · rw [if_neg h0] at hE
    refine RunH.adv tb_ok [true] rfl rfl (by simp [h0] <;> omega) ?_
    refine RunH.nilrow 40 kSum.T kSum.sz 41 ?_
    refine RunH.ret2 Tryz.func61 rfl rfl rfl fun w hst => ⟨(none, 0), by rw [hE]; rfl, by rw [hE]; exact hst.out [(0, 40)] rfl rfl fun u h => ⟨h.1, trivial⟩⟩
end Go.Proofs.YtagnkcdhenilbaaGreatDoor

namespace Go.Proofs.YtagnkcdhenilbaaGreatDoor
open Go V RowKit
theorem base_self (cs : List Com) (S : List Sum) (x y : Sum) : baseL cs S x y = S.filter fun z => hasD (baseL cs S x y) z := by
  have : baseL cs S x y = S.filter fun z => (!(!hasD (ancL cs S x) z || !hasD (ancL cs S y) z)) && !((comL cs S x y).any fun t => !decide (t = z) && hasD (ancL cs S t) z) := by
    conv => lhs; unfold baseL keepL
    conv => lhs; arg 2; unfold comL keepL
    rw [List.filter_filter]
    congr 1
    funext z
    rw [Bool.and_comm]
  conv => lhs; rw [this]
  refine List.filter_congr fun z hz => ?_
  rw [Bool.eq_iff_iff, hasD_iff, this, List.mem_filter]
  simp [hz]
/-- One of them, as the reference asks. -/
def farB (cs : List Com) (S b : List Sum) (z w : Sum) : Bool := decide (w = z) || (!hasD b w || !hasD (ancsL cs S w) z)
theorem Hist.best {cs : List Com} {S : List Sum} (h : Hist cs S) {x y : Sum} (hx : x ∈ S) (hy : y ∈ S) :
    (ancsL cs S x).filter (fun z => hasD (ancsL cs S y) z && (ancsL cs S x).all (farB cs S (ancsL cs S y) z)) = baseL cs S x y := by
  rw [base_self]
  have e : ancsL cs S x = S.filter fun z => hasD (ancL cs S x) z := by unfold ancsL keepL; simp
  conv => lhs; arg 2; rw [e]
  rw [List.filter_filter]
  refine List.filter_congr fun z hz => ?_
  rw [Bool.eq_iff_iff, hasD_iff, h.base hx hy, Bool.and_eq_true, Bool.and_eq_true, h.anc hx, h.ancs hy, List.all_eq_true]
  constructor
  · rintro ⟨⟨h1, h2⟩, h3⟩
    refine ⟨⟨h3, h1⟩, fun t a b c d => ?_⟩
    have := h2 t (hasD_iff.1 ((h.ancs hx t).2 a))
    unfold farB at this
    rw [(h.ancs hy t).2 b, (h.ancs (h.mem hx a) z).2 d] at this
    simp [c] at this
  · rintro ⟨⟨h1, h2⟩, h3⟩
    refine ⟨⟨h2, fun w hw => ?_⟩, h1⟩
    have hw := (h.ancs hx w).1 (hasD_iff.2 hw)
    unfold farB
    by_cases e : w = z
    · simp [e]
    · by_cases h4 : UpH cs S y w
      · have h5 := h3 w hw h4 e
        have : hasD (ancsL cs S w) z = false := by
          cases hc : hasD (ancsL cs S w) z with
          | false => rfl
          | true => exact absurd ((h.ancs (h.mem hx hw) z).1 hc) h5
        rw [this]; simp
      · have : hasD (ancsL cs S y) w = false := by
          cases hc : hasD (ancsL cs S y) w with
          | false => rfl
          | true => exact absurd ((h.ancs hy w).1 hc) h4
        rw [this]; simp
set_option maxRecDepth 10000 in
set_option maxHeartbeats 1000000 in
theorem BasesR_spec (LA : Option Addr) (lc : Nat) (cs : List Com) (x y : Sum) :
    Does Tryz.prog tb 64 [.slice LA cs.length lc, sumV x, sumV y] [] (fun u => Sl kCom u LA lc cs ∧ ∀ x ∈ cs, Sl kSum u x.ps.A x.ps.c x.ps.l) (fun z : Option Addr × Nat => .tuple #[.slice z.1 (bases cs x y).2.length z.2, intV (bases cs x y).1]) (fun z => [(0, rowE kSum z.1 z.2 (bases cs x y).2)]) (fun _ _ _ => True) := by
  have hl : lim = 140737488351232 := rfl
  refine Does.enter tb_ok [(0, slE LA cs.length lc), (1, sumE x), (2, sumE y)] Tryz.func64 rfl Tryz.ntmps64 rfl rfl 0 ?_
  intro B0 m0 K
  generalize hre : bases cs x y = e
  have hE := hre.symm
  unfold bases at hE
  refine RunH.adv tb_ok [] rfl rfl (by simp [AllOb, Ob.P, sum_len, sz_sum, one_int, u8V_one] <;> omega) ?_
  refine RunH.doesB [] 3 (hc := Tryz.call59) (ho := rfl) (hw := rfl) (hd := rfl) (hf := rfl) (hes := rfl) (hσ := rfl) (hn := rfl) (hV := fun _ => rfl) (hG := fun _ => rfl) (e := fun z : Option Addr × Nat => .av (.val (.tuple #[.slice z.1 (hist cs).2.length z.2, intV (hist cs).1]))) (hC := HistoryR_spec LA lc cs) (hp := fun u hu => hu.fact.2) ?_
  rintro ⟨SA, sc⟩ ms hms
  refine RunH.drop ?_
  by_cases h0 : (hist cs).1 = 0
  · rw [if_pos h0] at hE
    have hh : hist cs = (0, (hist cs).2) := by rw [← h0]
    have hH := Hist.of hh
    have hlen := hH.len
    have hb60 := hH.small
    generalize hS : (hist cs).2 = S at *
    have hidx : ∀ v, idxOf (fun y => decide (v = y)) S 0 = if hasD S v = true then ((ixD S v : Nat) : Int) else -1 := fun v => by
      split
      · rename_i hv
        rw [idxOf_ix v S 0 hv, Nat.zero_add]
      · rename_i hv
        exact idxOf_none _ S 0 (by have : hasD S v = false := by simpa using hv
                                   exact this)
    have hiR := fun (u : World) (hs : Sl kSum u SA sc S) (v : Sum) => indexR_spec u SA sc S hs v
    simp only [hidx] at hiR
    refine RunH.adv tb_ok [false] rfl rfl (by simp [h0] <;> omega) ?_
    refine RunH.draw rfl [(0, some (.box m0 [.val (sumV x)] 39)), (1, some (.box (m0 + 1) [.val (sumV y)] 39))] rfl 8 rfl rfl ?_
    refine RunD.adv tb_ok (by kernel_rfl) [] rfl rfl (by simp <;> omega) ?_
    refine RunD.gives (i := 2) (intE (if hasD S x = true then ((ixD S x : Nat) : Int) else -1)) rfl (by kernel_rfl) rfl rfl rfl rfl Tryz.call134 (fun u hu => hiR u (Sl.own (B := B0) (hu.row (κ := kSum) (id := 2) (l := S) rfl) (by omega)) x) rfl (fun _ h => h) ?_
    intro m1 hm1
    refine RunD.adv tb_ok (by kernel_rfl) [] rfl rfl (by simp <;> omega) ?_
    refine RunD.gives (i := 5) (intE (if hasD S y = true then ((ixD S y : Nat) : Int) else -1)) rfl (by kernel_rfl) rfl rfl rfl rfl Tryz.call134 (fun u hu => hiR u (Sl.own (B := B0) (hu.row (κ := kSum) (id := 2) (l := S) rfl) (by omega)) y) rfl (fun _ h => h) ?_
    intro m2 hm2
    refine RunD.adv tb_ok (by kernel_rfl) [] rfl rfl (by simp <;> omega) ?_
    refine RunD.done (.inl rfl) (by kernel_rfl) ?_
    by_cases hx : hasD S x = true
    · rw [if_pos hx] at hE
      rw [if_pos hx]
      by_cases hy : hasD S y = true
      · rw [if_pos hy] at hE
        rw [if_pos hy]
        refine RunH.adv tb_ok [false, false] rfl rfl (by simp <;> omega) ?_
        refine RunH.doesB [] 4 (hc := Tryz.call135) (ho := rfl) (hw := rfl) (hd := rfl) (hf := rfl) (hes := rfl) (hσ := rfl) (hn := rfl) (hV := fun _ => rfl) (hG := fun _ => rfl) (e := fun z : Option Addr × Nat => rowS 3 z.1 (ancsL cs S x).length z.2) (hC := above_spec LA lc cs SA sc S hH x (hasD_iff.1 hx)) (hp := fun u hu => ⟨hu.fact.2.1, hu.fact.2.2, Sl.own (B := B0) (hu.row (κ := kSum) (id := 2) (l := S) rfl) (by omega)⟩) ?_
        rintro ⟨AA, ac⟩ m3 hm3
        refine RunH.drop ?_
        refine RunH.adv tb_ok [] rfl rfl (by simp <;> omega) ?_
        refine RunH.doesB [] 5 (hc := Tryz.call135) (ho := rfl) (hw := rfl) (hd := rfl) (hf := rfl) (hes := rfl) (hσ := rfl) (hn := rfl) (hV := fun _ => rfl) (hG := fun _ => rfl) (e := fun z : Option Addr × Nat => rowS 4 z.1 (ancsL cs S y).length z.2) (hC := above_spec LA lc cs SA sc S hH y (hasD_iff.1 hy)) (hp := fun u hu => ⟨hu.fact.2.1, hu.fact.2.2, Sl.own (B := B0) (hu.row (κ := kSum) (id := 2) (l := S) rfl) (by omega)⟩) ?_
        rintro ⟨BA, bc⟩ m4 hm4
        refine RunH.drop ?_
        have hbest := hH.best (hasD_iff.1 hx) (hasD_iff.1 hy)
        have ha60 : (ancsL cs S x).length ≤ 60 := by
          have := keepL_len (fun s => !hasD (ancL cs S x) s) S
          unfold ancsL; omega
        have hb60' : (ancsL cs S y).length ≤ 60 := by
          have := keepL_len (fun s => !hasD (ancL cs S y) s) S
          unfold ancsL; omega
        have haS : ∀ w ∈ ancsL cs S x, w ∈ S := fun w hw => by
          unfold ancsL at hw
          exact keepL_mem hw
        have hE : e = (0, baseL cs S x y) := hE
        rw [← hbest] at hE
        clear hbest hx hy
        generalize ancsL cs S x = a at *
        generalize ancsL cs S y = b at *
        refine RunH.adv tb_ok [] rfl rfl (by simp <;> omega) ?_
        refine RunH.nilrow 5 kSum.T kSum.sz 6 ?_
        refine RunH.loop (α := Nat × (Option Addr × Nat) × List Sum) (fun y => [(0, slE LA cs.length lc), (8, rowS 2 SA S.length sc), (12, rowS 3 AA a.length ac), (13, rowS 4 BA b.length bc), (48, rowS 3 AA a.length ac), (49, intE a.length), (50, intE y.1), (14, rowS 5 y.2.1.1 y.2.2.length y.2.1.2)]) (fun y => [(2, rowE kSum SA sc S), (3, rowE kSum AA ac a), (4, rowE kSum BA bc b), (5, rowE kSum y.2.1.1 y.2.1.2 y.2.2)])
          (fun y u => (K u ∧ Sl kCom u LA lc cs ∧ ∀ x ∈ cs, Sl kSum u x.ps.A x.ps.c x.ps.l) ∧ y.1 ≤ a.length ∧ y.2.2 = (a.take y.1).filter (fun z => hasD b z && a.all (farB cs S b z))) (fun y => a.length - y.1) (0, (none, 0), []) rfl rfl (fun u hu => ⟨hu, Nat.zero_le _, rfl⟩) ?_
        rintro ⟨i, ⟨OA, oc⟩, O⟩ m5
        refine RunH.pure (fun u hu => hu.2) fun ⟨hi, hO⟩ => ?_
        dsimp only at hi hO ⊢
        have hOl : O.length ≤ 60 := by
          have := List.length_filter_le (fun z => hasD b z && a.all (farB cs S b z)) (a.take i)
          rw [← hO, List.length_take] at this
          omega
        by_cases hlt : i < a.length
        · have hts : a.take (i + 1) = a.take i ++ [a[i]] := List.take_succ_eq_append_getElem hlt
          refine RunH.pureS (fun u hu => (Sl.own (B := B0) (hu.row (κ := kSum) (id := 3) (l := a) rfl) (by omega)).ptr hlt) fun hptr => ?_
          obtain ⟨z, hz⟩ : ∃ z, z = a[i] := ⟨_, rfl⟩
          rw [← hz] at hts
          refine RunH.adv tb_ok [true] rfl rfl (by simp [AllOb, Ob.P, sum_len, sz_sum, one_int, u8V_one, hptr] <;> omega) ?_
          refine RunH.loadS (sumE z) rfl rfl rfl rfl (fun u hu => by rw [hz]; exact hu.loadRow (κ := kSum) (id := 3) (l := a) rfl (by omega) hlt) ?_
          refine RunH.adv tb_ok [] rfl rfl (by simp [AllOb, Ob.P, sum_len, sz_sum, one_int, u8V_one] <;> omega) ?_
          refine RunH.gives (ho := rfl) (hw := rfl) (hd := rfl) (hf := rfl) (hes := rfl) (hc := Tryz.call127) (e := boolE (hasD b z)) (hC := fun u hu => hasR_spec u BA bc b (Sl.own (B := B0) (hu.row (κ := kSum) (id := 4) (l := b) rfl) (by omega)) z) ?_
          intro m6 hm6
          refine RunH.adv tb_ok [] rfl rfl (by simp <;> omega) ?_
          refine RunH.loop (α := Nat × Bool) (fun y => [(0, slE LA cs.length lc), (8, rowS 2 SA S.length sc), (12, rowS 3 AA a.length ac), (13, rowS 4 BA b.length bc), (48, rowS 3 AA a.length ac), (49, intE a.length), (50, intE i), (14, rowS 5 OA O.length oc), (16, .av (.box 6 m5 0)), (57, rowS 3 AA a.length ac), (58, intE a.length), (59, intE y.1), (17, boolE y.2)]) (fun _ => [(2, rowE kSum SA sc S), (3, rowE kSum AA ac a), (4, rowE kSum BA bc b), (5, rowE kSum OA oc O), (6, some (.box m5 [.val (sumV z)] 39))]) (fun y u => (K u ∧ Sl kCom u LA lc cs ∧ ∀ x ∈ cs, Sl kSum u x.ps.A x.ps.c x.ps.l) ∧ y.1 ≤ a.length ∧ y.2 = (hasD b z && (a.take y.1).all (farB cs S b z))) (fun y => a.length - y.1) (0, hasD b z) rfl rfl (fun u hu => ⟨hu.1, Nat.zero_le _, by simp⟩) ?_
          rintro ⟨j, best⟩ m7
          refine RunH.pure (fun u hu => hu.2) fun ⟨hj, hbest⟩ => ?_
          dsimp only at hj hbest ⊢
          by_cases hjt : j < a.length
          · have hts2 : a.take (j + 1) = a.take j ++ [a[j]] := List.take_succ_eq_append_getElem hjt
            refine RunH.pureS (fun u hu => (Sl.own (B := B0) (hu.row (κ := kSum) (id := 3) (l := a) rfl) (by omega)).ptr hjt) fun hptr2 => ?_
            obtain ⟨w, hw⟩ : ∃ w, w = a[j] := ⟨_, rfl⟩
            have hwS : w ∈ S := haS w (by rw [hw]; exact List.getElem_mem hjt)
            rw [← hw] at hts2
            have hnext : (hasD b z && (a.take (j + 1)).all (farB cs S b z)) = (best && farB cs S b z w) := by
              rw [hts2, List.all_append, hbest, Bool.and_assoc]; simp
            refine RunH.adv tb_ok [true] rfl rfl (by simp [AllOb, Ob.P, sum_len, sz_sum, one_int, u8V_one, hptr2] <;> omega) ?_
            refine RunH.loadS (sumE w) rfl rfl rfl rfl (fun u hu => by rw [hw]; exact hu.loadRow (κ := kSum) (id := 3) (l := a) rfl (by omega) hjt) ?_
            refine RunH.adv tb_ok [] rfl rfl (by simp [AllOb, Ob.P, sum_len, sz_sum, one_int, u8V_one] <;> omega) ?_
            refine RunH.draw rfl [(6, some (.box m5 [.val (sumV z)] 39)), (7, some (.box m7 [.val (sumV w)] 39))] rfl 24 rfl rfl ?_
            cases best with
            | false =>
              refine RunD.adv tb_ok (by kernel_rfl) [false] rfl rfl (by simp <;> omega) ?_
              refine RunD.done (.inl rfl) (by kernel_rfl) ?_
              refine RunH.adv tb_ok [] rfl rfl (by simp <;> omega) ?_
              exact RunH.again (j + 1, false) (.head _) rfl rfl (by show a.length - (j + 1) < a.length - j; omega) fun u hu => ⟨hu.1, hjt, by rw [hnext]; rfl⟩
            | true =>
              refine RunD.adv tb_ok (by kernel_rfl) [true] rfl rfl (by simp <;> omega) ?_
              refine RunD.read (by kernel_rfl) (i := 4) (boolE (decide (w = z))) rfl rfl rfl rfl rfl rfl (fun w' a h hag => op_eq hag rfl rfl rfl rfl rfl (by kernel_rfl) (eq_sum w' 9998 _ _)) ?_
              rw [show farB cs S b z w = (decide (w = z) || (!hasD b w || !hasD (ancsL cs S w) z)) from rfl] at hnext
              by_cases he : w = z
              · rw [decide_eq_true he] at hnext ⊢
                refine RunD.adv tb_ok (by kernel_rfl) [true, true] rfl rfl (by simp <;> omega) ?_
                refine RunD.done (.inl rfl) (by kernel_rfl) ?_
                refine RunH.adv tb_ok [] rfl rfl (by simp <;> omega) ?_
                exact RunH.again (j + 1, true) (.head _) rfl rfl (by show a.length - (j + 1) < a.length - j; omega) fun u hu => ⟨hu.1, hjt, by rw [hnext]; rfl⟩
              · rw [decide_eq_false he] at hnext ⊢
                refine RunD.adv tb_ok (by kernel_rfl) [false] rfl rfl (by simp <;> omega) ?_
                refine RunD.gives (i := 8) (boolE (hasD b w)) rfl (by kernel_rfl) rfl rfl rfl rfl Tryz.call127 (fun u hu => hasR_spec u BA bc b (Sl.own (B := B0) (hu.row (κ := kSum) (id := 4) (l := b) rfl) (by omega)) w) rfl (fun _ h => h) ?_
                intro m8 hm8
                by_cases hbw : hasD b w = true
                · rw [hbw] at hnext
                  refine RunD.adv tb_ok (by kernel_rfl) [false] rfl rfl (by simp [hbw] <;> omega) ?_
                  refine RunD.gives (i := 16) (intE (ixD S w)) rfl (by kernel_rfl) rfl rfl rfl rfl Tryz.call134 (fun u hu => by
                    have := hiR u (Sl.own (B := B0) (hu.row (κ := kSum) (id := 2) (l := S) rfl) (by omega)) w
                    rw [if_pos (hasD_iff.2 hwS)] at this
                    exact this) rfl (fun _ h => h) ?_
                  intro m9 hm9
                  refine RunD.adv tb_ok (by kernel_rfl) [] rfl rfl (by simp <;> omega) ?_
                  refine RunD.doesB (i := 17) [] 9 (fun z : Option Addr × Nat => rowS 8 z.1 (ancsL cs S w).length z.2) rfl (by kernel_rfl) rfl rfl rfl rfl Tryz.call135 (above_spec LA lc cs SA sc S hH w hwS) rfl rfl (fun _ => rfl) (fun _ => rfl) (fun u hu => ⟨hu.fact.1.2.1, hu.fact.1.2.2, Sl.own (B := B0) (hu.row (κ := kSum) (id := 2) (l := S) rfl) (by omega)⟩) (fun _ => rfl) (fun _ h => h) ?_
                  rintro ⟨WA, wc⟩ m10 hm10
                  refine RunD.adv tb_ok (by kernel_rfl) [] rfl rfl (by simp <;> omega) ?_
                  have hwl : (ancsL cs S w).length ≤ 60 := by
                    have := keepL_len (fun s => !hasD (ancL cs S w) s) S
                    unfold ancsL; omega
                  generalize ancsL cs S w = L at *
                  refine RunD.gives (i := 19) (boolE (hasD L z)) rfl (by kernel_rfl) rfl rfl rfl rfl Tryz.call127 (fun u hu => hasR_spec u WA wc L (Sl.own (B := B0) (hu.row (κ := kSum) (id := 8) (l := L) rfl) (by omega)) z) rfl (fun _ h => h.1) ?_
                  intro m11 hm11
                  refine RunD.adv tb_ok (by kernel_rfl) [] rfl rfl (by simp <;> omega) ?_
                  refine RunD.done (.inl rfl) (by kernel_rfl) ?_
                  refine RunH.adv tb_ok [] rfl rfl (by simp <;> omega) ?_
                  refine RunH.again (j + 1, !hasD L z) (.head _) rfl rfl (by show a.length - (j + 1) < a.length - j; omega) fun u hu => ⟨hu.1.1, hjt, ?_⟩
                  show (!hasD L z) = _
                  rw [hnext]; simp
                · have hbw2 : hasD b w = false := by simpa using hbw
                  rw [hbw2] at hnext ⊢
                  refine RunD.adv tb_ok (by kernel_rfl) [true] rfl rfl (by simp <;> omega) ?_
                  refine RunD.done (.inl rfl) (by kernel_rfl) ?_
                  refine RunH.adv tb_ok [] rfl rfl (by simp <;> omega) ?_
                  exact RunH.again (j + 1, true) (.head _) rfl rfl (by show a.length - (j + 1) < a.length - j; omega) fun u hu => ⟨hu.1, hjt, by rw [hnext]; rfl⟩
          · have hje : a.take j = a := List.take_of_length_le (by omega)
            rw [hje] at hbest
            have hfil : (a.take (i + 1)).filter (fun z => hasD b z && a.all (farB cs S b z)) = O ++ (if best = true then [z] else []) := by
              rw [hts, List.filter_append, ← hO, hbest]
              congr 1
              rw [List.filter_cons]
              rfl
            cases best with
            | true =>
              refine RunH.adv tb_ok [false, true] rfl rfl (by simp <;> omega) ?_
              refine RunH.appendK (κ := kSum) (id := 5) (l := O) (r := [z]) rfl rfl rfl rfl rfl rfl elt_sum rfl rfl (fun u hu => hu.liesRow (κ := kSum) (l := [z]) (id := 7) rfl (by simp [hl])) (by rw [List.length_singleton]; omega) (by rw [List.length_singleton]; omega) ?_
              intro A2 c2 m8 hm8
              refine RunH.adv tb_ok [] rfl rfl (by simp <;> omega) ?_
              exact RunH.again (i + 1, (A2, c2), O ++ [z]) (.tail _ (.head _)) rfl rfl (by show a.length - (i + 1) < a.length - i; omega) fun u hu => ⟨hu.1, hlt, hfil.symm⟩
            | false =>
              have hfil : O = (a.take (i + 1)).filter (fun z => hasD b z && a.all (farB cs S b z)) := by rw [hfil]; simp
              refine RunH.adv tb_ok [false, false] rfl rfl (by simp <;> omega) ?_
              exact RunH.again (i + 1, (OA, oc), O) (.tail _ (.head _)) rfl rfl (by show a.length - (i + 1) < a.length - i; omega) fun u hu => ⟨hu.1, hlt, hfil⟩
        · rw [List.take_of_length_le (by omega)] at hO
          rw [← hO] at hE
          subst hE
          refine RunH.adv tb_ok [false] rfl rfl (by simp <;> omega) ?_
          refine RunH.ret2 Tryz.func64 rfl rfl rfl fun w hst => ⟨(OA, oc), rfl, hst.out [(0, 5)] rfl rfl fun u h => ⟨h.1.1, trivial⟩⟩
      · rw [if_neg hy] at hE
        rw [if_neg hy]
        refine RunH.adv tb_ok [false, true] rfl rfl (by simp <;> omega) ?_
        refine RunH.nilrow 40 kSum.T kSum.sz 41 ?_
        refine RunH.ret2 Tryz.func64 rfl rfl rfl fun w hst => ⟨(none, 0), by rw [hE]; rfl, by rw [hE]; exact hst.out [(0, 40)] rfl rfl fun u h => ⟨h.1, trivial⟩⟩
    · rw [if_neg hx] at hE
      rw [if_neg hx]
      refine RunH.adv tb_ok [true] rfl rfl (by simp <;> omega) ?_
      refine RunH.nilrow 40 kSum.T kSum.sz 41 ?_
      refine RunH.ret2 Tryz.func64 rfl rfl rfl fun w hst => ⟨(none, 0), by rw [hE]; rfl, by rw [hE]; exact hst.out [(0, 40)] rfl rfl fun u h => ⟨h.1, trivial⟩⟩
  · rw [if_neg h0] at hE
    refine RunH.adv tb_ok [true] rfl rfl (by simp [h0] <;> omega) ?_
    refine RunH.nilrow 40 kSum.T kSum.sz 41 ?_
    refine RunH.ret2 Tryz.func64 rfl rfl rfl fun w hst => ⟨(none, 0), by rw [hE]; rfl, by rw [hE]; exact hst.out [(0, 40)] rfl rfl fun u h => ⟨h.1, trivial⟩⟩
end Go.Proofs.YtagnkcdhenilbaaGreatDoor

namespace Go.Proofs.YtagnkcdhenilbaaGreatDoor
open Go V RowKit
abbrev comF (x : Com) : List AV := [.val (sumV x.root), x.ps.av, .val (strV x.note)]
theorem elt_com : ElT tb kCom.T 34 72 := ⟨⟨Tryz.t73, (Tryz.t73).zero.getD undef, by kernel_rfl, by kernel_rfl, by kernel_rfl, by kernel_rfl, by kernel_rfl⟩, by decide⟩
theorem idxFuncC (w : World) (A : Option Addr) (c : Nat) (l : List Com) (h : Sl kCom w A c l) (g : FuncId) (f1 c1 : List Value) (p : Com → Bool) (hf : Fun1 kCom w g f1 c1 l p) :
    Gives Tryz.prog 124 [.slice A l.length c, .func (.func g) f1.toArray c1.toArray] w (intE (idxOf p l 0)) := by
  have hl : lim = 140737488351232 := rfl
  have hsm := h.small
  refine enterH tb_ok [(0, slE A l.length c), (1, .av (.val (.func (.func g) f1.toArray c1.toArray)))] Tryz.func124 rfl Tryz.ntmps124 rfl rfl ?_
  refine RunH.adv tb_ok [] rfl rfl (by simp <;> omega) ?_
  refine RunH.loop (α := Nat) (fun i => [(0, slE A l.length c), (1, .av (.val (.func (.func g) f1.toArray c1.toArray))), (7, intE l.length), (8, intE i)]) (fun _ => []) (fun i w' => Ext w w' ∧ i ≤ l.length ∧ (l.take i).any p = false) (fun i => l.length - i) 0
    rfl rfl (fun w' h => ⟨h, Nat.zero_le _, rfl⟩) ?_
  intro i m
  refine RunH.pure (fun w' h => h.2) fun ⟨hi, hpre⟩ => ?_
  by_cases hlt : i < l.length
  · have hts : l.take (i + 1) = l.take i ++ [l[i]] := List.take_succ_eq_append_getElem hlt
    refine RunH.adv tb_ok [true] rfl rfl (by simp [h.ptr hlt] <;> omega) ?_
    refine RunH.load (.st (comF l[i])) rfl rfl rfl rfl (fun w' h' => (h.ext h'.1).load hlt) ?_
    refine RunH.gives (g := g) (f1 := f1) (c1 := c1) (boolE (p l[i])) rfl rfl rfl rfl rfl hf.enter (fun w' hst => hf.says _ (List.getElem_mem hlt) w' hst.fact.1) ?_
    intro m' hm'
    by_cases hp : p l[i] = true
    · refine RunH.adv tb_ok [true] rfl rfl (by simp [hp] <;> omega) ?_
      refine RunH.ret1 Tryz.func124 rfl rfl fun w' hst => ⟨?_, hst.fact.1⟩
      rw [idxOf_at p l 0 i hlt hpre hp, Nat.zero_add]
    · refine RunH.adv tb_ok [false] rfl rfl (by simp [hp] <;> omega) ?_
      refine RunH.again (i + 1) (.head _) rfl rfl (by omega) fun w' h => ⟨h.1, by omega, ?_⟩
      rw [hts, List.any_append, hpre]; simp [hp]
  · rw [List.take_of_length_le (by omega)] at hpre
    refine RunH.adv tb_ok [false] rfl rfl (by simp <;> omega) ?_
    refine RunH.ret1 Tryz.func124 rfl rfl fun w' hst => ⟨?_, hst.fact.1⟩
    rw [idxOf_none p l 0 hpre]
theorem containsFuncC (w : World) (A : Option Addr) (c : Nat) (l : List Com) (h : Sl kCom w A c l) (g : FuncId) (f1 c1 : List Value) (p : Com → Bool) (hf : Fun1 kCom w g f1 c1 l p) :
    Gives Tryz.prog 53 [.slice A l.length c, .func (.func g) f1.toArray c1.toArray] w (boolE (l.any p)) := by
  refine enterH tb_ok [(0, slE A l.length c), (1, .av (.val (.func (.func g) f1.toArray c1.toArray)))] Tryz.func53 rfl Tryz.ntmps53 rfl rfl ?_
  refine RunH.adv tb_ok [] rfl rfl (by simp <;> omega) ?_
  refine RunH.gives (intE (idxOf p l 0)) rfl rfl rfl rfl rfl Tryz.call124 (fun w' hst => idxFuncC w' A c l (h.ext hst.fact) g f1 c1 p (hf.ext hst.fact)) ?_
  intro m' hm'
  refine RunH.adv tb_ok [] rfl rfl (by simp <;> omega) ?_
  refine RunH.ret1 Tryz.func53 rfl rfl fun w' hst => ⟨?_, hst.fact⟩
  have : decide (0 ≤ idxOf p l 0) = l.any p := by rw [Bool.eq_iff_iff]; simp only [decide_eq_true_eq]; exact idxOf_ge p l 0
  simp [this, EV.v, AV.v]
def bigC (x : Com) : Bool := decide (8 < x.ps.l.length) || decide (250 < x.note.length)
theorem Com1_spec (w : World) (x : Com) (hs : x.ps.l.length ≤ lim) : Gives Tryz.prog 54 [(kCom.ev x).v] w (boolE (bigC x)) := by
  have hl : lim = 140737488351232 := rfl
  obtain ⟨root, ⟨PA, pc, ps⟩, note⟩ := x
  dsimp only at hs
  refine enterH tb_ok [(0, .st [.val (sumV root), .val (.slice PA ps.length pc), .val (strV note)])] Tryz.func54 rfl Tryz.ntmps54 rfl rfl ?_
  by_cases h1 : 8 < ps.length
  · refine RunH.adv tb_ok [true] rfl rfl (by simp [AllOb, Ob.P, sum_len, sz_sum, one_int, u8V_one, h1] <;> omega) ?_
    refine RunH.ret1 Tryz.func54 rfl rfl fun w' hst => ⟨?_, hst.fact⟩
    simp [bigC, h1]; rfl
  · refine RunH.adv tb_ok [false] rfl rfl (by simp [AllOb, Ob.P, sum_len, sz_sum, one_int, u8V_one, h1] <;> omega) ?_
    refine RunH.ret1 Tryz.func54 rfl rfl fun w' hst => ⟨?_, hst.fact⟩
    have e : bigC ⟨root, ⟨PA, pc, ps⟩, note⟩ = decide ((250 : Int) < note.length) := by
      unfold bigC
      rw [decide_eq_false h1, Bool.false_or]
      rw [Bool.eq_iff_iff]; simp only [decide_eq_true_eq]; omega
    rw [e]
/-- What a commit says. -/
def Com.core (x : Com) : Sum × List Sum × Str := (x.root, x.ps.l, x.note)
theorem histGo_core : ∀ (r q : List Com) (out : List Sum), r.map Com.core = q.map Com.core → histGo r out = histGo q out
  | [], [], _, _ => rfl
  | [], _ :: _, _, h => by cases h
  | _ :: _, [], _, h => by cases h
  | ⟨a, p, n⟩ :: r, ⟨a', p', n'⟩ :: q, out, h => by
    rw [List.map_cons, List.map_cons] at h
    injection h with h1 h2
    unfold Com.core at h1
    simp only [Prod.mk.injEq] at h1
    obtain ⟨h3, h4, h5⟩ := h1
    have ih := fun out => histGo_core r q out h2
    rw [hist_step, hist_step]
    simp only [h3, h4, h5, ih]
theorem core_len {r q : List Com} (h : r.map Com.core = q.map Com.core) : r.length = q.length := by
  have := congrArg List.length h
  simpa using this
theorem hist_core {r q : List Com} (h : r.map Com.core = q.map Com.core) : hist r = hist q := by
  unfold hist
  rw [core_len h, histGo_core r q [] h]
theorem parL_core {r q : List Com} (h : r.map Com.core = q.map Com.core) (S : List Sum) : parL r S = parL q S := by
  funext x
  unfold parL
  have e : ∀ l : List Com, (l.map fun q => q.ps.l) = (l.map Com.core).map fun z => z.2.1 := fun l => by rw [List.map_map]; rfl
  rw [e, e, h]
theorem ancs_core {r q : List Com} (h : r.map Com.core = q.map Com.core) (x : Sum) : ancs r x = ancs q x := by
  unfold ancs ancsL ancL
  rw [hist_core h, parL_core h, core_len h]
theorem bases_core {r q : List Com} (h : r.map Com.core = q.map Com.core) (x y : Sum) : bases r x y = bases q x y := by
  unfold bases baseL comL ancL
  rw [hist_core h]
  simp only [parL_core h, core_len h]
theorem com_part {w : World} {A : Option Addr} {c : Nat} {l : List Com} (h : Sl kCom w A c l) {i : Nat} (hi : i < l.length) (o : Nat) (v : Value) (hv : ((l[i].root.l.map u8V) ++ [Value.slice l[i].ps.A l[i].ps.l.length l[i].ps.c, strV l[i].note])[o]? = some v) :
    w.cell? ⟨blkA A, offA A + i * 34 + o, none⟩ = some v := by
  have hg := kCom.get l i hi
  have hc : (EV.st [.val (sumV l[i].root), l[i].ps.av, .val (strV l[i].note)]).v.cells.toList = (l[i].root.l.map u8V) ++ [Value.slice l[i].ps.A l[i].ps.l.length l[i].ps.c, strV l[i].note] := by
    simp [EV.v, flat, AV.v, Value.cells, sumV]
  have hlen : ((l[i].root.l.map u8V) ++ [Value.slice l[i].ps.A l[i].ps.l.length l[i].ps.c, strV l[i].note]).length = 34 := by simp [l[i].root.h]
  have ho : o < 34 := by rw [← hlen]; exact (List.getElem?_eq_some_iff.1 hv).1
  have h1 : (((l.flatMap kCom.cs).drop (i * kCom.sz)).take kCom.sz)[o]? = some v := by
    rw [hg, ← hv]
    show ((EV.st [.val (sumV l[i].root), l[i].ps.av, .val (strV l[i].note)]).v.cells.toList)[o]? = _
    rw [hc]
  have hsz : kCom.sz = 34 := rfl
  rw [List.getElem?_take, if_pos (by rw [hsz]; exact ho), List.getElem?_drop] at h1
  have := h.cells _ _ h1
  rw [← Nat.add_assoc] at this
  exact this
theorem Sl.roots {w : World} {A : Option Addr} {c : Nat} {l : List Com} (h : Sl kCom w A c l) {i : Nat} (hi : i < l.length) :
    (loadVar 39 ⟨blkA A, offA A + i * 34, none⟩).run Tryz.prog w = .ok (sumV l[i].root) w := by
  refine V.run_load tb_ok (vok_sum _) fun j v hv => ?_
  refine com_part h hi j v ?_
  have hc : (sumV l[i].root).cells.toList = l[i].root.l.map u8V := by simp [sumV, Value.cells]
  rw [hc] at hv
  rw [List.getElem?_append_left (List.getElem?_eq_some_iff.1 hv).1]
  exact hv
theorem Sl.notes {w : World} {A : Option Addr} {c : Nat} {l : List Com} (h : Sl kCom w A c l) {i : Nat} (hi : i < l.length) :
    (loadVar 9 ⟨blkA A, offA A + i * 34 + 33, none⟩).run Tryz.prog w = .ok (strV l[i].note) w := by
  refine V.run_load tb_ok ⟨rfl, Tryz.t9, rfl, rfl⟩ fun j v hv => ?_
  cases j with
  | succ j => simp [strV, Value.cells] at hv
  | zero =>
    have hv : some (strV l[i].note) = some v := hv
    refine com_part h hi 33 v ?_
    rw [List.getElem?_append_right (by rw [List.length_map, l[i].root.h]; decide), List.length_map, l[i].root.h]
    exact hv
end Go.Proofs.YtagnkcdhenilbaaGreatDoor
