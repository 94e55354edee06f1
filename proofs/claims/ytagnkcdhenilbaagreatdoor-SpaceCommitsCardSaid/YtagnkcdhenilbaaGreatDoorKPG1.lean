/-
A part of the proofs of the laws of a seat: contracts of functions and lemmas on them; the listed package variables hold what the program's text lays. No further condition.
-/
import Derived.Test.YtagnkcdhenilbaaGreatDoorKPW7
set_option linter.unusedVariables false
set_option linter.unusedSectionVars false
set_option linter.unusedSimpArgs false
namespace Go.Proofs.YtagnkcdhenilbaaGreatDoor
open Go V

/-- A change. -/
structure Chg where
  kind : Int
  path : Str
  had : Bool
  has : Bool
  old : Sum
  new : Sum
deriving DecidableEq

def gF (nm : String) (t : TypeId) (o b : Nat) : Field := { name := nm, type := t, offset := o, embedded := false, tag := "", pkgPath := "", byteOffset := b }
end Go.Proofs.YtagnkcdhenilbaaGreatDoor

/-
The rounds of the digest, written with or, and with exclusive or: the same; no program.
-/
namespace Go.Proofs.YtagnkcdhenilbaaGreatDoor
open Go V

theorem ones_bit (x : UInt32) (i : Nat) (h : i < 32) : (notW x).toBitVec.getLsbD i = !x.toBitVec.getLsbD i := by
  unfold notW
  have h1 : (4294967295 ^^^ x : UInt32).toBitVec = BitVec.allOnes 32 ^^^ x.toBitVec := rfl
  rw [h1, BitVec.getLsbD_xor, BitVec.getLsbD_allOnes]
  simp [h]

theorem ch_eq (e f g : UInt32) : (e &&& f) ||| (notW e &&& g) = (e &&& f) ^^^ (notW e &&& g) := by
  refine UInt32.toBitVec_inj.1 (BitVec.eq_of_getLsbD_eq fun i hi => ?_)
  have h1 : ((e &&& f) ||| (notW e &&& g)).toBitVec = (e.toBitVec &&& f.toBitVec) ||| ((notW e).toBitVec &&& g.toBitVec) := rfl
  have h2 : ((e &&& f) ^^^ (notW e &&& g)).toBitVec = (e.toBitVec &&& f.toBitVec) ^^^ ((notW e).toBitVec &&& g.toBitVec) := rfl
  rw [h1, h2, BitVec.getLsbD_or, BitVec.getLsbD_xor, BitVec.getLsbD_and, BitVec.getLsbD_and, ones_bit e i hi]
  cases e.toBitVec.getLsbD i <;> cases f.toBitVec.getLsbD i <;> cases g.toBitVec.getLsbD i <;> rfl

theorem maj_eq (a b c : UInt32) : (a &&& b) ||| (a &&& c) ||| (b &&& c) = (a &&& b) ^^^ (a &&& c) ^^^ (b &&& c) := by
  refine UInt32.toBitVec_inj.1 (BitVec.eq_of_getLsbD_eq fun i hi => ?_)
  have h1 : ((a &&& b) ||| (a &&& c) ||| (b &&& c)).toBitVec = ((a.toBitVec &&& b.toBitVec) ||| (a.toBitVec &&& c.toBitVec)) ||| (b.toBitVec &&& c.toBitVec) := rfl
  have h2 : ((a &&& b) ^^^ (a &&& c) ^^^ (b &&& c)).toBitVec = ((a.toBitVec &&& b.toBitVec) ^^^ (a.toBitVec &&& c.toBitVec)) ^^^ (b.toBitVec &&& c.toBitVec) := rfl
  rw [h1, h2, BitVec.getLsbD_or, BitVec.getLsbD_xor, BitVec.getLsbD_or, BitVec.getLsbD_xor, BitVec.getLsbD_and, BitVec.getLsbD_and, BitVec.getLsbD_and]
  cases a.toBitVec.getLsbD i <;> cases b.toBitVec.getLsbD i <;> cases c.toBitVec.getLsbD i <;> rfl

/-- As the reference has it. -/
def turnR (x : UInt32) (n : Nat) : UInt32 := shrW x n ||| shlW x (32 - n)
theorem turnR_eq (x : UInt32) (n : Nat) : turnR x n = rotW x n := UInt32.or_comm _ _
def pR (W h : List UInt32) (i : Nat) : UInt32 :=
  gW h 7 + (rotW (gW h 4) 6 ^^^ rotW (gW h 4) 11 ^^^ rotW (gW h 4) 25) + ((gW h 4 &&& gW h 5) ||| (notW (gW h 4) &&& gW h 6)) + gW constW i + gW W i
def qR (h : List UInt32) : UInt32 :=
  (rotW (gW h 0) 2 ^^^ rotW (gW h 0) 13 ^^^ rotW (gW h 0) 22) + ((gW h 0 &&& gW h 1) ||| (gW h 0 &&& gW h 2) ||| (gW h 1 &&& gW h 2))
def stepR (W : List UInt32) (i : Nat) (h : List UInt32) : List UInt32 :=
  [pR W h i + qR h, gW h 0, gW h 1, gW h 2, gW h 3 + pR W h i, gW h 4, gW h 5, gW h 6]

theorem stepR_eq (W : List UInt32) (i : Nat) {h : List UInt32} (h8 : h.length = 8) : stepR W i h = stepW W i h := by
  obtain ⟨a, b, c, d, e, f, g, k, rfl⟩ : ∃ a b c d e f g k, h = [a, b, c, d, e, f, g, k] := by
    match h, h8 with
    | [a, b, c, d, e, f, g, k], _ => exact ⟨a, b, c, d, e, f, g, k, rfl⟩
  unfold stepR stepW pR qR tempA roundA roundB
  rw [ch_eq, maj_eq]
  simp [shiftW, sumW, mixW, gW]

/-- A word of the block, as the reference has it. -/
def nextR (n : Nat) (ws : List UInt32) : UInt32 :=
  gW ws n + gW ws (n + 9) + (rotW (gW ws (n + 1)) 7 ^^^ rotW (gW ws (n + 1)) 18 ^^^ shrW (gW ws (n + 1)) 3) + (rotW (gW ws (n + 14)) 17 ^^^ rotW (gW ws (n + 14)) 19 ^^^ shrW (gW ws (n + 14)) 10)
theorem nextR_eq (n : Nat) (ws : List UInt32) : nextR n ws = nextW n ws := by
  unfold nextR nextW
  simp [sumW, mixW, lowM, highM]
end Go.Proofs.YtagnkcdhenilbaaGreatDoor

namespace Go.Proofs.YtagnkcdhenilbaaGreatDoor
open Go V RowKit

theorem turn_spec (w : World) (x : UInt32) (n : Nat) (h1 : 0 < n) (h2 : n < 32) : Gives Tryz.prog 202 [u32V x, intV n] w (u32E (rotW x n)) := by
  refine enterH tb_ok [(0, u32E x), (1, intE n)] Tryz.func202 rfl Tryz.ntmps202 rfl rfl ?_
  refine RunH.adv tb_ok [] rfl rfl (by simp <;> omega) ?_
  refine RunH.draw rfl [] rfl 9 rfl rfl ?_
  refine RunD.adv tb_ok (by kernel_rfl) [] rfl rfl (by simp <;> omega) ?_
  refine RunD.done (.inl rfl) (by kernel_rfl) ?_
  refine RunH.adv tb_ok [] rfl rfl (by simp <;> omega) ?_
  refine RunH.ret1 Tryz.func202 rfl rfl fun w' hst => ⟨?_, hst.fact⟩
  rw [← turnR_eq]
  unfold turnR u32E u32V
  rw [w_or, w_shr x n h2, w_shl x (32 - n) (by omega), show ((32 - n : Nat) : Int) = 32 - (n : Int) by omega]

theorem constant_spec (w : World) (i : Nat) (hi : i < 64) : Gives Tryz.prog 203 [intV i] w (u32E (gW constW i)) := by
  refine enterH tb_ok [(0, intE i)] Tryz.func203 rfl Tryz.ntmps203 rfl rfl ?_
  refine RunH.adv tb_ok [] rfl rfl (by simp <;> omega) ?_
  refine RunH.read (.av (.val (wsV constW))) rfl rfl rfl rfl (fun u q _ ha => ?_) ?_
  · simp only [execOp, List.map_toArray, List.map_cons, List.map_nil, Sem.run_bind]
    rw [run_build u _ _ (wsC constW) (by kernel_rfl)]
    rfl
  refine RunH.adv tb_ok [] rfl rfl (by simp <;> omega) ?_
  refine RunH.read (u32E (gW constW i)) rfl rfl rfl rfl (fun u q _ ha => ?_) ?_
  · have e1 : q.eval (.tmp 3) = wsV constW := ev_run (e := .av (.val (wsV constW))) ha rfl
    have e2 : q.eval (.tmp 4) = .int .i64 (i : Int) := ev_run (e := intE i) ha rfl
    simp only [execOp, e1, e2, index_ws constW rfl i hi, Sem.run_bind, Result.andThen_ok, Sem.run_pure]
    rfl
  refine RunH.adv tb_ok [] rfl rfl (by simp <;> omega) ?_
  refine RunH.ret1 Tryz.func203 rfl rfl fun w' hst => ⟨rfl, hst.fact⟩

theorem First_spec (w : World) : Gives Tryz.prog 167 [] w (.av (.val (wsV beginW))) := by
  refine enterH tb_ok [] Tryz.func167 rfl Tryz.ntmps167 rfl rfl ?_
  refine RunH.adv tb_ok [] rfl rfl ?_ ?_
  · first | exact ⟨⟨rfl, List.all_eq_true.1 (by kernel_rfl)⟩, trivial⟩ | trivial
  refine RunH.read (.av (.val (wsV beginW))) rfl rfl rfl rfl (fun u q _ ha => ?_) ?_
  · simp only [execOp, List.map_toArray, List.map_cons, List.map_nil, Sem.run_bind]
    rw [run_build u _ _ (wsC beginW) (by kernel_rfl)]
    rfl
  refine RunH.adv tb_ok [] rfl rfl ?_ ?_
  · first | exact ⟨⟨rfl, List.all_eq_true.1 (by kernel_rfl)⟩, trivial⟩ | trivial
  exact RunH.retBox tb_ok (.av (.val (wsV beginW))) Tryz.func167 rfl rfl rfl rfl fun w' hst => ⟨rfl, hst.fact⟩
end Go.Proofs.YtagnkcdhenilbaaGreatDoor

namespace Go.Proofs.YtagnkcdhenilbaaGreatDoor
open Go V RowKit
def addR (v : List UInt32) (n : Nat) (h : List UInt32) : List UInt32 := iterN (fun i h => h.set i (gW h i + gW v i)) n h
theorem addR_len (v : List UInt32) (n : Nat) {h : List UInt32} (h8 : h.length = 8) : (addR v n h).length = 8 :=
  iterN_inv (p := fun (x : List UInt32) => x.length = 8) (fun i x hx => by rw [List.length_set]; exact hx) n h h8
theorem addR_eq8 {v h : List UInt32} (hv : v.length = 8) (hh : h.length = 8) : addR v 8 h = addW h 8 v := by
  obtain ⟨a, b, c, d, e, f, g, k, rfl⟩ : ∃ a b c d e f g k, h = [a, b, c, d, e, f, g, k] := by
    match h, hh with
    | [a, b, c, d, e, f, g, k], _ => exact ⟨a, b, c, d, e, f, g, k, rfl⟩
  obtain ⟨a', b', c', d', e', f', g', k', rfl⟩ : ∃ a b c d e f g k, v = [a, b, c, d, e, f, g, k] := by
    match v, hv with
    | [a, b, c, d, e, f, g, k], _ => exact ⟨a, b, c, d, e, f, g, k, rfl⟩
  simp [addR, addW, iterN, gW, sumW, UInt32.add_comm]
set_option maxRecDepth 10000 in
set_option maxHeartbeats 2000000 in
theorem TakenR_spec (w : World) (old : List UInt32) (h8 : old.length = 8) (A : Option Addr) (c : Nat) (blk : List UInt8) (hb : Sl kByte w A c blk) (h64 : blk.length = 64) : Gives Tryz.prog 188 [wsV old, .slice A blk.length c] w (.av (.val (wsV (takenW old blk)))) := by
  have hl : lim = 140737488351232 := rfl
  have hcap := hb.cap
  have hptr := hb.ptr (i := 0) (by omega)
  refine enterH tb_ok [(0, .av (.val (wsV old))), (1, slE A blk.length c)] Tryz.func188 rfl Tryz.ntmps188 rfl rfl ?_
  refine RunH.adv tb_ok [] rfl rfl ⟨⟨rfl, List.all_eq_true.1 (by kernel_rfl)⟩, ⟨rfl, List.all_eq_true.1 (by kernel_rfl)⟩, ⟨by unfold wsC; simp [h8]; rfl, wsC_one old⟩, trivial⟩ ?_
  refine RunH.boxObj (id := 0) (wsC old) rfl (boxCells_ws old) ?_
  refine RunH.boxObj (id := 2) (wsC (firstW blk 0)) rfl (by show boxCells [.val (.agg (wsC (List.replicate 64 0)))] = _; exact boxCells_ws _) ?_
  refine RunH.loop (α := Nat) (fun i => [(2, .av (.box 0 w.heap.size 0)), (4, .av (.box 1 (w.heap.size + 1) 0)), (5, .av (.box 2 (w.heap.size + 1 + 1) 0)), (1, slE A blk.length c), (6, intE i)]) (fun i => [(0, wsE w.heap.size 201 old), (1, some (.box (w.heap.size + 1) [.val (wsV (List.replicate 8 0))] 201)), (2, wsE (w.heap.size + 1 + 1) 240 (firstW blk i))]) (fun i u => Ext w u ∧ i ≤ 16) (fun i => 16 - i) 0 rfl rfl (fun u hu => ⟨hu, by decide⟩) ?_
  intro i m
  refine RunH.pure (fun u hu => hu.2) fun hi => ?_
  by_cases hlt : i < 16
  · refine RunH.adv tb_ok [true] rfl rfl (by simp <;> omega) ?_
    refine RunH.loop (α := Nat) (fun j => [(2, .av (.box 0 w.heap.size 0)), (4, .av (.box 1 (w.heap.size + 1) 0)), (5, .av (.box 2 (w.heap.size + 1 + 1) 0)), (1, slE A blk.length c), (6, intE i), (7, intE j)]) (fun j => [(0, wsE w.heap.size 201 old), (1, some (.box (w.heap.size + 1) [.val (wsV (List.replicate 8 0))] 201)), (2, wsE (w.heap.size + 1 + 1) 240 (innW blk i j (firstW blk i)))]) (fun j u => Ext w u ∧ j ≤ 4) (fun j => 4 - j) 0 rfl rfl (fun u hu => ⟨hu.1, by decide⟩) ?_
    intro j m
    refine RunH.pure (fun u hu => hu.2) fun hj => ?_
    have hlen : (innW blk i j (firstW blk i)).length = 64 := by rw [innW_len, firstW_len]
    have hnext : (innW blk i j (firstW blk i)).set i (shlW (gW (innW blk i j (firstW blk i)) i) 8 ||| b2w (byteAt blk (4 * i + j))) = innW blk i (j + 1) (firstW blk i) := rfl
    by_cases hjt : j < 4
    · refine RunH.adv tb_ok [true] rfl rfl (by simp <;> omega) ?_
      generalize hWe : innW blk i j (firstW blk i) = W at *
      have e4 : (4 : Int) * i + j = ((4 * i + j : Nat) : Int) := by omega
      have hp4 : Ptr A := hptr
      refine RunH.draw rfl [(2, wsE (w.heap.size + 1 + 1) 240 W)] rfl 16 rfl rfl ?_
      refine RunD.adv tb_ok (by kernel_rfl) [] rfl rfl (by simp [hp4] <;> omega) ?_
      refine RunD.loadG (by kernel_rfl) (i := 3) (u32E (gW W i)) rfl rfl rfl rfl rfl rfl (fun u hu => load_wsAt (hu.holds 2 _ rfl).2 (i) (by omega) _ rfl) ?_
      refine RunD.adv tb_ok (by kernel_rfl) [] rfl rfl (by simp [hp4] <;> omega) ?_
      refine RunD.load (by kernel_rfl) (i := 11) (.av (.val (u8V (byteAt blk (4 * i + j))))) rfl rfl rfl rfl rfl rfl (fun u hu => ?_) ?_
      · have h1 := (hb.ext hu.1).load (i := 4 * i + j) (by omega)
        have e5 : byteAt blk (4 * i + j) = blk[4 * i + j] := by unfold byteAt; simp [h64, show 4 * i + j < 64 by omega]
        have e6 : ((4 : Int) * i + j).toNat = 4 * i + j := by omega
        have e7 : offA A + ((4 : Int) * i + j).toNat * (Tryz.t5).size = offA A + (4 * i + j) * kByte.sz := by rw [e6]; rfl
        rw [e5, e7]
        exact h1
      refine RunD.adv tb_ok (by kernel_rfl) [] rfl rfl (by simp <;> omega) ?_
      refine RunD.lastW (i := 15) (id := 2) (ws := W) i (shlW (gW W i) 8 ||| b2w (byteAt blk (4 * i + j))) rfl (by kernel_rfl) rfl (by kernel_rfl) (by kernel_rfl) rfl rfl rfl (by omega) rfl (by unfold u32V; rw [w_or, w_shl _ 8 (by decide), w_byte]; rfl) ?_
      intro m2 hm2
      rw [hnext]
      refine RunH.adv tb_ok [] rfl rfl (by simp <;> omega) ?_
      exact RunH.again (j + 1) (.head _) rfl rfl (by show 4 - (j + 1) < 4 - j; omega) fun u hu => ⟨hu.1, hjt⟩
    · have hj4 : j = 4 := by omega
      subst hj4
      refine RunH.adv tb_ok [false] rfl rfl (by simp <;> omega) ?_
      exact RunH.again (i + 1) (.tail _ (.head _)) rfl rfl (by show 16 - (i + 1) < 16 - i; omega) fun u hu => ⟨hu.1, hlt⟩
  · have hi16 : i = 16 := by omega
    subst hi16
    refine RunH.adv tb_ok [false] rfl rfl (by simp <;> omega) ?_
    refine RunH.loop (α := Nat) (fun n => [(2, .av (.box 0 w.heap.size 0)), (4, .av (.box 1 (w.heap.size + 1) 0)), (5, .av (.box 2 (w.heap.size + 1 + 1) 0)), (8, intE (n + 16 : Nat))]) (fun n => [(0, wsE w.heap.size 201 old), (1, some (.box (w.heap.size + 1) [.val (wsV (List.replicate 8 0))] 201)), (2, wsE (w.heap.size + 1 + 1) 240 (extW n (firstW blk 16)))]) (fun n u => Ext w u ∧ n ≤ 48) (fun n => 48 - n) 0 rfl rfl (fun u hu => ⟨hu.1, by decide⟩) ?_
    intro n m2
    refine RunH.pure (fun u hu => hu.2) fun hn => ?_
    have hlen : (extW n (firstW blk 16)).length = 64 := by rw [extW_len, firstW_len]
    have hnext : (extW n (firstW blk 16)).set (n + 16) (nextW n (extW n (firstW blk 16))) = extW (n + 1) (firstW blk 16) := rfl
    by_cases hnt : n < 48
    · refine RunH.adv tb_ok [true] rfl rfl (by simp <;> omega) ?_
      generalize hW : extW n (firstW blk 16) = W at *
      refine RunH.draw rfl [(2, wsE (w.heap.size + 1 + 1) 240 W)] rfl 10 rfl rfl ?_
      refine RunD.adv tb_ok (by kernel_rfl) [] rfl rfl (by simp <;> omega) ?_
      refine RunD.loadG (by kernel_rfl) (i := 3) (u32E (gW W (n + 1))) rfl rfl rfl rfl rfl rfl (fun u hu => load_wsAt (hu.holds 2 _ rfl).2 (n + 1) (by omega) _ (by show (((n + 16 : Nat) : Int) - 15).toNat * 1 = (n + 1) * 1; omega)) ?_
      refine RunD.adv tb_ok (by kernel_rfl) [] rfl rfl (by simp <;> omega) ?_
      refine RunD.loadG (by kernel_rfl) (i := 7) (u32E (gW W (n + 14))) rfl rfl rfl rfl rfl rfl (fun u hu => load_wsAt (hu.holds 2 _ rfl).2 (n + 14) (by omega) _ (by show (((n + 16 : Nat) : Int) - 2).toNat * 1 = (n + 14) * 1; omega)) ?_
      refine RunD.adv tb_ok (by kernel_rfl) [] rfl rfl (by simp <;> omega) ?_
      refine RunD.done (.inl rfl) (by kernel_rfl) ?_
      refine RunH.adv tb_ok [] rfl rfl (by simp <;> omega) ?_
      refine RunH.draw rfl [(2, wsE (w.heap.size + 1 + 1) 240 W)] rfl 30 rfl rfl ?_
      refine RunD.adv tb_ok (by kernel_rfl) [] rfl rfl (by simp <;> omega) ?_
      refine RunD.loadG (by kernel_rfl) (i := 4) (u32E (gW W n)) rfl rfl rfl rfl rfl rfl (fun u hu => load_wsAt (hu.holds 2 _ rfl).2 (n) (by omega) _ (by show (((n + 16 : Nat) : Int) - 16).toNat * 1 = n * 1; omega)) ?_
      refine RunD.adv tb_ok (by kernel_rfl) [] rfl rfl (by simp <;> omega) ?_
      refine RunD.loadG (by kernel_rfl) (i := 8) (u32E (gW W (n + 9))) rfl rfl rfl rfl rfl rfl (fun u hu => load_wsAt (hu.holds 2 _ rfl).2 (n + 9) (by omega) _ (by show (((n + 16 : Nat) : Int) - 7).toNat * 1 = (n + 9) * 1; omega)) ?_
      refine RunD.adv tb_ok (by kernel_rfl) [] rfl rfl (by simp <;> omega) ?_
      refine RunD.gives (i := 11) (u32E (rotW (gW W (n + 1)) 7)) rfl (by kernel_rfl) rfl rfl rfl rfl Tryz.call202 (fun u _ => turn_spec u _ 7 (by decide) (by decide)) rfl (fun _ h => h) ?_
      intro mt11 hmt11
      refine RunD.adv tb_ok (by kernel_rfl) [] rfl rfl (by simp <;> omega) ?_
      refine RunD.gives (i := 13) (u32E (rotW (gW W (n + 1)) 18)) rfl (by kernel_rfl) rfl rfl rfl rfl Tryz.call202 (fun u _ => turn_spec u _ 18 (by decide) (by decide)) rfl (fun _ h => h) ?_
      intro mt13 hmt13
      refine RunD.adv tb_ok (by kernel_rfl) [] rfl rfl (by simp <;> omega) ?_
      refine RunD.gives (i := 20) (u32E (rotW (gW W (n + 14)) 17)) rfl (by kernel_rfl) rfl rfl rfl rfl Tryz.call202 (fun u _ => turn_spec u _ 17 (by decide) (by decide)) rfl (fun _ h => h) ?_
      intro mt20 hmt20
      refine RunD.adv tb_ok (by kernel_rfl) [] rfl rfl (by simp <;> omega) ?_
      refine RunD.gives (i := 22) (u32E (rotW (gW W (n + 14)) 19)) rfl (by kernel_rfl) rfl rfl rfl rfl Tryz.call202 (fun u _ => turn_spec u _ 19 (by decide) (by decide)) rfl (fun _ h => h) ?_
      intro mt22 hmt22
      refine RunD.adv tb_ok (by kernel_rfl) [] rfl rfl (by simp <;> omega) ?_
      refine RunD.lastW (i := 29) (id := 2) (ws := W) (n + 16) (nextW n W) rfl (by kernel_rfl) rfl (by kernel_rfl) (by kernel_rfl) rfl rfl rfl (by omega) rfl (by rw [← nextR_eq]; unfold nextR u32V; rw [w_add, w_add, w_add, w_xor, w_xor, w_xor, w_xor, w_shr _ 3 (by decide), w_shr _ 10 (by decide)]; rfl) ?_
      intro m6 hm6
      refine RunH.adv tb_ok [] rfl rfl (by simp <;> omega) ?_
      rw [hnext]
      exact RunH.again (n + 1) (.head _) rfl rfl (by show 48 - (n + 1) < 48 - n; omega) fun u hu => ⟨hu.1, hnt⟩
    · have hn48 : n = 48 := by omega
      subst hn48
      have hsp : spreadW blk = extW 48 (firstW blk 16) := rfl
      have htk : takenW old blk = addW old 8 (roundsW (spreadW blk) 64 old) := rfl
      rw [← hsp] at hlen
      rw [htk]
      show RunH _ _ _ _ _ _ _ _ _ [(0, wsE w.heap.size 201 old), (1, some (.box (w.heap.size + 1) [.val (wsV (List.replicate 8 0))] 201)), (2, wsE (w.heap.size + 1 + 1) 240 (spreadW blk))] _ _ _
      generalize spreadW blk = W at *
      clear hsp
      refine RunH.adv tb_ok [false] rfl rfl (by simp <;> omega) ?_
      refine RunH.loadS (.av (.val (wsV old))) rfl rfl rfl rfl (fun u hu => load_w8 (hu.holds 0 _ rfl).2 h8) ?_
      refine RunH.adv tb_ok [] rfl rfl ⟨⟨by unfold wsC; simp [h8]; rfl, wsC_one old⟩, ⟨rfl, List.all_eq_true.1 (by kernel_rfl)⟩, trivial⟩ ?_
      generalize hmv : m2 = mv at *
      refine RunH.boxObj (id := 3) (wsC old) rfl (boxCells_ws old) ?_
      refine RunH.loop (α := Nat) (fun i => [(2, .av (.box 0 w.heap.size 0)), (4, .av (.box 1 (w.heap.size + 1) 0)), (5, .av (.box 2 (w.heap.size + 1 + 1) 0)), (11, .av (.box 3 mv 0)), (12, intE i)]) (fun i => [(0, wsE w.heap.size 201 old), (1, some (.box (w.heap.size + 1) [.val (wsV (List.replicate 8 0))] 201)), (2, wsE (w.heap.size + 1 + 1) 240 W), (3, wsE mv 201 (roundsW W i old))]) (fun i u => Ext w u ∧ i ≤ 64) (fun i => 64 - i) 0 rfl rfl (fun u hu => ⟨hu.1, by decide⟩) ?_
      intro i m4
      refine RunH.pure (fun u hu => hu.2) fun hi => ?_
      have hh8 : (roundsW W i old).length = 8 := roundsW_len W i h8
      by_cases hlt : i < 64
      · have hnext : stepR W i (roundsW W i old) = roundsW W (i + 1) old := stepR_eq W i hh8
        generalize hhe : roundsW W i old = h at *
        refine RunH.adv tb_ok [true] rfl rfl (by simp <;> omega) ?_
        refine RunH.draw rfl [(3, wsE mv 201 h)] rfl 18 rfl rfl ?_
        refine RunD.adv tb_ok (by kernel_rfl) [] rfl rfl (by simp <;> omega) ?_
        refine RunD.loadG (by kernel_rfl) (i := 1) (u32E (gW h 0)) rfl rfl rfl rfl rfl rfl (fun u hu => load_wsAt (hu.holds 3 _ rfl).2 (0) (by omega) _ rfl) ?_
        refine RunD.adv tb_ok (by kernel_rfl) [] rfl rfl (by simp <;> omega) ?_
        refine RunD.loadG (by kernel_rfl) (i := 3) (u32E (gW h 1)) rfl rfl rfl rfl rfl rfl (fun u hu => load_wsAt (hu.holds 3 _ rfl).2 (1) (by omega) _ rfl) ?_
        refine RunD.adv tb_ok (by kernel_rfl) [] rfl rfl (by simp <;> omega) ?_
        refine RunD.loadG (by kernel_rfl) (i := 5) (u32E (gW h 2)) rfl rfl rfl rfl rfl rfl (fun u hu => load_wsAt (hu.holds 3 _ rfl).2 (2) (by omega) _ rfl) ?_
        refine RunD.adv tb_ok (by kernel_rfl) [] rfl rfl (by simp <;> omega) ?_
        refine RunD.loadG (by kernel_rfl) (i := 7) (u32E (gW h 4)) rfl rfl rfl rfl rfl rfl (fun u hu => load_wsAt (hu.holds 3 _ rfl).2 (4) (by omega) _ rfl) ?_
        refine RunD.adv tb_ok (by kernel_rfl) [] rfl rfl (by simp <;> omega) ?_
        refine RunD.loadG (by kernel_rfl) (i := 9) (u32E (gW h 5)) rfl rfl rfl rfl rfl rfl (fun u hu => load_wsAt (hu.holds 3 _ rfl).2 (5) (by omega) _ rfl) ?_
        refine RunD.adv tb_ok (by kernel_rfl) [] rfl rfl (by simp <;> omega) ?_
        refine RunD.loadG (by kernel_rfl) (i := 11) (u32E (gW h 6)) rfl rfl rfl rfl rfl rfl (fun u hu => load_wsAt (hu.holds 3 _ rfl).2 (6) (by omega) _ rfl) ?_
        refine RunD.adv tb_ok (by kernel_rfl) [] rfl rfl (by simp <;> omega) ?_
        refine RunD.done (.inl rfl) (by kernel_rfl) ?_
        refine RunH.adv tb_ok [] rfl rfl (by simp <;> omega) ?_
        refine RunH.tell [(13, u32E (gW h 0)), (14, u32E (gW h 1)), (15, u32E (gW h 2)), (16, u32E (gW h 4)), (17, u32E (gW h 5)), (18, u32E (gW h 6)), (12, intE i), (2, .av (.box 0 w.heap.size 0)), (4, .av (.box 1 (w.heap.size + 1) 0)), (5, .av (.box 2 (w.heap.size + 1 + 1) 0)), (11, .av (.box 3 mv 0))] [(0, wsE w.heap.size 201 old), (1, some (.box (w.heap.size + 1) [.val (wsV (List.replicate 8 0))] 201)), (2, wsE (w.heap.size + 1 + 1) 240 W), (3, wsE mv 201 h)] [] rfl rfl rfl 4 ?_
        refine RunH.draw rfl [(2, wsE (w.heap.size + 1 + 1) 240 W), (3, wsE mv 201 h)] rfl 28 rfl rfl ?_
        refine RunD.adv tb_ok (by kernel_rfl) [] rfl rfl (by simp <;> omega) ?_
        refine RunD.loadG (by kernel_rfl) (i := 1) (u32E (gW h 7)) rfl rfl rfl rfl rfl rfl (fun u hu => load_wsAt (hu.holds 3 _ rfl).2 (7) (by omega) _ rfl) ?_
        refine RunD.adv tb_ok (by kernel_rfl) [] rfl rfl (by simp <;> omega) ?_
        refine RunD.loadG (by kernel_rfl) (i := 25) (u32E (gW W i)) rfl rfl rfl rfl rfl rfl (fun u hu => load_wsAt (hu.holds 2 _ rfl).2 (i) (by omega) _ rfl) ?_
        refine RunD.adv tb_ok (by kernel_rfl) [] rfl rfl (by simp <;> omega) ?_
        refine RunD.gives (i := 3) (u32E (rotW (gW h 4) 6)) rfl (by kernel_rfl) rfl rfl rfl rfl Tryz.call202 (fun u _ => turn_spec u _ 6 (by decide) (by decide)) rfl (fun _ h => h) ?_
        intro mt3 hmt3
        refine RunD.adv tb_ok (by kernel_rfl) [] rfl rfl (by simp <;> omega) ?_
        refine RunD.gives (i := 5) (u32E (rotW (gW h 4) 11)) rfl (by kernel_rfl) rfl rfl rfl rfl Tryz.call202 (fun u _ => turn_spec u _ 11 (by decide) (by decide)) rfl (fun _ h => h) ?_
        intro mt5 hmt5
        refine RunD.adv tb_ok (by kernel_rfl) [] rfl rfl (by simp <;> omega) ?_
        refine RunD.gives (i := 8) (u32E (rotW (gW h 4) 25)) rfl (by kernel_rfl) rfl rfl rfl rfl Tryz.call202 (fun u _ => turn_spec u _ 25 (by decide) (by decide)) rfl (fun _ h => h) ?_
        intro mt8 hmt8
        refine RunD.adv tb_ok (by kernel_rfl) [] rfl rfl (by simp <;> omega) ?_
        refine RunD.gives (i := 21) (u32E (gW constW i)) rfl (by kernel_rfl) rfl rfl rfl rfl Tryz.call203 (fun u _ => constant_spec u i hlt) rfl (fun _ h => h) ?_
        intro mc hmc
        refine RunD.adv tb_ok (by kernel_rfl) [] rfl rfl (by simp <;> omega) ?_
        refine RunD.done (.inl rfl) (by kernel_rfl) ?_
        refine RunH.tell [(19, u32E (pR W h i)), (13, u32E (gW h 0)), (14, u32E (gW h 1)), (15, u32E (gW h 2)), (16, u32E (gW h 4)), (17, u32E (gW h 5)), (18, u32E (gW h 6)), (12, intE i), (2, .av (.box 0 w.heap.size 0)), (4, .av (.box 1 (w.heap.size + 1) 0)), (5, .av (.box 2 (w.heap.size + 1 + 1) 0)), (11, .av (.box 3 mv 0))] [(0, wsE w.heap.size 201 old), (1, some (.box (w.heap.size + 1) [.val (wsV (List.replicate 8 0))] 201)), (2, wsE (w.heap.size + 1 + 1) 240 W), (3, wsE mv 201 h)] [] (by unfold pR u32E u32V; rw [w_add, w_add, w_add, w_add, w_xor, w_xor, w_or, w_and, w_and, w_not]; rfl) rfl rfl 4 ?_
        generalize hpe : pR W h i = p at *
        refine RunH.adv tb_ok [] rfl rfl (by simp <;> omega) ?_
        refine RunH.gives (ho := rfl) (hw := rfl) (hd := rfl) (hf := rfl) (hes := rfl) (hc := Tryz.call202) (e := u32E (rotW (gW h 0) 2)) (hC := fun u _ => turn_spec u _ 2 (by decide) (by decide)) ?_
        intro mu2 hmu2
        refine RunH.adv tb_ok [] rfl rfl (by simp <;> omega) ?_
        refine RunH.gives (ho := rfl) (hw := rfl) (hd := rfl) (hf := rfl) (hes := rfl) (hc := Tryz.call202) (e := u32E (rotW (gW h 0) 13)) (hC := fun u _ => turn_spec u _ 13 (by decide) (by decide)) ?_
        intro mu13 hmu13
        refine RunH.adv tb_ok [] rfl rfl (by simp <;> omega) ?_
        refine RunH.gives (ho := rfl) (hw := rfl) (hd := rfl) (hf := rfl) (hes := rfl) (hc := Tryz.call202) (e := u32E (rotW (gW h 0) 22)) (hC := fun u _ => turn_spec u _ 22 (by decide) (by decide)) ?_
        intro mu22 hmu22
        refine RunH.adv tb_ok [] rfl rfl (by simp <;> omega) ?_
        refine RunH.tell [(152, u32E (p + qR h)), (153, .av (.box 3 mv 0)), (19, u32E p), (13, u32E (gW h 0)), (14, u32E (gW h 1)), (15, u32E (gW h 2)), (16, u32E (gW h 4)), (17, u32E (gW h 5)), (18, u32E (gW h 6)), (12, intE i), (2, .av (.box 0 w.heap.size 0)), (4, .av (.box 1 (w.heap.size + 1) 0)), (5, .av (.box 2 (w.heap.size + 1 + 1) 0)), (11, .av (.box 3 mv 0))] [(0, wsE w.heap.size 201 old), (1, some (.box (w.heap.size + 1) [.val (wsV (List.replicate 8 0))] 201)), (2, wsE (w.heap.size + 1 + 1) 240 W), (3, wsE mv 201 h)] [] (by unfold qR u32E u32V; rw [w_add, w_add, w_xor, w_xor, w_or, w_or, w_and, w_and, w_and]; rfl) rfl rfl 4 ?_
        generalize hqe : qR h = q at *
        refine RunH.loadS (u32E (gW h 0)) rfl rfl rfl rfl (fun u hu => load_wsAt (hu.holds 3 _ rfl).2 0 (by omega) _ rfl) ?_
        refine RunH.adv tb_ok [] rfl rfl (by simp <;> omega) ?_
        refine RunH.loadS (u32E (gW h 1)) rfl rfl rfl rfl (fun u hu => load_wsAt (hu.holds 3 _ rfl).2 1 (by omega) _ rfl) ?_
        refine RunH.adv tb_ok [] rfl rfl (by simp <;> omega) ?_
        refine RunH.loadS (u32E (gW h 2)) rfl rfl rfl rfl (fun u hu => load_wsAt (hu.holds 3 _ rfl).2 2 (by omega) _ rfl) ?_
        refine RunH.adv tb_ok [] rfl rfl (by simp <;> omega) ?_
        refine RunH.loadS (u32E (gW h 3)) rfl rfl rfl rfl (fun u hu => load_wsAt (hu.holds 3 _ rfl).2 3 (by omega) _ rfl) ?_
        refine RunH.adv tb_ok [] rfl rfl (by simp <;> omega) ?_
        refine RunH.loadS (u32E (gW h 4)) rfl rfl rfl rfl (fun u hu => load_wsAt (hu.holds 3 _ rfl).2 4 (by omega) _ rfl) ?_
        refine RunH.adv tb_ok [] rfl rfl (by simp <;> omega) ?_
        refine RunH.loadS (u32E (gW h 5)) rfl rfl rfl rfl (fun u hu => load_wsAt (hu.holds 3 _ rfl).2 5 (by omega) _ rfl) ?_
        refine RunH.adv tb_ok [] rfl rfl (by simp <;> omega) ?_
        refine RunH.loadS (u32E (gW h 6)) rfl rfl rfl rfl (fun u hu => load_wsAt (hu.holds 3 _ rfl).2 6 (by omega) _ rfl) ?_
        refine RunH.adv tb_ok [] rfl rfl (by simp <;> omega) ?_
        have hst : stepR W i h = [p + q, gW h 0, gW h 1, gW h 2, gW h 3 + p, gW h 4, gW h 5, gW h 6] := by unfold stepR; rw [hpe, hqe]
        rw [hst] at hnext
        refine RunH.tell [(152, u32E (p + q)), (154, u32E (gW h 0)), (156, u32E (gW h 1)), (158, u32E (gW h 2)), (162, u32E (gW h 3 + p)), (164, u32E (gW h 4)), (166, u32E (gW h 5)), (168, u32E (gW h 6)), (12, intE i), (2, .av (.box 0 w.heap.size 0)), (4, .av (.box 1 (w.heap.size + 1) 0)), (5, .av (.box 2 (w.heap.size + 1 + 1) 0)), (11, .av (.box 3 mv 0))] [(0, wsE w.heap.size 201 old), (1, some (.box (w.heap.size + 1) [.val (wsV (List.replicate 8 0))] 201)), (2, wsE (w.heap.size + 1 + 1) 240 W), (3, wsE mv 201 h)] [] (by unfold u32E u32V; rw [w_add, w_add]; rfl) rfl rfl 4 ?_
        refine RunH.read (.av (.val (wsV [p + q, gW h 0, gW h 1, gW h 2, gW h 3 + p, gW h 4, gW h 5, gW h 6]))) rfl rfl rfl rfl (fun u k _ ha => ?_) ?_
        · have k0 : k.eval (.tmp 152) = u32V (p + q) := ev_run (e := u32E (p + q)) ha rfl
          have k1 : k.eval (.tmp 154) = u32V (gW h 0) := ev_run (e := u32E (gW h 0)) ha rfl
          have k2 : k.eval (.tmp 156) = u32V (gW h 1) := ev_run (e := u32E (gW h 1)) ha rfl
          have k3 : k.eval (.tmp 158) = u32V (gW h 2) := ev_run (e := u32E (gW h 2)) ha rfl
          have k4 : k.eval (.tmp 162) = u32V (gW h 3 + p) := ev_run (e := u32E (gW h 3 + p)) ha rfl
          have k5 : k.eval (.tmp 164) = u32V (gW h 4) := ev_run (e := u32E (gW h 4)) ha rfl
          have k6 : k.eval (.tmp 166) = u32V (gW h 5) := ev_run (e := u32E (gW h 5)) ha rfl
          have k7 : k.eval (.tmp 168) = u32V (gW h 6) := ev_run (e := u32E (gW h 6)) ha rfl
          simp only [execOp, List.map_toArray, List.map_cons, List.map_nil, Sem.run_bind, k0, k1, k2, k3, k4, k5, k6, k7]
          rw [run_build u _ _ (wsC [p + q, gW h 0, gW h 1, gW h 2, gW h 3 + p, gW h 4, gW h 5, gW h 6]) (by kernel_rfl)]
          rfl
        rw [hnext]
        refine RunH.objBox (id := 3) [.val (wsV h)] rfl (boxCells_ws _).symm ⟨_, rfl, vok_w8 hh8⟩ ?_
        have hn8 : (roundsW W (i + 1) old).length = 8 := roundsW_len W (i + 1) h8
        refine RunH.adv tb_ok [] rfl rfl ⟨by simp [Ob.P]; omega, ⟨by unfold wsC; simp [hn8]; rfl, wsC_one _⟩, trivial⟩ ?_
        refine RunH.boxObj (id := 3) (wsC (roundsW W (i + 1) old)) rfl (boxCells_ws _) ?_
        exact RunH.again (i + 1) (.head _) rfl rfl (by show 64 - (i + 1) < 64 - i; omega) fun u hu => ⟨hu.1, hlt⟩
      · have hi64 : i = 64 := by omega
        subst hi64
        refine RunH.adv tb_ok [false] rfl rfl (by simp <;> omega) ?_
        have hadd : addW old 8 (roundsW W 64 old) = addR (roundsW W 64 old) 8 old := (addR_eq8 hh8 h8).symm
        rw [hadd]
        generalize roundsW W 64 old = Rr at *
        refine RunH.loop (α := Nat) (fun i => [(2, .av (.box 0 w.heap.size 0)), (4, .av (.box 1 (w.heap.size + 1) 0)), (5, .av (.box 2 (w.heap.size + 1 + 1) 0)), (11, .av (.box 3 mv 0)), (21, intE i)]) (fun i => [(0, wsE w.heap.size 201 (addR Rr i old)), (1, some (.box (w.heap.size + 1) [.val (wsV (List.replicate 8 0))] 201)), (3, wsE mv 201 Rr)]) (fun i u => Ext w u ∧ i ≤ 8) (fun i => 8 - i) 0 rfl rfl (fun u hu => ⟨hu.1, by decide⟩) ?_
        intro i m5
        refine RunH.pure (fun u hu => hu.2) fun hi => ?_
        have hc8 : (addR Rr i old).length = 8 := addR_len Rr i h8
        by_cases hlt2 : i < 8
        · have hnext : (addR Rr i old).set i (gW (addR Rr i old) i + gW Rr i) = addR Rr (i + 1) old := rfl
          generalize addR Rr i old = cu at *
          refine RunH.adv tb_ok [true] rfl rfl (by simp <;> omega) ?_
          refine RunH.draw rfl [(0, wsE w.heap.size 201 cu), (3, wsE mv 201 Rr)] rfl 9 rfl rfl ?_
          refine RunD.adv tb_ok (by kernel_rfl) [] rfl rfl (by simp <;> omega) ?_
          refine RunD.loadG (by kernel_rfl) (i := 2) (u32E (gW cu i)) rfl rfl rfl rfl rfl rfl (fun u hu => load_wsAt (hu.holds 0 _ rfl).2 (i) (by omega) _ rfl) ?_
          refine RunD.adv tb_ok (by kernel_rfl) [] rfl rfl (by simp <;> omega) ?_
          refine RunD.loadG (by kernel_rfl) (i := 5) (u32E (gW Rr i)) rfl rfl rfl rfl rfl rfl (fun u hu => load_wsAt (hu.holds 3 _ rfl).2 (i) (by omega) _ rfl) ?_
          refine RunD.adv tb_ok (by kernel_rfl) [] rfl rfl (by simp <;> omega) ?_
          refine RunD.lastW (i := 8) (id := 0) (ws := cu) i (gW cu i + gW Rr i) rfl (by kernel_rfl) rfl (by kernel_rfl) (by kernel_rfl) rfl rfl rfl (by omega) rfl (by unfold u32V; rw [w_add]; rfl) ?_
          intro m7 hm7
          rw [hnext]
          refine RunH.adv tb_ok [] rfl rfl (by simp <;> omega) ?_
          exact RunH.again (i + 1) (.head _) rfl rfl (by show 8 - (i + 1) < 8 - i; omega) fun u hu => ⟨hu.1, hlt2⟩
        · have hi8 : i = 8 := by omega
          subst hi8
          refine RunH.objBox (id := 0) [.val (wsV (addR Rr 8 old))] rfl (boxCells_ws _).symm ⟨_, rfl, vok_w8 hc8⟩ ?_
          refine RunH.adv tb_ok [false] rfl rfl ⟨⟨by unfold wsC; simp [hc8]; rfl, wsC_one _⟩, by simp [Ob.P], trivial⟩ ?_
          exact RunH.retBox tb_ok (.av (.val (wsV (addR Rr 8 old)))) Tryz.func188 rfl rfl rfl rfl fun w' hst => ⟨rfl, hst.fact.1⟩
end Go.Proofs.YtagnkcdhenilbaaGreatDoor

namespace Go.Proofs.YtagnkcdhenilbaaGreatDoor
open Go V RowKit

theorem V.RunD.lastStepS {P : Program} {f : Fr} {n : Nat} {S : Stops} {R : Ending → World → Prop} {tb : TT} {B0 : Nat} {I : World → Prop} {H : Heap} {nx m : Nat} {env : SEnv} {k : List Item} {ops : Array Oper} {i : Nat} {l : List Bool} {G0 : Heap} {I0 : World → Prop} {o : Oper} (hk : tb.Ok P) {v : Option EV} {H' : Heap} {nx' m' : Nat} {ob : List Ob} {eq : List Eqn}
    (ho : ops.toList[i]? = some o) (hr : Region.ready .any ops l.toArray = [i]) (hw : wantE env ops o.guard = .yes) (hf : finB ops i = true) (hl : Region.ready .any ops (l.set i true).toArray = [])
    (hs : stepOp tb env H nx m [] [] o.op = some (v, H', nx', m', ob, eq)) (heq : AllEqn eq) (hob : AllOb ob) (hm : m ≤ m') {env' : SEnv} (hv : OutOk n v o.dst env env')
    (h : ∀ m1, m ≤ m1 → RunH P f n tb B0 S R k env' H' nx' m1 I) : RunD P f n tb B0 S R k ops G0 I0 (0 + 1) l env H nx m I := by
  refine RunD.last (E := fun _ : Unit => env') (G := fun _ => H') (F := fun _ => I) ho hr hw hf ?_ nx' hl fun _ m1 hm1 => h m1 hm1
  intro w a hmw hst ha
  unfold OutOk at hv
  obtain ⟨w', q1, q2, q3, _⟩ := stepOp_ok hk ha hst hmw hs hob heq
  unfold Oper.wp
  rw [q1]
  cases v with
  | none =>
    cases hd : o.dst with
    | none =>
      rw [hd] at hv
      have hv : env' = env := hv
      subst hv
      exact ⟨(), by rw [hd]; exact ha, by omega, q2⟩
    | some d => rw [hd] at hv; exact hv.elim
  | some e =>
    cases hd : o.dst with
    | none => rw [hd] at hv; exact hv.elim
    | some d =>
      rw [hd] at hv
      obtain ⟨hdn, rfl⟩ := hv
      refine ⟨(), ?_, by omega, q2⟩
      rw [kn_cons, hd]
      exact ha.put (Nat.lt_of_lt_of_le (Nat.lt_succ_self d) (Nat.le_of_ble_eq_true hdn)) _

/-- What is left of a list behind some blocks. -/
def leftZ (A : Option Addr) (c : Nat) : Nat → Option Addr × Nat
  | 0 => (A, c)
  | i + 1 => (subA (leftZ A c i).1 64 (leftZ A c i).2 1, (leftZ A c i).2 - 64)

theorem leftZ_sl {w : World} {A : Option Addr} {c : Nat} {b : List UInt8} (h : Sl kByte w A c b) : ∀ i, 64 * i ≤ b.length → Sl kByte w (leftZ A c i).1 (leftZ A c i).2 (b.drop (64 * i))
  | 0, _ => h
  | i + 1, hi => by
    have ih := leftZ_sl h i (by omega)
    have := ih.drop 64 (by rw [List.length_drop]; omega)
    rw [List.drop_drop] at this
    exact this

set_option maxRecDepth 10000 in
theorem All_any (w : World) (ws : List UInt32) (h8 : ws.length = 8) (A : Option Addr) (c : Nat) (b : List UInt8) (hb : Sl kByte w A c b) (F : Nat → List UInt32) (hF0 : ws = F 0) (hFs : ∀ i, takenW (F i) ((b.drop (64 * i)).take 64) = F (i + 1)) (hF8 : ∀ i, (F i).length = 8) :
    Gives Tryz.prog 166 [wsV ws, .slice A b.length c] w (.av (.val (.tuple #[wsV (F (b.length / 64)), .slice (leftZ A c (b.length / 64)).1 (tailB b).length (leftZ A c (b.length / 64)).2]))) := by
  have hl : lim = 140737488351232 := rfl
  have hsm := hb.small
  subst hF0
  refine enterH tb_ok [(0, .av (.val (wsV (F 0)))), (1, slE A b.length c)] Tryz.func166 rfl Tryz.ntmps166 rfl rfl ?_
  refine RunH.adv tb_ok [] rfl rfl ⟨⟨rfl, List.all_eq_true.1 (by kernel_rfl)⟩, ⟨by unfold wsC; simp [h8]; rfl, wsC_one (F 0)⟩, trivial⟩ ?_
  refine RunH.loop (α := Nat) (fun i => [(1, slE (leftZ A c i).1 (b.drop (64 * i)).length (leftZ A c i).2), (2, .av (.box 0 w.heap.size 0)), (4, .av (.box 1 (w.heap.size + 1) 0))]) (fun i => [(0, some (.box w.heap.size [.val (wsV (F i))] 201)), (1, some (.box (w.heap.size + 1) [.val (wsV (List.replicate 8 0))] 201))])
    (fun i u => Ext w u ∧ 64 * i ≤ b.length) (fun i => b.length / 64 - i) 0 rfl rfl (fun u hu => ⟨hu, by omega⟩) ?_
  intro i m
  refine RunH.pure (fun u hu => hu.2) fun hi => ?_
  have hw8 := hF8 i
  have hdl : (b.drop (64 * i)).length = b.length - 64 * i := List.length_drop
  have hS := leftZ_sl hb i hi
  have hcp := hS.cap
  by_cases hlt : 64 * (i + 1) ≤ b.length
  · have hnext := hFs i
    have hD : leftZ A c (i + 1) = (subA (leftZ A c i).1 64 (leftZ A c i).2 1, (leftZ A c i).2 - 64) := rfl
    have htl : ((b.drop (64 * i)).take 64).length = 64 := by rw [List.length_take]; omega
    have hd2 : (b.drop (64 * (i + 1))).length = (b.drop (64 * i)).length - 64 := by rw [List.length_drop, List.length_drop]; omega
    generalize hZ : leftZ A c i = Z at *
    have hn8 := hF8 (i + 1)
    refine RunH.adv tb_ok [true] rfl rfl (by simp <;> omega) ?_
    refine RunH.draw rfl [(0, some (.box w.heap.size [.val (wsV (F i))] 201))] rfl 5 rfl rfl ?_
    refine RunD.adv tb_ok (by kernel_rfl) [] rfl rfl (by simp <;> omega) ?_
    refine RunD.gives (i := 3) (.av (.val (wsV (takenW (F i) ((b.drop (64 * i)).take 64))))) rfl (by kernel_rfl) rfl rfl rfl rfl Tryz.call188 (fun u hu => by
      have := TakenR_spec u (F i) hw8 Z.1 Z.2 ((b.drop (64 * i)).take 64) ((Sl.take hS 64 (by omega)).ext hu.fact.1) htl
      rw [htl] at this
      exact this) rfl (fun _ h => h) ?_
    intro m1 hm1
    rw [hnext]
    refine RunD.lastStepS (i := 4) tb_ok rfl (by kernel_rfl) rfl (by kernel_rfl) (by kernel_rfl) rfl rfl ⟨⟨by unfold wsC; simp [hn8]; rfl, wsC_one _⟩, trivial⟩ (Nat.le_refl _) rfl ?_
    intro m2 hm2
    refine RunH.adv tb_ok [] rfl rfl (by simp <;> omega) ?_
    refine RunH.again (i + 1) (.head _) (by show V.Sub [(1, slE (leftZ A c (i + 1)).1 (b.drop (64 * (i + 1))).length (leftZ A c (i + 1)).2), (2, .av (.box 0 w.heap.size 0)), (4, .av (.box 1 (w.heap.size + 1) 0))] _; rw [hD, hd2]; rfl) rfl (by show b.length / 64 - (i + 1) < b.length / 64 - i; omega) fun u hu => ⟨hu.1, hlt⟩
  · have hie : i = b.length / 64 := by omega
    have htb : b.drop (64 * i) = tailB b := by unfold tailB; rw [hie]
    rw [← hie]
    rw [← htb]
    generalize leftZ A c i = Z at *
    refine RunH.adv tb_ok [false] rfl rfl ⟨⟨by unfold wsC; simp [hw8]; rfl, wsC_one _⟩, by simp [Ob.P]; omega, trivial⟩ ?_
    exact RunH.retBoxT tb_ok (.av (.val (wsV (F i)))) Tryz.func166 rfl rfl rfl rfl rfl fun w' hst => ⟨rfl, hst.fact.1⟩

theorem All_spec (w : World) (ws : List UInt32) (h8 : ws.length = 8) (A : Option Addr) (c : Nat) (b : List UInt8) (hb : Sl kByte w A c b) :
    Gives Tryz.prog 166 [wsV ws, .slice A b.length c] w (.av (.val (.tuple #[wsV (blocksW ws b (b.length / 64)), .slice (leftZ A c (b.length / 64)).1 (tailB b).length (leftZ A c (b.length / 64)).2]))) :=
  All_any w ws h8 A c b hb (blocksW ws b) rfl (fun i => by unfold blocksW; rw [iterN]) fun i => blocksW_len b i h8

theorem byteW_raw2 (ws : List UInt32) (i : Nat) : (((gW ws (i / 4)).toNat : Int).fdiv (2 ^ (min ((24 : Int) - 8 * ((i : Int) % 4)).toNat IntKind.u32.bits))) % 256 = ((byteW ws i).toNat : Int) := by
  rw [Int.mul_comm 8]; exact byteW_raw ws i
end Go.Proofs.YtagnkcdhenilbaaGreatDoor
