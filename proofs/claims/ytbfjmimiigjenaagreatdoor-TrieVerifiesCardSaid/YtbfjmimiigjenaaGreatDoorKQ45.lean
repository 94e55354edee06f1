/-
Lemmas. No condition.
-/
import Derived.Test.YtbfjmimiigjenaaGreatDoorKQ39
set_option maxRecDepth 100000
set_option linter.unusedVariables false
set_option linter.unusedSectionVars false
set_option linter.unusedSimpArgs false
namespace Go.Proofs.YtbfjmimiigjenaaGreatDoor
open Go V RowKit
def Stp.bs (s : Stp) : List UInt8 := stepB s.stem (if s.has = true then some s.sum else none) s.bytes s.nodes
theorem stp_mid (s : Stp) : ((boxCells (stpF s)).toList.drop 2).take 32 = s.sum.l.map u8V := step_sum s.stem s.has s.sum _ _ rfl rfl
section
variable {n : Nat} {B0 : Nat} {I : World → Prop} {H : Heap} {m : Nat} {env : SEnv}
theorem V.OpGo.byteStrG {d : Nat} {x : Operand} {ty : TypeId} {ps : String} {af : Array Edge} {gd : Option (Nat × Bool)} {ex : EV} {A : Option Addr} {c : Nat} {l : List UInt8}
  (hd : Nat.blt d n = true) (hx : evE env x = some ex) (hxv : ex.v = .slice A l.length c) (hp : Ptr A ∨ A = none) (hl : ∀ w, St tb B0 H I w → Sl kBy w A c l) :
  OpGo Tryz.prog tb B0 n ⟨some d, .convert 22 9 x, ty, ps, af, gd⟩ env H m I (fun _ : Unit => (d, strE l) :: env) (fun _ => H) (fun _ => I) := by
 rcases hp with hp | rfl
 ·exact OpGo.byteStrP hd hx hxv hp hl
 intro w a hm hst ha
 have hdn : d < n := Nat.lt_of_lt_of_le (Nat.lt_succ_self d) (Nat.le_of_ble_eq_true hd)
 obtain ⟨rfl, rfl⟩ := (hl w hst).nil rfl
 have hxv' : a.eval x = .slice none 0 0 := (ev_run ha hx).trans hxv
 have h : (convert 22 9 (.slice none 0 0)).run Tryz.prog w = .ok (strV []) w := by
  rw [Go.run_convert_bytes_string w 22 9 5 none 0 0 (tk.und rfl) (tk.und rfl) (tk.und rfl)]
  rfl
 unfold Oper.wp
 have : (execOp a.eval ⟨some d, .convert 22 9 x, ty, ps, af, gd⟩).run Tryz.prog w = .ok (.value (strV [])) w := by
  simp only [execOp, hxv', Sem.run_bind, h]
  rfl
 rw [this]
 refine ⟨(), ?_, by rw [← hm]; exact Nat.le_refl _, hst⟩
 rw [kn_cons]; exact ha.put hdn _
end
abbrev Nice (A : Option Addr) : Prop := Ptr A ∨ A = none
theorem V.RD.pureS {P : Program} {f : Fr} {n : Nat} {tb : TT} {B0 : Nat} {S : Stops} {R : Ending → World → Prop} {k : List Item} {ops : Array Oper} {G : Heap} {I0 : World → Prop} {fuel : Nat} {l : List Bool} {env : SEnv} {H : Heap} {nx m : Nat} {I : World → Prop} {p : Prop}
  (h : ∀ w, St tb B0 H I w → p) (hr : p → RD P f n tb B0 S R k ops G I0 fuel l env H nx m I) : RD P f n tb B0 S R k ops G I0 fuel l env H nx m I :=
 fun w a hm hst => hr (h w hst) w a hm hst
theorem rot_or (x : UInt32) (n : Nat) : shrW x n ||| shlW x (32 - n) = rotW x n := by unfold rotW; rw [UInt32.or_comm]
theorem turn_spec (w : World) (x : UInt32) (n : Nat) (h1 : 0 < n) (h2 : n < 32) : Gives Tryz.prog 284 [u32V x, intV n] w (u32E (rotW x n)) := by
 refine enterH tk [(0, u32E x), (1, intE n)] Tryz.func284 rfl Tryz.ntmps284 rfl rfl ?_
 refine RH.adv tk [] rfl rfl (by simp <;> omega) ?_
 refine RH.draw rfl [] rfl 9 rfl rfl ?_
 refine RD.adv tk (by kernel_rfl) [] rfl rfl (by simp; exact ⟨⟨by omega, by omega⟩, ⟨by omega, by omega⟩, by omega⟩) ?_
 refine RD.done (.inl rfl) (by kernel_rfl) ?_
 rw [show (32 : Int) - (n : Int) = ((32 - n : Nat) : Int) by omega]
 refine RH.ret1 Tryz.func284 rfl rfl fun w' hst => ⟨?_, hst.fact⟩
 rw [← rot_or]
 unfold u32E u32V
 rw [w_or, w_shl x (32 - n) (by omega), w_shr x n h2]
theorem constant_spec (w : World) (i : Nat) (hi : i < 64) : Gives Tryz.prog 285 [intV i] w (u32E (gW constW i)) := by
 refine enterH tk [(0, intE i)] Tryz.func285 rfl Tryz.ntmps285 rfl rfl ?_
 refine RH.adv tk [] rfl rfl (by simp <;> omega) ?_
 refine RH.read (.av (.val (wsV constW))) rfl rfl rfl rfl (fun u q _ _ => ?_) ?_
 ·have hc : ∀ v, q.eval (.const v) = v := fun _ => rfl
  simp only [execOp, List.map_toArray, List.map_cons, List.map_nil, hc, Sem.run_bind]
  rw [run_build u _ _ (wsC constW) (by kernel_rfl)]
  rfl
 refine RH.adv tk [] rfl rfl (by simp <;> omega) ?_
 refine RH.read (u32E (gW constW i)) rfl rfl rfl rfl (fun u q _ ha => ?_) ?_
 ·have e1 : q.eval (.tmp 3) = wsV constW := ev_run (e := .av (.val (wsV constW))) ha rfl
  have e2 : q.eval (.tmp 4) = intV i := ev_run (e := intE i) ha rfl
  simp only [execOp, e1, e2, index_ws constW rfl i hi, Sem.run_bind, Result.andThen_ok, Sem.run_pure]
  rfl
 refine RH.adv tk [] rfl rfl (by simp <;> omega) ?_
 refine RH.ret1 Tryz.func285 rfl rfl fun w' hst => ⟨rfl, hst.fact⟩
theorem First_spec (w : World) : Gives Tryz.prog 192 [] w (.av (.val (wsV beginW))) := by
 refine enterH tk [] Tryz.func192 rfl Tryz.ntmps192 rfl rfl ?_
 have hz8 : (Tryz.t226).size = 8 := by kernel_rfl
 refine RH.adv tk [] rfl rfl (by simp [hz8]) ?_
 refine RH.read (.av (.val (wsV beginW))) rfl rfl rfl rfl (fun u q _ _ => ?_) ?_
 ·have hc : ∀ v, q.eval (.const v) = v := fun _ => rfl
  simp only [execOp, List.map_toArray, List.map_cons, List.map_nil, hc, Sem.run_bind]
  rw [run_build u _ _ (wsC beginW) (by kernel_rfl)]
  rfl
 refine RH.adv tk [] rfl rfl (by simp [hz8]; exact ⟨rfl, fun u hu => wsC_one beginW u (by simpa using hu)⟩) ?_
 exact RH.retBox tk (.av (.val (wsV beginW))) Tryz.func192 rfl rfl rfl rfl fun u hu => ⟨rfl, hu.fact⟩
theorem w_ext {x y : UInt32} (h : ∀ i : Nat, i < 32 → x.toBitVec.getLsbD i = y.toBitVec.getLsbD i) : x = y := by
 apply UInt32.toBitVec_inj.1
 exact BitVec.eq_of_getLsbD_eq fun i hi => h i hi
theorem not_bit (x : UInt32) (i : Nat) (hi : i < 32) : (notW x).toBitVec.getLsbD i = !x.toBitVec.getLsbD i := by
 have e : (notW x).toBitVec = ~~~ x.toBitVec := by
  unfold notW
  rw [UInt32.toBitVec_xor]
  show BitVec.allOnes 32 ^^^ x.toBitVec = _
  rw [BitVec.allOnes_xor]
 rw [e, BitVec.getLsbD_not]
 simp [hi]
theorem ch_or (e f g : UInt32) : e &&& f ||| notW e &&& g = (e &&& f) ^^^ (notW e &&& g) := w_ext fun i hi => by
 simp only [UInt32.toBitVec_or, UInt32.toBitVec_and, UInt32.toBitVec_xor, BitVec.getLsbD_or, BitVec.getLsbD_and, BitVec.getLsbD_xor, not_bit _ _ hi]
 cases e.toBitVec.getLsbD i <;> cases f.toBitVec.getLsbD i <;> cases g.toBitVec.getLsbD i <;> rfl
theorem maj_or (a b c : UInt32) : a &&& b ||| a &&& c ||| b &&& c = (a &&& b) ^^^ (a &&& c) ^^^ (b &&& c) := w_ext fun i hi => by
 simp only [UInt32.toBitVec_or, UInt32.toBitVec_and, UInt32.toBitVec_xor, BitVec.getLsbD_or, BitVec.getLsbD_and, BitVec.getLsbD_xor]
 cases a.toBitVec.getLsbD i <;> cases b.toBitVec.getLsbD i <;> cases c.toBitVec.getLsbD i <;> rfl
def refNext (a b x y : UInt32) : UInt32 := a + b + (rotW x 7 ^^^ rotW x 18 ^^^ shrW x 3) + (rotW y 17 ^^^ rotW y 19 ^^^ shrW y 10)
theorem next_ref (n : Nat) (ws : List UInt32) : nextW n ws = refNext (gW ws n) (gW ws (n + 9)) (gW ws (n + 1)) (gW ws (n + 14)) := by
 unfold nextW sumW refNext mixW lowM highM
 simp only [List.foldl_cons, List.foldl_nil, if_true]
 rw [UInt32.zero_add]
def refP (h : List UInt32) (k w : UInt32) : UInt32 := gW h 7 + (rotW (gW h 4) 6 ^^^ rotW (gW h 4) 11 ^^^ rotW (gW h 4) 25) + (gW h 4 &&& gW h 5 ||| notW (gW h 4) &&& gW h 6) + k + w
def refQ (h : List UInt32) : UInt32 := (rotW (gW h 0) 2 ^^^ rotW (gW h 0) 13 ^^^ rotW (gW h 0) 22) + (gW h 0 &&& gW h 1 ||| gW h 0 &&& gW h 2 ||| gW h 1 &&& gW h 2)
theorem temp_ref (W h : List UInt32) (i : Nat) : tempA W h i = refP h (gW constW i) (gW W i) := by
 unfold tempA roundA sumW refP mixW
 simp only [List.foldl_cons, List.foldl_nil, if_false, Bool.false_eq_true]
 rw [UInt32.zero_add, UInt32.zero_add, ch_or]
theorem roundB_ref (h : List UInt32) : roundB h = refQ h := by
 unfold roundB sumW refQ mixW
 simp only [List.foldl_cons, List.foldl_nil, if_false, Bool.false_eq_true]
 rw [UInt32.zero_add, maj_or]
def refStep (h : List UInt32) (p q : UInt32) : List UInt32 := [p + q, gW h 0, gW h 1, gW h 2, gW h 3 + p, gW h 4, gW h 5, gW h 6]
theorem step_ref (W : List UInt32) (i : Nat) {h : List UInt32} (h8 : h.length = 8) : stepW W i h = refStep h (tempA W h i) (roundB h) := by
 match h, h8 with
 | [a, b, c, d, e, f, g, k], _ =>
  unfold stepW shiftW refStep sumW
  generalize tempA W [a, b, c, d, e, f, g, k] i = p
  generalize roundB [a, b, c, d, e, f, g, k] = q
  simp [gW]
theorem store_w8 {w : World} {B0 : Nat} {H : Heap} {I : World → Prop} {id b : Nat} {ws : List UInt32} (ws' : List UInt32) (h8' : ws'.length = 8) (h8 : ws.length = 8) (hst : St tb B0 H I w) (hH : loH H id = wsE b 226 ws) :
  ∃ w', (storeVar 226 ⟨b, 0, none⟩ (wsV ws')).run Tryz.prog w = .ok () w' ∧ w.heap.size ≤ w'.heap.size ∧ St tb B0 ((id, wsE b 226 ws') :: H) I w' := by
 have ho := hst.holds id _ hH
 have hc : (wsV ws').cells = wsC ws' := rfl
 obtain ⟨w', q1, q2, q3, q4⟩ := run_storeAt (P := Tryz.prog) tk (vok_w8 h8') (o := 0) ho.2 (by rw [hc]; unfold wsC; simp [h8, h8'])
 refine ⟨w', q1, by rw [q4]; exact Nat.le_refl _, ?_⟩
 have e : ((wsC ws).toList.take 0 ++ (wsV ws').cells.toList ++ (wsC ws).toList.drop (0 + (wsV ws').cells.size)).toArray = wsC ws' := by
  rw [hc]; unfold wsC; simp [h8, h8', List.drop_eq_nil_of_le]
 rw [e] at q2
 exact hst.turn (w' := w') id (.obj b (.cells (wsC ws) 226)) (.obj b (.cells (wsC ws') 226)) hH (q3.mono fun j _ hj => by rw [hj]; rfl) ⟨ho.1, q2⟩ fun j hj => .inl hj
def addR (v : List UInt32) (n : Nat) (h : List UInt32) : List UInt32 := iterN (fun i h => h.set i (gW h i + gW v i)) n h
theorem addR_len (v : List UInt32) (n : Nat) {h : List UInt32} (h8 : h.length = 8) : (addR v n h).length = 8 := iterN_inv (p := fun l : List UInt32 => l.length = 8) (fun n x hx => by rw [List.length_set]; exact hx) n h h8
theorem addR_all {v h : List UInt32} (h8 : h.length = 8) (v8 : v.length = 8) : addR v 8 h = addW h 8 v := by
 match h, h8, v, v8 with
 | [a, b, c, d, e, f, g, k], _, [a', b', c', d', e', f', g', k'], _ => simp [addR, addW, iterN, gW, sumW, UInt32.add_comm]
set_option maxHeartbeats 1000000 in
theorem Taken_spec (w : World) (old : List UInt32) (h8 : old.length = 8) (A : Option Addr) (c : Nat) (blk : List UInt8) (hb : Sl kBy w A c blk) (h64 : blk.length = 64) : Gives Tryz.prog 256 [wsV old, .slice A blk.length c] w (.av (.val (wsV (takenW old blk)))) := by
 have hl : lim = 140737488351232 := rfl
 have hcap := hb.cap
 have hptr := hb.ptr (i := 0) (by omega)
 refine enterH tk [(0, .av (.val (wsV old))), (1, slE A blk.length c)] Tryz.func256 rfl Tryz.ntmps256 rfl rfl ?_
 have hz8 : (Tryz.t226).size = 8 := by kernel_rfl
 have hz64 : (Tryz.t367).size = 64 := by kernel_rfl
 refine RH.adv tk [] rfl rfl (by simp [hz8, hz64]; exact ⟨by unfold wsC; simp [h8], fun u hu => wsC_one old u (by simpa using hu)⟩) ?_
 refine RH.boxObj (id := 2) (wsC (firstW blk 0)) rfl (by show boxCells [.val (.agg (wsC (List.replicate 64 0)))] = _; exact boxCells_ws _) ?_
 have hz : (Tryz.t225).size = 1 := by kernel_rfl
 refine RH.loop (α := Nat) (fun i => [(1, slE A blk.length c), (2, .av (.box 0 w.heap.size 0)), (4, .av (.box 1 (w.heap.size + 1) 0)), (5, .av (.box 2 (w.heap.size + 1 + 1) 0)), (6, intE i)])
  (fun i => [(0, some (.box w.heap.size [.val (wsV old)] 226)), (1, some (.box (w.heap.size + 1) [.val (wsV (List.replicate 8 0))] 226)), (2, wsE (w.heap.size + 1 + 1) 367 (firstW blk i))]) (fun i u => Ext w u ∧ i ≤ 16) (fun i => 16 - i) 0 rfl rfl (fun u hu => ⟨hu, by decide⟩) ?_
 intro i m
 refine RH.pure (fun u hu => hu.2) fun hi => ?_
 by_cases hlt : i < 16
 ·refine RH.adv tk [true] rfl rfl (by simp <;> omega) ?_
  refine RH.loop (α := Nat) (fun j => [(1, slE A blk.length c), (2, .av (.box 0 w.heap.size 0)), (4, .av (.box 1 (w.heap.size + 1) 0)), (5, .av (.box 2 (w.heap.size + 1 + 1) 0)), (6, intE i), (7, intE j)])
   (fun j => [(0, some (.box w.heap.size [.val (wsV old)] 226)), (1, some (.box (w.heap.size + 1) [.val (wsV (List.replicate 8 0))] 226)), (2, wsE (w.heap.size + 1 + 1) 367 (innW blk i j (firstW blk i)))]) (fun j u => Ext w u ∧ j ≤ 4) (fun j => 4 - j) 0 rfl rfl (fun u hu => ⟨hu.1, by decide⟩) ?_
  intro j m1
  refine RH.pure (fun u hu => hu.2) fun hj => ?_
  have hlen : (innW blk i j (firstW blk i)).length = 64 := by rw [innW_len, firstW_len]
  have hnext : (innW blk i j (firstW blk i)).set i (shlW (gW (innW blk i j (firstW blk i)) i) 8 ||| b2w (byteAt blk (4 * i + j))) = innW blk i (j + 1) (firstW blk i) := rfl
  by_cases hjt : j < 4
  ·generalize innW blk i j (firstW blk i) = W at *
   refine RH.adv tk [true] rfl rfl (by simp <;> omega) ?_
   refine RH.draw rfl [(2, wsE (w.heap.size + 1 + 1) 367 W)] rfl 16 rfl rfl ?_
   refine RD.adv tk (by kernel_rfl) [] rfl rfl (by simp; exact ⟨hptr, ⟨by omega, by omega⟩, ⟨by omega, by omega⟩, ⟨by omega, by omega⟩, by omega⟩) ?_
   refine RD.loadG (by kernel_rfl) (i := 3) (u32E (gW W i)) rfl rfl rfl rfl rfl rfl (fun u hu => load_wsAt (hu.holds 2 _ rfl).2 i (by omega) _ (by show (i : Int).toNat * 1 = i * 1; omega)) ?_
   refine RD.load (by kernel_rfl) (i := 11) (byE (byteAt blk (4 * i + j))) rfl rfl rfl rfl rfl rfl (fun u hu => ?_) ?_
   ·have h1 := (hb.ext hu.1).load (i := 4 * i + j) (by omega)
    have e5 : byteAt blk (4 * i + j) = blk[4 * i + j] := by unfold byteAt; simp [h64, show 4 * i + j < 64 by omega]
    rw [show ((4 : Int) * i + j).toNat = 4 * i + j by omega, e5]
    exact h1
   refine RD.adv tk (by kernel_rfl) [] rfl rfl (by simp <;> omega) ?_
   refine RD.lastW (i := 15) (id := 2) (ws := W) i (shlW (gW W i) 8 ||| b2w (byteAt blk (4 * i + j))) rfl (by kernel_rfl) rfl (by kernel_rfl) (by kernel_rfl) rfl rfl rfl (by omega) rfl (by unfold u32V; rw [w_or, w_shl _ 8 (by decide), w_byte]; rfl) ?_
   intro m2 hm2
   rw [hnext]
   refine RH.adv tk [] rfl rfl (by simp <;> omega) ?_
   exact RH.again (j + 1) (.head _) rfl rfl (by show 4 - (j + 1) < 4 - j; omega) fun u hu => ⟨hu.1, hjt⟩
  ·have hj4 : j = 4 := by omega
   subst hj4
   refine RH.adv tk [false] rfl rfl (by simp <;> omega) ?_
   exact RH.again (i + 1) (.tail _ (.head _)) rfl rfl (by show 16 - (i + 1) < 16 - i; omega) fun u hu => ⟨hu.1, hlt⟩
 ·have hi16 : i = 16 := by omega
  subst hi16
  refine RH.adv tk [false] rfl rfl (by simp <;> omega) ?_
  refine RH.loop (α := Nat) (fun n => [(2, .av (.box 0 w.heap.size 0)), (4, .av (.box 1 (w.heap.size + 1) 0)), (5, .av (.box 2 (w.heap.size + 1 + 1) 0)), (8, intE (n + 16 : Nat))])
   (fun n => [(0, some (.box w.heap.size [.val (wsV old)] 226)), (1, some (.box (w.heap.size + 1) [.val (wsV (List.replicate 8 0))] 226)), (2, wsE (w.heap.size + 1 + 1) 367 (extW n (firstW blk 16)))]) (fun n u => Ext w u ∧ n ≤ 48) (fun n => 48 - n) 0 rfl rfl (fun u hu => ⟨hu.1, by decide⟩) ?_
  intro n m2
  refine RH.pure (fun u hu => hu.2) fun hn => ?_
  have hlen : (extW n (firstW blk 16)).length = 64 := by rw [extW_len, firstW_len]
  have hnext : (extW n (firstW blk 16)).set (n + 16) (nextW n (extW n (firstW blk 16))) = extW (n + 1) (firstW blk 16) := rfl
  by_cases hnt : n < 48
  ·generalize hW : extW n (firstW blk 16) = W at *
   refine RH.adv tk [true] rfl rfl (by simp <;> omega) ?_
   refine RH.draw rfl [(2, wsE (w.heap.size + 1 + 1) 367 W)] rfl 10 rfl rfl ?_
   refine RD.adv tk (by kernel_rfl) [] rfl rfl (by simp <;> omega) ?_
   refine RD.loadG (by kernel_rfl) (i := 3) (u32E (gW W (n + 1))) rfl rfl rfl rfl rfl rfl (fun u hu => load_wsAt (hu.holds 2 _ rfl).2 (n + 1) (by omega) _ (by show (((n + 16 : Nat) : Int) - 15).toNat * 1 = (n + 1) * 1; omega)) ?_
   refine RD.adv tk (by kernel_rfl) [] rfl rfl (by simp <;> omega) ?_
   refine RD.loadG (by kernel_rfl) (i := 7) (u32E (gW W (n + 14))) rfl rfl rfl rfl rfl rfl (fun u hu => load_wsAt (hu.holds 2 _ rfl).2 (n + 14) (by omega) _ (by show (((n + 16 : Nat) : Int) - 2).toNat * 1 = (n + 14) * 1; omega)) ?_
   refine RD.adv tk (by kernel_rfl) [] rfl rfl (by simp <;> omega) ?_
   refine RD.done (.inl rfl) (by kernel_rfl) ?_
   generalize hx : gW W (n + 1) = x
   generalize hy : gW W (n + 14) = y
   refine RH.draw rfl [(2, wsE (w.heap.size + 1 + 1) 367 W)] rfl 30 rfl rfl ?_
   refine RD.adv tk (by kernel_rfl) [] rfl rfl (by simp <;> omega) ?_
   refine RD.loadG (by kernel_rfl) (i := 4) (u32E (gW W n)) rfl rfl rfl rfl rfl rfl (fun u hu => load_wsAt (hu.holds 2 _ rfl).2 n (by omega) _ (by show (((n + 16 : Nat) : Int) - 16).toNat * 1 = n * 1; omega)) ?_
   refine RD.adv tk (by kernel_rfl) [] rfl rfl (by simp <;> omega) ?_
   refine RD.loadG (by kernel_rfl) (i := 8) (u32E (gW W (n + 9))) rfl rfl rfl rfl rfl rfl (fun u hu => load_wsAt (hu.holds 2 _ rfl).2 (n + 9) (by omega) _ (by show (((n + 16 : Nat) : Int) - 7).toNat * 1 = (n + 9) * 1; omega)) ?_
   refine RD.adv tk (by kernel_rfl) [] rfl rfl (by simp <;> omega) ?_
   refine RD.gives (i := 11) (u32E (rotW x 7)) rfl (by kernel_rfl) rfl rfl rfl rfl Tryz.call284 (fun u _ => turn_spec u x 7 (by decide) (by decide)) rfl (fun _ h => h) ?_
   intro m3 hm3
   refine RD.adv tk (by kernel_rfl) [] rfl rfl (by simp <;> omega) ?_
   refine RD.gives (i := 13) (u32E (rotW x 18)) rfl (by kernel_rfl) rfl rfl rfl rfl Tryz.call284 (fun u _ => turn_spec u x 18 (by decide) (by decide)) rfl (fun _ h => h) ?_
   intro m4 hm4
   refine RD.adv tk (by kernel_rfl) [] rfl rfl (by simp <;> omega) ?_
   refine RD.gives (i := 20) (u32E (rotW y 17)) rfl (by kernel_rfl) rfl rfl rfl rfl Tryz.call284 (fun u _ => turn_spec u y 17 (by decide) (by decide)) rfl (fun _ h => h) ?_
   intro m5 hm5
   refine RD.adv tk (by kernel_rfl) [] rfl rfl (by simp <;> omega) ?_
   refine RD.gives (i := 22) (u32E (rotW y 19)) rfl (by kernel_rfl) rfl rfl rfl rfl Tryz.call284 (fun u _ => turn_spec u y 19 (by decide) (by decide)) rfl (fun _ h => h) ?_
   intro m6 hm6
   refine RD.adv tk (by kernel_rfl) [] rfl rfl (by simp <;> omega) ?_
   refine RD.lastW (i := 29) (id := 2) (ws := W) (n + 16) (nextW n W) rfl (by kernel_rfl) rfl (by kernel_rfl) (by kernel_rfl) rfl rfl rfl (by omega) rfl ?_ ?_
   ·rw [next_ref, hx, hy]
    unfold refNext u32V
    rw [w_add, w_add, w_add, w_xor, w_xor, w_xor, w_xor, w_shr x 3 (by decide), w_shr y 10 (by decide)]
    rfl
   intro m7 hm7
   rw [hnext]
   refine RH.adv tk [] rfl rfl (by simp <;> omega) ?_
   exact RH.again (n + 1) (.head _) rfl rfl (by show 48 - (n + 1) < 48 - n; omega) fun u hu => ⟨hu.1, hnt⟩
  ·have hn48 : n = 48 := by omega
   subst hn48
   have hWl := spreadW_len blk
   have htk : takenW old blk = addW old 8 (roundsW (spreadW blk) 64 old) := rfl
   rw [htk]
   change RH _ _ _ _ _ _ _ _ _ [(0, some (.box w.heap.size [.val (wsV old)] 226)), (1, some (.box (w.heap.size + 1) [.val (wsV (List.replicate 8 0))] 226)), (2, wsE (w.heap.size + 1 + 1) 367 (spreadW blk))] _ _ _
   generalize spreadW blk = W at *
   refine RH.adv tk [false] rfl rfl (by simp [hz8]; exact ⟨by unfold wsC; simp [h8], fun u hu => wsC_one old u (by simpa using hu)⟩) ?_
   refine RH.boxObj (id := 3) (wsC old) rfl (boxCells_ws old) ?_
   refine RH.loop (α := Nat) (fun i => [(2, .av (.box 0 w.heap.size 0)), (4, .av (.box 1 (w.heap.size + 1) 0)), (5, .av (.box 2 (w.heap.size + 1 + 1) 0)), (11, .av (.box 3 m2 0)), (12, intE i)])
    (fun i => [(0, some (.box w.heap.size [.val (wsV old)] 226)), (1, some (.box (w.heap.size + 1) [.val (wsV (List.replicate 8 0))] 226)), (2, wsE (w.heap.size + 1 + 1) 367 W), (3, wsE m2 226 (roundsW W i old))]) (fun i u => Ext w u ∧ i ≤ 64) (fun i => 64 - i) 0 rfl rfl (fun u hu => ⟨hu.1, by decide⟩) ?_
   intro i m3
   refine RH.pure (fun u hu => hu.2) fun hi => ?_
   by_cases hlt : i < 64
   ·have hh8 : (roundsW W i old).length = 8 := roundsW_len W i h8
    have hnext : stepW W i (roundsW W i old) = roundsW W (i + 1) old := rfl
    generalize roundsW W i old = h at *
    refine RH.adv tk [true] rfl rfl (by simp <;> omega) ?_
    refine RH.draw rfl [(3, wsE m2 226 h)] rfl 18 rfl rfl ?_
    refine RD.adv tk (by kernel_rfl) [] rfl rfl (by simp <;> omega) ?_
    refine RD.loadG (by kernel_rfl) (i := 1) (u32E (gW h 0)) rfl rfl rfl rfl rfl rfl (fun u hu => load_wsAt (hu.holds 3 _ rfl).2 0 (by omega) _ rfl) ?_
    refine RD.adv tk (by kernel_rfl) [] rfl rfl (by simp <;> omega) ?_
    refine RD.loadG (by kernel_rfl) (i := 3) (u32E (gW h 1)) rfl rfl rfl rfl rfl rfl (fun u hu => load_wsAt (hu.holds 3 _ rfl).2 1 (by omega) _ rfl) ?_
    refine RD.adv tk (by kernel_rfl) [] rfl rfl (by simp <;> omega) ?_
    refine RD.loadG (by kernel_rfl) (i := 5) (u32E (gW h 2)) rfl rfl rfl rfl rfl rfl (fun u hu => load_wsAt (hu.holds 3 _ rfl).2 2 (by omega) _ rfl) ?_
    refine RD.adv tk (by kernel_rfl) [] rfl rfl (by simp <;> omega) ?_
    refine RD.loadG (by kernel_rfl) (i := 7) (u32E (gW h 4)) rfl rfl rfl rfl rfl rfl (fun u hu => load_wsAt (hu.holds 3 _ rfl).2 4 (by omega) _ rfl) ?_
    refine RD.adv tk (by kernel_rfl) [] rfl rfl (by simp <;> omega) ?_
    refine RD.loadG (by kernel_rfl) (i := 9) (u32E (gW h 5)) rfl rfl rfl rfl rfl rfl (fun u hu => load_wsAt (hu.holds 3 _ rfl).2 5 (by omega) _ rfl) ?_
    refine RD.adv tk (by kernel_rfl) [] rfl rfl (by simp <;> omega) ?_
    refine RD.loadG (by kernel_rfl) (i := 11) (u32E (gW h 6)) rfl rfl rfl rfl rfl rfl (fun u hu => load_wsAt (hu.holds 3 _ rfl).2 6 (by omega) _ rfl) ?_
    refine RD.adv tk (by kernel_rfl) [] rfl rfl (by simp <;> omega) ?_
    refine RD.done (.inl rfl) (by kernel_rfl) ?_
    refine RH.adv tk [] rfl rfl (by simp <;> omega) ?_
    refine RH.draw rfl [(2, wsE (w.heap.size + 1 + 1) 367 W), (3, wsE m2 226 h)] rfl 28 rfl rfl ?_
    refine RD.adv tk (by kernel_rfl) [] rfl rfl (by simp <;> omega) ?_
    refine RD.loadG (by kernel_rfl) (i := 1) (u32E (gW h 7)) rfl rfl rfl rfl rfl rfl (fun u hu => load_wsAt (hu.holds 3 _ rfl).2 7 (by omega) _ rfl) ?_
    refine RD.adv tk (by kernel_rfl) [] rfl rfl (by simp <;> omega) ?_
    refine RD.loadG (by kernel_rfl) (i := 25) (u32E (gW W i)) rfl rfl rfl rfl rfl rfl (fun u hu => load_wsAt (hu.holds 2 _ rfl).2 i (by omega) _ (by show (i : Int).toNat * 1 = i * 1; omega)) ?_
    refine RD.adv tk (by kernel_rfl) [] rfl rfl (by simp <;> omega) ?_
    refine RD.gives (i := 3) (u32E (rotW (gW h 4) 6)) rfl (by kernel_rfl) rfl rfl rfl rfl Tryz.call284 (fun u _ => turn_spec u (gW h 4) 6 (by decide) (by decide)) rfl (fun _ h => h) ?_
    intro q1 hq1
    refine RD.adv tk (by kernel_rfl) [] rfl rfl (by simp <;> omega) ?_
    refine RD.gives (i := 5) (u32E (rotW (gW h 4) 11)) rfl (by kernel_rfl) rfl rfl rfl rfl Tryz.call284 (fun u _ => turn_spec u (gW h 4) 11 (by decide) (by decide)) rfl (fun _ h => h) ?_
    intro q2 hq2
    refine RD.adv tk (by kernel_rfl) [] rfl rfl (by simp <;> omega) ?_
    refine RD.gives (i := 8) (u32E (rotW (gW h 4) 25)) rfl (by kernel_rfl) rfl rfl rfl rfl Tryz.call284 (fun u _ => turn_spec u (gW h 4) 25 (by decide) (by decide)) rfl (fun _ h => h) ?_
    intro q3 hq3
    refine RD.adv tk (by kernel_rfl) [] rfl rfl (by simp <;> omega) ?_
    refine RD.gives (i := 21) (u32E (gW constW i)) rfl (by kernel_rfl) rfl rfl rfl rfl Tryz.call285 (fun u _ => constant_spec u i hlt) rfl (fun _ h => h) ?_
    intro q4 hq4
    refine RD.adv tk (by kernel_rfl) [] rfl rfl (by simp <;> omega) ?_
    refine RD.done (.inl rfl) (by kernel_rfl) ?_
    refine V.RH.slotE 19 (u32E (tempA W h i)) rfl ?_ ?_
    ·show _ = Value.int .u32 ((tempA W h i).toNat : Int)
     rw [temp_ref]
     unfold refP
     rw [w_add, w_add, w_add, w_add, w_xor, w_xor, w_or, w_and, w_and, w_not]
     rfl
    have hst := step_ref W i hh8
    rw [hnext] at hst
    have hqq := roundB_ref h
    generalize tempA W h i = p at *
    refine RH.adv tk [] rfl rfl (by simp <;> omega) ?_
    refine RH.gives (ho := rfl) (hw := rfl) (hd := rfl) (hf := rfl) (hes := rfl) (hc := Tryz.call284) (e := u32E (rotW (gW h 0) 2)) (hC := fun u _ => turn_spec u (gW h 0) 2 (by decide) (by decide)) ?_
    intro q5 hq5
    refine RH.adv tk [] rfl rfl (by simp <;> omega) ?_
    refine RH.gives (ho := rfl) (hw := rfl) (hd := rfl) (hf := rfl) (hes := rfl) (hc := Tryz.call284) (e := u32E (rotW (gW h 0) 13)) (hC := fun u _ => turn_spec u (gW h 0) 13 (by decide) (by decide)) ?_
    intro q6 hq6
    refine RH.adv tk [] rfl rfl (by simp <;> omega) ?_
    refine RH.gives (ho := rfl) (hw := rfl) (hd := rfl) (hf := rfl) (hes := rfl) (hc := Tryz.call284) (e := u32E (rotW (gW h 0) 22)) (hC := fun u _ => turn_spec u (gW h 0) 22 (by decide) (by decide)) ?_
    intro q7 hq7
    refine RH.adv tk [] rfl rfl (by simp <;> omega) ?_
    refine V.RH.slotE 152 (u32E (p + roundB h)) rfl ?_ ?_
    ·show _ = Value.int .u32 ((p + roundB h).toNat : Int)
     rw [hqq]
     unfold refQ
     rw [w_add, w_add, w_xor, w_xor, w_or, w_or, w_and, w_and, w_and]
     rfl
    refine RH.loadS (u32E (gW h 0)) rfl rfl rfl rfl (fun u hu => load_wsAt (hu.holds 3 _ rfl).2 0 (by omega) _ rfl) ?_
    refine RH.adv tk [] rfl rfl (by simp <;> omega) ?_
    refine RH.loadS (u32E (gW h 1)) rfl rfl rfl rfl (fun u hu => load_wsAt (hu.holds 3 _ rfl).2 1 (by omega) _ rfl) ?_
    refine RH.adv tk [] rfl rfl (by simp <;> omega) ?_
    refine RH.loadS (u32E (gW h 2)) rfl rfl rfl rfl (fun u hu => load_wsAt (hu.holds 3 _ rfl).2 2 (by omega) _ rfl) ?_
    refine RH.adv tk [] rfl rfl (by simp <;> omega) ?_
    refine RH.loadS (u32E (gW h 3)) rfl rfl rfl rfl (fun u hu => load_wsAt (hu.holds 3 _ rfl).2 3 (by omega) _ rfl) ?_
    refine RH.adv tk [] rfl rfl (by simp <;> omega) ?_
    refine V.RH.slotE 162 (u32E (gW h 3 + p)) rfl ?_ ?_
    ·show _ = Value.int .u32 ((gW h 3 + p).toNat : Int)
     rw [w_add]; rfl
    refine RH.loadS (u32E (gW h 4)) rfl rfl rfl rfl (fun u hu => load_wsAt (hu.holds 3 _ rfl).2 4 (by omega) _ rfl) ?_
    refine RH.adv tk [] rfl rfl (by simp <;> omega) ?_
    refine RH.loadS (u32E (gW h 5)) rfl rfl rfl rfl (fun u hu => load_wsAt (hu.holds 3 _ rfl).2 5 (by omega) _ rfl) ?_
    refine RH.adv tk [] rfl rfl (by simp <;> omega) ?_
    refine RH.loadS (u32E (gW h 6)) rfl rfl rfl rfl (fun u hu => load_wsAt (hu.holds 3 _ rfl).2 6 (by omega) _ rfl) ?_
    refine RH.adv tk [] rfl rfl (by simp <;> omega) ?_
    refine RH.read (.av (.val (wsV (refStep h p (roundB h))))) rfl rfl rfl rfl (fun u q _ ha => ?_) ?_
    ·have a1 : q.eval (.tmp 152) = u32V (p + roundB h) := ev_run (e := u32E (p + roundB h)) ha rfl
     have a2 : q.eval (.tmp 154) = u32V (gW h 0) := ev_run (e := u32E (gW h 0)) ha rfl
     have a3 : q.eval (.tmp 156) = u32V (gW h 1) := ev_run (e := u32E (gW h 1)) ha rfl
     have a4 : q.eval (.tmp 158) = u32V (gW h 2) := ev_run (e := u32E (gW h 2)) ha rfl
     have a5 : q.eval (.tmp 162) = u32V (gW h 3 + p) := ev_run (e := u32E (gW h 3 + p)) ha rfl
     have a6 : q.eval (.tmp 164) = u32V (gW h 4) := ev_run (e := u32E (gW h 4)) ha rfl
     have a7 : q.eval (.tmp 166) = u32V (gW h 5) := ev_run (e := u32E (gW h 5)) ha rfl
     have a8 : q.eval (.tmp 168) = u32V (gW h 6) := ev_run (e := u32E (gW h 6)) ha rfl
     simp only [execOp, List.map_toArray, List.map_cons, List.map_nil, a1, a2, a3, a4, a5, a6, a7, a8, Sem.run_bind]
     rw [run_build u _ _ (wsC (refStep h p (roundB h))) (by kernel_rfl)]
     rfl
    refine RH.adv tk [] rfl rfl (by simp <;> omega) ?_
    rw [← hst]
    refine RH.storeS [(0, some (.box w.heap.size [.val (wsV old)] 226)), (1, some (.box (w.heap.size + 1) [.val (wsV (List.replicate 8 0))] 226)), (2, wsE (w.heap.size + 1 + 1) 367 W), (3, wsE m2 226 (roundsW W (i + 1) old))] rfl rfl rfl rfl (fun w _ hst => ?_) ?_
    ·obtain ⟨w', z1, z2, z3⟩ := store_w8 (roundsW W (i + 1) old) (roundsW_len W (i + 1) h8) hh8 hst (id := 3) rfl
     exact ⟨w', z1, z2, z3.out [] rfl rfl fun _ h => h⟩
    intro m9 hm9
    refine RH.adv tk [] rfl rfl (by simp <;> omega) ?_
    exact RH.again (i + 1) (.head _) rfl rfl (by show 64 - (i + 1) < 64 - i; omega) fun u hu => ⟨hu.1, hlt⟩
   ·have hi64 : i = 64 := by omega
    subst hi64
    refine RH.adv tk [false] rfl rfl (by simp <;> omega) ?_
    have hR8 : (roundsW W 64 old).length = 8 := roundsW_len W 64 h8
    generalize roundsW W 64 old = Rr at *
    refine RH.boxObj (id := 0) (wsC old) rfl (boxCells_ws old) ?_
    refine RH.loop (α := Nat) (fun i => [(2, .av (.box 0 w.heap.size 0)), (4, .av (.box 1 (w.heap.size + 1) 0)), (11, .av (.box 3 m2 0)), (21, intE i)])
     (fun i => [(0, wsE w.heap.size 226 (addR Rr i old)), (1, some (.box (w.heap.size + 1) [.val (wsV (List.replicate 8 0))] 226)), (3, wsE m2 226 Rr)]) (fun i u => Ext w u ∧ i ≤ 8) (fun i => 8 - i) 0 rfl rfl (fun u hu => ⟨hu.1, by decide⟩) ?_
    intro i m5
    refine RH.pure (fun u hu => hu.2) fun hi => ?_
    have hc8 : (addR Rr i old).length = 8 := addR_len Rr i h8
    by_cases hlt2 : i < 8
    ·have hnext : (addR Rr i old).set i (gW (addR Rr i old) i + gW Rr i) = addR Rr (i + 1) old := rfl
     generalize addR Rr i old = cu at *
     refine RH.adv tk [true] rfl rfl (by simp <;> omega) ?_
     refine RH.draw rfl [(0, wsE w.heap.size 226 cu), (3, wsE m2 226 Rr)] rfl 9 rfl rfl ?_
     refine RD.adv tk (by kernel_rfl) [] rfl rfl (by simp <;> omega) ?_
     refine RD.loadG (by kernel_rfl) (i := 2) (u32E (gW cu i)) rfl rfl rfl rfl rfl rfl (fun u hu => load_wsAt (hu.holds 0 _ rfl).2 i (by omega) _ (by show (i : Int).toNat * 1 = i * 1; omega)) ?_
     refine RD.loadG (by kernel_rfl) (i := 5) (u32E (gW Rr i)) rfl rfl rfl rfl rfl rfl (fun u hu => load_wsAt (hu.holds 3 _ rfl).2 i (by omega) _ (by show (i : Int).toNat * 1 = i * 1; omega)) ?_
     refine RD.adv tk (by kernel_rfl) [] rfl rfl (by simp <;> omega) ?_
     refine RD.lastW (i := 8) (id := 0) (ws := cu) i (gW cu i + gW Rr i) rfl (by kernel_rfl) rfl (by kernel_rfl) (by kernel_rfl) rfl rfl rfl (by omega) rfl (by unfold u32V; rw [w_add]; rfl) ?_
     intro m7 hm7
     rw [hnext]
     refine RH.adv tk [] rfl rfl (by simp <;> omega) ?_
     exact RH.again (i + 1) (.head _) rfl rfl (by show 8 - (i + 1) < 8 - i; omega) fun u hu => ⟨hu.1, hlt2⟩
    ·have hi8 : i = 8 := by omega
     subst hi8
     have hfin := addR_all h8 hR8
     rw [hfin] at hc8 ⊢
     refine RH.objBox (id := 0) [.val (wsV (addW old 8 Rr))] rfl (boxCells_ws _).symm ⟨_, rfl, vok_w8 hc8⟩ ?_
     refine RH.adv tk [false] rfl rfl (by simp [hz8]; exact ⟨by unfold wsC; simp [hc8], fun u hu => wsC_one _ u (by simpa using hu)⟩) ?_
     exact RH.retBox tk (.av (.val (wsV (addW old 8 Rr)))) Tryz.func256 rfl rfl rfl rfl fun w' hst => ⟨rfl, hst.fact.1⟩
set_option maxHeartbeats 400000 in
theorem All_spec (h : List UInt32) (h8 : h.length = 8) (A : Option Addr) (c : Nat) (b : List UInt8) (hb : b.length ≤ 1000000) :
  Does Tryz.prog tb 191 [wsV h, .slice A b.length c] [] (fun u => Sl kBy u A c b) (fun y : Option Addr × Nat => .tuple #[wsV (blocksW h b (b.length / 64)), .slice y.1 (tailB b).length y.2]) (fun _ => [])
   (fun y => Late (fun u => Sl kBy u A c b) (fun u => Sl kBy u y.1 y.2 (tailB b))) := by
 have hl : lim = 140737488351232 := rfl
 have hz8 : (Tryz.t226).size = 8 := by kernel_rfl
 have hz5 : (Tryz.t5).size = 1 := by kernel_rfl
 refine V.Does.enter0 [(0, .av (.val (wsV h))), (1, slE A b.length c)] Tryz.func191 rfl Tryz.ntmps191 rfl rfl 0 ?_
 intro m0 K
 refine RH.adv tk [] rfl rfl (by simp [hz8]; exact ⟨by unfold wsC; simp [h8], fun u hu => wsC_one h u (by simpa using hu)⟩) ?_
 refine RH.loop (α := Nat × (Option Addr × Nat)) (fun y => [(1, slE y.2.1 (b.drop (64 * y.1)).length y.2.2), (2, .av (.box 0 m0 0)), (4, .av (.box 1 (m0 + 1) 0))])
  (fun y => [(0, some (.box m0 [.val (wsV (blocksW h b y.1))] 226)), (1, some (.box (m0 + 1) [.val (wsV (List.replicate 8 0))] 226))])
  (fun y u => ((K u ∧ Sl kBy u A c b) ∧ Late (fun u => Sl kBy u A c b) (fun u => Sl kBy u y.2.1 y.2.2 (b.drop (64 * y.1))) m0 u) ∧ 64 * y.1 ≤ b.length) (fun y => b.length - 64 * y.1) (0, (A, c)) rfl rfl (fun u hu => ⟨⟨hu, fun v _ hp => hp⟩, Nat.zero_le _⟩) ?_
 rintro ⟨k, A1, c1⟩ m1
 refine RH.pure (fun u hu => hu.2) fun hk => ?_
 refine V.RH.know (fun u => (K u ∧ Sl kBy u A c b) ∧ Late (fun u => Sl kBy u A c b) (fun u => Sl kBy u A1 c1 (b.drop (64 * k))) m0 u) (fun u h => h.1) ?_
 dsimp only at hk ⊢
 have hw8 := blocksW_len (ws := h) b k h8
 have hnext := blocksW_succ h b k
 have hdl : (b.drop (64 * k)).length = b.length - 64 * k := List.length_drop
 by_cases hlt : 64 ≤ (b.drop (64 * k)).length
 ·refine RH.pure (fun u hu => ((hu.2.now hu.1.2).cap : (b.drop (64 * k)).length ≤ c1)) fun hcap => ?_
  have hdd : (b.drop (64 * k)).drop 64 = b.drop (64 * (k + 1)) := by rw [List.drop_drop]; rfl
  have htl : ((b.drop (64 * k)).take 64).length = 64 := by rw [List.length_take]; omega
  generalize hws : blocksW h b k = ws at *
  refine RH.adv tk [true] rfl rfl (by simp [hlt] <;> omega) ?_
  refine RH.draw rfl [] rfl 5 rfl rfl ?_
  refine RD.adv tk (by kernel_rfl) [] rfl rfl (by simp; omega) ?_
  refine RD.step tk (nx := 3) (i := 0) rfl (by kernel_rfl) rfl rfl rfl ?_ rfl (fun _ h => h) ⟨rfl, rfl⟩ ?_
  ·first | trivial | (simp [hz8]; done)
  refine RD.adv tk (by kernel_rfl) [] rfl rfl (by simp <;> omega) ?_
  refine RD.gives (i := 3) (.av (.val (wsV (takenW ws ((b.drop (64 * k)).take 64))))) rfl (by kernel_rfl) rfl rfl rfl rfl Tryz.call256 (fun u hu => by
   have h := Taken_spec u ws hw8 A1 c1 ((b.drop (64 * k)).take 64) (Sl.take (hu.fact.2.now hu.fact.1.2) 64 hlt) htl
   rw [htl] at h
   exact h) rfl (fun _ h => h) ?_
  intro m2 hm2
  have hnl := takenW_len ((b.drop (64 * k)).take 64) hw8
  generalize takenW ws ((b.drop (64 * k)).take 64) = ws' at hnl hnext ⊢
  refine RD.step tk (nx := 3) (i := 4) rfl (by kernel_rfl) rfl rfl rfl ?_ rfl (fun _ h => h) rfl ?_
  ·first | trivial | (simp [hz8]; exact ⟨by unfold wsC; simp [hnl], fun u hu => wsC_one _ u (by simpa using hu)⟩)
  refine RD.adv tk (by kernel_rfl) [] rfl rfl (by simp <;> omega) ?_
  refine RD.done (.inl rfl) (by kernel_rfl) ?_
  refine RH.adv tk [] rfl rfl (by simp; omega) ?_
  rw [hz5]
  rw [hnext]
  refine RH.again (k + 1, (V.subA A1 64 c1 1, c1 - 64)) (.head _) ?_ rfl (by show b.length - 64 * (k + 1) < b.length - 64 * k; omega) fun u hu => ⟨⟨hu.1, fun v hv hp => ?_⟩, by show 64 * (k + 1) ≤ b.length; omega⟩
  ·rw [show (b.drop (64 * (k + 1))).length = (b.drop (64 * k)).length - 64 by rw [← hdd, List.length_drop]]
   rfl
  ·have h2 := Sl.dropA (hu.2 v hv hp) 64 hlt
   rw [hdd] at h2
   exact h2
 ·have hkk : k = b.length / 64 := by omega
  have htb : b.drop (64 * k) = tailB b := by unfold tailB; rw [hkk]
  rw [htb]
  rw [hkk] at hw8 ⊢
  generalize blocksW h b (b.length / 64) = ws at *
  rw [htb] at hlt
  refine RH.adv tk [false] rfl rfl (by simp [hz8]; exact ⟨⟨by unfold wsC; simp [hw8], fun u hu => wsC_one _ u (by simpa using hu)⟩, by omega⟩) ?_
  exact RH.retBoxT tk (.av (.val (wsV ws))) Tryz.func191 rfl rfl rfl rfl rfl fun w' hst => ⟨(A1, c1), rfl, hst.out [] rfl rfl fun u h => ⟨h.1.1, h.2⟩⟩
theorem byteL_ref (L t : Nat) (hL : L ≤ 1000000) (ht : t < 8) : (((L : Int) % 18446744073709551616 * 8) % 18446744073709551616).fdiv (2 ^ (min ((8 : Int) * (7 - t)).toNat IntKind.u64.bits)) % 256 = ((byteL L t).toNat : Int) := by
 rw [← byte_raw L t ht]
 have e1 : ((L : Int) % 18446744073709551616 * 8) % 18446744073709551616 = 8 * (L : Int) := by omega
 have e2 : ((8 : Int) * (7 - t)) = 56 - 8 * t := by omega
 rw [e1, e2]
theorem byteW_ref (ws : List UInt32) (i : Nat) : (((gW ws (i / 4)).toNat : Int).fdiv (2 ^ (min ((24 : Int) - 8 * ((i : Int) % 4)).toNat IntKind.u32.bits))) % 256 = ((byteW ws i).toNat : Int) := by
 rw [← byteW_raw, show (8 : Int) * ((i : Int) % 4) = (i : Int) % 4 * 8 by omega]
set_option maxHeartbeats 400000 in
theorem ended_spec (w : World) (h : List UInt32) (h8 : h.length = 8) (A : Option Addr) (c : Nat) (rest : List UInt8) (hA : Sl kBy w A c rest) (hn : rest.length < 64) (L : Nat) (hL : L ≤ 1000000) :
  Gives Tryz.prog 193 [wsV h, .slice A rest.length c, intV L] w (sumE (endW h rest L)) := by
 have hl : lim = 140737488351232 := rfl
 have hz8 : (Tryz.t226).size = 8 := by kernel_rfl
 refine enterH tk [(0, .av (.val (wsV h))), (1, slE A rest.length c), (2, intE L)] Tryz.func193 rfl Tryz.ntmps193 rfl rfl ?_
 refine RH.adv tk [] rfl rfl (by simp [hz8]; exact ⟨by unfold wsC; simp [h8], fun u hu => wsC_one h u (by simpa using hu)⟩) ?_
 refine RH.apK (κ := kBy) (id := 2) (l := []) (r := rest) rfl rfl rfl rfl rfl rfl elt_byte rfl rfl (fun w hst => (hA.ext hst.fact).lies) (by simp; omega) (by simp; omega) ?_
 intro A1 c1 m1 hm1
 refine RH.adv tk [] rfl rfl (by simp <;> omega) ?_
 refine RH.apK (κ := kBy) (id := 2) (l := [] ++ rest) (r := [128]) rfl rfl rfl rfl rfl rfl elt_byte rfl rfl (fun u hu => hu.liR (κ := kBy) (l := [128]) (id := 3) rfl (by simp [hl])) (by simp; omega) (by simp; omega) ?_
 intro A2 c2 m2 hm2
 rw [show [] ++ rest ++ [128] = rest ++ padZ 0 by simp [padZ]]
 refine RH.adv tk [] rfl rfl (by simp <;> omega) ?_
 have hpn := padN_lt rest.length
 refine RH.toNx 10 ?_
 refine RH.loop (α := Nat × (Option Addr × Nat)) (fun y => [(2, intE L), (3, .av (.box 0 w.heap.size 0)), (6, .av (.box 1 (w.heap.size + 1) 0)), (7, rowS 2 y.2.1 (rest ++ padZ y.1).length y.2.2)])
  (fun y => [(0, some (.box w.heap.size [.val (wsV h)] 226)), (1, some (.box (w.heap.size + 1) [.val (sumV Sum.zero)] 40)), (2, rowE kBy y.2.1 y.2.2 (rest ++ padZ y.1))])
  (fun y u => Ext w u ∧ y.1 ≤ padN rest.length) (fun y => padN rest.length - y.1) (0, (A2, c2)) rfl rfl (fun u hu => ⟨hu, Nat.zero_le _⟩) ?_
 rintro ⟨j, A3, c3⟩ m3
 refine RH.pure (fun u hu => hu.2) fun hj => ?_
 dsimp only at hj ⊢
 have hpl := padZ_len j
 have hrl : (rest ++ padZ j).length = rest.length + (1 + j) := by rw [List.length_append, hpl]
 by_cases hlt : j < padN rest.length
 ·have hne := padN_at rest.length j hlt
  refine RH.adv tk [true] rfl rfl (by simp [hrl]; omega) ?_
  refine RH.apK (κ := kBy) (id := 2) (l := rest ++ padZ j) (r := [0]) rfl rfl rfl rfl rfl rfl elt_byte rfl rfl (fun u hu => hu.liR (κ := kBy) (l := [0]) (id := 10) rfl (by simp [hl])) (by simp; omega) (by simp; omega) ?_
  intro A4 c4 m4 hm4
  rw [List.append_assoc, padZ_snoc]
  refine RH.adv tk [] rfl rfl (by simp <;> omega) ?_
  exact RH.again (j + 1, (A4, c4)) (.head _) rfl rfl (by show padN rest.length - (j + 1) < padN rest.length - j; omega) fun u hu => ⟨hu.1, hlt⟩
 ·have hj' : j = padN rest.length := by omega
  subst hj'
  have heq := padN_end rest.length
  refine RH.adv tk [false] rfl rfl (by simp [hrl]; omega) ?_
  generalize hP0 : padZ (padN rest.length) = P0 at *
  have hll : ∀ t, (lensL L t).length = t := fun t => by unfold lensL; simp
  have hpb : padB rest.length L = P0 ++ lensL L 8 := by unfold padB; rw [hP0]
  have hend : endW h rest L = digW (blocksW h (rest ++ P0 ++ lensL L 8) ((rest ++ P0 ++ lensL L 8).length / 64)) := by unfold endW; rw [hpb, List.append_assoc]
  rw [hend]
  have hql : (rest ++ P0).length ≤ 200 := by omega
  clear hend hpb hrl hpl heq hP0
  generalize rest ++ P0 = Q0 at *
  refine RH.loop (α := Nat × (Option Addr × Nat)) (fun y => [(2, intE L), (3, .av (.box 0 w.heap.size 0)), (6, .av (.box 1 (w.heap.size + 1) 0)), (7, rowS 2 y.2.1 (Q0 ++ lensL L y.1).length y.2.2), (8, intE (7 - (y.1 : Int)))])
   (fun y => [(0, some (.box w.heap.size [.val (wsV h)] 226)), (1, some (.box (w.heap.size + 1) [.val (sumV Sum.zero)] 40)), (2, rowE kBy y.2.1 y.2.2 (Q0 ++ lensL L y.1))])
   (fun y u => Ext w u ∧ y.1 ≤ 8) (fun y => 8 - y.1) (0, (A3, c3)) (by show V.Sub [(2, intE L), (3, .av (.box 0 w.heap.size 0)), (6, .av (.box 1 (w.heap.size + 1) 0)), (7, rowS 2 A3 (Q0 ++ []).length c3), (8, intE (7 - ((0 : Nat) : Int)))] _; rw [List.append_nil]; rfl) (by show SubH [(0, some (.box w.heap.size [.val (wsV h)] 226)), (1, some (.box (w.heap.size + 1) [.val (sumV Sum.zero)] 40)), (2, rowE kBy A3 c3 (Q0 ++ []))] _; rw [List.append_nil]; rfl) (fun u hu => ⟨hu.1, Nat.zero_le _⟩) ?_
  rintro ⟨t, A4, c4⟩ m4
  refine RH.pure (fun u hu => hu.2) fun ht => ?_
  dsimp only at ht ⊢
  by_cases hlt2 : t < 8
  ·refine RH.adv tk [true] rfl rfl (by simp <;> omega) ?_
   rw [byteL_ref L t hL hlt2]
   have hl1 := hll t
   refine RH.apK (κ := kBy) (id := 2) (l := Q0 ++ lensL L t) (r := [byteL L t]) rfl rfl rfl rfl rfl rfl elt_byte rfl rfl (fun u hu => hu.liR (κ := kBy) (l := [byteL L t]) (id := 10) rfl (by simp [hl])) (by rw [List.length_append, hll]; simp; omega) (by rw [List.length_append, hll]; simp; omega) ?_
   intro A5 c5 m5 hm5
   rw [List.append_assoc, lensL_snoc]
   refine RH.adv tk [] rfl rfl (by simp <;> omega) ?_
   refine RH.again (t + 1, (A5, c5)) (.head _) ?_ rfl (by show 8 - (t + 1) < 8 - t; omega) fun u hu => ⟨hu.1, hlt2⟩
   have e : (7 : Int) - ((t + 1 : Nat) : Int) = 7 - (t : Int) - 1 := by omega
   simp only [e]
   rfl
  ·have ht8 : t = 8 := by omega
   subst ht8
   have hbl : (Q0 ++ lensL L 8).length ≤ 300 := by rw [List.length_append, hll]; omega
   generalize Q0 ++ lensL L 8 = bb at *
   have hw8 := blocksW_len (ws := h) bb (bb.length / 64) h8
   refine RH.adv tk [false] rfl rfl (by simp <;> omega) ?_
   refine RH.doB [] 12 (hc := Tryz.call191) (ho := rfl) (hw := rfl) (hd := rfl) (hf := rfl) (hes := rfl) (hσ := rfl) (hn := rfl) (hV := fun _ => rfl) (hG := fun _ => rfl) (e := fun y : Option Addr × Nat => .av (.val (.tuple #[wsV (blocksW h bb (bb.length / 64)), .slice y.1 (tailB bb).length y.2]))) (hC := All_spec h h8 A4 c4 bb (by omega)) (hp := fun u hu => Sl.own (B := w.heap.size) (hu.row (κ := kBy) (id := 2) (l := bb) rfl) (by omega)) ?_
   rintro ⟨A5, c5⟩ m5 hm5
   refine RH.drop ?_
   generalize tailB bb = tl at *
   generalize blocksW h bb (bb.length / 64) = W1 at *
   refine RH.adv tk [] rfl rfl (by simp [hz8]; exact ⟨by unfold wsC; simp [hw8], fun u hu => wsC_one _ u (by simpa using hu)⟩) ?_
   refine RH.boxObj (id := 0) (wsC W1) rfl (boxCells_ws W1) ?_
   refine RH.boxObj (id := 12) (bsC (outB W1 0)) rfl (by show boxCells [.val (.agg (bsC (List.replicate 32 0)))] = _; unfold boxCells; simp [flat, AV.v, Value.cells]; rfl) ?_
   refine RH.loop (α := Nat) (fun i => [(3, .av (.box 0 w.heap.size 0)), (6, .av (.box 1 (w.heap.size + 1) 0)), (9, .av (.box 12 m5 0)), (10, intE i)])
    (fun i => [(0, wsE w.heap.size 226 W1), (1, some (.box (w.heap.size + 1) [.val (sumV Sum.zero)] 40)), (12, bsE m5 (outB W1 i))]) (fun i u => Ext w u ∧ i ≤ 32) (fun i => 32 - i) 0 rfl rfl (fun u hu => ⟨hu.1, Nat.zero_le _⟩) ?_
   intro i m6
   refine RH.pure (fun u hu => hu.2) fun hi => ?_
   have hol := outB_len W1 i
   by_cases hlt3 : i < 32
   ·have hnext : (outB W1 i).set i (byteW W1 i) = outB W1 (i + 1) := rfl
    have e : (((i : Nat) : Int) / 4).toNat = i / 4 := by omega
    refine RH.adv tk [true] rfl rfl (by simp <;> omega) ?_
    refine RH.loadS (u32E (gW W1 (i / 4))) rfl rfl rfl rfl (fun u hu => load_wsAt (hu.holds 0 _ rfl).2 (i / 4) (by omega) _ (by show (((i : Nat) : Int) / 4).toNat * 1 = i / 4 * 1; omega)) ?_
    refine RH.adv tk [] rfl rfl (by simp <;> omega) ?_
    refine RH.storeB (id := 12) (l := outB W1 i) i (byteW W1 i) rfl rfl rfl rfl rfl (by omega) rfl (by unfold u8V; rw [← byteW_ref]; rfl) ?_
    intro m7 hm7
    rw [hnext]
    refine RH.adv tk [] rfl rfl (by simp <;> omega) ?_
    exact RH.again (i + 1) (.head _) rfl rfl (by show 32 - (i + 1) < 32 - i; omega) fun u hu => ⟨hu.1, hlt3⟩
   ·have hi32 : i = 32 := by omega
    subst hi32
    refine RH.objBox (id := 12) [.val (sumV (digW W1))] rfl (by unfold boxCells sumV digW bsC; simp [flat, AV.v, Value.cells]) ⟨_, rfl, vok_sum _⟩ ?_
    refine RH.adv tk [false] rfl rfl (by simp) ?_
    exact RH.retBox tk (.av (.val (sumV (digW W1)))) Tryz.func193 rfl rfl rfl rfl fun w hst => ⟨rfl, hst.fact.1⟩
theorem rOf_spec (w : World) (A : Option Addr) (c : Nat) (b : List UInt8) (hb : Sl kBy w A c b) (hn : b.length ≤ 1000000) : Gives Tryz.prog 110 [.slice A b.length c] w (.av (.val (sumV (shaW b)))) := by
 have hz8 : (Tryz.t226).size = 8 := by kernel_rfl
 refine enterH tk [(0, slE A b.length c)] Tryz.func110 rfl Tryz.ntmps110 rfl rfl ?_
 refine RH.adv tk [] rfl rfl ?_ ?_
 ·first | exact ⟨⟨rfl, List.all_eq_true.1 (by kernel_rfl)⟩, trivial⟩ | (simp; done)
 refine RH.gives (ho := rfl) (hw := rfl) (hd := rfl) (hf := rfl) (hes := rfl) (hc := Tryz.call192) (e := .av (.val (wsV beginW))) (hC := fun u _ => First_spec u) ?_
 intro m1 hm1
 have h8 : beginW.length = 8 := rfl
 have hsh : shaW b = endW (blocksW beginW b (b.length / 64)) (tailB b) b.length := rfl
 rw [hsh]
 have hw8 := blocksW_len (ws := beginW) b (b.length / 64) rfl
 have htl := tailB_lt b
 generalize hB : beginW = B at *
 refine RH.adv tk [] rfl rfl (by simp <;> omega) ?_
 refine RH.doB [] 4 (hc := Tryz.call191) (ho := rfl) (hw := rfl) (hd := rfl) (hf := rfl) (hes := rfl) (hσ := rfl) (hn := rfl) (hV := fun _ => rfl) (hG := fun _ => rfl) (e := fun y : Option Addr × Nat => .av (.val (.tuple #[wsV (blocksW B b (b.length / 64)), .slice y.1 (tailB b).length y.2]))) (hC := All_spec B h8 A c b hn) (hp := fun u hu => hb.ext hu.fact) ?_
 rintro ⟨A1, c1⟩ m2 hm2
 generalize tailB b = tl at *
 generalize blocksW B b (b.length / 64) = W1 at *
 refine RH.adv tk [] rfl rfl (by simp [hz8]; exact ⟨by unfold wsC; simp [hw8], fun u hu => wsC_one _ u (by simpa using hu)⟩) ?_
 refine RH.gives (ho := rfl) (hw := rfl) (hd := rfl) (hf := rfl) (hes := rfl) (hc := Tryz.call193) (e := .av (.val (sumV (endW W1 tl b.length)))) (hC := fun u hst => ended_spec u W1 hw8 A1 c1 tl (hst.fact.2.now (hb.ext hst.fact.1)) htl b.length hn) ?_
 intro m3 hm3
 refine RH.adv tk [] rfl rfl (by simp) ?_
 exact RH.retBox tk (.av (.val (sumV (endW W1 tl b.length)))) Tryz.func110 rfl rfl rfl rfl fun u hu => ⟨rfl, hu.fact.1⟩
theorem begins_spec (w : World) (s p : Str) : Gives Tryz.prog 112 [strV s, strV p] w (boE (hasPre s p)) := by
 refine enterH tk [(0, strE s), (1, strE p)] Tryz.func112 rfl Tryz.ntmps112 rfl rfl ?_
 by_cases h : p.length ≤ s.length
 ·refine RH.adv tk [true] rfl rfl (by simp [h] <;> omega) ?_
  refine RH.ret1 Tryz.func112 rfl rfl fun w' hst => ⟨by simp [hasPre, h, EV.v, AV.v], hst.fact⟩
 ·refine RH.adv tk [false] rfl rfl (by simp [h] <;> omega) ?_
  refine RH.ret1 Tryz.func112 rfl rfl fun w' hst => ⟨by simp [hasPre, h, EV.v, AV.v], hst.fact⟩
theorem indexB_spec (w : World) (A : Option Addr) (c : Nat) (l : List UInt8) (h : Sl kBy w A c l) (x : UInt8) : Gives Tryz.prog 113 [.slice A l.length c, u8V x] w (intE (idxOf (fun y => decide (x = y)) l 0)) := by
 have hl : lim = 140737488351232 := rfl
 have hsm := h.small
 refine enterH tk [(0, slE A l.length c), (1, byE x)] Tryz.func113 rfl Tryz.ntmps113 rfl rfl ?_
 refine RH.adv tk [] rfl rfl (by simp <;> omega) ?_
 refine RH.loop (α := Nat) (fun i => [(0, slE A l.length c), (1, byE x), (7, slE A l.length c), (8, intE l.length), (9, intE i)]) (fun _ => []) (fun i w' => Ext w w' ∧ i ≤ l.length ∧ (l.take i).any (fun y => decide (x = y)) = false) (fun i => l.length - i) 0
  rfl rfl (fun w' h => ⟨h, Nat.zero_le _, rfl⟩) ?_
 intro i m
 refine RH.pure (fun w' h => h.2) fun ⟨hi, hpre⟩ => ?_
 by_cases hlt : i < l.length
 ·have hts : l.take (i + 1) = l.take i ++ [l[i]] := List.take_succ_eq_append_getElem hlt
  refine RH.adv tk [true] rfl rfl (by simp [h.ptr hlt] <;> omega) ?_
  refine RH.load (byE l[i]) rfl rfl rfl rfl (fun w' h' => (h.ext h'.1).load hlt) ?_
  by_cases hp : x = l[i]
  ·refine RH.adv tk [true] rfl rfl (by simp [hp] <;> omega) ?_
   refine RH.ret1 Tryz.func113 rfl rfl fun w' hst => ⟨?_, hst.fact.1⟩
   rw [idxOf_at _ l 0 i hlt hpre (by simpa using hp), Nat.zero_add]
  ·have hp2 : ¬ l[i].toNat = x.toNat := fun e => hp (UInt8.toNat_inj.1 e.symm)
   refine RH.adv tk [false] rfl rfl (by simp [hp2] <;> omega) ?_
   refine RH.again (i + 1) (.head _) rfl rfl (by omega) fun w' h => ⟨h.1, by omega, ?_⟩
   rw [hts, List.any_append, hpre]; simp [hp]
 ·rw [List.take_of_length_le (by omega)] at hpre
  refine RH.adv tk [false] rfl rfl (by simp <;> omega) ?_
  refine RH.ret1 Tryz.func113 rfl rfl fun w' hst => ⟨?_, hst.fact.1⟩
  rw [idxOf_none _ l 0 hpre]
theorem rright_spec (w : World) (s : Stp) (h : Sl kBy w s.A s.c s.bytes) (hn : s.nodes.length ≤ lim) : Gives Tryz.prog 109 [(EV.st (stpF s)).v] w (boE (rightD s.dat)) := by
 have hl : lim = 140737488351232 := rfl
 have hsm := h.small
 have hD : rightD s.dat = (riseB s.bytes && (decide (s.stem.length ≤ 60) && (decide (s.bytes.length = s.nodes.length) && (s.has || (decide (s.sum = Sum.zero) && decide (1 < s.bytes.length)))))) := rfl
 refine enterH tk [(0, .st (stpF s))] Tryz.func109 rfl Tryz.ntmps109 rfl rfl ?_
 by_cases h1 : s.stem.length ≤ 60
 ·have h1i : ((s.stem.length : Nat) : Int) ≤ 60 := by omega
  apply RH.joinK (α := Unit) (fun _ => [(1, .av (.box 0 w.heap.size 0)), (3, intE ((0 + 1 : Nat) : Int))]) (fun _ => [(0, some (.box w.heap.size (stpF s) 66))]) (fun _ u => Ext w u ∧ (decide (s.bytes.length = s.nodes.length) && (s.has || (decide (s.sum = Sum.zero) && decide (1 < s.bytes.length)))) = true)
  ·cases hh : s.has with
   | true =>
    by_cases h2 : s.bytes.length = s.nodes.length
    ·refine RH.adv tk [false, false, false, false] rfl rfl (by simp [h1i, h2, hh] <;> omega) ?_
     exact RH.mtS () [] (.head _) rfl rfl rfl fun u h => ⟨h, by simp [h2]⟩
    ·refine RH.adv tk [false, false, true] rfl rfl (by simp [h1i, h2, hh] <;> omega) ?_
     refine RH.ret1 Tryz.func109 rfl rfl fun u hst => ⟨by rw [hD]; simp [h2, EV.v, AV.v], hst.fact⟩
   | false =>
    refine RH.adv tk [false, true] rfl rfl (by simp [h1i, hh]) ?_
    refine RH.read (sumE Sum.zero) rfl rfl rfl rfl (fun w' a _ hag => ?_) ?_
    ·simp only [execOp, List.map_toArray, List.map_nil, buZ, Sem.run_bind, Result.andThen_ok, Sem.run_pure]
     rfl
    refine RH.read (boE (!decide (s.sum = Sum.zero))) rfl rfl rfl rfl (fun w' a _ hag => op_neq hag rfl rfl rfl rfl rfl (by kernel_rfl) (eq_sum w' 9998 _ _)) ?_
    by_cases h3 : s.sum = Sum.zero
    ·by_cases h2 : s.bytes.length = s.nodes.length
     ·by_cases h4 : 1 < s.bytes.length
      ·refine RH.adv tk [false, false, true, false] rfl rfl (by simp [h3, h2, hh] <;> omega) ?_
       exact RH.mtS () [] (.head _) rfl rfl rfl fun u h => ⟨h, by simp [h2, h3]; omega⟩
      ·refine RH.adv tk [false, false, true, true] rfl rfl (by simp [h3, h2, hh] <;> omega) ?_
       refine RH.ret1 Tryz.func109 rfl rfl fun u hst => ⟨by rw [hD]; simp [h4, hh, EV.v, AV.v], hst.fact⟩
     ·refine RH.adv tk [false, true] rfl rfl (by simp [h3, h2, hh] <;> omega) ?_
      refine RH.ret1 Tryz.func109 rfl rfl fun u hst => ⟨by rw [hD]; simp [h2, EV.v, AV.v], hst.fact⟩
    ·refine RH.adv tk [true] rfl rfl (by simp [h3, hh] <;> omega) ?_
     refine RH.ret1 Tryz.func109 rfl rfl fun u hst => ⟨by rw [hD]; simp [h3, hh, EV.v, AV.v], hst.fact⟩
  rintro ⟨⟩ m1
  refine RH.pure (fun u hu => hu.2) fun hok => ?_
  rw [hok] at hD
  rw [decide_eq_true h1, Bool.true_and, Bool.and_true] at hD
  rw [hD]
  refine RH.toNx 3 ?_
  refine RH.loop (α := Nat) (fun y => [(1, .av (.box 0 w.heap.size 0)), (3, intE ((y + 1 : Nat) : Int))]) (fun _ => [(0, some (.box w.heap.size (stpF s) 66))]) (fun y u => Ext w u ∧ y ≤ s.bytes.length ∧ ∀ i (hi : i + 1 < s.bytes.length), i < y → s.bytes[i]'(by omega) < s.bytes[i + 1]) (fun y => s.bytes.length - y) 0 rfl rfl (fun u hu => ⟨hu.1, Nat.zero_le _, fun i hi h => absurd h (Nat.not_lt_zero _)⟩) ?_
  intro y m
  refine RH.pure (fun u hu => hu.2) fun ⟨hy, hpre⟩ => ?_
  by_cases hlt : y + 1 < s.bytes.length
  ·have hptr : Ptr s.A := h.ptr hlt
   have e1 : (((y + 1 : Nat) : Int) - 1).toNat = y := by omega
   refine RH.adv tk [true] rfl rfl (by simp <;> omega) ?_
   refine RH.draw rfl [(0, some (.box w.heap.size (stpF s) 66))] rfl 12 rfl rfl ?_
   refine RD.adv tk (by kernel_rfl) [] rfl rfl (by simp [hptr] <;> omega) ?_
   rw [e1]
   refine RD.load (by kernel_rfl) (i := 4) (byE s.bytes[y + 1]) rfl rfl rfl rfl rfl rfl (fun w' hw => (h.ext hw.1).load hlt) ?_
   refine RD.load (by kernel_rfl) (i := 10) (byE (s.bytes[y]'(by omega))) rfl rfl rfl rfl rfl rfl (fun w' hw => (h.ext hw.1).load (i := y) (by omega)) ?_
   refine RD.adv tk (by kernel_rfl) [] rfl rfl (by simp <;> omega) ?_
   refine RD.done (.inl rfl) (by kernel_rfl) ?_
   by_cases hb : (s.bytes[y]'(by omega)).toNat < (s.bytes[y + 1]).toNat
   ·refine RH.adv tk [false] rfl rfl (by simp [hb] <;> omega) ?_
    refine RH.again (y + 1) (.head _) rfl rfl (by omega) fun u hu => ⟨hu.1, by omega, fun i hi h2 => ?_⟩
    rcases Nat.lt_or_eq_of_le (Nat.le_of_lt_succ h2) with h3 | h3
    ·exact hpre i hi h3
    ·subst h3; exact u8_lt.2 hb
   ·refine RH.adv tk [true] rfl rfl (by simp [hb] <;> omega) ?_
    have hr : riseB s.bytes = false := by
     cases hr : riseB s.bytes with
     | false => rfl
     | true => exact absurd (u8_lt.1 ((riseB_at _).1 hr y hlt)) hb
    rw [hr]
    refine RH.ret1 Tryz.func109 rfl rfl fun u hst => ⟨rfl, hst.fact.1⟩
  ·have hrise : riseB s.bytes = true := (riseB_at _).2 fun i hi => hpre i hi (by omega)
   rw [hrise]
   refine RH.adv tk [false] rfl rfl (by simp <;> omega) ?_
   refine RH.ret1 Tryz.func109 rfl rfl fun u hst => ⟨rfl, hst.fact.1⟩
 ·refine RH.adv tk [true] rfl rfl (by simp [h1] <;> omega) ?_
  refine RH.ret1 Tryz.func109 rfl rfl fun u hst => ⟨by rw [hD]; simp [h1, EV.v, AV.v], hst.fact⟩
set_option maxHeartbeats 400000 in
theorem rBytes_spec (s : Stp) (hst : s.stem.length ≤ 1000) (hbl : s.bytes.length ≤ 1000) (hno : s.bytes.length = s.nodes.length) :
  Does Tryz.prog tb 111 [(EV.st (stpF s)).v] [] (fun u => s.ok u) (fun y : Option Addr × Nat => .slice y.1 s.bs.length y.2) (fun _ => []) (fun y => Late (fun _ => True) (fun u => Sl kBy u y.1 y.2 s.bs)) := by
 have hlim : lim = 140737488351232 := rfl
 refine V.Does.enter0 [(0, .st (stpF s))] Tryz.func111 rfl Tryz.ntmps111 rfl rfl 0 ?_
 intro m0 K
 refine RH.adv tk [] rfl rfl (by simp) ?_
 rw [u8_of]
 have e1 : ((s.bytes.length : Int) / 256 % 256) = ((UInt8.ofNat (s.bytes.length / 256)).toNat : Int) := by rw [UInt8.toNat_ofNat']; omega
 have e2 : ((s.bytes.length : Int) % 256 % 256) = ((UInt8.ofNat s.bytes.length).toNat : Int) := by rw [UInt8.toNat_ofNat']; omega
 have hsh := s.sum.h
 have hbs : s.bs = ([UInt8.ofNat s.stem.length] ++ s.stem ++ vB (if s.has = true then some s.sum else none)) ++ [UInt8.ofNat (s.bytes.length / 256), UInt8.ofNat s.bytes.length] ++ pairB s.bytes s.nodes := by unfold Stp.bs stepB; rfl
 refine RH.go rfl rfl (OpGo.appendStr (id := 1) (l := [UInt8.ofNat s.stem.length]) (t := s.stem) rfl rfl rfl rfl (by simp) (by simp; omega)) 2 ?_
 rintro ⟨A1, c1⟩ m1 hm1
 have hvl : (vB (if s.has = true then some s.sum else none)).length ≤ 33 := by split <;> simp [vB, hsh]
 apply RH.joinK (α := Option Addr × Nat) (fun y => [(1, .av (.box 0 m0 0)), (3, rowS 1 y.1 ([UInt8.ofNat s.stem.length] ++ s.stem ++ vB (if s.has = true then some s.sum else none)).length y.2)])
  (fun y => [(0, some (.box m0 (stpF s) 66)), (1, rowE kBy y.1 y.2 ([UInt8.ofNat s.stem.length] ++ s.stem ++ vB (if s.has = true then some s.sum else none)))]) (fun _ u => K u ∧ s.ok u)
 ·by_cases hh : s.has = true
  ·rw [if_pos hh]
   refine RH.adv tk [true] rfl rfl (by simp [hh] <;> omega) ?_
   refine RH.draw rfl [] rfl 7 rfl rfl ?_
   refine RD.adv tk (by kernel_rfl) [] rfl rfl (by simp <;> omega) ?_
   refine RD.read (by kernel_rfl) (i := 4) (.av (.val (.slice (some ⟨m0, 2, none⟩) 32 32))) rfl rfl rfl rfl rfl rfl (fun u q _ ha => ?_) ?_
   ·have e1 : q.eval (.tmp 19) = .pointer (some ⟨m0, 2, none⟩) := ev_run (e := .av (.box 0 m0 2)) ha rfl
    simp only [execOp, e1, Option.map_none, slice_all, Sem.run_bind, Result.andThen_ok, Sem.run_pure]
    rfl
   refine RD.step tk (nx := 5) (i := 1) rfl (by kernel_rfl) rfl rfl rfl ?_ rfl (fun _ h => h) ⟨rfl, rfl⟩ ?_
   ·first | trivial | (simp; done)
   refine RD.adv tk (by kernel_rfl) [] rfl rfl (by simp <;> omega) ?_
   refine RD.apK (nx := 6) (i := 2) (κ := kBy) (id := 1) (r := [1]) (l := [UInt8.ofNat s.stem.length] ++ s.stem) rfl (by kernel_rfl) rfl rfl rfl rfl rfl elt_byte rfl rfl (fun w hst => hst.liR (id := 5) (κ := kBy) (l := [(1 : UInt8)]) rfl (by simp [hlim])) (by simp; omega) (by simp; omega) (fun _ _ => rfl) (fun _ h => h) ?_
   intro A3 c3 m3 hm3
   refine RD.adv tk (by kernel_rfl) [] rfl rfl (by simp <;> omega) ?_
   refine RD.apK (nx := 7) (i := 5) (κ := kBy) (id := 1) (r := s.sum.l) (l := [UInt8.ofNat s.stem.length] ++ s.stem ++ [1]) rfl (by kernel_rfl) rfl rfl rfl rfl rfl elt_byte rfl (by rw [hsh]; rfl) (fun w hst => (sl_sum (range_take (n := 32) (hst.holds 0 _ rfl).2.1 (stp_mid s))).lies) (by simp [hsh]; omega) (by simp [hsh]; omega) (fun _ _ => rfl) (fun _ h => h) ?_
   intro A4 c4 m4 hm4
   refine RD.adv tk (by kernel_rfl) [] rfl rfl (by simp <;> omega) ?_
   refine RD.done (.inl rfl) (by kernel_rfl) ?_
   exact RH.mtS (A4, c4) [] (.head _) (by rw [show [UInt8.ofNat s.stem.length] ++ s.stem ++ [1] ++ s.sum.l = [UInt8.ofNat s.stem.length] ++ s.stem ++ vB (some s.sum) by simp [vB]]; rfl) (by rw [show [UInt8.ofNat s.stem.length] ++ s.stem ++ [1] ++ s.sum.l = [UInt8.ofNat s.stem.length] ++ s.stem ++ vB (some s.sum) by simp [vB]]; rfl) rfl fun u h => h
  ·rw [if_neg hh]
   refine RH.adv tk [false] rfl rfl (by simp [hh] <;> omega) ?_
   refine RH.apK (κ := kBy) (id := 1) (l := [UInt8.ofNat s.stem.length] ++ s.stem) (r := [0]) rfl rfl rfl rfl rfl rfl elt_byte rfl rfl (fun u hu => hu.liR (κ := kBy) (l := [(0 : UInt8)]) (id := 2) rfl (by simp [hlim])) (by simp; omega) (by simp; omega) ?_
   intro A4 c4 m4 hm4
   refine V.RH.advN 2 tk [] rfl rfl trivial ?_
   exact RH.mtS (A4, c4) [] (.head _) rfl rfl rfl fun u h => h
 rintro ⟨A2, c2⟩ m2
 dsimp only
 generalize hL2 : [UInt8.ofNat s.stem.length] ++ s.stem ++ vB (if s.has = true then some s.sum else none) = L2 at *
 have hl2 : L2.length ≤ 1034 := by rw [← hL2]; simp; omega
 refine RH.toNx 10 ?_
 refine RH.adv tk [] rfl rfl (by simp; omega) ?_
 rw [e1, e2]
 refine RH.apK (κ := kBy) (id := 1) (l := L2) (r := [UInt8.ofNat (s.bytes.length / 256), UInt8.ofNat s.bytes.length]) rfl rfl rfl rfl rfl rfl elt_byte rfl rfl (fun u hu => hu.liR (κ := kBy) (l := [UInt8.ofNat (s.bytes.length / 256), UInt8.ofNat s.bytes.length]) (id := 10) rfl (by simp [hlim])) (by simp; omega) (by simp; omega) ?_
 intro A5 c5 m5 hm5
 refine RH.adv tk [] rfl rfl (by simp <;> omega) ?_
 generalize hL3 : L2 ++ [UInt8.ofNat (s.bytes.length / 256), UInt8.ofNat s.bytes.length] = L3 at *
 have hl3 : L3.length ≤ 1036 := by rw [← hL3]; simp; omega
 rw [show L3 = L3 ++ pairB (s.bytes.take 0) (s.nodes.take 0) by simp [pairB]]
 refine RH.tell [(1, .av (.box 0 m0 0)), (3, rowS 1 A5 (L3 ++ pairB (s.bytes.take 0) (s.nodes.take 0)).length c5), (39, slE s.A s.bytes.length s.c), (40, intE s.bytes.length), (41, intE 0)] [(0, some (.box m0 (stpF s) 66)), (1, rowE kBy A5 c5 (L3 ++ pairB (s.bytes.take 0) (s.nodes.take 0)))] [] rfl rfl rfl 10 ?_
 refine RH.loop (α := Nat × (Option Addr × Nat)) (fun y => [(1, .av (.box 0 m0 0)), (3, rowS 1 y.2.1 (L3 ++ pairB (s.bytes.take y.1) (s.nodes.take y.1)).length y.2.2), (39, slE s.A s.bytes.length s.c), (40, intE s.bytes.length), (41, intE y.1)])
  (fun y => [(0, some (.box m0 (stpF s) 66)), (1, rowE kBy y.2.1 y.2.2 (L3 ++ pairB (s.bytes.take y.1) (s.nodes.take y.1)))])
  (fun y u => (K u ∧ s.ok u) ∧ y.1 ≤ s.bytes.length) (fun y => s.bytes.length - y.1) (0, (A5, c5)) rfl rfl (fun u h => ⟨h, Nat.zero_le _⟩) ?_
 rintro ⟨i, A6, c6⟩ m6
 refine RH.pure (fun u h => h.2) fun hi => ?_
 refine V.RH.know (fun u => K u ∧ s.ok u) (fun u h => h.1) ?_
 dsimp only at hi ⊢
 have hpl := pairB_len (s.bytes.take i) (s.nodes.take i)
 rw [List.length_take] at hpl
 by_cases hlt : i < s.bytes.length
 ·have hltn : i < s.nodes.length := by omega
  have hpt := pair_take (bs := s.bytes) (os := s.nodes) hno.symm hlt
  have hx32 := (s.nodes[i]).h
  refine RH.pure (fun u h => (⟨h.2.1.ptr hlt, h.2.2.ptr hltn⟩ : Ptr s.A ∧ Ptr s.B)) fun ⟨pA, pB⟩ => ?_
  generalize hL4 : L3 ++ pairB (s.bytes.take i) (s.nodes.take i) = L4 at *
  have hl4 : L4.length ≤ 1036 + 33000 := by rw [← hL4, List.length_append]; omega
  refine RH.adv tk [true] rfl rfl (by simp [pA] <;> omega) ?_
  refine RH.load (byE s.bytes[i]) rfl rfl rfl rfl (fun u hu => hu.2.1.load hlt) ?_
  refine RH.adv tk [] rfl rfl (by simp <;> omega) ?_
  refine RH.draw rfl [(0, some (.box m0 (stpF s) 66))] rfl 11 rfl rfl ?_
  refine RD.adv tk (by kernel_rfl) [] rfl rfl (by simp; exact ⟨pB, hltn⟩) ?_
  refine RD.read (by kernel_rfl) (i := 8) (.av (.val (.slice (some ⟨blkA s.B, offA s.B + i * 32, none⟩) 32 32))) rfl rfl rfl rfl rfl rfl (fun u q _ ha => ?_) ?_
  ·have e1 : q.eval (.tmp 53) = .pointer (some ⟨blkA s.B, offA s.B + i * 32, none⟩) := ev_run (e := .av (.val (.pointer (some ⟨blkA s.B, offA s.B + i * 32, none⟩)))) ha rfl
   simp only [execOp, e1, Option.map_none, slice_all, Sem.run_bind, Result.andThen_ok, Sem.run_pure]
   rfl
  refine RD.step tk (nx := 10) (i := 2) rfl (by kernel_rfl) rfl rfl rfl ?_ rfl (fun _ h => h) ⟨rfl, rfl⟩ ?_
  ·first | trivial | (simp; done)
  refine RD.adv tk (by kernel_rfl) [] rfl rfl (by simp <;> omega) ?_
  refine RD.apK (nx := 11) (i := 3) (κ := kBy) (id := 1) (r := [s.bytes[i]]) (l := L4) rfl (by kernel_rfl) rfl rfl rfl rfl rfl elt_byte rfl rfl (fun w hst => hst.liR (id := 10) (κ := kBy) (l := [s.bytes[i]]) rfl (by simp [hlim])) (by simp; omega) (by simp; omega) (fun _ _ => rfl) (fun _ h => h) ?_
  intro A7 c7 m7 hm7
  refine RD.adv tk (by kernel_rfl) [] rfl rfl (by simp <;> omega) ?_
  refine RD.apK (nx := 12) (i := 9) (κ := kBy) (id := 1) (l := L4 ++ [s.bytes[i]]) (r := s.nodes[i].l) rfl (by kernel_rfl) rfl rfl rfl rfl rfl elt_byte rfl (by rw [hx32]; rfl) (fun u hu => (sl_sum (hu.fact.2.2.sumAt hltn)).lies) (by simp [hx32]; omega) (by simp [hx32]; omega) (fun _ _ => rfl) (fun _ h => h) ?_
  intro A8 c8 m8 hm8
  refine RD.adv tk (by kernel_rfl) [] rfl rfl (by simp <;> omega) ?_
  refine RD.done (.inl rfl) (by kernel_rfl) ?_
  have hn : L4 ++ [s.bytes[i]] ++ s.nodes[i].l = L3 ++ pairB (s.bytes.take (i + 1)) (s.nodes.take (i + 1)) := by rw [hpt, ← hL4]; simp
  rw [hn]
  refine RH.adv tk [] rfl rfl (by simp <;> omega) ?_
  exact RH.again (i + 1, (A8, c8)) (.head _) rfl rfl (by show s.bytes.length - (i + 1) < s.bytes.length - i; omega) fun u h => ⟨h, hlt⟩
 ·have hn : i = s.bytes.length := by omega
  rw [hn, List.take_length, List.take_of_length_le (by omega)] at hpl ⊢
  rw [← hbs]
  have hsm : s.bs.length ≤ 34036 := by rw [hbs, List.length_append]; omega
  refine RH.adv tk [false] rfl rfl (by simp <;> omega) ?_
  refine RH.free (i := 1) rfl ?_
  refine RH.ret1 Tryz.func111 rfl rfl fun w hst => ⟨(A6, c6), rfl, hst.out [] rfl rfl fun u h => ⟨h.1.1, fun v hv _ => Sl.own (hoL h.2 hv) (by omega)⟩⟩
def kRStp : Kd Stp where
 T := 66
 sz := 36
 ev s := .st (stpF s)
 ok s := by
  rw [stp_cells]
  refine ⟨_, Tryz.t66, rfl, rfl, by simp [s.sum.h]; rfl, ?_⟩
  intro u hu
  simp only [List.mem_append, List.mem_cons, List.not_mem_nil, or_false, List.mem_map] at hu
  rcases hu with (rfl | rfl) | ⟨b, _, rfl⟩ | (rfl | rfl) <;> rfl
 size s := by rw [stp_cells]; simp [Value.cells, s.sum.h]
theorem elt_RStp : ElT tb kRStp.T 36 104 := ⟨⟨Tryz.t66, (Tryz.t66).zero.getD undef, by kernel_rfl, by kernel_rfl, by kernel_rfl, by kernel_rfl, by kernel_rfl⟩, by decide⟩
def stepJ (s : StD) (nm : Str) : Int := if hasPre nm s.1 = true ∧ s.1.length < nm.length then idxOf (fun y => decide (nm.getD s.1.length 0 = y)) s.2.2.2.1 0 else -1
theorem cut_more {nm s : Str} (hp : hasPre nm s = true) (hl : s.length < nm.length) : cutS nm s = nm.getD s.length 0 :: nm.drop (s.length + 1) := by
 unfold cutS
 rw [if_pos hp, List.drop_eq_getElem_cons hl]
 simp [List.getD_eq_getElem?_getD, List.getElem?_eq_getElem hl]
theorem ver_j {s : StD} {root : Sum} (h : stOwn s = root) {nm : Str} (hj : 0 ≤ stepJ s nm) (r : List StD) (x : Sum) (is : Bool) :
  verGo (s :: r) root nm x is true = verGo r (s.2.2.2.2.getD (stepJ s nm).toNat Sum.zero) (nm.drop (s.1.length + 1)) Sum.zero false true ∧ hasPre nm s.1 = true ∧ s.1.length < nm.length ∧ (stepJ s nm).toNat < s.2.2.2.1.length := by
 unfold stepJ at hj ⊢
 split at hj
 ·rename_i hc
  rw [if_pos hc]
  have h2 := (idxOf_lt _ _ _ hj).2
  exact ⟨ver_go h hc.1 (cut_more hc.1 hc.2) (by unfold nextN; rw [if_pos hj]) r x is, hc.1, hc.2, by omega⟩
 ·omega
theorem pre_end {nm s : Str} (hp : hasPre nm s = true) (hl : ¬ s.length < nm.length) : nm = s := by
 unfold hasPre at hp
 rw [Bool.and_eq_true, decide_eq_true_iff, decide_eq_true_iff] at hp
 rw [← hp.2, List.take_of_length_le (by omega)]
theorem pre_self (s : Str) : hasPre s s = true := by unfold hasPre; simp
theorem ver_nj {s : StD} {root : Sum} (h : stOwn s = root) {nm : Str} (hj : ¬ 0 ≤ stepJ s nm) (r : List StD) (x : Sum) (is : Bool) :
  verGo (s :: r) root nm x is true = verGo r root nm (if nm = s.1 ∧ s.2.1 = true then s.2.2.1 else Sum.zero) (decide (nm = s.1) && s.2.1) false := by
 by_cases hp : hasPre nm s.1 = true
 ·by_cases hl : s.1.length < nm.length
  ·have hne : ¬ nm = s.1 := fun e => by rw [e] at hl; omega
   unfold stepJ at hj
   rw [if_pos ⟨hp, hl⟩] at hj
   rw [ver_stop h hp (cut_more hp hl) (by unfold nextN; rw [if_neg hj]), if_neg (fun e => hne e.1), decide_eq_false hne, Bool.false_and]
  ·have e := pre_end hp hl
   subst e
   rw [ver_end h hp (by unfold cutS; rw [if_pos hp]; simp)]
   cases s.2.1 <;> simp
 ·have hne : ¬ nm = s.1 := fun e => hp (by rw [e]; exact pre_self s.1)
  rw [ver_not h hp, if_neg (fun e => hne e.1), decide_eq_false hne, Bool.false_and]
theorem V.RH.zeroS {f : Fr} {n : Nat} {S : Stops} {R : Ending → World → Prop} {B0 : Nat} {I : World → Prop} {H : Heap} {nx m : Nat} {env : SEnv} {k : List Item} {ops : Array Oper} {i : Nat} {rs : List Nat} {ty : TypeId} {ps : String} {af : Array Edge} {gd : Option (Nat × Bool)} {d : Nat}
  (ho : ops.toList[i]? = some ⟨some d, .build 40 #[], ty, ps, af, gd⟩) (hw : wantE env ops gd = .yes) (hd : Nat.blt d n = true)
  (hk : RH Tryz.prog f n tb B0 S R (.inRegion ops rs :: k) ((d, sumE Sum.zero) :: env) H nx m I) : RH Tryz.prog f n tb B0 S R (.inRegion ops (i :: rs) :: k) env H nx m I := by
 refine RH.read (sumE Sum.zero) ho rfl hw hd (fun w' a _ hag => ?_) hk
 simp only [execOp, List.map_toArray, List.map_nil, buZ, Sem.run_bind, Result.andThen_ok, Sem.run_pure]
 rfl
theorem stp_bsD (s : Stp) (hl : s.bytes.length = s.nodes.length) : shaW s.bs = stOwn s.dat := rfl
set_option maxHeartbeats 400000 in
theorem rVerify_spec (w : World) (root : Sum) (name : Str) (A : Option Addr) (c : Nat) (l : List Stp) (h : Sl kRStp w A c l) (hs : ∀ s ∈ l, s.ok w) (hb : ∀ s ∈ l, s.bytes.length ≤ 1000) :
  Gives Tryz.prog 41 [sumV root, strV name, .slice A l.length c] w (verV (verifyR root name (l.map Stp.dat))) := by
 have hlim : lim = 140737488351232 := rfl
 have hsm := h.small
 refine enterH tk [(0, sumE root), (1, strE name), (2, slE A l.length c)] Tryz.func41 rfl Tryz.ntmps41 rfl rfl ?_
 by_cases h60 : 60 < name.length
 ·have hv : verifyR root name (l.map Stp.dat) = (Sum.zero, false, 11) := if_pos h60
  rw [hv]
  refine RH.adv tk [true] rfl rfl (by simp <;> omega) ?_
  refine V.RH.zeroS rfl rfl rfl ?_
  refine RH.adv tk [] rfl rfl (by simp <;> omega) ?_
  exact V.RH.retBox3 tk (sumE Sum.zero) Tryz.func41 rfl rfl rfl rfl rfl rfl fun w' hst => ⟨rfl, hst.fact⟩
 refine RH.adv tk [false] rfl rfl (by simp <;> omega) ?_
 refine RH.loop (α := Nat) (fun i => [(1, strE name), (2, slE A l.length c), (3, .av (.box 0 w.heap.size 0)), (6, .av (.box 1 (w.heap.size + 1) 0)), (18, slE A l.length c), (19, intE l.length), (20, intE i)]) (fun _ => [(0, some (.box w.heap.size [.val (sumV root)] 40)), (1, some (.box (w.heap.size + 1) [.val (sumV Sum.zero)] 40))])
  (fun i w' => Ext w w' ∧ i ≤ l.length ∧ ∀ s ∈ l.take i, rightD s.dat = true) (fun i => l.length - i) 0 rfl rfl (fun w' h => ⟨h, Nat.zero_le _, fun s hs => nomatch hs⟩) ?_
 intro i m1
 refine RH.pure (fun w' h => h.2) fun ⟨hi, hpre⟩ => ?_
 by_cases hlt : i < l.length
 ·have hmem := List.getElem_mem hlt
  have hts : l.take (i + 1) = l.take i ++ [l[i]] := List.take_succ_eq_append_getElem hlt
  refine RH.adv tk [true] rfl rfl (by simp [h.ptr hlt] <;> omega) ?_
  refine RH.loadS (.st (stpF l[i])) rfl rfl rfl rfl (fun u hu => (h.ext hu.fact.1).load hlt) ?_
  refine RH.adv tk [] rfl rfl (by simp <;> omega) ?_
  refine RH.gives (ho := rfl) (hw := rfl) (hd := rfl) (hf := rfl) (hes := rfl) (hc := Tryz.call109) (e := boE (rightD l[i].dat)) (hC := fun u hu => rright_spec u l[i] ((hs _ hmem).1.ext hu.fact.1) (hs _ hmem).2.small) ?_
  intro m2 hm2
  cases hr : rightD l[i].dat with
  | true =>
   refine RH.adv tk [false] rfl rfl (by simp [AllOb, Ob.P, hr]; omega) ?_
   refine RH.again (i + 1) (.head _) rfl rfl (by omega) fun u hu => ⟨hu.1, hlt, fun s hs => ?_⟩
   rw [hts] at hs
   rcases List.mem_append.1 hs with h1 | h1
   ·exact hpre s h1
   ·rw [List.mem_singleton.1 h1]; exact hr
  | false =>
   have hv : verifyR root name (l.map Stp.dat) = (Sum.zero, false, 14) := by
    unfold verifyR
    rw [if_neg h60, if_pos (List.any_eq_true.2 ⟨_, List.mem_map.2 ⟨_, hmem, rfl⟩, by rw [hr]; rfl⟩)]
   rw [hv]
   refine RH.adv tk [true] rfl rfl (by simp [AllOb, Ob.P, hr]) ?_
   refine V.RH.zeroS rfl rfl rfl ?_
   refine RH.adv tk [] rfl rfl (by simp <;> omega) ?_
   exact V.RH.retBox3 tk (sumE Sum.zero) Tryz.func41 rfl rfl rfl rfl rfl rfl fun w' hst => ⟨rfl, hst.fact.1⟩
 rw [List.take_of_length_le (by omega)] at hpre
 have hnr : ((l.map Stp.dat).any fun s => !rightD s) = false := List.any_eq_false.2 fun s hs => by
  obtain ⟨t, ht, rfl⟩ := List.mem_map.1 hs
  simp [hpre t ht]
 by_cases hl0 : l = []
 ·subst hl0
  have hn0 : ([] : List Stp).length = 0 := rfl
  refine RH.adv tk [false, true] rfl rfl (by simp [AllOb, Ob.P] <;> omega) ?_
  refine RH.draw rfl [(0, some (.box w.heap.size [.val (sumV root)] 40))] rfl 3 rfl rfl ?_
  refine RD.adv tk (by kernel_rfl) [] rfl rfl (by simp <;> omega) ?_
  refine RD.gives (i := 1) (sumE (shaW [])) rfl (by kernel_rfl) rfl rfl rfl rfl Tryz.call110 (fun u hu => rOf_spec u none 0 [] (Sl.void u) (by decide)) rfl (fun _ h => h) ?_
  intro m2 hm2
  refine RD.read (by kernel_rfl) (i := 2) (boE (!decide (root = shaW []))) rfl rfl rfl rfl rfl rfl (fun w' a h hag => op_neq hag rfl rfl rfl rfl rfl (by kernel_rfl) (eq_sum w' 9998 _ _)) ?_
  refine RD.done (.inl rfl) (by kernel_rfl) ?_
  by_cases hr0 : root = shaW []
  ·have hv : verifyR root name (([] : List Stp).map Stp.dat) = (Sum.zero, false, 0) := by unfold verifyR; rw [if_neg h60, if_neg (by rw [hnr]; decide), if_pos (show (([] : List Stp).map Stp.dat) = [] from rfl), if_pos hr0]
   rw [hv]
   refine RH.adv tk [false] rfl rfl (by simp [AllOb, Ob.P, hr0]) ?_
   refine V.RH.zeroS rfl rfl rfl ?_
   refine RH.adv tk [] rfl rfl (by simp <;> omega) ?_
   exact V.RH.retBox3 tk (sumE Sum.zero) Tryz.func41 rfl rfl rfl rfl rfl rfl fun w' hst => ⟨rfl, hst.fact.1⟩
  ·have hv : verifyR root name (([] : List Stp).map Stp.dat) = (Sum.zero, false, 14) := by unfold verifyR; rw [if_neg h60, if_neg (by rw [hnr]; decide), if_pos (show (([] : List Stp).map Stp.dat) = [] from rfl), if_neg hr0]
   rw [hv]
   refine RH.adv tk [true] rfl rfl (by simp [AllOb, Ob.P, hr0]) ?_
   refine V.RH.zeroS rfl rfl rfl ?_
   refine RH.adv tk [] rfl rfl (by simp <;> omega) ?_
   exact V.RH.retBox3 tk (sumE Sum.zero) Tryz.func41 rfl rfl rfl rfl rfl rfl fun w' hst => ⟨rfl, hst.fact.1⟩
 have hne : ¬ (l.map Stp.dat = []) := by simpa using hl0
 have hv : verifyR root name (l.map Stp.dat) = verE (verGo (l.map Stp.dat) root name Sum.zero false true) := by unfold verifyR; rw [if_neg h60, if_neg (by rw [hnr]; decide), if_neg hne]
 rw [hv]
 have hl1 : 0 < l.length := List.length_pos_iff.2 hl0
 refine RH.adv tk [false, false] rfl rfl (by simp [AllOb, Ob.P, hl0] <;> omega) ?_
 refine RH.loop (α := Nat × Sum × Str) (fun y => [(1, strE y.2.2), (2, slE A l.length c), (3, .av (.box 0 w.heap.size 0)), (6, .av (.box 1 (w.heap.size + 1) 0)), (37, slE A l.length c), (38, intE l.length), (39, intE y.1)])
  (fun y => [(0, some (.box w.heap.size [.val (sumV y.2.1)] 40)), (1, some (.box (w.heap.size + 1) [.val (sumV Sum.zero)] 40))])
  (fun y u => Ext w u ∧ y.1 < l.length ∧ verGo (l.map Stp.dat) root name Sum.zero false true = verGo ((l.map Stp.dat).drop y.1) y.2.1 y.2.2 Sum.zero false true) (fun y => l.length - y.1) (0, root, name) rfl rfl (fun u hu => ⟨hu.1, hl1, rfl⟩) ?_
 rintro ⟨i, rt, nm⟩ m2
 refine RH.pure (fun u hu => hu.2) fun ⟨hlt, hgo⟩ => ?_
 dsimp only at hlt hgo ⊢
 have hdr : (l.map Stp.dat).drop i = l[i].dat :: (l.map Stp.dat).drop (i + 1) := by
  rw [List.drop_eq_getElem_cons (by simpa using hlt)]
  simp
 have hmem := List.getElem_mem hlt
 have hrt := hpre _ hmem
 rw [hdr] at hgo
 rw [hgo]
 have hbn : l[i].bytes.length = l[i].nodes.length := by
  unfold rightD at hrt
  simp only [Stp.dat, Bool.and_eq_true] at hrt
  exact of_decide_eq_true hrt.2.2.1
 have hst : l[i].stem.length ≤ 60 := by
  unfold rightD at hrt
  simp only [Stp.dat, Bool.and_eq_true] at hrt
  exact of_decide_eq_true hrt.2.1
 have hrn : (l.map Stp.dat).drop (i + 1) = [] ↔ ¬ i + 1 < l.length := by rw [List.drop_eq_nil_iff, List.length_map]; omega
 generalize hrr : (l.map Stp.dat).drop (i + 1) = rr at hrn hgo ⊢
 refine RH.adv tk [true] rfl rfl (by simp [h.ptr hlt] <;> omega) ?_
 refine RH.loadS (.st (stpF l[i])) rfl rfl rfl rfl (fun u hu => (h.ext hu.fact.1).load hlt) ?_
 refine RH.adv tk [] rfl rfl (by simp <;> omega) ?_
 have hsb := hb _ hmem
 have hbsl : l[i].bs.length ≤ 1000000 := by
  have h1 := pairB_len l[i].bytes l[i].nodes
  have h2 : (vB (if l[i].has = true then some l[i].sum else none)).length ≤ 33 := by split <;> simp [vB, l[i].sum.h]
  unfold Stp.bs stepB
  simp only [List.length_append, List.length_cons, List.length_nil]
  omega
 refine RH.draw rfl [(0, some (.box w.heap.size [.val (sumV rt)] 40)), (2, some (.box m2 (stpF l[i]) 66))] rfl 5 rfl rfl ?_
 refine RD.adv tk (by kernel_rfl) [] rfl rfl (by simp <;> omega) ?_
 refine RD.doB (i := 1) [] 3 (fun y : Option Addr × Nat => .av (.val (.slice y.1 l[i].bs.length y.2))) rfl (by kernel_rfl) rfl rfl rfl rfl Tryz.call111 (rBytes_spec l[i] (by omega) hsb hbn) rfl rfl (fun _ => rfl) (fun _ => rfl) (fun u hu => ⟨(hs _ hmem).1.ext hu.fact.1, (hs _ hmem).2.ext hu.fact.1⟩) (fun _ => rfl) (fun _ h => h) ?_
 rintro ⟨A1, c1⟩ m3 hm3
 refine RD.adv tk (by kernel_rfl) [] rfl rfl (by simp <;> omega) ?_
 refine RD.gives (i := 2) (sumE (shaW l[i].bs)) rfl (by kernel_rfl) rfl rfl rfl rfl Tryz.call110 (fun u hu => rOf_spec u A1 c1 l[i].bs (hu.fact.2.now trivial) hbsl) rfl (fun _ h => h.1) ?_
 intro m4 hm4
 rw [stp_bsD l[i] hbn]
 refine RD.read (by kernel_rfl) (i := 4) (boE (!decide (stOwn l[i].dat = rt))) rfl rfl rfl rfl rfl rfl (fun w' a h hag => op_neq hag rfl rfl rfl rfl rfl (by kernel_rfl) (eq_sum w' 9998 _ _)) ?_
 refine RD.done (.inl rfl) (by kernel_rfl) ?_
 by_cases hown : stOwn l[i].dat = rt
 ·refine RH.adv tk [false] rfl rfl (by simp [AllOb, Ob.P, hown]) ?_
  refine RH.gives (ho := rfl) (hw := rfl) (hd := rfl) (hf := rfl) (hes := rfl) (hc := Tryz.call112) (e := boE (hasPre nm l[i].stem)) (hC := fun u _ => begins_spec u _ _) ?_
  intro m5 hm5
  refine RH.facts (fun u => Ext w u) (fun u h => h.1.1) ?_
  have hsj : stepJ l[i].dat nm = if hasPre nm l[i].stem = true ∧ l[i].stem.length < nm.length then idxOf (fun y => decide (nm.getD l[i].stem.length 0 = y)) l[i].bytes 0 else -1 := rfl
  apply RH.joinK (α := Unit) (fun _ => [(1, strE nm), (2, slE A l.length c), (3, .av (.box 0 w.heap.size 0)), (6, .av (.box 1 (w.heap.size + 1) 0)), (11, intE i), (12, .av (.box 2 m2 0)), (13, intE (stepJ l[i].dat nm)), (37, slE A l.length c), (38, intE l.length), (39, intE i)])
   (fun _ => [(0, some (.box w.heap.size [.val (sumV rt)] 40)), (1, some (.box (w.heap.size + 1) [.val (sumV Sum.zero)] 40)), (2, some (.box m2 (stpF l[i]) 66))]) (fun _ u => Ext w u)
  ·by_cases hp : hasPre nm l[i].stem = true
   ·by_cases hl : l[i].stem.length < nm.length
    ·rw [hsj, if_pos ⟨hp, hl⟩]
     refine RH.adv tk [true, true] rfl rfl (by simp [AllOb, Ob.P, hp, hl]) ?_
     refine RH.draw rfl [(2, some (.box m2 (stpF l[i]) 66))] rfl 9 rfl rfl ?_
     refine RD.adv tk (by kernel_rfl) [] rfl rfl (by simp [AllOb, Ob.P, hl]) ?_
     refine RD.gives (i := 7) (intE (idxOf (fun y => decide (nm.getD l[i].stem.length 0 = y)) l[i].bytes 0)) rfl (by kernel_rfl) rfl rfl rfl rfl Tryz.call113 (fun u hu => indexB_spec u l[i].A l[i].c l[i].bytes ((hs _ hmem).1.ext hu.fact) _) rfl (fun _ h => h) ?_
     intro m6 hm6
     refine RD.adv tk (by kernel_rfl) [] rfl rfl (by simp <;> omega) ?_
     refine RD.done (.inl rfl) (by kernel_rfl) ?_
     exact RH.mtS () [] (.head _) rfl rfl rfl fun u h => h
    ·rw [hsj, if_neg (fun e => hl e.2)]
     refine V.RH.advN 12 tk [true, false] rfl rfl (by simp [AllOb, Ob.P, hp, hl]) ?_
     exact RH.mtS () [] (.head _) rfl rfl rfl fun u h => h
   ·rw [hsj, if_neg (fun e => hp e.1)]
    refine V.RH.advN 12 tk [false] rfl rfl (by simp [AllOb, Ob.P, hp]) ?_
    exact RH.mtS () [] (.head _) rfl rfl rfl fun u h => h
  rintro ⟨⟩ m7
  generalize hJ : stepJ l[i].dat nm = J at *
  clear hsj
  by_cases hj : 0 ≤ J
  ·obtain ⟨hv2, hp, hl, hjb⟩ := ver_j hown (by rw [hJ]; exact hj) rr Sum.zero false
   rw [hv2, hJ]
   rw [hJ] at hjb
   have hal : J.toNat < l[i].nodes.length := by rw [← hbn]; exact hjb
   have hna : l[i].dat.2.2.2.2.getD J.toNat Sum.zero = l[i].nodes[J.toNat] := by
    show l[i].nodes.getD J.toNat Sum.zero = _
    simp [List.getD_eq_getElem?_getD, List.getElem?_eq_getElem hal]
   rw [hna]
   have hlp : l[i].stem.length < nm.length := hl
   by_cases hk : i + 1 < l.length
   ·refine RH.adv tk [false, false] rfl rfl (by simp [AllOb, Ob.P, hj, hk]; omega) ?_
    refine RH.draw rfl [(2, some (.box m2 (stpF l[i]) 66))] rfl 13 rfl rfl ?_
    refine RD.adv tk (by kernel_rfl) [] rfl rfl (by simp [AllOb, Ob.P, (hs _ hmem).2.ptr hal]; omega) ?_
    refine RD.load (by kernel_rfl) (i := 4) (sumE l[i].nodes[J.toNat]) rfl rfl rfl rfl rfl rfl (fun w' hw => ((hs _ hmem).2.ext hw).load hal) ?_
    refine RD.adv tk (by kernel_rfl) [] rfl rfl (by simp <;> omega) ?_
    refine RD.step tk (nx := 3) (i := 11) rfl (by kernel_rfl) rfl rfl rfl ?_ rfl (fun _ h => h) rfl ?_
    ·simp
    refine RD.adv tk (by kernel_rfl) [] rfl rfl (by simp <;> omega) ?_
    refine RD.done (.inl rfl) (by kernel_rfl) ?_
    refine RH.adv tk [] rfl rfl (by simp [AllOb, Ob.P]; omega) ?_
    refine RH.again (i + 1, l[i].nodes[J.toNat], nm.drop (l[i].stem.length + 1)) (.head _) rfl rfl (by show l.length - (i + 1) < l.length - i; omega) fun u hu => ⟨hu, hk, ?_⟩
    show _ = verGo ((l.map Stp.dat).drop (i + 1)) _ _ _ _ _
    rw [hrr]
    rfl
   ·rw [hrn.2 hk]
    refine RH.adv tk [true] rfl rfl (by simp [AllOb, Ob.P, hj, hk]; omega) ?_
    refine V.RH.zeroS rfl rfl rfl ?_
    refine RH.adv tk [] rfl rfl (by simp <;> omega) ?_
    exact V.RH.retBox3 tk (sumE Sum.zero) Tryz.func41 rfl rfl rfl rfl rfl rfl fun w' hst => ⟨rfl, hst.fact⟩
  ·have hv2 := ver_nj hown (by rw [hJ]; exact hj) rr Sum.zero false
   rw [hv2]
   by_cases hk : i + 1 < l.length
   ·obtain ⟨z, rs, hrr⟩ := List.exists_cons_of_ne_nil (fun e => hrn.1 e hk)
    rw [hrr, ver_less]
    refine RH.adv tk [true] rfl rfl (by simp [AllOb, Ob.P, hj, hk]; omega) ?_
    refine V.RH.zeroS rfl rfl rfl ?_
    refine RH.adv tk [] rfl rfl (by simp <;> omega) ?_
    exact V.RH.retBox3 tk (sumE Sum.zero) Tryz.func41 rfl rfl rfl rfl rfl rfl fun w' hst => ⟨rfl, hst.fact⟩
   ·rw [hrn.2 hk]
    by_cases he : nm = l[i].stem
    ·have hdl : l[i].dat.1 = l[i].stem := rfl
     cases hh : l[i].has with
     | true =>
      rw [if_pos ⟨he, hh⟩, hdl, decide_eq_true he, show l[i].dat.2.1 = true from hh]
      refine RH.adv tk [false, true, true, true] rfl rfl (by simp [hj, hk, he, hh]; omega) ?_
      exact V.RH.retBox3 tk (sumE l[i].sum) Tryz.func41 rfl rfl rfl rfl rfl rfl fun w' hst => ⟨rfl, hst.fact⟩
     | false =>
      rw [if_neg (fun e => by rw [show l[i].dat.2.1 = false from hh] at e; exact absurd e.2 (by decide)), show l[i].dat.2.1 = false from hh, Bool.and_false]
      refine RH.adv tk [false, true, true, false] rfl rfl (by simp [hj, hk, he, hh]; omega) ?_
      refine V.RH.zeroS rfl rfl rfl ?_
      refine RH.adv tk [] rfl rfl (by simp <;> omega) ?_
      exact V.RH.retBox3 tk (sumE Sum.zero) Tryz.func41 rfl rfl rfl rfl rfl rfl fun w' hst => ⟨rfl, hst.fact⟩
    ·have hdl : l[i].dat.1 = l[i].stem := rfl
     rw [hdl, if_neg (fun e => he e.1), decide_eq_false he, Bool.false_and]
     refine RH.adv tk [false, true, false] rfl rfl (by simp [hj, hk, he]; omega) ?_
     refine V.RH.zeroS rfl rfl rfl ?_
     refine RH.adv tk [] rfl rfl (by simp <;> omega) ?_
     exact V.RH.retBox3 tk (sumE Sum.zero) Tryz.func41 rfl rfl rfl rfl rfl rfl fun w' hst => ⟨rfl, hst.fact⟩
 ·rw [ver_off hown]
  refine RH.adv tk [true] rfl rfl (by simp [AllOb, Ob.P, hown]) ?_
  refine V.RH.zeroS rfl rfl rfl ?_
  refine RH.adv tk [] rfl rfl (by simp <;> omega) ?_
  exact V.RH.retBox3 tk (sumE Sum.zero) Tryz.func41 rfl rfl rfl rfl rfl rfl fun w' hst => ⟨rfl, hst.fact.1.1⟩
section
variable {n : Nat} {B0 : Nat} {I : World → Prop} {H : Heap} {m : Nat} {env : SEnv}
theorem V.OpGo.byteStrA {d : Nat} {x : Operand} {ty : TypeId} {ps : String} {af : Array Edge} {gd : Option (Nat × Bool)} {ex : EV} {A : Option Addr} {c : Nat} {l : List UInt8}
  (hd : Nat.blt d n = true) (hx : evE env x = some ex) (hxv : ex.v = .slice A l.length c) (hl : ∀ w, St tb B0 H I w → Sl kBy w A c l) :
  OpGo Tryz.prog tb B0 n ⟨some d, .convert 22 9 x, ty, ps, af, gd⟩ env H m I (fun _ : Unit => (d, strE l) :: env) (fun _ => H) (fun _ => I) := by
 cases A with
 | none => exact OpGo.byteStrG hd hx hxv (.inr rfl) hl
 | some a =>
  intro w q hm hst ha
  have hdn : d < n := Nat.lt_of_lt_of_le (Nat.lt_succ_self d) (Nat.le_of_ble_eq_true hd)
  have hs := hl w hst
  have hxv' : q.eval x = .slice (some a) l.length c := (ev_run ha hx).trans hxv
  have h := run_convert_bytes_back (P := Tryz.prog) w 22 9 5 a c l (tk.und rfl) (tk.und rfl) (tk.und rfl) (fun j hj => by
   have hne : l ≠ [] := fun e => by subst e; exact absurd hj (Nat.not_lt_zero j)
   have hp := hs.addr hne
   unfold Ptr at hp
   rw [Option.some.inj hp, Addr.add_lit]
   refine hs.cells j _ ?_
   rw [← map_flat, List.getElem?_map, List.getElem?_eq_getElem hj]
   rfl)
  unfold Oper.wp
  have : (execOp q.eval ⟨some d, .convert 22 9 x, ty, ps, af, gd⟩).run Tryz.prog w = .ok (.value (strV l)) w := by
   simp only [execOp, hxv']
   rw [Sem.run_bind, h]
   rfl
  rw [this]
  refine ⟨(), ?_, by rw [← hm]; exact Nat.le_refl _, hst⟩
  rw [kn_cons]; exact ha.put hdn _
end
theorem bEqualA (w : World) (A B : Option Addr) (c d : Nat) (l k : List UInt8) (hA : Sl kBy w A c l) (hB : Sl kBy w B d k) : Gives Tryz.prog 46 [.slice A l.length c, .slice B k.length d] w (boE (decide (l = k))) := by
 refine enterH tk [(0, slE A l.length c), (1, slE B k.length d)] Tryz.func46 rfl Tryz.ntmps46 rfl rfl ?_
 refine RH.adv tk [] rfl rfl (by simp <;> omega) ?_
 refine RH.go rfl rfl (OpGo.byteStrA (A := A) (c := c) (l := l) rfl rfl rfl (fun u hu => hA.ext hu.fact)) 3 ?_
 rintro ⟨⟩ m3 hm3
 refine RH.adv tk [] rfl rfl (by simp <;> omega) ?_
 refine RH.go rfl rfl (OpGo.byteStrA (A := B) (c := d) (l := k) rfl rfl rfl (fun u hu => hB.ext hu.fact)) 3 ?_
 rintro ⟨⟩ m4 hm4
 refine RH.adv tk [] rfl rfl (by simp <;> omega) ?_
 refine RH.ret1 Tryz.func46 rfl rfl fun u hst => ⟨rfl, hst.fact⟩
theorem toStep_spec (w : World) (s : Stp) : Gives Tryz.prog 39 [(EV.st (stpF s)).v] w (.st (stpF s)) := by
 refine enterH tk [(0, .st (stpF s))] Tryz.func39 rfl Tryz.ntmps39 rfl rfl ?_
 refine RH.adv tk [] rfl rfl (by simp) ?_
 exact RH.retBox tk (.st (stpF s)) Tryz.func39 rfl rfl rfl rfl fun u hu => ⟨rfl, hu.fact⟩
theorem sameStep_spec (w : World) (s t : Stp) (hs : s.ok w) (ht : t.ok w) : Gives Tryz.prog 43 [(EV.st (stpF s)).v, (EV.st (stpF t)).v] w (boE (decide (s.dat = t.dat))) := by
 refine enterH tk [(0, .st (stpF s)), (1, .st (stpF t))] Tryz.func43 rfl Tryz.ntmps43 rfl rfl ?_
 by_cases h1 : s.stem = t.stem
 ·by_cases h2 : s.has = t.has
  ·refine RH.adv tk [true, true] rfl rfl (by simp [h1, h2]) ?_
   refine RH.read (boE (decide (s.sum = t.sum))) rfl rfl rfl rfl (fun w' a _ hag => op_eq hag rfl rfl rfl rfl rfl (by kernel_rfl) (eq_sum w' 9998 _ _)) ?_
   by_cases h3 : s.sum = t.sum
   ·refine RH.adv tk [true] rfl rfl (by simp [AllOb, Ob.P, h3]) ?_
    refine RH.gives (ho := rfl) (hw := rfl) (hd := rfl) (hf := rfl) (hes := rfl) (hc := Tryz.call46) (e := boE (decide (s.bytes = t.bytes))) (hC := fun u hu => bEqualA u s.A t.A s.c t.c _ _ (hs.1.ext hu.fact) (ht.1.ext hu.fact)) ?_
    intro m1 hm1
    by_cases h4 : s.bytes = t.bytes
    ·refine RH.adv tk [true] rfl rfl (by simp [AllOb, Ob.P, h4]) ?_
     refine RH.gives (ho := rfl) (hw := rfl) (hd := rfl) (hf := rfl) (hes := rfl) (hc := Tryz.call58) (e := boE (decide (s.nodes = t.nodes))) (hC := fun u hu => equalD_spec u s.B t.B s.d t.d _ _ (hs.2.ext hu.fact) (ht.2.ext hu.fact)) ?_
     intro m2 hm2
     have he : decide (s.nodes = t.nodes) = decide (s.dat = t.dat) := by
      rw [decide_eq_decide]
      unfold Stp.dat
      simp [h1, h2, h3, h4]
     rw [he]
     refine RH.adv tk [] rfl rfl (by simp [AllOb, Ob.P]) ?_
     refine RH.ret1 Tryz.func43 rfl rfl fun u hst => ⟨rfl, hst.fact⟩
    ·refine RH.adv tk [false] rfl rfl (by simp [AllOb, Ob.P, h4]) ?_
     refine RH.ret1 Tryz.func43 rfl rfl fun u hst => ⟨by rw [decide_eq_false (fun e => h4 (congrArg (fun z : StD => z.2.2.2.1) e))]; rfl, hst.fact⟩
   ·refine RH.adv tk [false] rfl rfl (by simp [AllOb, Ob.P, h3]) ?_
    refine RH.ret1 Tryz.func43 rfl rfl fun u hst => ⟨by rw [decide_eq_false (fun e => h3 (congrArg (fun z : StD => z.2.2.1) e))]; rfl, hst.fact⟩
  ·refine RH.adv tk [true, false] rfl rfl (by simp [h1, h2]) ?_
   refine RH.ret1 Tryz.func43 rfl rfl fun u hst => ⟨by rw [decide_eq_false (fun e => h2 (congrArg (fun z : StD => z.2.1) e))]; rfl, hst.fact⟩
 ·refine RH.adv tk [false] rfl rfl (by simp [h1]) ?_
  refine RH.ret1 Tryz.func43 rfl rfl fun u hst => ⟨by rw [decide_eq_false (fun e => h1 (congrArg (fun z : StD => z.1) e))]; rfl, hst.fact⟩
theorem eqSteps_spec (w : World) (A B : Option Addr) (c d : Nat) (l k : List Stp) (hA : Sl kStp w A c l) (hB : Sl kRStp w B d k) (hl : ∀ s ∈ l, s.ok w) (hk : ∀ s ∈ k, s.ok w) :
  Gives Tryz.prog 42 [.slice A l.length c, .slice B k.length d, .func (.func 43) #[] #[]] w (boE (decide (l.map Stp.dat = k.map Stp.dat))) := by
 have hlim : lim = 140737488351232 := rfl
 have hsl := hA.small
 have hsk := hB.small
 refine enterH tk [(0, slE A l.length c), (1, slE B k.length d), (2, .av (.val (.func (.func 43) #[] #[])))] Tryz.func42 rfl Tryz.ntmps42 rfl rfl ?_
 by_cases hlen : l.length = k.length
 ·refine RH.adv tk [false] rfl rfl (by simp [hlen] <;> omega) ?_
  refine RH.loop (α := Nat) (fun i => [(1, slE B k.length d), (2, .av (.val (.func (.func 43) #[] #[]))), (15, slE A l.length c), (16, intE l.length), (17, intE i)]) (fun _ => [])
   (fun i u => Ext w u ∧ i ≤ l.length ∧ (l.map Stp.dat).take i = (k.map Stp.dat).take i) (fun i => l.length - i) 0 rfl rfl (fun u h => ⟨h, Nat.zero_le _, rfl⟩) ?_
  intro i m1
  refine RH.pure (fun w' h => h.2) fun ⟨hi, hpre⟩ => ?_
  by_cases hlt : i < l.length
  ·have hltk : i < k.length := by omega
   refine RH.adv tk [true] rfl rfl (by simp [hA.ptr hlt] <;> omega) ?_
   refine RH.loadS (.st (stpF l[i])) rfl rfl rfl rfl (fun u hu => (hA.ext hu.fact.1).load hlt) ?_
   refine RH.adv tk [] rfl rfl (by simp [hB.ptr hltk] <;> omega) ?_
   refine RH.loadS (.st (stpF k[i])) rfl rfl rfl rfl (fun u hu => (hB.ext hu.fact.1).load hltk) ?_
   refine RH.adv tk [] rfl rfl (by simp <;> omega) ?_
   refine RH.gives (boE (decide (l[i].dat = k[i].dat))) rfl rfl rfl rfl rfl Tryz.call43 (fun u hu => sameStep_spec u _ _ ⟨(hl _ (List.getElem_mem hlt)).1.ext hu.fact.1, (hl _ (List.getElem_mem hlt)).2.ext hu.fact.1⟩ ⟨(hk _ (List.getElem_mem hltk)).1.ext hu.fact.1, (hk _ (List.getElem_mem hltk)).2.ext hu.fact.1⟩) ?_
   intro m2 hm2
   have hil : i < (l.map Stp.dat).length := by rw [List.length_map]; exact hlt
   have hik : i < (k.map Stp.dat).length := by rw [List.length_map]; exact hltk
   by_cases he : l[i].dat = k[i].dat
   ·refine RH.adv tk [false] rfl rfl (by simp [AllOb, Ob.P, he]; omega) ?_
    refine RH.again (i + 1) (.head _) rfl rfl (by omega) fun w' h => ⟨h.1, by omega, ?_⟩
    rw [List.take_succ_eq_append_getElem hil, List.take_succ_eq_append_getElem hik, hpre, List.getElem_map, List.getElem_map, he]
   ·refine RH.adv tk [true] rfl rfl (by simp [AllOb, Ob.P, he]) ?_
    have hne : ¬ l.map Stp.dat = k.map Stp.dat := fun e => he (by
     have := congrArg (fun z => z[i]?) e
     simpa [List.getElem?_eq_getElem hlt, List.getElem?_eq_getElem hltk] using this)
    refine RH.ret1 Tryz.func42 rfl rfl fun u hst => ⟨by rw [decide_eq_false hne]; rfl, hst.fact.1⟩
  ·rw [List.take_of_length_le (by rw [List.length_map]; omega), List.take_of_length_le (by rw [List.length_map]; omega)] at hpre
   refine RH.adv tk [false] rfl rfl (by simp <;> omega) ?_
   refine RH.ret1 Tryz.func42 rfl rfl fun u hst => ⟨by rw [decide_eq_true hpre]; rfl, hst.fact.1⟩
 ·have hne : ¬ l.map Stp.dat = k.map Stp.dat := fun e => hlen (by simpa using congrArg List.length e)
  refine RH.adv tk [true] rfl rfl (by simp [hlen] <;> omega) ?_
  refine RH.ret1 Tryz.func42 rfl rfl fun u hst => ⟨by rw [decide_eq_false hne]; rfl, hst.fact⟩
open Go V RowKit Go.ChangeShapes Go.WideShapes Go.ChangeAt
theorem weights_all {H : Type} {P : Program} {e : TypeId} : ∀ {ds : List (DataW H)} {d : DataW H}, d ∈ ds → ∀ n ∈ d.weights P e, n ∈ DataW.weightsAll P e ds
 | [], _, h, _, _ => by cases h
 | x :: r, d, h, n, hn => by
  rw [DataW.weightsAll, List.mem_append]
  rcases List.mem_cons.1 h with rfl | h
  ·exact .inl hn
  ·exact .inr (weights_all h n hn)
section
variable {H : Type} {enc : TypeId × Value → H} {w : World} {base : Nat} {sp : Nat → Bool} {held : Bool}
theorem open_rowQ {α : Type} (κ : Kd α) (Q : α → Prop) {st : TypeId} (hs : Tryz.prog.underlying st = some (.slice κ.T)) (hc : Tryz.prog.cellsOf κ.T = κ.sz) (hp : 0 < κ.sz) (hb : 0 < Tryz.prog.bytesOf κ.T)
  (hopen : ∀ {fuel : Nat} {cs : List Value} {x : DataW H × List MemPlace}, DataW.trod enc Tryz.prog w base (fun _ => true) held fuel κ.T cs = some x → (∀ n ∈ x.1.weights Tryz.prog κ.T, n ≤ reachBytes) → ∃ e : α, cs = κ.cs e ∧ Q e)
  {fuel : Nat} {cs : List Value} {x : DataW H × List MemPlace} (h : DataW.trod enc Tryz.prog w base (fun _ => true) held fuel st cs = some x)
  (hz : ∀ n ∈ x.1.weights Tryz.prog st, n ≤ reachBytes) : ∃ r : Row α, cs = [.slice r.A r.l.length r.c] ∧ r.ok κ w ∧ ∀ e ∈ r.l, Q e := by
 rcases DataW.trod_slice hs h with ⟨rfl, rfl⟩ | ⟨a, len, cap, elems, rest, n, _, rfl, rfl, _, hl, _, hlen, hel, hsp, _⟩
 ·exact ⟨⟨none, 0, []⟩, rfl, ⟨Nat.le_refl _, Nat.zero_le _, fun h => absurd rfl h, fun j v hv => by simp at hv, fun _ => ⟨rfl, rfl⟩⟩, fun _ h => by cases h⟩
 ·have hr := (hsp rfl).1
  have hcap : cap ≤ lim := by
   have := hz ((elems.length + rest.length) * Tryz.prog.bytesOf κ.T) (by simp [DataW.weights, hs])
   have h2 : cap * 1 ≤ cap * Tryz.prog.bytesOf κ.T := Nat.mul_le_mul_left _ hb
   have h3 : elems.length + rest.length = cap := by omega
   rw [h3] at this
   have : reachBytes = lim := rfl
   omega
  have hex : ∀ i, i < len → ∃ e : α, w.cells? base (a.add (i * κ.sz)) κ.sz = some (κ.cs e) ∧ Q e := fun i hi => by
   have hE := hel i hi
   rw [hc, List.getElem?_eq_getElem (by omega), Option.bind_eq_some_iff] at hE
   obtain ⟨c1, hc1, hy⟩ := hE
   obtain ⟨e, rfl, hQ⟩ := hopen hy fun n hn => hz n (by
    simp only [DataW.weights, hs, List.mem_cons, List.mem_append]
    exact .inr (.inl (weights_all (List.mem_map.2 ⟨_, List.getElem_mem (by omega), rfl⟩) n hn)))
   exact ⟨e, hc1, hQ⟩
  obtain ⟨l, hll, hl2⟩ : ∃ l : List α, l.length = len ∧ ∀ i (h : i < l.length), w.cells? base (a.add (i * κ.sz)) κ.sz = some (κ.cs l[i]) ∧ Q l[i] := by
   refine ⟨(List.range len).attach.map fun i => (hex i.1 (List.mem_range.1 i.2)).choose, by simp, fun i hi => ?_⟩
   simp only [List.length_map, List.length_attach, List.length_range] at hi
   simp only [List.getElem_map, List.getElem_attach, List.getElem_range]
   exact (hex i hi).choose_spec
  have hlQ : ∀ e ∈ l, Q e := fun e he => by
   obtain ⟨i, hi, rfl⟩ := List.mem_iff_getElem.1 he
   exact (hl2 i hi).2
  have hl2 := fun i h => (hl2 i h).1
  have hcell : ∀ i (h : i < l.length) j, j < κ.sz → w.cell? ((a.add (i * κ.sz)).add j) = (κ.cs l[i])[j]? := fun i h j hj => by
   have h1 := hl2 i h
   unfold World.cells? at h1
   split at h1
   ·have := mapM_some_get h1 j j (by simp [hj])
    exact this
   ·cases h1
  have hspot : l ≠ [] → a.spot = none := fun hne => by
   have h0 : 0 < l.length := List.length_pos_iff.2 hne
   have := hcell 0 h0 0 hp
   rw [List.getElem?_eq_getElem (by rw [κ.cs_len]; exact hp)] at this
   unfold World.cell? at this
   cases ha : a.spot with
   | none => rfl
   | some k =>
    have hs1 : ((a.add (0 * κ.sz)).add 0).spot.isSome = true := by simp [Addr.add, ha]
    simp only [hs1, if_true] at this
    split at this <;> cases this
  refine ⟨⟨some a, cap, l⟩, by rw [hll], ⟨by rw [hll]; exact hl, by show l.length ≤ lim; omega, ?_, ?_, fun h => by cases h⟩, hlQ⟩
  ·intro hne
   show some a = some ⟨a.block, a.off, none⟩
   rw [← hspot hne]
  ·intro j v hv
   have hj : j < l.length * κ.sz := by
    rw [← κ.flL]; exact (List.getElem?_eq_some_iff.1 hv).1
   have hi : j / κ.sz < l.length := Nat.div_lt_of_lt_mul (by rw [Nat.mul_comm]; exact hj)
   have hne : l ≠ [] := fun e => by subst e; simp at hi
   have hm : j % κ.sz < κ.sz := Nat.mod_lt _ hp
   have := hcell (j / κ.sz) hi (j % κ.sz) hm
   have hg := κ.get l (j / κ.sz) hi
   have e1 : (κ.cs l[j / κ.sz])[j % κ.sz]? = (l.flatMap κ.cs)[j]? := by
    rw [← hg, List.getElem?_take_of_lt hm, List.getElem?_drop, Nat.mul_comm, Nat.div_add_mod]
   rw [e1, hv] at this
   have ha := hspot hne
   have ea : (⟨blkA (some a), offA (some a) + j, none⟩ : Addr) = (a.add (j / κ.sz * κ.sz)).add (j % κ.sz) := by
    obtain ⟨ab, ao, asp⟩ := a
    have ha' : asp = none := ha
    subst ha'
    rw [Addr.add_mid, Addr.add_mid]
    show (⟨ab, ao + j, none⟩ : Addr) = _
    rw [Nat.add_assoc, Nat.mul_comm, Nat.div_add_mod]
   show w.cell? (⟨blkA (some a), offA (some a) + j, none⟩ : Addr) = some v
   rw [ea]
   exact this
def gF (nm : String) (t : TypeId) (o b : Nat) : Field := { name := nm, type := t, offset := o, embedded := false, tag := "", pkgPath := "", byteOffset := b }
theorem open_stp {fuel : Nat} {cs : List Value} {x : DataW H × List MemPlace} (h : DataW.trod enc Tryz.prog w base (fun _ => true) held fuel 61 cs = some x) (hz : ∀ n ∈ x.1.weights Tryz.prog 61, n ≤ reachBytes) : ∃ e : Stp, cs = kStp.cs e ∧ e.ok w := by
 obtain ⟨xs, n, _, hx, hl, hlen, hf⟩ := DataW.trod_struct Tryz.underlying61 h
 have c36 : Tryz.prog.cellsOf 61 = 36 := by kernel_rfl
 have c1 : Tryz.prog.cellsOf 9 = 1 := by kernel_rfl
 have cb : Tryz.prog.cellsOf 4 = 1 := by kernel_rfl
 have cp : Tryz.prog.cellsOf 22 = 1 := by kernel_rfl
 have cq : Tryz.prog.cellsOf 26 = 1 := by kernel_rfl
 have c8 : Tryz.prog.cellsOf 5 = 1 := by kernel_rfl
 have c32 : Tryz.prog.cellsOf 40 = 32 := by kernel_rfl
 rw [c36] at hl
 match xs, hlen with
 | [y0, y1, y2, y3, y4], _ =>
 have h0 := hf 0 (gF "Stem" 9 0 0) rfl
 have h1 := hf 1 (gF "Has" 4 1 16) rfl
 have h2 := hf 2 (gF "Sum" 40 2 17) rfl
 have h3 := hf 3 (gF "Bytes" 22 34 56) rfl
 have h4 := hf 4 (gF "Nodes" 26 35 80) rfl
 dsimp only [gF] at h0 h1 h2 h3 h4
 rw [c1] at h0
 rw [cb] at h1
 rw [c32] at h2
 rw [cp] at h3
 rw [cq] at h4
 obtain ⟨s, e0, _, _⟩ := DataW.trod_string Tryz.underlying9 h0
 obtain ⟨has, e1, _⟩ := DataW.trod_bool Tryz.underlying4 h1
 obtain ⟨sum, e2⟩ := open_sum h2
 obtain ⟨bs, e3, hbs⟩ := V.open_row kBy Tryz.underlying22 c8 (by decide) (Nat.le_of_ble_eq_true (by kernel_rfl)) (fun h => open_byte h) h3 (fun n hn => hz n (by
   rw [hx]
   simp only [DataW.weights, Tryz.underlying61, List.map_cons, List.map_nil, DataW.weightsEach, List.mem_append]
   exact .inr (.inr (.inr (.inl hn)))))
 obtain ⟨ns, e4, hns⟩ := V.open_row kSum Tryz.underlying26 c32 (by decide) (Nat.le_of_ble_eq_true (by kernel_rfl)) (fun h => by
  obtain ⟨s, hs⟩ := open_sum h
  exact ⟨s, by rw [hs]; show _ = (sumV s).cells.toList; simp [sumV, Value.cells]⟩) h4 (fun n hn => hz n (by
   rw [hx]
   simp only [DataW.weights, Tryz.underlying61, List.map_cons, List.map_nil, DataW.weightsEach, List.mem_append]
   exact .inr (.inr (.inr (.inr (.inl hn))))))
 refine ⟨⟨s.data.toList, has, sum, bs.A, bs.l, bs.c, ns.A, ns.l, ns.c⟩, ?_, hbs, hns⟩
 have sp : ∀ (n m : Nat), cs.drop n = (cs.drop n).take m ++ cs.drop (n + m) := fun n m => by rw [← List.drop_drop, List.take_append_drop]
 have f0 := sp 0 1
 have f1 := sp 1 1
 have f2 := sp 2 32
 have f3 := sp 34 1
 have f4 := sp 35 1
 rw [e0] at f0
 rw [e1] at f1
 rw [e2] at f2
 rw [e3] at f3
 rw [e4] at f4
 have f6 : cs.drop (35 + 1) = [] := List.drop_eq_nil_of_le (by omega)
 have : cs = cs.drop 0 := rfl
 rw [this, f0, f1, f2, f3, f4, f6]
 show _ = ((EV.st (stpF _)).v).cells.toList
 rw [stp_cells]
 simp [strV, Value.cells]
theorem open_steps {v : Value} {d : DataW H} {p : List MemPlace} {r : Reach} {b0 : Nat} (h : DataW.Trod enc Tryz.prog w base (fun _ => true) held 58 v d p)
  (hz : ∀ n ∈ d.weights Tryz.prog 58, n ≤ reachBytes) (hv : Value.okWide Tryz.prog w r b0 58 v) : ∃ x : Row Stp, v = .slice x.A x.l.length x.c ∧ x.ok kStp w ∧ ∀ e ∈ x.l, e.ok w := by
 obtain ⟨fuel, hf⟩ := h
 have c36 : Tryz.prog.cellsOf 61 = 36 := by kernel_rfl
 obtain ⟨x, e, ok, hQ⟩ := open_rowQ kStp (fun e => e.ok w) Tryz.underlying58 c36 (by decide) (Nat.le_of_ble_eq_true (by kernel_rfl)) (fun h hw => open_stp h hw) hf hz
 refine ⟨x, ?_, ok, hQ⟩
 have e3 : ∃ A l c, v = .slice A l c := by
  simp only [Value.okWide, Tryz.underlying58] at hv
  cases v <;> simp_all [Cell.okWide, Cell.ok, Value.cells, Tryz.underlying58]
 obtain ⟨A, l, c, rfl⟩ := e3
 simpa [Value.cells] using e
end
end Go.Proofs.YtbfjmimiigjenaaGreatDoor
