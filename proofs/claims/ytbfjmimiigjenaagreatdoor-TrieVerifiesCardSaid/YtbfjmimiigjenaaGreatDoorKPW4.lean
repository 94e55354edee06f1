/-
Lemmas. No condition.
-/
import Derived.Lib.AppendStr
import Derived.Room.AppendFits
import Derived.Laws.MakeOwn
import Derived.Test.YtbfjmimiigjenaaGreatDoorKPS13
import Derived.Test.YtbfjmimiigjenaaGreatDoorKVIterB
set_option maxRecDepth 10000
set_option linter.unusedVariables false
set_option linter.unusedSectionVars false
set_option linter.unusedSimpArgs false
namespace Go.Proofs.YtbfjmimiigjenaaGreatDoor
open Go V
def constW : List UInt32 := [0x428a2f98, 0x71374491, 0xb5c0fbcf, 0xe9b5dba5, 0x3956c25b, 0x59f111f1, 0x923f82a4, 0xab1c5ed5, 0xd807aa98, 0x12835b01, 0x243185be, 0x550c7dc3, 0x72be5d74, 0x80deb1fe, 0x9bdc06a7, 0xc19bf174, 0xe49b69c1, 0xefbe4786, 0x0fc19dc6, 0x240ca1cc, 0x2de92c6f, 0x4a7484aa, 0x5cb0a9dc, 0x76f988da, 0x983e5152, 0xa831c66d, 0xb00327c8, 0xbf597fc7, 0xc6e00bf3, 0xd5a79147, 0x06ca6351, 0x14292967, 0x27b70a85, 0x2e1b2138, 0x4d2c6dfc, 0x53380d13, 0x650a7354, 0x766a0abb, 0x81c2c92e, 0x92722c85, 0xa2bfe8a1, 0xa81a664b, 0xc24b8b70, 0xc76c51a3, 0xd192e819, 0xd6990624, 0xf40e3585, 0x106aa070, 0x19a4c116, 0x1e376c08, 0x2748774c, 0x34b0bcb5, 0x391c0cb3, 0x4ed8aa4a, 0x5b9cca4f, 0x682e6ff3, 0x748f82ee, 0x78a5636f, 0x84c87814, 0x8cc70208, 0x90befffa, 0xa4506ceb, 0xbef9a3f7, 0xc67178f2]
def beginW : List UInt32 := [0x6a09e667, 0xbb67ae85, 0x3c6ef372, 0xa54ff53a, 0x510e527f, 0x9b05688c, 0x1f83d9ab, 0x5be0cd19]
structure Glob (u : World) : Prop where
 max : MaxLen u
 con : u.rangeAt 1 0 (constW.map u32V)
 beg : u.rangeAt 0 0 (beginW.map u32V)
theorem rangeAt_ext {w w' : World} {g : Nat} {l : List Value} (hl : l ≠ []) (h : w.rangeAt g 0 l) (he : Ext w w') : w'.rangeAt g 0 l := by
 have h0 : ∃ v, l[0]? = some v := by
  cases l with
  | nil => exact absurd rfl hl
  | cons x r => exact ⟨x, rfl⟩
 obtain ⟨v0, hv0⟩ := h0
 have hlt : g < w.heap.size := World.block_lt_of_cell? w ⟨g, 0 + 0, none⟩ (h 0 v0 hv0)
 intro j v hv
 have := h j v hv
 rw [← this]
 exact World.cell?_of_block (he.block g hlt)
theorem Glob.ext {w w' : World} (h : Glob w) (he : Ext w w') : Glob w' :=
 ⟨h.max.ext he, rangeAt_ext (by decide) h.con he, rangeAt_ext (by decide) h.beg he⟩
theorem V.RD.three {P : Program} {f : Fr} {n : Nat} {S : Stops} {R : Ending → World → Prop} {tb : TT} {B0 : Nat} {I : World → Prop} {H : Heap} {nx m : Nat} {env : SEnv} {k : List Item} {ops : Array Oper} {l : List Bool} {G : Heap} {I0 : World → Prop} {fuel : Nat} {i j q : Nat} (hr : Region.ready .any ops l.toArray = [i, j, q])
  (h1 : ∀ w a, w.heap.size = m → St tb B0 H I w → Agree n a (kn env) → wpOp P ops (QD P f n S R k) i (fun a' w' => St tb B0 G I0 w' ∧ V.wpAnyH P .any ops (QD P f n S R k) (St tb B0 G I0) fuel (l.set i true).toArray a' w') a w)
  (h2 : ∀ w a, w.heap.size = m → St tb B0 H I w → Agree n a (kn env) → wpOp P ops (QD P f n S R k) j (fun a' w' => St tb B0 G I0 w' ∧ V.wpAnyH P .any ops (QD P f n S R k) (St tb B0 G I0) fuel (l.set j true).toArray a' w') a w)
  (h3 : ∀ w a, w.heap.size = m → St tb B0 H I w → Agree n a (kn env) → wpOp P ops (QD P f n S R k) q (fun a' w' => St tb B0 G I0 w' ∧ V.wpAnyH P .any ops (QD P f n S R k) (St tb B0 G I0) fuel (l.set q true).toArray a' w') a w) :
  RD P f n tb B0 S R k ops G I0 (fuel + 1) l env H nx m I := by
 intro w a hm hst hst0 ha
 refine V.wpAnyH_all hr (by simp) fun z hz => ?_
 have hz : z = i ∨ z = j ∨ z = q := by simpa using hz
 rcases hz with rfl | rfl | rfl
 ·have := h1 w a hm hst ha; simpa using this
 ·have := h2 w a hm hst ha; simpa using this
 ·have := h3 w a hm hst ha; simpa using this
open RowKit in
theorem V.OpGo.copyArr {P : Program} {n : Nat} {tb : TT} {B0 : Nat} {I : World → Prop} {H : Heap} {m : Nat} {env : SEnv} (hk : tb.Ok P) {d id g : Nat} {s x : Operand} {T T2 e eb : TypeId} {ty : TypeId} {ps : String} {af : Array Edge} {gd : Option (Nat × Bool)} {es ex : EV} {off dl dc q c : Nat} {A : Option Addr} {cur : Array Value} {i : TypeInfo} {cs : List Value}
  (hd : Nat.blt d n = true) (hT : tb.und T = some (.slice e)) (hi : tb.get e = some i) (hs : evE env s = some es) (hsv : es.v = .slice (some ⟨g, off, none⟩) dl dc) (hx : evE env x = some ex) (hxv : ex.v = .slice A q c)
  (hH : loH H id = some (.obj g (.cells cur eb))) (hl : cs.length = Nat.min q dl * i.size) (h1 : ∀ u ∈ cs, u.oneCell' = true) (hn : ∀ w, St tb B0 H I w → w.rangeAt (blkA A) (offA A) cs) (hA : cs ≠ [] → Ptr A) (hA0 : A = none → Nat.min q dl = 0)
  (hfit : off + cs.length ≤ cur.size) :
  OpGo P tb B0 n ⟨some d, .call ⟨.builtin .copy, #[s, x], #[T, T2]⟩, ty, ps, af, gd⟩ env H m I (fun _ : Unit => (d, .av (.val (.int .i64 (Nat.min q dl)))) :: env) (fun _ => (id, some (.obj g (.cells (putC cur off cs) eb))) :: H) (fun _ => I) := by
 intro w a hm hst ha
 have hdn : d < n := Nat.lt_of_lt_of_le (Nat.lt_succ_self d) (Nat.le_of_ble_eq_true hd)
 have ho := hst.holds id _ hH
 have hu := run_underlying (hk.und hT) w
 have hsz := run_tsize (w := w) hk hi
 have hfirst : (Builtin.firstCells i.size (Nat.min q dl) (.slice A q c)).run P w = .ok cs.toArray w := by
  cases A with
  | none =>
   have h0 := hA0 rfl
   rw [h0] at hl
   have : cs = [] := List.length_eq_zero_iff.1 (by simpa using hl)
   subst this
   rw [h0]
   rfl
  | some ad =>
   refine run_firstCells_some w i.size _ ad q c cs hl fun j v hj => ?_
   have hp := hA (by rintro rfl; simp at hj)
   unfold Ptr at hp
   injection hp with hp
   have := hn w hst j v hj
   rw [hp, Addr.add_lit]
   exact this
 have hstc := run_storeCells_at P g off eb cs 0 cur w ho.2 (by simpa using hfit) h1
 simp only [Nat.add_zero] at hstc
 have hrun : (Builtin.copy_ #[T, T2] ty #[.slice (some ⟨g, off, none⟩) dl dc, .slice A q c]).run P w = .ok (.int .i64 (Nat.min q dl)) (w.setRow g (putC cur off cs)) := by
  simp only [Builtin.copy_, Sem.run_bind, List.getElem?_toArray, List.getElem?_cons_zero, List.getElem?_cons_succ, hu, Result.andThen_ok, Builtin.lenOf, Sem.run_pure, hsz, hfirst]
  simp [hstc, putC, goInt]
 have hsv' : a.eval s = .slice (some ⟨g, off, none⟩) dl dc := (ev_run ha hs).trans hsv
 have hxv' : a.eval x = .slice A q c := (ev_run ha hx).trans hxv
 unfold Oper.wp
 have : (execOp a.eval ⟨some d, .call ⟨.builtin .copy, #[s, x], #[T, T2]⟩, ty, ps, af, gd⟩).run P w = .ok (.value (.int .i64 (Nat.min q dl))) (w.setRow g (putC cur off cs)) := by
  simp only [execOp, resolve, invoke, builtin, Sem.run_bind, Sem.run_pure, Result.andThen_ok, List.map_toArray, List.map_cons, List.map_nil, hsv', hxv', hrun]
 rw [this]
 obtain ⟨h2, h3⟩ := hst.put (w' := w.setRow g (putC cur off cs)) hH rfl
 refine ⟨(), ?_, by rw [← hm]; exact h2, h3⟩
 rw [kn_cons]; exact ha.put hdn _
abbrev roundsE : EV := .st [.val (.func (.func 286) #[] #[]), .val (.func (.func 288) #[] #[])]
theorem rounds_spec (w : World) : Gives Tryz.prog 261 [] w roundsE := by
 refine enterH tk [] Tryz.func261 rfl Tryz.ntmps261 rfl rfl ?_
 refine RH.adv tk [] rfl rfl (by simp <;> omega) ?_
 exact RH.retBox tk roundsE Tryz.func261 rfl rfl rfl rfl fun w' hst => ⟨rfl, hst.fact⟩
theorem index_ws {w : World} (ws : List UInt32) (h : ws.length = 64) (k : Nat) (hk : k < 64) : (Instr.index 367 (wsV ws) (.int .i64 k)).run Tryz.prog w = .ok (u32V (gW ws k)) w := by
 unfold Instr.index wsV
 have h1 : (underlying 367).run Tryz.prog w = .ok (.array 64 225) w := run_underlying (tk.und rfl) w
 have h2 : (sizeOf 225).run Tryz.prog w = .ok 1 w := run_tsize tk (i := Tryz.t225) rfl
 have hv : (ws.map u32V)[k]? = some (u32V (gW ws k)) := by
  unfold gW
  rw [List.getElem?_map, List.getD_eq_getElem?_getD, List.getElem?_eq_getElem (by omega)]
  rfl
 have h3 := part_one (P := Tryz.prog) w (e := 225) (tk.und rfl) rfl (ws.map u32V) k _ hv
 simp only [asIntOf, Sem.run_bind, Sem.run_pure, Result.andThen_ok, h1]
 rw [if_pos ⟨by omega, by omega⟩]
 simp only [Sem.run_bind, h2, Result.andThen_ok, Int.toNat_natCast, Nat.mul_one]
 exact h3
theorem load_w8 {w : World} {b : Nat} {ws : List UInt32} (h : w.heap[b]? = some (.cells (wsC ws) 226)) (h8 : ws.length = 8) : (loadVar 226 ⟨b, 0, none⟩).run Tryz.prog w = .ok (wsV ws) w :=
 V.run_load tk (vok_w8 h8) (range_take h (n := 8) (by
  show ((wsC ws).toList.drop 0).take 8 = (wsC ws).toList
  rw [List.drop_zero, List.take_of_length_le (by unfold wsC; simp [h8])]))
theorem slice_lo (w : World) (a : Nat) : (Instr.sliceAt 226 (.pointer (some ⟨a, 0, none⟩)) (some (.int .i64 1)) none none).run Tryz.prog w = .ok (.slice (some ⟨a, 1, none⟩) 7 7) w := by
 have h1 : (underlying 226).run Tryz.prog w = .ok (.array 8 225) w := run_underlying (tk.und rfl) w
 have h2 : (sizeOf 225).run Tryz.prog w = .ok 1 w := run_tsize tk (i := Tryz.t225) rfl
 simp [Instr.sliceAt, Instr.sliceBounds, Instr.sliceBound, h1, h2, asIntOf, Instr.sureAddr, Addr.add_lit]
theorem slice_hi (w : World) (a : Nat) : (Instr.sliceAt 226 (.pointer (some ⟨a, 0, none⟩)) none (some (.int .i64 7)) none).run Tryz.prog w = .ok (.slice (some ⟨a, 0, none⟩) 7 8) w := by
 have h1 : (underlying 226).run Tryz.prog w = .ok (.array 8 225) w := run_underlying (tk.und rfl) w
 have h2 : (sizeOf 225).run Tryz.prog w = .ok 1 w := run_tsize tk (i := Tryz.t225) rfl
 simp [Instr.sliceAt, Instr.sliceBounds, Instr.sliceBound, h1, h2, asIntOf, Instr.sureAddr, Addr.add_lit]
theorem load_con {w : World} (h : Glob w) (k : Nat) (hk : k < 64) : (loadVar 225 ⟨1, k * 1, none⟩).run Tryz.prog w = .ok (u32V (gW constW k)) w := by
 refine V.run_load tk (vok_w _) fun j v hj => ?_
 cases j with
 | zero =>
  have hj : some (u32V (gW constW k)) = some v := hj
  injection hj with hj
  subst hj
  have := h.con k (u32V (gW constW k)) (by
   have hl : k < constW.length := hk
   unfold gW
   rw [List.getElem?_map, List.getD_eq_getElem?_getD, List.getElem?_eq_getElem hl]
   rfl)
  rw [Nat.zero_add] at this
  rw [Nat.mul_one, Nat.add_zero]
  exact this
 | succ j => simp [u32V, Value.cells] at hj
def tempA (W h : List UInt32) (i : Nat) : UInt32 := sumW [roundA h, gW constW i, gW W i]
def shiftW (h : List UInt32) : List UInt32 := h.take 1 ++ h.take 7
def stepW (W : List UInt32) (i : Nat) (h : List UInt32) : List UInt32 :=
 ((shiftW h).set 4 (sumW [gW (shiftW h) 4, tempA W h i])).set 0 (sumW [tempA W h i, roundB h])
def roundsW (W : List UInt32) (n : Nat) (h : List UInt32) : List UInt32 := iterN (stepW W) n h
def addW (old : List UInt32) (n : Nat) (h : List UInt32) : List UInt32 := iterN (fun i h => h.set i (sumW [gW h i, gW old i])) n h
def takenW (old : List UInt32) (blk : List UInt8) : List UInt32 := addW old 8 (roundsW (spreadW blk) 64 old)
theorem shiftW_len {h : List UInt32} (h8 : h.length = 8) : (shiftW h).length = 8 := by unfold shiftW; simp [h8]
theorem stepW_len {W h : List UInt32} (i : Nat) (h8 : h.length = 8) : (stepW W i h).length = 8 := by unfold stepW; rw [List.length_set, List.length_set, shiftW_len h8]
theorem roundsW_len (W : List UInt32) (n : Nat) {h : List UInt32} (h8 : h.length = 8) : (roundsW W n h).length = 8 :=
 iterN_inv (p := fun (x : List UInt32) => x.length = 8) (fun i x hx => stepW_len i hx) n h h8
theorem addW_len (old : List UInt32) (n : Nat) {h : List UInt32} (h8 : h.length = 8) : (addW old n h).length = 8 :=
 iterN_inv (p := fun (x : List UInt32) => x.length = 8) (fun i x hx => by rw [List.length_set]; exact hx) n h h8
theorem takenW_len {old : List UInt32} (blk : List UInt8) (h8 : old.length = 8) : (takenW old blk).length = 8 := addW_len _ _ (roundsW_len _ _ h8)
theorem taken_spec (w : World) (hG : Glob w) (old : List UInt32) (h8 : old.length = 8) (A : Option Addr) (c : Nat) (blk : List UInt8) (hb : Sl kBy w A c blk) (h64 : blk.length = 64) : Gives Tryz.prog 208 [wsV old, .slice A blk.length c] w (.av (.val (wsV (takenW old blk)))) := by
 have hl : lim = 140737488351232 := rfl
 refine enterH tk [(0, .av (.val (wsV old))), (1, slE A blk.length c)] Tryz.func208 rfl Tryz.ntmps208 rfl rfl ?_
 refine RH.adv tk [] rfl rfl ⟨⟨rfl, List.all_eq_true.1 (by kernel_rfl)⟩, ⟨by unfold wsC; simp [h8]; rfl, wsC_one old⟩, trivial⟩ ?_
 apply RH.joinK (α := Nat × Nat) (fun z => [(4, .av (.box 1 (w.heap.size + 1) 0)), (2, .av (.box 0 w.heap.size 0)), (5, .av (.box 2 z.1 0)), (6, .av (.box 3 z.2 0)), (14, slE A blk.length c)])
  (fun z => [(0, some (.box w.heap.size [.val (wsV old)] 226)), (1, some (.box (w.heap.size + 1) [.val (wsV (List.replicate 8 0))] 226)), (2, some (.box z.1 [.val (wsV old)] 226)), (3, some (.box z.2 [.val (.func (.func 286) #[] #[]), .val (.func (.func 288) #[] #[])] 365))])
  (fun _ u => Ext w u)
 ·refine RH.draw rfl [(0, some (.box w.heap.size [.val (wsV old)] 226))] rfl 6 rfl rfl ?_
  refine RD.adv tk (by kernel_rfl) [] rfl rfl (by simp <;> omega) ?_
  refine RD.three (i := 1) (j := 2) (q := 3) (by kernel_rfl) ?_ ?_ ?_
  ·refine opD_go (i := 1) rfl rfl (OpGo.gives (fo := .func 261) roundsE rfl rfl rfl rfl Tryz.call261 (fun u _ => rounds_spec u)) 2 (fun _ => rfl) (fun _ _ h => h) ?_
   rintro ⟨⟩ m1 hm1
   refine RD.adv tk (by kernel_rfl) [] rfl rfl (by simp <;> omega) ?_
   refine RD.two (i := 2) (j := 3) (by kernel_rfl) ?_ ?_
   ·refine opD_step tk (nx := 2) (i := 2) rfl rfl rfl rfl ?_ rfl (fun _ h => h) ⟨rfl, rfl⟩ ?_
    ·first | exact ⟨⟨rfl, List.all_eq_true.1 (by kernel_rfl)⟩, trivial⟩ | simp [AllOb, Ob.P] <;> rfl
    refine RD.adv tk (by kernel_rfl) [] rfl rfl (by simp <;> omega) ?_
    refine RD.step tk (i := 3) rfl (by kernel_rfl) rfl rfl rfl ?_ rfl (fun _ h => h) ⟨rfl, rfl⟩ ?_
    ·first | exact ⟨⟨rfl, List.all_eq_true.1 (by kernel_rfl)⟩, trivial⟩ | simp [AllOb, Ob.P] <;> rfl
    refine RD.adv tk (by kernel_rfl) [] rfl rfl (by simp <;> omega) ?_
    refine RD.step tk (i := 4) rfl (by kernel_rfl) rfl rfl rfl ?_ rfl (fun _ h => h) rfl ?_
    ·first | exact ⟨⟨by unfold wsC; simp [h8]; rfl, wsC_one old⟩, trivial⟩ | trivial
    refine RD.adv tk (by kernel_rfl) [] rfl rfl (by simp <;> omega) ?_
    refine RD.step tk (i := 5) rfl (by kernel_rfl) rfl rfl rfl ?_ rfl (fun _ h => h) rfl ?_
    ·first | trivial | simp [AllOb, Ob.P] <;> rfl
    refine RD.done (.inl rfl) (by kernel_rfl) ?_
    refine RH.adv tk [] rfl rfl (by simp <;> omega) ?_
    refine RH.mtS (m1, (m1 + 1)) [] (.head _) ?_ ?_ ?_ ?_
    ·rfl
    ·rfl
    ·rfl
    ·exact fun w h => h
   ·refine opD_step tk (nx := 2) (i := 3) rfl rfl rfl rfl ?_ rfl (fun _ h => h) ⟨rfl, rfl⟩ ?_
    ·first | exact ⟨⟨rfl, List.all_eq_true.1 (by kernel_rfl)⟩, trivial⟩ | simp [AllOb, Ob.P] <;> rfl
    refine RD.adv tk (by kernel_rfl) [] rfl rfl (by simp <;> omega) ?_
    refine RD.step tk (i := 2) rfl (by kernel_rfl) rfl rfl rfl ?_ rfl (fun _ h => h) ⟨rfl, rfl⟩ ?_
    ·first | exact ⟨⟨rfl, List.all_eq_true.1 (by kernel_rfl)⟩, trivial⟩ | simp [AllOb, Ob.P] <;> rfl
    refine RD.adv tk (by kernel_rfl) [] rfl rfl (by simp <;> omega) ?_
    refine RD.step tk (i := 4) rfl (by kernel_rfl) rfl rfl rfl ?_ rfl (fun _ h => h) rfl ?_
    ·first | exact ⟨⟨by unfold wsC; simp [h8]; rfl, wsC_one old⟩, trivial⟩ | trivial
    refine RD.adv tk (by kernel_rfl) [] rfl rfl (by simp <;> omega) ?_
    refine RD.step tk (i := 5) rfl (by kernel_rfl) rfl rfl rfl ?_ rfl (fun _ h => h) rfl ?_
    ·first | trivial | simp [AllOb, Ob.P] <;> rfl
    refine RD.done (.inl rfl) (by kernel_rfl) ?_
    refine RH.adv tk [] rfl rfl (by simp <;> omega) ?_
    refine RH.mtS ((m1 + 1), m1) [(2, 3), (3, 2)] (.head _) ?_ ?_ ?_ ?_
    ·rfl
    ·rfl
    ·rfl
    ·exact fun w h => h
  ·refine opD_step tk (nx := 2) (i := 2) rfl rfl rfl rfl ?_ rfl (fun _ h => h) ⟨rfl, rfl⟩ ?_
   ·first | exact ⟨⟨rfl, List.all_eq_true.1 (by kernel_rfl)⟩, trivial⟩ | simp [AllOb, Ob.P] <;> rfl
   refine RD.adv tk (by kernel_rfl) [] rfl rfl (by simp <;> omega) ?_
   refine RD.two (i := 1) (j := 3) (by kernel_rfl) ?_ ?_
   ·refine opD_go (i := 1) rfl rfl (OpGo.gives (fo := .func 261) roundsE rfl rfl rfl rfl Tryz.call261 (fun u _ => rounds_spec u)) 3 (fun _ => rfl) (fun _ _ h => h) ?_
    rintro ⟨⟩ m1 hm1
    refine RD.adv tk (by kernel_rfl) [] rfl rfl (by simp <;> omega) ?_
    refine RD.step tk (i := 3) rfl (by kernel_rfl) rfl rfl rfl ?_ rfl (fun _ h => h) ⟨rfl, rfl⟩ ?_
    ·first | exact ⟨⟨rfl, List.all_eq_true.1 (by kernel_rfl)⟩, trivial⟩ | simp [AllOb, Ob.P] <;> rfl
    refine RD.adv tk (by kernel_rfl) [] rfl rfl (by simp <;> omega) ?_
    refine RD.step tk (i := 4) rfl (by kernel_rfl) rfl rfl rfl ?_ rfl (fun _ h => h) rfl ?_
    ·first | exact ⟨⟨by unfold wsC; simp [h8]; rfl, wsC_one old⟩, trivial⟩ | trivial
    refine RD.adv tk (by kernel_rfl) [] rfl rfl (by simp <;> omega) ?_
    refine RD.step tk (i := 5) rfl (by kernel_rfl) rfl rfl rfl ?_ rfl (fun _ h => h) rfl ?_
    ·first | trivial | simp [AllOb, Ob.P] <;> rfl
    refine RD.done (.inl rfl) (by kernel_rfl) ?_
    refine RH.adv tk [] rfl rfl (by simp <;> omega) ?_
    refine RH.mtS ((w.heap.size + 1 + 1), m1) [] (.head _) ?_ ?_ ?_ ?_
    ·rfl
    ·rfl
    ·rfl
    ·exact fun w h => h
   ·refine opD_step tk (nx := 3) (i := 3) rfl rfl rfl rfl ?_ rfl (fun _ h => h) ⟨rfl, rfl⟩ ?_
    ·first | exact ⟨⟨rfl, List.all_eq_true.1 (by kernel_rfl)⟩, trivial⟩ | simp [AllOb, Ob.P] <;> rfl
    refine RD.adv tk (by kernel_rfl) [] rfl rfl (by simp <;> omega) ?_
    refine RD.gives (i := 1) roundsE rfl (by kernel_rfl) rfl rfl rfl rfl Tryz.call261 (fun u _ => rounds_spec u) rfl (fun _ h => h) ?_
    intro m1 hm1
    refine RD.adv tk (by kernel_rfl) [] rfl rfl (by simp <;> omega) ?_
    refine RD.step tk (i := 4) rfl (by kernel_rfl) rfl rfl rfl ?_ rfl (fun _ h => h) rfl ?_
    ·first | exact ⟨⟨by unfold wsC; simp [h8]; rfl, wsC_one old⟩, trivial⟩ | trivial
    refine RD.adv tk (by kernel_rfl) [] rfl rfl (by simp <;> omega) ?_
    refine RD.step tk (i := 5) rfl (by kernel_rfl) rfl rfl rfl ?_ rfl (fun _ h => h) rfl ?_
    ·first | trivial | simp [AllOb, Ob.P] <;> rfl
    refine RD.done (.inl rfl) (by kernel_rfl) ?_
    refine RH.adv tk [] rfl rfl (by simp <;> omega) ?_
    refine RH.mtS ((w.heap.size + 1 + 1), ((w.heap.size + 1 + 1) + 1)) [] (.head _) ?_ ?_ ?_ ?_
    ·rfl
    ·rfl
    ·rfl
    ·exact fun w h => h
  ·refine opD_step tk (nx := 2) (i := 3) rfl rfl rfl rfl ?_ rfl (fun _ h => h) ⟨rfl, rfl⟩ ?_
   ·first | exact ⟨⟨rfl, List.all_eq_true.1 (by kernel_rfl)⟩, trivial⟩ | simp [AllOb, Ob.P] <;> rfl
   refine RD.adv tk (by kernel_rfl) [] rfl rfl (by simp <;> omega) ?_
   refine RD.two (i := 1) (j := 2) (by kernel_rfl) ?_ ?_
   ·refine opD_go (i := 1) rfl rfl (OpGo.gives (fo := .func 261) roundsE rfl rfl rfl rfl Tryz.call261 (fun u _ => rounds_spec u)) 3 (fun _ => rfl) (fun _ _ h => h) ?_
    rintro ⟨⟩ m1 hm1
    refine RD.adv tk (by kernel_rfl) [] rfl rfl (by simp <;> omega) ?_
    refine RD.step tk (i := 2) rfl (by kernel_rfl) rfl rfl rfl ?_ rfl (fun _ h => h) ⟨rfl, rfl⟩ ?_
    ·first | exact ⟨⟨rfl, List.all_eq_true.1 (by kernel_rfl)⟩, trivial⟩ | simp [AllOb, Ob.P] <;> rfl
    refine RD.adv tk (by kernel_rfl) [] rfl rfl (by simp <;> omega) ?_
    refine RD.step tk (i := 4) rfl (by kernel_rfl) rfl rfl rfl ?_ rfl (fun _ h => h) rfl ?_
    ·first | exact ⟨⟨by unfold wsC; simp [h8]; rfl, wsC_one old⟩, trivial⟩ | trivial
    refine RD.adv tk (by kernel_rfl) [] rfl rfl (by simp <;> omega) ?_
    refine RD.step tk (i := 5) rfl (by kernel_rfl) rfl rfl rfl ?_ rfl (fun _ h => h) rfl ?_
    ·first | trivial | simp [AllOb, Ob.P] <;> rfl
    refine RD.done (.inl rfl) (by kernel_rfl) ?_
    refine RH.adv tk [] rfl rfl (by simp <;> omega) ?_
    refine RH.mtS (m1, (w.heap.size + 1 + 1)) [(2, 3), (3, 2)] (.head _) ?_ ?_ ?_ ?_
    ·rfl
    ·rfl
    ·rfl
    ·exact fun w h => h
   ·refine opD_step tk (nx := 3) (i := 2) rfl rfl rfl rfl ?_ rfl (fun _ h => h) ⟨rfl, rfl⟩ ?_
    ·first | exact ⟨⟨rfl, List.all_eq_true.1 (by kernel_rfl)⟩, trivial⟩ | simp [AllOb, Ob.P] <;> rfl
    refine RD.adv tk (by kernel_rfl) [] rfl rfl (by simp <;> omega) ?_
    refine RD.gives (i := 1) roundsE rfl (by kernel_rfl) rfl rfl rfl rfl Tryz.call261 (fun u _ => rounds_spec u) rfl (fun _ h => h) ?_
    intro m1 hm1
    refine RD.adv tk (by kernel_rfl) [] rfl rfl (by simp <;> omega) ?_
    refine RD.step tk (i := 4) rfl (by kernel_rfl) rfl rfl rfl ?_ rfl (fun _ h => h) rfl ?_
    ·first | exact ⟨⟨by unfold wsC; simp [h8]; rfl, wsC_one old⟩, trivial⟩ | trivial
    refine RD.adv tk (by kernel_rfl) [] rfl rfl (by simp <;> omega) ?_
    refine RD.step tk (i := 5) rfl (by kernel_rfl) rfl rfl rfl ?_ rfl (fun _ h => h) rfl ?_
    ·first | trivial | simp [AllOb, Ob.P] <;> rfl
    refine RD.done (.inl rfl) (by kernel_rfl) ?_
    refine RH.adv tk [] rfl rfl (by simp <;> omega) ?_
    refine RH.mtS (((w.heap.size + 1 + 1) + 1), (w.heap.size + 1 + 1)) [(2, 3), (3, 2)] (.head _) ?_ ?_ ?_ ?_
    ·rfl
    ·rfl
    ·rfl
    ·exact fun w h => h
 rintro ⟨a, b⟩ m2
 refine RH.toNx 4 ?_
 refine RH.gives (ho := rfl) (hw := rfl) (hd := rfl) (hf := rfl) (hes := rfl) (hc := Tryz.call262) (e := .av (.val (wsV (spreadW blk)))) (hC := fun u hu => spread_spec u A c blk (hb.ext hu.fact) h64) ?_
 intro m3 hm3
 have hWl := spreadW_len blk
 have htk : takenW old blk = addW old 8 (roundsW (spreadW blk) 64 old) := rfl
 rw [htk]
 generalize hWe : spreadW blk = W at *
 refine RH.boxObj (id := 0) (wsC old) rfl (boxCells_ws old) ?_
 refine RH.boxObj (id := 2) (wsC old) rfl (boxCells_ws old) ?_
 refine RH.adv tk [] rfl rfl (by simp <;> omega) ?_
 refine RH.loop (α := Nat) (fun i => [(4, .av (.box 1 (w.heap.size + 1) 0)), (2, .av (.box 0 w.heap.size 0)), (5, .av (.box 2 a 0)), (6, .av (.box 3 b 0)), (15, .av (.val (wsV W))), (16, intE i)])
  (fun i => [(0, wsE w.heap.size 226 old), (1, some (.box (w.heap.size + 1) [.val (wsV (List.replicate 8 0))] 226)), (2, wsE a 226 (roundsW W i old)), (3, some (.box b [.val (.func (.func 286) #[] #[]), .val (.func (.func 288) #[] #[])] 365))]) (fun i u => Ext w u ∧ i ≤ 64) (fun i => 64 - i) 0 rfl rfl (fun u hu => ⟨hu, by decide⟩) ?_
 intro i m4
 refine RH.pure (fun u hu => hu.2) fun hi => ?_
 by_cases hlt : i < 64
 ·have hh8 : (roundsW W i old).length = 8 := roundsW_len W i h8
  have hnext : stepW W i (roundsW W i old) = roundsW W (i + 1) old := rfl
  generalize hhe : roundsW W i old = h at *
  refine RH.adv tk [true] rfl rfl (by simp <;> omega) ?_
  refine RH.read (u32E (gW W i)) rfl rfl rfl rfl (fun u q _ ha => ?_) ?_
  ·have e1 : q.eval (.tmp 15) = wsV W := ev_run (e := .av (.val (wsV W))) ha rfl
   have e2 : q.eval (.tmp 16) = .int .i64 (i : Int) := ev_run (e := intE i) ha rfl
   simp only [execOp, e1, e2, index_ws W hWl i hlt, Sem.run_bind, Result.andThen_ok, Sem.run_pure]
   rfl
  refine RH.adv tk [] rfl rfl (by simp <;> omega) ?_
  refine RH.draw rfl [(2, wsE a 226 h), (3, some (.box b [.val (.func (.func 286) #[] #[]), .val (.func (.func 288) #[] #[])] 365))] rfl 11 rfl rfl ?_
  refine RD.adv tk (by kernel_rfl) [] rfl rfl (by simp <;> omega) ?_
  refine RD.loadG (by kernel_rfl) (i := 2) (.av (.val (wsV h))) rfl rfl rfl rfl rfl rfl (fun u hu => load_w8 (hu.holds 2 _ rfl).2 hh8) ?_
  refine RD.adv tk (by kernel_rfl) [] rfl rfl (by simp <;> omega) ?_
  refine RD.loadG (by kernel_rfl) (i := 6) (u32E (gW constW i)) rfl rfl rfl rfl rfl rfl (fun u hu => load_con (hG.ext hu.fact.1) i hlt) ?_
  refine RD.adv tk (by kernel_rfl) [] rfl rfl (by simp <;> omega) ?_
  refine RD.gives (i := 3) (u32E (roundA h)) rfl (by kernel_rfl) rfl rfl rfl rfl Tryz.call286 (fun u _ => rounds1_spec u h hh8) rfl (fun _ h => h) ?_
  intro m5 hm5
  refine RD.adv tk (by kernel_rfl) [] rfl rfl (by simp <;> omega) ?_
  refine RD.step tk (i := 8) rfl (by kernel_rfl) rfl rfl rfl (by simp [AllOb, Ob.P, u32V, one_int]; try rfl) rfl (fun _ h => h) ⟨rfl, rfl⟩ ?_
  refine RD.adv tk (by kernel_rfl) [] rfl rfl (by simp <;> omega) ?_
  refine RD.gives (i := 9) (u32E (tempA W h i)) rfl (by kernel_rfl) rfl rfl rfl rfl Tryz.call263 (fun u hu => added_spec u _ _ [roundA h, gW constW i, gW W i] (Sl.own (B := w.heap.size) (hu.row (κ := kW) (l := [roundA h, gW constW i, gW W i]) (id := 4) rfl) (by simp [hl]))) rfl (fun _ h => h) ?_
  intro m6 hm6
  refine RD.adv tk (by kernel_rfl) [] rfl rfl (by simp <;> omega) ?_
  refine RD.done (.inl rfl) (by kernel_rfl) ?_
  refine RH.adv tk [] rfl rfl (by simp <;> omega) ?_
  refine RH.loadS (.av (.val (wsV h))) rfl rfl rfl rfl (fun u hu => load_w8 (hu.holds 2 _ rfl).2 hh8) ?_
  refine RH.gives (u32E (roundB h)) rfl rfl rfl rfl rfl Tryz.call288 (fun u _ => rounds2_spec u h hh8) ?_
  intro m7 hm7
  refine RH.adv tk [] rfl rfl (by simp <;> omega) ?_
  refine RH.draw rfl [] rfl 3 rfl rfl ?_
  refine RD.adv tk (by kernel_rfl) [] rfl rfl (by simp <;> omega) ?_
  refine RD.read (by kernel_rfl) (i := 0) (.av (.val (.slice (some ⟨a, 1, none⟩) 7 7))) rfl rfl rfl rfl rfl rfl (fun u q _ ha => ?_) ?_
  ·have e1 : q.eval (.tmp 5) = .pointer (some ⟨a, 0, none⟩) := ev_run (e := .av (.box 2 a 0)) ha rfl
   have e2 : q.eval (.const (.int .i64 1)) = .int .i64 1 := ev_run (e := .av (.val (.int .i64 1))) ha rfl
   simp only [execOp, e1, Option.map_some, Option.map_none, e2, slice_lo, Sem.run_bind, Result.andThen_ok, Sem.run_pure]
   rfl
  refine RD.read (by kernel_rfl) (i := 1) (.av (.val (.slice (some ⟨a, 0, none⟩) 7 8))) rfl rfl rfl rfl rfl rfl (fun u q _ ha => ?_) ?_
  ·have e1 : q.eval (.tmp 5) = .pointer (some ⟨a, 0, none⟩) := ev_run (e := .av (.box 2 a 0)) ha rfl
   have e2 : q.eval (.const (.int .i64 7)) = .int .i64 7 := ev_run (e := .av (.val (.int .i64 7))) ha rfl
   simp only [execOp, e1, Option.map_some, Option.map_none, e2, slice_hi, Sem.run_bind, Result.andThen_ok, Sem.run_pure]
   rfl
  refine RD.last (i := 2) rfl (by kernel_rfl) rfl (by kernel_rfl) (OpGo.copyArr (id := 2) (g := a) (off := 1) (dl := 7) (dc := 7) (q := 7) (c := 8) (A := some ⟨a, 0, none⟩) (cur := wsC h) (cs := (h.take 7).map u32V) (i := Tryz.t225) (e := 225) tk rfl rfl rfl rfl rfl rfl rfl rfl ?_ ?_ ?_ ?_ ?_ ?_) 5 (by kernel_rfl) ?_
  ·simp [hh8]; rfl
  ·exact wsC_one (h.take 7)
  ·exact fun u hu => range_take (n := 7) (hu.holds 2 _ rfl).2 (by show ((wsC h).toList.drop 0).take 7 = _; unfold wsC; simp [List.map_take])
  ·exact fun _ => rfl
  ·exact nofun
  ·unfold wsC; simp [hh8]
  rintro ⟨⟩ m8 hm8
  have hput : putC (wsC h) 1 ((h.take 7).map u32V) = wsC (shiftW h) := by
   unfold putC wsC shiftW
   simp [List.map_take, hh8]
  rw [hput]
  have hs8 := shiftW_len hh8
  have hn2 : ((shiftW h).set 4 (sumW [gW (shiftW h) 4, tempA W h i])).set 0 (sumW [tempA W h i, roundB h]) = roundsW W (i + 1) old := hnext
  generalize shiftW h = sh at *
  refine RH.adv tk [] rfl rfl (by simp <;> omega) ?_
  refine RH.loadS (u32E (gW sh 4)) rfl rfl rfl rfl (fun u hu => load_ws (hu.holds 2 _ rfl).2 (by omega)) ?_
  refine RH.adv tk [] rfl rfl (by simp [AllOb, Ob.P, u32V, one_int]; try rfl) ?_
  refine RH.gives (ho := rfl) (hw := rfl) (hd := rfl) (hf := rfl) (hes := rfl) (hc := Tryz.call263) (e := u32E (sumW [gW sh 4, tempA W h i])) (hC := fun u hu => added_spec u _ _ [gW sh 4, tempA W h i] (Sl.own (B := w.heap.size) (hu.row (κ := kW) (l := [gW sh 4, tempA W h i]) (id := 5) rfl) (by simp [hl]))) ?_
  intro m9 hm9
  refine RH.adv tk [] rfl rfl (by simp <;> omega) ?_
  refine RH.storeW (id := 2) (ws := sh) 4 (sumW [gW sh 4, tempA W h i]) rfl rfl rfl rfl rfl (by omega) rfl rfl ?_
  intro m10 hm10
  refine RH.adv tk [] rfl rfl (by simp [AllOb, Ob.P, u32V, one_int]; try rfl) ?_
  refine RH.gives (ho := rfl) (hw := rfl) (hd := rfl) (hf := rfl) (hes := rfl) (hc := Tryz.call263) (e := u32E (sumW [tempA W h i, roundB h])) (hC := fun u hu => added_spec u _ _ [tempA W h i, roundB h] (Sl.own (B := w.heap.size) (hu.row (κ := kW) (l := [tempA W h i, roundB h]) (id := 6) rfl) (by simp [hl]))) ?_
  intro m11 hm11
  refine RH.adv tk [] rfl rfl (by simp <;> omega) ?_
  refine RH.storeW (id := 2) (ws := sh.set 4 (sumW [gW sh 4, tempA W h i])) 0 (sumW [tempA W h i, roundB h]) rfl rfl rfl rfl rfl (by rw [List.length_set]; omega) rfl rfl ?_
  intro m12 hm12
  rw [hn2]
  refine RH.adv tk [] rfl rfl (by simp <;> omega) ?_
  exact RH.again (i + 1) (.head _) rfl rfl (by show 64 - (i + 1) < 64 - i; omega) fun u hu => ⟨hu.1, hlt⟩
 ·have hi64 : i = 64 := by omega
  subst hi64
  refine RH.adv tk [false] rfl rfl (by simp <;> omega) ?_
  have hR8 : (roundsW W 64 old).length = 8 := roundsW_len W 64 h8
  generalize roundsW W 64 old = Rr at *
  refine RH.loop (α := Nat) (fun i => [(4, .av (.box 1 (w.heap.size + 1) 0)), (2, .av (.box 0 w.heap.size 0)), (5, .av (.box 2 a 0)), (49, intE i)])
   (fun i => [(0, wsE w.heap.size 226 old), (1, some (.box (w.heap.size + 1) [.val (wsV (List.replicate 8 0))] 226)), (2, wsE a 226 (addW old i Rr))]) (fun i u => Ext w u ∧ i ≤ 8) (fun i => 8 - i) 0 rfl rfl (fun u hu => ⟨hu.1, by decide⟩) ?_
  intro i m5
  refine RH.pure (fun u hu => hu.2) fun hi => ?_
  have hc8 : (addW old i Rr).length = 8 := addW_len old i hR8
  by_cases hlt2 : i < 8
  ·have hnext : (addW old i Rr).set i (sumW [gW (addW old i Rr) i, gW old i]) = addW old (i + 1) Rr := rfl
   generalize addW old i Rr = cu at *
   refine RH.adv tk [true] rfl rfl (by simp <;> omega) ?_
   refine RH.draw rfl [(0, wsE w.heap.size 226 old), (2, wsE a 226 cu)] rfl 11 rfl rfl ?_
   refine RD.adv tk (by kernel_rfl) [] rfl rfl (by simp <;> omega) ?_
   refine RD.loadG (by kernel_rfl) (i := 3) (u32E (gW cu i)) rfl rfl rfl rfl rfl rfl (fun u hu => load_wsAt (hu.holds 2 _ rfl).2 i (by omega) _ rfl) ?_
   refine RD.loadG (by kernel_rfl) (i := 6) (u32E (gW old i)) rfl rfl rfl rfl rfl rfl (fun u hu => load_wsAt (hu.holds 0 _ rfl).2 i (by omega) _ rfl) ?_
   refine RD.adv tk (by kernel_rfl) [] rfl rfl (by simp <;> omega) ?_
   refine RD.step tk (i := 7) rfl (by kernel_rfl) rfl rfl rfl (by simp [AllOb, Ob.P, u32V, one_int]; try rfl) rfl (fun _ h => h) ⟨rfl, rfl⟩ ?_
   refine RD.adv tk (by kernel_rfl) [] rfl rfl (by simp <;> omega) ?_
   refine RD.gives (i := 8) (u32E (sumW [gW cu i, gW old i])) rfl (by kernel_rfl) rfl rfl rfl rfl Tryz.call263 (fun u hu => added_spec u _ _ [gW cu i, gW old i] (Sl.own (B := w.heap.size) (hu.row (κ := kW) (l := [gW cu i, gW old i]) (id := 4) rfl) (by simp [hl]))) rfl (fun _ h => h) ?_
   intro m6 hm6
   refine RD.adv tk (by kernel_rfl) [] rfl rfl (by simp <;> omega) ?_
   refine RD.lastW (i := 10) (id := 2) (ws := cu) i (sumW [gW cu i, gW old i]) rfl (by kernel_rfl) rfl (by kernel_rfl) (by kernel_rfl) rfl rfl rfl (by omega) rfl rfl ?_
   intro m7 hm7
   rw [hnext]
   refine RH.adv tk [] rfl rfl (by simp <;> omega) ?_
   exact RH.again (i + 1) (.head _) rfl rfl (by show 8 - (i + 1) < 8 - i; omega) fun u hu => ⟨hu.1, hlt2⟩
  ·have hi8 : i = 8 := by omega
   subst hi8
   refine RH.objBox (id := 2) [.val (wsV (addW old 8 Rr))] rfl (boxCells_ws _).symm ⟨_, rfl, vok_w8 hc8⟩ ?_
   refine RH.adv tk [false] rfl rfl ⟨⟨by unfold wsC; simp [hc8]; rfl, wsC_one _⟩, by simp [Ob.P], trivial⟩ ?_
   exact RH.retBox tk (.av (.val (wsV (addW old 8 Rr)))) Tryz.func208 rfl rfl rfl rfl fun w' hst => ⟨rfl, hst.fact.1⟩
open Go V RowKit
theorem run_append_make0 {P : Program} (w : World) (t tx ty e : TypeId) (i : TypeInfo) (z : Value) (ht : P.underlying t = some (.slice e)) (htx : P.underlying tx = some (.int .i64)) (hi : P.info? e = some i) (hz : i.zero = some z) (hsz : 0 < i.size)
  (n : Nat) (hn0 : 0 < n) (h63 : (n : Int) ≤ 9223372036854775807) (hfit : Builtin.nextslicecap n 0 * i.bytes ≤ 281474976710656) (hby : n * i.bytes ≤ 281474976710656) :
  (Builtin.append_ #[t, tx] ty #[.slice none 0 0, .int .i64 n]).run P w =
   .ok (.slice (some ⟨w.heap.size, 0, none⟩) n (grownCap w n 0 e))
    (w.drew.alloc (.cells (Builtin.zeroCells z.cells n ++ Builtin.zeroCells z.cells (grownCap w n 0 e - n)) e)) := by
 have hn : ¬ (n ≤ 0) := by omega
 have h63' : ¬ (9223372036854775807 < (n : Int)) := by omega
 have h48' : ¬ (281474976710656 < Builtin.nextslicecap n 0 * i.bytes) := by omega
 have hfo : (Builtin.firstCells i.size 0 (.slice none 0 0)).run P w.drew = .ok #[] w.drew := by rfl
 have hw : IntKind.i64.wrap (n : Int) = n := wrap64_of (by omega)
 have hneg : ¬ ((n : Int) < 0) := by omega
 have hbig : ¬ (281474976710656 < (n : Int) * (i.bytes : Int)) := by
  have : (n : Int) * (i.bytes : Int) = ((n * i.bytes : Nat) : Int) := by simp
  omega
 have hns : ¬ (n = 0 ∨ i.size = 0) := by omega
 simp [Builtin.append_, run_underlying ht, run_underlying htx, sizeOf, typeInfo, zeroValue, hi, hz, asInt, asIntOf, hw, hneg, hbig, hn, h63', h48', hns, Question.forced, hfo, newRow, grownCap]
 have := Nat.mul_pos hn0 hsz
 rw [if_neg (by omega), if_neg (by omega)]
section
variable {P : Program} {n : Nat} {tb : TT} {B0 : Nat} {I : World → Prop} {H : Heap} {m : Nat} {env : SEnv}
theorem V.OpGo.appendMake0 (hk : tb.Ok P) {d id : Nat} {s x : Operand} {T T2 e : TypeId} {ty : TypeId} {ps : String} {af : Array Edge} {gd : Option (Nat × Bool)} {es : EV} {q : Nat} {i : TypeInfo} {z : Value}
  (hd : Nat.blt d n = true) (hT : tb.und T = some (.slice e)) (hT2 : tb.und T2 = some (.int .i64)) (hi : tb.get e = some i) (hz : i.zero = some z) (hsz : 0 < i.size) (hzs : z.cells.size = i.size)
  (hs : evE env s = some es) (hsv : es.v = .slice none 0 0) (hx : evE env x = some (.av (.val (.int .i64 q))))
  (hq : 0 < q) (hb : q * i.bytes ≤ 140737488355328) (h63 : q ≤ maxLen) :
  OpGo P tb B0 n ⟨some d, .call ⟨.builtin .append, #[s, x], #[T, T2]⟩, ty, ps, af, gd⟩ env H m I (fun y : Nat × Array Value => (d, .av (.val (.slice (some ⟨m, 0, none⟩) q y.1))) :: env)
   (fun y => (id, some (.obj m (.cells y.2 e))) :: H) (fun y w => I w ∧ (q ≤ y.1 ∧ y.1 ≤ maxLen ∧ y.2.size = y.1 * i.size)) := by
 intro w a hm hst ha
 have hdn : d < n := Nat.lt_of_lt_of_le (Nat.lt_succ_self d) (Nat.le_of_ble_eq_true hd)
 have hmx : q ≤ 9223372036854775807 := by simp only [maxLen] at h63; omega
 have hg : 0 < 0 + q := by omega
 have hb' : (0 + q) * i.bytes ≤ 140737488355328 := by rw [Nat.zero_add]; exact hb
 have hfits := growslice_fits hg hb'
 rw [Nat.zero_add] at hfits
 have hrun := run_append_make0 (P := P) w T T2 ty e i z (hk.und hT) (hk.und hT2) (hk.get hi) hz hsz q hq (by omega) hfits (by omega)
 have hsv' : a.eval s = .slice none 0 0 := (ev_run ha hs).trans hsv
 have hxv' : a.eval x = .int .i64 q := ev_run ha hx
 have hge := grownCap_ge w q 0 e
 have hle := grownCap_le_maxLen w q 0 e h63
 unfold Oper.wp
 have : (execOp a.eval ⟨some d, .call ⟨.builtin .append, #[s, x], #[T, T2]⟩, ty, ps, af, gd⟩).run P w = .ok (.value (.slice (some ⟨w.heap.size, 0, none⟩) q (grownCap w q 0 e)))
   (w.drew.alloc (.cells (Builtin.zeroCells z.cells q ++ Builtin.zeroCells z.cells (grownCap w q 0 e - q)) e)) := by
  simp only [execOp, resolve, invoke, builtin, Sem.run_bind, Sem.run_pure, Result.andThen_ok, List.map_toArray, List.map_cons, List.map_nil, hsv', hxv', hrun]
 rw [this]
 subst hm
 have hd1 := hst.ext (V.drew_ext w)
 have hp := hd1.push (ext_alloc w.drew (.cells (Builtin.zeroCells z.cells q ++ Builtin.zeroCells z.cells (grownCap w q 0 e - q)) e)) id (.obj w.heap.size (.cells (Builtin.zeroCells z.cells q ++ Builtin.zeroCells z.cells (grownCap w q 0 e - q)) e))
  ⟨hst.base, heap_alloc_new w.drew _⟩ (fun k hk => by
   have : w.heap.size = k := by injection hk
   subst this; exact Nat.le_refl _)
 refine ⟨(grownCap w q 0 e, Builtin.zeroCells z.cells q ++ Builtin.zeroCells z.cells (grownCap w q 0 e - q)), ?_, by simp, hp.mono fun u _ hu => ⟨hu, hge, hle, ?_⟩⟩
 ·rw [kn_cons]; exact ha.put hdn _
 ·simp only [Array.size_append, size_zeroCells, hzs, ← Nat.add_mul]
  congr 1; omega
end
theorem Grow_spec (n : Nat) (hn : n ≤ 1000000) : Does Tryz.prog tb 194 [.slice none 0 0, intV n] [] (fun _ => True) (fun y : Option Addr × Nat => .slice y.1 0 y.2) (fun y => [(0, rowE kBy y.1 y.2 [])]) (fun _ _ _ => True) := by
 refine Does.enter tk [(0, .av (.val (.slice none 0 0))), (1, intE n)] Tryz.func194 rfl Tryz.ntmps194 rfl rfl 0 ?_
 intro B0 m0 K
 refine RH.adv tk [false] rfl rfl (by simp <;> omega) ?_
 refine RH.read (intE ((0 : Nat) : Int)) rfl rfl rfl rfl (fun w a _ ha => op_cap (A := none) (n_ := 0) (c := 0) (e := 5) ha rfl rfl (tk.und (by kernel_rfl))) ?_
 by_cases h0 : 0 < n
 ·refine RH.adv tk [true] rfl rfl (by simp <;> omega) ?_
  refine RH.read (intE ((0 : Nat) : Int)) rfl rfl rfl rfl (fun w a _ ha => op_cap (A := none) (n_ := 0) (c := 0) (e := 5) ha rfl rfl (tk.und (by kernel_rfl))) ?_
  refine RH.adv tk [] rfl rfl (by simp <;> omega) ?_
  refine RH.go rfl rfl (OpGo.appendMake0 (id := 0) (q := n) (e := 5) (i := Tryz.t5) (z := (Tryz.t5).zero.getD undef) tk rfl (by kernel_rfl) (by kernel_rfl) (by kernel_rfl) (by kernel_rfl) (by decide) (by kernel_rfl) rfl rfl rfl h0 (by show n * 1 ≤ _; omega) (by simp only [maxLen]; omega)) 1 ?_
  rintro ⟨cap', X⟩ m1 hm1
  refine RH.pure (fun w h => h.2) fun ⟨hX1, hX2, hX3⟩ => ?_
  dsimp only at hX1 hX2 hX3 ⊢
  refine RH.adv tk [] rfl rfl (by simp <;> omega) ?_
  refine RH.cook (id := 0) (g := m0) (sz := 1) 0 cap' rfl (by omega) hX2 hX3 ?_
  refine RH.ret1 Tryz.func194 rfl rfl fun w hst => ⟨(some ⟨m0, 0, none⟩, cap'), rfl, hst.out [] rfl rfl fun u h => ⟨h.1.1, trivial⟩⟩
 ·refine RH.adv tk [false] rfl rfl (by simp <;> omega) ?_
  refine RH.nilrow 0 kBy.T kBy.sz 1 ?_
  refine RH.ret1 Tryz.func194 rfl rfl fun w hst => ⟨(none, 0), rfl, hst.out [] rfl rfl fun u h => ⟨h.1, trivial⟩⟩
def kSli : Kd (Option Addr × Nat × Nat) where
 T := 22
 sz := 1
 ev x := .av (.val (.slice x.1 x.2.1 x.2.2))
 ok x := ⟨rfl, Tryz.t22, rfl, rfl⟩
 size x := rfl
abbrev sliOf (r : Row UInt8) : Option Addr × Nat × Nat := (r.A, r.l.length, r.c)
def lenS (rs : List (Row UInt8)) : Nat := (rs.map fun r => r.l.length).sum
theorem Concat_spec (A : Option Addr) (c : Nat) (rs : List (Row UInt8)) (hn : lenS rs ≤ 1000000) :
  Does Tryz.prog tb 115 [.slice A rs.length c] [] (fun u => Sl kSli u A c (rs.map sliOf) ∧ ∀ r ∈ rs, Sl kBy u r.A r.c r.l) (fun y : Option Addr × Nat => .slice y.1 (rs.flatMap Row.l).length y.2) (fun y => [(0, rowE kBy y.1 y.2 (rs.flatMap Row.l))]) (fun _ _ _ => True) := by
 have hl : lim = 140737488351232 := rfl
 refine Does.enter tk [(0, slE A rs.length c)] Tryz.func115 rfl Tryz.ntmps115 rfl rfl 0 ?_
 intro B0 m0 K
 refine RH.pure (fun u h => h.2.1.small) fun hsm => ?_
 rw [List.length_map] at hsm
 have hls : ∀ i, lenS (rs.take i) ≤ lenS rs := by
  intro i
  have : rs = rs.take i ++ rs.drop i := (List.take_append_drop i rs).symm
  conv => rhs; rw [this]
  unfold lenS
  rw [List.map_append, List.sum_append]; omega
 have hlf : ∀ l : List (Row UInt8), (l.flatMap Row.l).length = lenS l := by
  intro l
  unfold lenS
  rw [List.length_flatMap]
 refine RH.adv tk [] rfl rfl (by simp <;> omega) ?_
 refine RH.loop (α := Nat) (fun i => [(0, slE A rs.length c), (9, slE A rs.length c), (10, intE rs.length), (11, intE i), (3, intE (lenS (rs.take i)))]) (fun _ => []) (fun i u => (K u ∧ Sl kSli u A c (rs.map sliOf) ∧ ∀ r ∈ rs, Sl kBy u r.A r.c r.l) ∧ i ≤ rs.length) (fun i => rs.length - i) 0 rfl rfl (fun u hu => ⟨hu, Nat.zero_le _⟩) ?_
 intro i m
 refine RH.pure (fun u hu => hu.2) fun hi => ?_
 by_cases hlt : i < rs.length
 ·have hts : rs.take (i + 1) = rs.take i ++ [rs[i]] := List.take_succ_eq_append_getElem hlt
  have hle : lenS (rs.take (i + 1)) = lenS (rs.take i) + rs[i].l.length := by rw [hts]; unfold lenS; rw [List.map_append, List.sum_append]; simp only [List.map_cons, List.map_nil, List.sum_cons, List.sum_nil, Nat.add_zero]
  have hb1 := hls (i + 1)
  refine RH.pure (fun u hu => hu.1.2.1.ptr (i := i) (by simpa using hlt)) fun hptr => ?_
  refine RH.adv tk [true] rfl rfl (by simp [hptr] <;> omega) ?_
  refine RH.loadS (slE rs[i].A rs[i].l.length rs[i].c) rfl rfl rfl rfl (fun u hu => by
   have h1 := hu.fact.1.2.1.load (i := i) (by simpa using hlt)
   rw [List.getElem_map] at h1
   exact h1) ?_
  refine RH.adv tk [false] rfl rfl (by simp <;> omega) ?_
  refine RH.again (i + 1) (.head _) ?_ rfl (by show rs.length - (i + 1) < rs.length - i; omega) fun u hu => ⟨hu.1, hlt⟩
  rw [hle]
  rfl
 ·have hi' : i = rs.length := by omega
  subst hi'
  rw [List.take_length]
  refine RH.adv tk [false] rfl rfl (by simp <;> omega) ?_
  refine RH.doB [] 1 (hc := Tryz.call194) (ho := rfl) (hw := rfl) (hd := rfl) (hf := rfl) (hes := rfl) (hσ := rfl) (hn := rfl) (hV := fun _ => rfl) (hG := fun _ => rfl) (e := fun y : Option Addr × Nat => rowS 0 y.1 0 y.2) (hC := Grow_spec (lenS rs) hn) (hp := fun _ _ => trivial) ?_
  rintro ⟨A1, c1⟩ m1 hm1
  refine RH.drop ?_
  refine RH.adv tk [] rfl rfl (by simp <;> omega) ?_
  refine RH.loop (α := Nat × (Option Addr × Nat)) (fun y => [(0, slE A rs.length c), (25, slE A rs.length c), (26, intE rs.length), (27, intE y.1), (6, rowS 0 y.2.1 ((rs.take y.1).flatMap Row.l).length y.2.2)]) (fun y => [(0, rowE kBy y.2.1 y.2.2 ((rs.take y.1).flatMap Row.l))]) (fun y u => (K u ∧ Sl kSli u A c (rs.map sliOf) ∧ ∀ r ∈ rs, Sl kBy u r.A r.c r.l) ∧ y.1 ≤ rs.length) (fun y => rs.length - y.1) (0, (A1, c1)) rfl rfl (fun u hu => ⟨hu.1, Nat.zero_le _⟩) ?_
  rintro ⟨i, A2, c2⟩ m2
  refine RH.pure (fun u hu => hu.2) fun hi => ?_
  dsimp only at hi ⊢
  by_cases hlt : i < rs.length
  ·have hts : rs.take (i + 1) = rs.take i ++ [rs[i]] := List.take_succ_eq_append_getElem hlt
   have hfm : (rs.take (i + 1)).flatMap Row.l = (rs.take i).flatMap Row.l ++ rs[i].l := by rw [hts, List.flatMap_append]; simp
   have hb1 := hls (i + 1)
   rw [← hlf, hfm, List.length_append] at hb1
   refine RH.pure (fun u hu => hu.1.2.1.ptr (i := i) (by simpa using hlt)) fun hptr => ?_
   refine RH.adv tk [true] rfl rfl (by simp [hptr] <;> omega) ?_
   refine RH.loadS (slE rs[i].A rs[i].l.length rs[i].c) rfl rfl rfl rfl (fun u hu => by
    have h1 := hu.fact.1.2.1.load (i := i) (by simpa using hlt)
    rw [List.getElem_map] at h1
    exact h1) ?_
   refine RH.adv tk [] rfl rfl (by simp <;> omega) ?_
   refine RH.apK (κ := kBy) (id := 0) (l := (rs.take i).flatMap Row.l) (r := rs[i].l) rfl rfl rfl rfl rfl rfl elt_byte rfl rfl (fun u hu => (hu.fact.1.2.2 _ (List.getElem_mem hlt)).lies) (by omega) (by omega) ?_
   intro A3 c3 m3 hm3
   rw [← hfm]
   refine RH.adv tk [] rfl rfl (by simp <;> omega) ?_
   exact RH.again (i + 1, (A3, c3)) (.head _) rfl rfl (by show rs.length - (i + 1) < rs.length - i; omega) fun u hu => ⟨hu.1, hlt⟩
  ·have hi' : i = rs.length := by omega
   subst hi'
   rw [List.take_length]
   refine RH.adv tk [false] rfl rfl (by simp <;> omega) ?_
   refine RH.ret1 Tryz.func115 rfl rfl fun w hst => ⟨(A2, c2), rfl, hst.out [] rfl rfl fun u h => ⟨h.1.1, trivial⟩⟩
def swC (ws : List UInt32) (v : Value) (n : Int) : Array Value := (ws.map u32V ++ [v, intV n]).toArray
abbrev swE (b : Nat) (ws : List UInt32) (v : Value) (n : Int) : Option HE := some (.obj b (.cells (swC ws v n) 231))
section
variable {w : World} {b : Nat} {ws : List UInt32} {v : Value} {n : Int}
theorem load_swR {A : Option Addr} {k c : Nat} (h : w.heap[b]? = some (.cells (swC ws (.slice A k c) n) 231)) (h8 : ws.length = 8) : (loadVar 22 ⟨b, 8, none⟩).run Tryz.prog w = .ok (.slice A k c) w := by
 refine V.run_load tk ⟨rfl, Tryz.t22, rfl, rfl⟩ (range_take h (n := 1) ?_)
 show ((swC ws (.slice A k c) n).toList.drop 8).take 1 = [.slice A k c]
 unfold swC
 rw [List.toList_toArray, List.drop_left' (by simp [h8])]
 rfl
theorem load_swL (h : w.heap[b]? = some (.cells (swC ws v n) 231)) (h8 : ws.length = 8) : (loadVar 3 ⟨b, 9, none⟩).run Tryz.prog w = .ok (intV n) w := by
 refine V.run_load tk (vok_int n) (range_take h (n := 1) ?_)
 show ((swC ws v n).toList.drop (8 + 1)).take 1 = [intV n]
 unfold swC
 rw [List.toList_toArray, ← List.drop_drop, List.drop_left' (by simp [h8])]
 rfl
theorem load_swW (h : w.heap[b]? = some (.cells (swC ws v n) 231)) (h8 : ws.length = 8) : (loadVar 226 ⟨b, 0, none⟩).run Tryz.prog w = .ok (wsV ws) w := by
 refine V.run_load tk (vok_w8 h8) (range_take h (n := 8) ?_)
 show ((swC ws v n).toList.drop 0).take 8 = (wsC ws).toList
 unfold swC wsC
 rw [List.toList_toArray, List.drop_zero, List.take_left' (by simp [h8])]
theorem load_swI (h : w.heap[b]? = some (.cells (swC ws v n) 231)) (h8 : ws.length = 8) {i : Nat} (hi : i < 8) : (loadVar 225 ⟨b, i * 1, none⟩).run Tryz.prog w = .ok (u32V (gW ws i)) w := by
 refine V.run_load tk (vok_w _) (range_of_blk h fun j x hj => ?_)
 cases j with
 | zero =>
  have hj : some (u32V (gW ws i)) = some x := hj
  injection hj with hj
  subst hj
  have hl : i < ws.length := by omega
  show (ws.map u32V ++ [v, intV n])[i * 1 + 0]? = _
  rw [Nat.mul_one, Nat.add_zero, List.getElem?_append_left (by simp; omega), List.getElem?_map]
  unfold gW
  rw [List.getD_eq_getElem?_getD, List.getElem?_eq_getElem hl]
  rfl
 | succ j => simp [u32V, Value.cells] at hj
end
theorem St_sw {w w' : World} {B0 : Nat} {H : Heap} {I : World → Prop} {id b : Nat} {ws ws' : List UInt32} {v v' : Value} {n n' : Int} (hst : St tb B0 H I w) (hH : loH H id = swE b ws v n) (h1 : Agr (fun k => k = b) w w') (h2 : w'.heap[b]? = some (.cells (swC ws' v' n') 231)) : St tb B0 ((id, swE b ws' v' n') :: H) I w' := by
 have ho := hst.holds id _ hH
 exact hst.turn (w' := w') id _ (.obj b (.cells (swC ws' v' n') 231)) hH (h1.mono fun j _ hj => by rw [hj]; rfl) ⟨ho.1, h2⟩ fun j hj => .inl hj
theorem store_swR {w : World} {B0 : Nat} {H : Heap} {I : World → Prop} {id b : Nat} {ws : List UInt32} {v : Value} {n : Int} (h8 : ws.length = 8) (hst : St tb B0 H I w) (hH : loH H id = swE b ws v n) (A : Option Addr) (k c : Nat) :
  ∃ w', (storeVar 22 ⟨b, 8, none⟩ (.slice A k c)).run Tryz.prog w = .ok () w' ∧ w.heap.size ≤ w'.heap.size ∧ St tb B0 ((id, swE b ws (.slice A k c) n) :: H) I w' := by
 have ho := hst.holds id _ hH
 obtain ⟨w', q1, q2, q3, q4⟩ := run_storeAt (P := Tryz.prog) (v := .slice A k c) (T := 22) tk ⟨rfl, Tryz.t22, rfl, rfl⟩ (o := 8) ho.2 (by show 8 + 1 ≤ _; unfold swC; simp [h8])
 refine ⟨w', q1, by rw [q4]; exact Nat.le_refl _, St_sw hst hH q3 ?_⟩
 have e : ((swC ws v n).toList.take 8 ++ (Value.slice A k c).cells.toList ++ (swC ws v n).toList.drop (8 + (Value.slice A k c).cells.size)).toArray = swC ws (.slice A k c) n := by
  unfold swC
  show ((ws.map u32V ++ [v, intV n]).take 8 ++ [Value.slice A k c] ++ (ws.map u32V ++ [v, intV n]).drop (8 + 1)).toArray = _
  rw [List.take_left' (by simp [h8]), ← List.drop_drop, List.drop_left' (by simp [h8])]
  simp
 rw [← e]; exact q2
theorem store_swW {w : World} {B0 : Nat} {H : Heap} {I : World → Prop} {id b : Nat} {ws : List UInt32} {v : Value} {n : Int} (h8 : ws.length = 8) (hst : St tb B0 H I w) (hH : loH H id = swE b ws v n) (ws' : List UInt32) (h8' : ws'.length = 8) :
  ∃ w', (storeVar 226 ⟨b, 0, none⟩ (wsV ws')).run Tryz.prog w = .ok () w' ∧ w.heap.size ≤ w'.heap.size ∧ St tb B0 ((id, swE b ws' v n) :: H) I w' := by
 have ho := hst.holds id _ hH
 have hsz : (wsV ws').cells.size = 8 := by show (wsC ws').size = 8; unfold wsC; simp [h8']
 obtain ⟨w', q1, q2, q3, q4⟩ := run_storeAt (P := Tryz.prog) tk (vok_w8 h8') (o := 0) ho.2 (by rw [hsz]; unfold swC; simp [h8])
 refine ⟨w', q1, by rw [q4]; exact Nat.le_refl _, St_sw hst hH q3 ?_⟩
 have e : ((swC ws v n).toList.take 0 ++ (wsV ws').cells.toList ++ (swC ws v n).toList.drop (0 + (wsV ws').cells.size)).toArray = swC ws' v n := by
  rw [hsz]
  unfold swC
  show ((ws.map u32V ++ [v, intV n]).take 0 ++ ws'.map u32V ++ (ws.map u32V ++ [v, intV n]).drop 8).toArray = _
  rw [List.drop_left' (by simp [h8])]
  simp
 rw [← e]; exact q2
theorem store_swL {w : World} {B0 : Nat} {H : Heap} {I : World → Prop} {id b : Nat} {ws : List UInt32} {v : Value} {n : Int} (h8 : ws.length = 8) (hst : St tb B0 H I w) (hH : loH H id = swE b ws v n) (n' : Int) :
  ∃ w', (storeVar 3 ⟨b, 9, none⟩ (intV n')).run Tryz.prog w = .ok () w' ∧ w.heap.size ≤ w'.heap.size ∧ St tb B0 ((id, swE b ws v n') :: H) I w' := by
 have ho := hst.holds id _ hH
 obtain ⟨w', q1, q2, q3, q4⟩ := run_storeAt (P := Tryz.prog) tk (vok_int n') (o := 9) ho.2 (by show 9 + 1 ≤ _; unfold swC; simp [h8])
 refine ⟨w', q1, by rw [q4]; exact Nat.le_refl _, St_sw hst hH q3 ?_⟩
 have e : ((swC ws v n).toList.take 9 ++ (intV n').cells.toList ++ (swC ws v n).toList.drop (9 + (intV n').cells.size)).toArray = swC ws v n' := by
  unfold swC
  show ((ws.map u32V ++ [v, intV n]).take 9 ++ [intV n'] ++ (ws.map u32V ++ [v, intV n]).drop (9 + 1)).toArray = _
  have e1 : ws.map u32V ++ [v, intV n] = (ws.map u32V ++ [v]) ++ [intV n] := by simp
  rw [e1, List.take_left' (by simp [h8]), List.drop_of_length_le (by simp [h8])]
  simp
 rw [← e]; exact q2
def rst (z : Option Addr × Nat × Nat) : Nat → Option Addr × Nat × Nat
 | 0 => z
 | i + 1 => (subA (rst z i).1 64 (rst z i).2.2 1, (rst z i).2.1 - 64, (rst z i).2.2 - 64)
def slZ (z : Option Addr × Nat × Nat) : Value := .slice z.1 z.2.1 z.2.2
theorem rst_len (z : Option Addr × Nat × Nat) : ∀ i, (rst z i).2.1 = z.2.1 - 64 * i
 | 0 => rfl
 | i + 1 => by show (rst z i).2.1 - 64 = _; rw [rst_len z i]; omega
theorem rst_cap (z : Option Addr × Nat × Nat) : ∀ i, (rst z i).2.2 = z.2.2 - 64 * i
 | 0 => rfl
 | i + 1 => by show (rst z i).2.2 - 64 = _; rw [rst_cap z i]; omega
abbrev blkZ (z : Option Addr × Nat × Nat) (i : Nat) : EV := slE (rst z i).1 64 (rst z i).2.2
theorem V.OpGo.storeX {P : Program} {tb : TT} {B0 n : Nat} {env : SEnv} {H : Heap} {m : Nat} {I : World → Prop} {T : TypeId} {x y : Operand} {ty : TypeId} {ps : String} {af : Array Edge} {gd : Option (Nat × Bool)} {ex ey : EV} {p : Addr} {H' : Heap} {I' : World → Prop} (hx : evE env x = some ex) (hxp : ex.v = .pointer (some p)) (hy : evE env y = some ey)
  (hv : ∀ w, w.heap.size = m → St tb B0 H I w → ∃ w', (storeVar T p ey.v).run P w = .ok () w' ∧ w.heap.size ≤ w'.heap.size ∧ St tb B0 H' I' w') :
  OpGo P tb B0 n ⟨none, .store T x y, ty, ps, af, gd⟩ env H m I (fun _ : Unit => env) (fun _ => H') (fun _ => I') := by
 intro w a hm hst ha
 obtain ⟨w', h1, h2, h3⟩ := hv w hm hst
 unfold Oper.wp
 have : (execOp a.eval ⟨none, .store T x y, ty, ps, af, gd⟩).run P w = .ok .skip w' := by
  simp [execOp, Instr.storeAt, ev_run ha hx, ev_run ha hy, hxp, Instr.sureAddr, h1]
 rw [this]
 exact ⟨(), ha, by rw [← hm]; exact h2, h3⟩
abbrev bxE (bx b : Nat) : Option HE := some (.box bx [.val (.pointer (some ⟨b, 0, none⟩))] 310)
theorem blocks1_spec (bx b : Nat) (z : Option Addr × Nat × Nat) (hc : z.2.1 ≤ z.2.2) (hn : z.2.1 ≤ 2000000) :
  IterB Tryz.prog tb 260 (fun Y => [Y, .pointer (some ⟨bx, 0, none⟩)]) [(0, bxE bx b)] [(0, bxE bx b)] (z.2.1 / 64) (fun i => [blkZ z i].map EV.v) 22 ⟨b, 8, none⟩ (fun i => slZ (rst z i)) := by
 refine IterB.enter (n := 31) (enc := fun i => [blkZ z i]) (fun l => [(0, .av (.val (.func (.yield l) #[] #[]))), (1, .av (.box 0 bx 0))]) Tryz.func260 rfl Tryz.ntmps260 (fun _ => rfl) (fun _ => rfl) 1 ?_
 intro α σ B0 l m Z Y Zs hget hput hY x
 refine RH.adv tk [] rfl rfl (by simp <;> omega) ?_
 refine RH.loop (α := Nat × α) (fun y => [(0, .av (.val (.func (.yield l) #[] #[]))), (1, .av (.box 0 bx 0))]) (fun _ => [(0, bxE bx b)]) (fun y u => y.1 ≤ z.2.1 / 64 ∧ Z y.1 y.2 u) (fun y => z.2.1 / 64 - y.1) (0, x) rfl rfl (fun w hw => ⟨Nat.zero_le _, hw⟩) ?_
 rintro ⟨i, x⟩ m2
 refine RH.pure (fun w h => h.1) fun (hi : i ≤ z.2.1 / 64) => ?_
 have hld : ∀ (Hg : Heap) (I' : World → Prop) w, (∀ u, I' u → Z i x u) → St tb B0 Hg I' w → (loadVar 22 ⟨b, 8, none⟩).run Tryz.prog w = .ok (slZ (rst z i)) w := fun Hg I' w h hst => hget i x Hg w hi (hst.mono fun u _ hu => h u hu)
 have h1 := rst_len z i
 have h2 := rst_cap z i
 refine RH.adv tk [] rfl rfl (by simp <;> omega) ?_
 refine RH.loadS (slE (rst z i).1 (rst z i).2.1 (rst z i).2.2) rfl rfl rfl rfl (fun w hst => hld _ _ w (fun u hu => hu.2) hst) ?_
 by_cases hlt : i < z.2.1 / 64
 ·have hge : 64 ≤ (rst z i).2.1 := by rw [h1]; omega
  have hcc : 64 ≤ (rst z i).2.2 := by rw [h2]; omega
  refine RH.adv tk [true] rfl rfl (by simp <;> omega) ?_
  refine RH.loadS (slE (rst z i).1 (rst z i).2.1 (rst z i).2.2) rfl rfl rfl rfl (fun w hst => hld _ _ w (fun u hu => hu.2) hst) ?_
  refine RH.adv tk [] rfl rfl (by simp <;> omega) ?_
  refine RH.draw rfl [(0, bxE bx b)] rfl 11 rfl rfl ?_
  refine RD.adv tk (by kernel_rfl) [] rfl rfl (by simp <;> omega) ?_
  refine RD.loadG (by kernel_rfl) (i := 5) (slE (rst z i).1 (rst z i).2.1 (rst z i).2.2) rfl rfl rfl rfl rfl rfl (fun w hst => hld _ _ w (fun u hu => hu.2) hst) ?_
  refine RD.adv tk (by kernel_rfl) [] rfl rfl (by simp <;> omega) ?_
  refine RD.last (i := 10) rfl (by kernel_rfl) rfl (by kernel_rfl) (OpGo.storeX (H' := [(0, bxE bx b)]) (I' := fun u => i ≤ z.2.1 / 64 ∧ Y i x u) rfl rfl rfl (fun w _ hst => ?_)) 1 (by kernel_rfl) ?_
  ·obtain ⟨w', e1, e2, e3⟩ := hput i x [(0, bxE bx b)] w hlt (hst.mono fun u _ hu => hu.2)
   exact ⟨w', e1, e2, e3.mono fun u _ hu => ⟨hi, hu⟩⟩
  rintro ⟨⟩ m3 hm3
  refine RH.adv tk [] rfl rfl (by simp <;> omega) ?_
  refine RH.yield (It := fun y u => i < z.2.1 / 64 ∧ Z (i + 1) y u) (If := fun y u => Zs i y u) rfl rfl rfl rfl rfl (fun w hst => ?_) ?_ ?_
  ·refine (hY i hlt x _ w (hst.mono fun u _ hu => hu.2)).mono ?_
   rintro b' w' ⟨e1, e2⟩
   refine ⟨e1, ?_⟩
   rcases e2 with ⟨rfl, y, hy⟩ | e2
   ·exact .inl ⟨rfl, y, hy.mono fun u _ hu => ⟨hlt, hu⟩⟩
   ·exact .inr e2
  ·intro y m4 hm4
   refine RH.adv tk [] rfl rfl (by simp <;> omega) ?_
   exact RH.again (i + 1, y) (.head _) rfl rfl (by show z.2.1 / 64 - (i + 1) < z.2.1 / 64 - i; omega) fun w h => ⟨h.1, h.2⟩
  ·intro y m4 hm4
   refine RH.adv tk [] rfl rfl (by simp <;> omega) ?_
   exact RH.ret0 Tryz.func260 rfl fun w hst => ⟨⟨_, rfl⟩, .inr ⟨i, _, y, hlt, hst⟩⟩
 ·have hlt64 : ¬ 64 ≤ (rst z i).2.1 := by rw [h1]; omega
  have hi' : i = z.2.1 / 64 := by omega
  subst hi'
  refine RH.adv tk [false] rfl rfl (by simp <;> omega) ?_
  refine RH.fin0 Tryz.func260 rfl fun w hst => ⟨⟨_, rfl⟩, .inl ⟨x, hst.mono fun u _ hu => hu.2⟩⟩
theorem blocks_spec (b : Nat) : Does Tryz.prog tb 207 [.pointer (some ⟨b, 0, none⟩)] [] (fun _ => True) (fun bx : Nat => .func (.func 260) #[] #[.pointer (some ⟨bx, 0, none⟩)]) (fun bx => [(0, bxE bx b)]) (fun _ _ _ => True) := by
 refine Does.enter tk [(0, .av (.val (.pointer (some ⟨b, 0, none⟩))))] Tryz.func207 rfl Tryz.ntmps207 rfl rfl 0 ?_
 intro B0 m0 K
 refine RH.adv tk [] rfl rfl (by simp <;> omega) ?_
 refine RH.ret1 Tryz.func207 rfl rfl fun w hst => ⟨m0, rfl, hst.out [] rfl rfl fun u h => ⟨h.1, trivial⟩⟩
theorem rst_sl {w : World} {z : Option Addr × Nat × Nat} {l : List UInt8} (h : Sl kBy w z.1 z.2.2 l) : ∀ i, 64 * i ≤ l.length → Sl kBy w (rst z i).1 (rst z i).2.2 (l.drop (64 * i))
 | 0, _ => h
 | i + 1, hi => by
  have h1 := Sl.drop (rst_sl h i (by omega)) 64 (by rw [List.length_drop]; omega)
  rw [List.drop_drop] at h1
  exact h1
def blocksW (ws : List UInt32) (all : List UInt8) (n : Nat) : List UInt32 := iterN (fun i h => takenW h ((all.drop (64 * i)).take 64)) n ws
theorem blocksW_succ (ws : List UInt32) (all : List UInt8) (i : Nat) : takenW (blocksW ws all i) ((all.drop (64 * i)).take 64) = blocksW ws all (i + 1) := by unfold blocksW; rw [iterN]
theorem blocksW_len {ws : List UInt32} (all : List UInt8) (n : Nat) (h8 : ws.length = 8) : (blocksW ws all n).length = 8 :=
 iterN_inv (p := fun (x : List UInt32) => x.length = 8) (fun i x hx => takenW_len _ hx) n ws h8
def tailB (all : List UInt8) : List UInt8 := all.drop (64 * (all.length / 64))
section
variable {f : Fr} {n : Nat} {S : Stops} {R : Ending → World → Prop} {B0 : Nat} {I : World → Prop} {H : Heap} {nx m : Nat} {env : SEnv} {k : List Item} {ops : Array Oper} {i : Nat} {l : List Bool} {G0 : Heap} {I0 : World → Prop} {ty : TypeId} {ps : String} {af : Array Edge} {gd : Option (Nat × Bool)} {px y : Operand} {pa : Addr} {ey : EV} {id b : Nat} {ws : List UInt32} {v : Value} {ln : Int}
theorem V.RD.lastR {A : Option Addr} {q c : Nat} (h8 : ws.length = 8)
  (ho : ops.toList[i]? = some ⟨none, .store 22 px y, ty, ps, af, gd⟩) (hr : Region.ready .any ops l.toArray = [i]) (hw : wantE env ops gd = .yes) (hf : finB ops i = true) (hl : Region.ready .any ops (l.set i true).toArray = []) (hx : ptrE (evE env px) = some pa) (hy : evE env y = some ey) (hH : loH H id = swE b ws v ln) (hp : pa = ⟨b, 8, none⟩) (hv : ey.v = .slice A q c)
  (hk : ∀ m', m ≤ m' → RH Tryz.prog f n tb B0 S R k env ((id, swE b ws (.slice A q c) ln) :: H) nx m' I) : RD Tryz.prog f n tb B0 S R k ops G0 I0 (0 + 1) l env H nx m I :=
 RD.lastS _ ho hr hw hf hl hx hy (fun w _ hst => by rw [hv, hp]; exact store_swR h8 hst hH A q c) hk
theorem V.RD.lastSW (h8 : ws.length = 8) (ws' : List UInt32) (h8' : ws'.length = 8)
  (ho : ops.toList[i]? = some ⟨none, .store 226 px y, ty, ps, af, gd⟩) (hr : Region.ready .any ops l.toArray = [i]) (hw : wantE env ops gd = .yes) (hf : finB ops i = true) (hl : Region.ready .any ops (l.set i true).toArray = []) (hx : ptrE (evE env px) = some pa) (hy : evE env y = some ey) (hH : loH H id = swE b ws v ln) (hp : pa = ⟨b, 0, none⟩) (hv : ey.v = wsV ws')
  (hk : ∀ m', m ≤ m' → RH Tryz.prog f n tb B0 S R k env ((id, swE b ws' v ln) :: H) nx m' I) : RD Tryz.prog f n tb B0 S R k ops G0 I0 (0 + 1) l env H nx m I :=
 RD.lastS _ ho hr hw hf hl hx hy (fun w _ hst => by rw [hv, hp]; exact store_swW h8 hst hH ws' h8') hk
end
theorem put_spec (b : Nat) (ws : List UInt32) (h8 : ws.length = 8) (A : Option Addr) (c : Nat) (ln : Int) (rest : List UInt8) (Bb : Option Addr) (cb : Nat) (bytes : List UInt8) (hn : rest.length + bytes.length ≤ 1000000) :
  Does Tryz.prog tb 141 [.pointer (some ⟨b, 0, none⟩), .slice Bb bytes.length cb] [(0, swE b ws (.slice A rest.length c) ln), (1, rowE kBy A c rest)] (fun u => Glob u ∧ Sl kBy u Bb cb bytes) (fun _ : Option Addr × Nat => .tuple #[])
   (fun y => [(0, swE b (blocksW ws (rest ++ bytes) ((rest ++ bytes).length / 64)) (.slice y.1 (tailB (rest ++ bytes)).length y.2) ln), (1, rowE kBy y.1 y.2 (tailB (rest ++ bytes)))]) (fun _ _ _ => True) := by
 have hl : lim = 140737488351232 := rfl
 refine Does.enter tk [(0, .av (.val (.pointer (some ⟨b, 0, none⟩)))), (1, slE Bb bytes.length cb)] Tryz.func141 rfl Tryz.ntmps141 rfl rfl 2 ?_
 intro B0 m0 K
 refine RH.adv tk [] rfl rfl (by simp <;> omega) ?_
 refine RH.draw rfl [(0, swE b ws (.slice A rest.length c) ln), (2, bxE m0 b)] rfl 13 rfl rfl ?_
 refine RD.adv tk (by kernel_rfl) [] rfl rfl (by simp <;> omega) ?_
 refine RD.loadG (by kernel_rfl) (i := 5) (slE A rest.length c) rfl rfl rfl rfl rfl rfl (fun u hu => load_swR (hu.holds 0 _ rfl).2 h8) ?_
 refine RD.adv tk (by kernel_rfl) [] rfl rfl (by simp <;> omega) ?_
 refine RD.step tk (i := 7) rfl (by kernel_rfl) rfl rfl rfl (by simp [AllOb, Ob.P]; try exact ⟨rfl, rfl⟩) rfl (fun _ h => h) ⟨rfl, rfl⟩ ?_
 refine RD.adv tk (by kernel_rfl) [] rfl rfl (by simp <;> omega) ?_
 have hall : [(⟨A, c, rest⟩ : Row UInt8), ⟨Bb, cb, bytes⟩].flatMap Row.l = rest ++ bytes := by simp
 have hCc := Concat_spec (some ⟨m0 + 1, 0, none⟩) 2 [(⟨A, c, rest⟩ : Row UInt8), ⟨Bb, cb, bytes⟩] (by unfold lenS; simp; omega)
 rw [hall] at hCc
 generalize hae : rest ++ bytes = all at *
 refine RD.doB (i := 8) [] 5 (fun y : Option Addr × Nat => rowS 4 y.1 all.length y.2) rfl (by kernel_rfl) rfl rfl rfl rfl Tryz.call115 hCc rfl rfl (fun _ => rfl) (fun _ => rfl) (fun u hu => ⟨Sl.own (B := B0) (hu.row (κ := kSli) (l := [(A, rest.length, c), (Bb, bytes.length, cb)]) (id := 3) rfl) (by simp [hl]), ?_⟩) (fun _ => rfl) (fun _ h => h) ?_
 ·intro r hr
  have hr : r = ⟨A, c, rest⟩ ∨ r = ⟨Bb, cb, bytes⟩ := by simpa using hr
  rcases hr with rfl | rfl
  ·exact Sl.own (B := B0) (hu.row (κ := kBy) (l := rest) (id := 1) rfl) (by show rest.length ≤ lim; omega)
  ·exact hu.fact.2.2
 rintro ⟨A', c'⟩ m1 hm1
 refine RD.adv tk (by kernel_rfl) [] rfl rfl (by simp <;> omega) ?_
 have hal : all.length ≤ 1000000 := by rw [← hae, List.length_append]; omega
 refine RD.lastR (i := 12) (id := 0) (A := A') (q := all.length) (c := c') h8 rfl (by kernel_rfl) rfl (by kernel_rfl) (by kernel_rfl) rfl rfl rfl rfl rfl ?_
 intro m2 hm2
 refine RH.adv tk [] rfl rfl (by simp <;> omega) ?_
 refine RH.doB [] 6 (hc := Tryz.call207) (ho := rfl) (hw := rfl) (hd := rfl) (hf := rfl) (hes := rfl) (hσ := rfl) (hn := rfl) (hV := fun _ => rfl) (hG := fun _ => rfl) (e := fun bx : Nat => .av (.val (.func (.func 260) #[] #[.pointer (some ⟨bx, 0, none⟩)]))) (hC := blocks_spec b) (hp := fun _ _ => trivial) ?_
 rintro bx m3 hm3
 refine RH.drop ?_
 refine RH.adv tk [] rfl rfl (by simp <;> omega) ?_
 generalize hze : ((A', all.length, c') : Option Addr × Nat × Nat) = z at *
 have hz1 : z.1 = A' := by rw [← hze]
 have hz2 : z.2.1 = all.length := by rw [← hze]
 have hz3 : z.2.2 = c' := by rw [← hze]
 refine RH.tell [(2, .av (.box 2 m0 0)), (18, .av (.val (.func (.func 260) #[] #[.pointer (some ⟨bx, 0, none⟩)])))]
  [(0, swE b ws (slZ (rst z 0)) ln), (2, bxE m0 b), (4, rowE kBy A' c' all), (5, bxE bx b)] [] rfl (by rw [← hze]; rfl) rfl 6 ?_
 refine RH.pureS (fun w hst => own_cap (hst.row (κ := kBy) (id := 4) (l := all) rfl)) fun hcap => ?_
 refine RH.defs0 ?_
 have hw8 := fun i => blocksW_len (ws := ws) all i h8
 have hN : z.2.1 / 64 = all.length / 64 := by rw [hz2]
 refine RH.rangeFuncB (σ := Empty) (α := Unit) (nx := 6) (enc := fun i => [blkZ z i]) rfl rfl (fun xs w => Tryz.call260 xs w) (blocks1_spec bx b z (by omega) (by omega)) (fun _ => rfl) rfl [(0, 5)] (fun _ _ _ => rfl) rfl
  [(2, .av (.box 2 m0 0))] rfl (fun u => K u ∧ Glob u) (fun w h => h.mono fun _ _ h => ⟨h.1.1, h.1.2.1⟩)
  (fun i _ => [(0, swE b (blocksW ws all i) (slZ (rst z i)) ln), (2, bxE m0 b), (4, rowE kBy A' c' all)])
  (fun i _ => [(0, swE b (blocksW ws all i) (slZ (rst z (i + 1))) ln), (2, bxE m0 b), (4, rowE kBy A' c' all)])
  (fun _ _ => True) () trivial (fun _ _ _ => rfl) (fun l t D i x F w hi _ hst => load_swR (hst.holds 0 _ rfl).2 (hw8 i))
  (fun l t D i x F w hi _ hst => by
   obtain ⟨w', e1, e2, e3⟩ := store_swR (hw8 i) hst (id := 0) rfl (rst z (i + 1)).1 (rst z (i + 1)).2.1 (rst z (i + 1)).2.2
   exact ⟨w', e1, e2, e3.out [] rfl rfl fun _ h => h⟩) (fun _ x => x.elim) (fun _ x => x.elim) .ret ?_ 8 ?_ (fun _ _ x => x.elim)
 ·intro i hi x _ l D tt Kg m5 hKg
  have hi64 : 64 * i + 64 ≤ all.length := by omega
  have hb64 : ((all.drop (64 * i)).take 64).length = 64 := by rw [List.length_take, List.length_drop]; omega
  have hnext : takenW (blocksW ws all i) ((all.drop (64 * i)).take 64) = blocksW ws all (i + 1) := blocksW_succ ws all i
  have hl0 := hw8 i
  have hl1 := hw8 (i + 1)
  dsimp only
  generalize hW0 : blocksW ws all i = W0 at *
  generalize hW1 : blocksW ws all (i + 1) = W1 at *
  refine RH.adv tk [] rfl rfl (by simp <;> omega) ?_
  refine RH.beginRound (id := 6) rfl rfl ?_
  refine RH.adv tk [] rfl rfl (by simp <;> omega) ?_
  refine RH.draw rfl [(0, swE b W0 (slZ (rst z (i + 1))) ln), (2, bxE m0 b)] rfl 12 rfl rfl ?_
  refine RD.adv tk (by kernel_rfl) [] rfl rfl (by simp <;> omega) ?_
  refine RD.loadG (by kernel_rfl) (i := 5) (.av (.val (wsV W0))) rfl rfl rfl rfl rfl rfl (fun u hu => load_swW (hu.holds 0 _ rfl).2 hl0) ?_
  refine RD.adv tk (by kernel_rfl) [] rfl rfl (by simp <;> omega) ?_
  refine RD.gives (i := 7) (.av (.val (wsV W1))) rfl (by kernel_rfl) rfl rfl rfl rfl Tryz.call208 (fun u hu => by
   have hS := Sl.take (rst_sl (z := z) (by rw [hz1, hz3]; exact Sl.own (B := B0) (hu.row (κ := kBy) (id := 4) (l := all) rfl) (by omega)) i (by omega)) 64 (by rw [List.length_drop]; omega)
   have := taken_spec u (hKg u hu.fact).2 W0 hl0 (rst z i).1 (rst z i).2.2 _ hS hb64
   rw [hb64, hnext] at this
   exact this) rfl (fun _ h => h) ?_
  intro m6 hm6
  refine RD.adv tk (by kernel_rfl) [] rfl rfl (by simp <;> omega) ?_
  refine RD.lastSW (i := 11) (id := 0) hl0 W1 hl1 rfl (by kernel_rfl) rfl (by kernel_rfl) (by kernel_rfl) rfl rfl rfl rfl rfl ?_
  intro m7 hm7
  refine RH.adv tk [] rfl rfl (by simp <;> omega) ?_
  refine RH.leave .fin fun w hst => ⟨(), trivial, hst.out [] rfl rfl fun u h => h⟩
 ·intro _ D m5 _
  rw [hN]
  have hq2 : (rst z (all.length / 64)).2.1 = (tailB all).length := by
   rw [rst_len, hz2]; unfold tailB; rw [List.length_drop]
  have hqs : ∀ w, Sl kBy w z.1 z.2.2 all → Sl kBy w (rst z (all.length / 64)).1 (rst z (all.length / 64)).2.2 (tailB all) := fun w h => rst_sl h _ (by omega)
  generalize rst z (all.length / 64) = q at *
  obtain ⟨q1, q2, q3⟩ := q
  dsimp only at hq2 hqs
  subst hq2
  have hWl := hw8 (all.length / 64)
  have htl : (tailB all).length ≤ 1000000 := by unfold tailB; rw [List.length_drop]; omega
  generalize blocksW ws all (all.length / 64) = Wn at *
  refine RH.adv tk [] rfl rfl (by simp <;> omega) ?_
  refine RH.draw rfl [(0, swE b Wn (slV q1 (tailB all).length q3) ln), (2, bxE m0 b)] rfl 11 rfl rfl ?_
  refine RD.adv tk (by kernel_rfl) [] rfl rfl (by simp <;> omega) ?_
  refine RD.loadG (by kernel_rfl) (i := 5) (slE q1 (tailB all).length q3) rfl rfl rfl rfl rfl rfl (fun u hu => load_swR (hu.holds 0 _ rfl).2 hWl) ?_
  refine RD.adv tk (by kernel_rfl) [] rfl rfl (by simp <;> omega) ?_
  refine RD.doB (i := 6) [] 9 (fun y : Option Addr × Nat => rowS 8 y.1 (tailB all).length y.2) rfl (by kernel_rfl) rfl rfl rfl rfl Tryz.call90 (cloneB q1 q3 (tailB all) (by omega)) rfl rfl (fun _ => rfl) (fun _ => rfl) (fun u hu => hqs u (by rw [hz1, hz3]; exact Sl.own (B := B0) (hu.row (κ := kBy) (id := 4) (l := all) rfl) (by omega))) (fun _ => rfl) (fun _ h => h) ?_
  rintro ⟨A2, c2⟩ m6 hm6
  refine RD.adv tk (by kernel_rfl) [] rfl rfl (by simp <;> omega) ?_
  refine RD.lastR (i := 10) (id := 0) (A := A2) (q := (tailB all).length) (c := c2) hWl rfl (by kernel_rfl) rfl (by kernel_rfl) (by kernel_rfl) rfl rfl rfl rfl rfl ?_
  intro m7 hm7
  refine RH.adv tk [] rfl rfl (by simp <;> omega) ?_
  refine RH.facts (Def tb B0 [D] (fun u => K u ∧ Glob u)) (fun u h => h.1) ?_
  refine RH.finD0 Tryz.func141 rfl fun w hst => ⟨(A2, c2), rfl, hst.out [(0, 0), (1, 8)] rfl rfl fun u h => ⟨h.1, trivial⟩⟩
theorem load_beg {w : World} (h : Glob w) : (loadVar 226 ⟨0, 0, none⟩).run Tryz.prog w = .ok (wsV beginW) w :=
 V.run_load tk (vok_w8 rfl) h.beg
abbrev newE : EV := .st [.val (wsV beginW), .val (.slice none 0 0), .val (intV 0)]
theorem New_spec (w : World) (hG : Glob w) : Gives Tryz.prog 140 [] w newE := by
 refine enterH tk [] Tryz.func140 rfl Tryz.ntmps140 rfl rfl ?_
 refine RH.adv tk [] rfl rfl ?_ ?_
 ·first | exact ⟨⟨rfl, List.all_eq_true.1 (by kernel_rfl)⟩, trivial⟩ | trivial
 refine RH.load (.av (.val (wsV beginW))) rfl rfl rfl rfl (fun w' h' => load_beg (hG.ext h')) ?_
 refine RH.adv tk [] rfl rfl ?_ ?_
 ·first | exact ⟨⟨rfl, List.all_eq_true.1 (by kernel_rfl)⟩, trivial⟩ | trivial
 exact RH.retBox tk newE Tryz.func140 rfl rfl rfl rfl fun w' hst => ⟨rfl, hst.fact⟩
def bsC (l : List UInt8) : Array Value := (l.map u8V).toArray
abbrev bsE (b : Nat) (l : List UInt8) : Option HE := some (.obj b (.cells (bsC l) 40))
theorem vok_b (x : UInt8) : VOk tb 5 (u8V x) := ⟨rfl, Tryz.t5, rfl, rfl⟩
theorem bsC_set (l : List UInt8) (i : Nat) (hi : i < l.length) (x : UInt8) : ((bsC l).toList.take i ++ [u8V x] ++ (bsC l).toList.drop (i + 1)).toArray = bsC (l.set i x) := by
 unfold bsC
 rw [List.map_set, List.set_eq_take_append_cons_drop, if_pos (by simpa using hi)]
 simp
theorem V.St.storeB {w : World} {B0 : Nat} {H : Heap} {I : World → Prop} {id b : Nat} {l : List UInt8} (hst : St tb B0 H I w) (hH : loH H id = bsE b l) {i : Nat} (hi : i < l.length) (x : UInt8) :
  ∃ w', (storeVar 5 ⟨b, i * 1, none⟩ (u8V x)).run Tryz.prog w = .ok () w' ∧ w.heap.size ≤ w'.heap.size ∧ St tb B0 ((id, bsE b (l.set i x)) :: H) I w' := by
 have ho := hst.holds id _ hH
 obtain ⟨w', q1, q2, q3, q4⟩ := run_storeAt (P := Tryz.prog) tk (vok_b x) (o := i * 1) ho.2 (by show i * 1 + 1 ≤ _; unfold bsC; simp; omega)
 refine ⟨w', q1, by rw [q4]; exact Nat.le_refl _, ?_⟩
 rw [Nat.mul_one] at q2
 have e := bsC_set l i hi x
 have q2' : w'.heap[b]? = some (.cells (bsC (l.set i x)) 40 (0, 0)) := by rw [← e]; exact q2
 exact hst.turn (w' := w') id _ (.obj b (.cells (bsC (l.set i x)) 40)) hH (q3.mono fun j _ hj => by rw [hj]; rfl) ⟨ho.1, q2'⟩ fun j hj => .inl hj
theorem V.RH.storeB {f : Fr} {n : Nat} {S : Stops} {R : Ending → World → Prop} {B0 : Nat} {I : World → Prop} {H : Heap} {nx m : Nat} {env : SEnv} {k : List Item} {ops : Array Oper} {i : Nat} {rs : List Nat} {ty : TypeId} {ps : String} {af : Array Edge} {gd : Option (Nat × Bool)} {px y : Operand} {pa : Addr} {ey : EV} {id b : Nat} {l : List UInt8} (j : Nat) (x : UInt8)
  (ho : ops.toList[i]? = some ⟨none, .store 5 px y, ty, ps, af, gd⟩) (hw : wantE env ops gd = .yes) (hx : ptrE (evE env px) = some pa) (hy : evE env y = some ey) (hH : loH H id = bsE b l) (hj : j < l.length) (hp : pa = ⟨b, j * 1, none⟩) (hv : ey.v = u8V x)
  (hk : ∀ m', m ≤ m' → RH Tryz.prog f n tb B0 S R (.inRegion ops rs :: k) env ((id, bsE b (l.set j x)) :: H) nx m' I) : RH Tryz.prog f n tb B0 S R (.inRegion ops (i :: rs) :: k) env H nx m I :=
 RH.storeS _ ho hw hx hy (fun w _ hst => by rw [hv, hp]; exact hst.storeB hH hj x) hk
def padN (r : Nat) : Nat := (119 - r % 64) % 64
def padZ (j : Nat) : List UInt8 := 128 :: List.replicate j 0
def byteL (L : Nat) (t : Nat) : UInt8 := UInt8.ofNat (8 * L / 2 ^ (56 - 8 * t))
def lensL (L : Nat) (t : Nat) : List UInt8 := (List.range t).map (byteL L)
def padB (r L : Nat) : List UInt8 := padZ (padN r) ++ lensL L 8
def byteW (ws : List UInt32) (i : Nat) : UInt8 := UInt8.ofNat ((gW ws (i / 4)).toNat / 2 ^ (24 - i % 4 * 8))
def outB (ws : List UInt32) (i : Nat) : List UInt8 := iterN (fun i l => l.set i (byteW ws i)) i (List.replicate 32 0)
theorem outB_len (ws : List UInt32) (i : Nat) : (outB ws i).length = 32 :=
 iterN_inv (p := fun (x : List UInt8) => x.length = 32) (fun n x h => by rw [List.length_set]; exact h) i _ (by rw [List.length_replicate])
def digW (ws : List UInt32) : Sum := ⟨outB ws 32, outB_len ws 32⟩
def endW (ws : List UInt32) (rest : List UInt8) (L : Nat) : Sum := digW (blocksW ws (rest ++ padB rest.length L) ((rest ++ padB rest.length L).length / 64))
theorem padN_lt (r : Nat) : padN r < 64 := Nat.mod_lt _ (by decide)
theorem padN_at (r j : Nat) (h : j < padN r) : (r + (1 + j)) % 64 ≠ 56 := by unfold padN at h; omega
theorem padN_end (r : Nat) : (r + (1 + padN r)) % 64 = 56 := by unfold padN; omega
theorem padZ_len (j : Nat) : (padZ j).length = 1 + j := by unfold padZ; simp; omega
theorem padZ_snoc (j : Nat) : padZ j ++ [0] = padZ (j + 1) := by unfold padZ; rw [List.cons_append, ← List.replicate_succ']
theorem lensL_snoc (L t : Nat) : lensL L t ++ [byteL L t] = lensL L (t + 1) := by unfold lensL; rw [List.range_succ, List.map_append]; rfl
theorem byte_raw (L t : Nat) (ht : t < 8) : ((8 * (L : Int)).fdiv (2 ^ (min ((56 : Int) - 8 * t).toNat IntKind.u64.bits))) % 256 = ((byteL L t).toNat : Int) := by
 have e : ((56 : Int) - 8 * t).toNat = 56 - 8 * t := by omega
 unfold byteL
 rw [e, show min (56 - 8 * t) IntKind.u64.bits = 56 - 8 * t from Nat.min_eq_left (by show _ ≤ 64; omega), Int.fdiv_eq_ediv_of_nonneg _ (Int.le_of_lt (Int.pow_pos (by decide))), UInt8.toNat_ofNat', Int.natCast_emod, Int.natCast_ediv, Int.natCast_mul, Int.natCast_pow]
 rfl
theorem byteW_raw (ws : List UInt32) (i : Nat) : (((gW ws (i / 4)).toNat : Int).fdiv (2 ^ (min ((24 : Int) - (i : Int) % 4 * 8).toNat IntKind.u32.bits))) % 256 = ((byteW ws i).toNat : Int) := by
 have e : ((24 : Int) - (i : Int) % 4 * 8).toNat = 24 - i % 4 * 8 := by omega
 unfold byteW
 rw [e, show min (24 - i % 4 * 8) IntKind.u32.bits = 24 - i % 4 * 8 from Nat.min_eq_left (by show _ ≤ 32; omega), Int.fdiv_eq_ediv_of_nonneg _ (Int.le_of_lt (Int.pow_pos (by decide))), UInt8.toNat_ofNat', Int.natCast_emod, Int.natCast_ediv, Int.natCast_pow]
 rfl
theorem end_spec (b : Nat) (ws : List UInt32) (h8 : ws.length = 8) (A : Option Addr) (c : Nat) (L : Nat) (rest : List UInt8) (hL : L ≤ 1000000) (hn : rest.length < 64) :
  Does Tryz.prog tb 142 [.pointer (some ⟨b, 0, none⟩)] [(0, swE b ws (.slice A rest.length c) L), (1, rowE kBy A c rest)] (fun u => Glob u) (fun _ : Unit => sumV (endW ws rest L)) (fun _ => []) (fun _ _ _ => True) := by
 have hl : lim = 140737488351232 := rfl
 refine Does.enter tk [(0, .av (.val (.pointer (some ⟨b, 0, none⟩))))] Tryz.func142 rfl Tryz.ntmps142 rfl rfl 2 ?_
 intro B0 m0 K
 refine RH.adv tk [] rfl rfl ?_ ?_
 ·first | exact ⟨⟨rfl, List.all_eq_true.1 (by kernel_rfl)⟩, trivial⟩ | (simp; done)
 refine RH.boxObj (id := 2) (bsC (outB ws 0)) rfl (by show boxCells [.val (.agg (bsC (List.replicate 32 0)))] = _; unfold boxCells; simp [flat, AV.v, Value.cells]; rfl) ?_
 have hpn := padN_lt rest.length
 refine RH.loop (α := Nat × (Option Addr × Nat)) (fun y => [(0, .av (.val (.pointer (some ⟨b, 0, none⟩)))), (2, .av (.box 2 m0 0)), (3, rowS 3 y.2.1 (padZ y.1).length y.2.2)]) (fun y => [(0, swE b ws (.slice A rest.length c) L), (1, rowE kBy A c rest), (2, bsE m0 (outB ws 0)), (3, rowE kBy y.2.1 y.2.2 (padZ y.1))])
  (fun y u => (K u ∧ Glob u) ∧ y.1 ≤ padN rest.length) (fun y => padN rest.length - y.1) (0, (some ⟨m0 + 1, 0, none⟩, 1)) rfl rfl (fun u hu => ⟨hu, Nat.zero_le _⟩) ?_
 rintro ⟨j, A2, c2⟩ m2
 refine RH.pure (fun u hu => hu.2) fun hj => ?_
 dsimp only at hj ⊢
 have hpl := padZ_len j
 refine RH.adv tk [] rfl rfl (by simp <;> omega) ?_
 refine RH.loadS (slE A rest.length c) rfl rfl rfl rfl (fun u hu => load_swR (hu.holds 0 _ rfl).2 h8) ?_
 by_cases hlt : j < padN rest.length
 ·have hne := padN_at rest.length j hlt
  rw [hpl]
  refine RH.adv tk [true] rfl rfl (by simp <;> omega) ?_
  refine RH.apK (κ := kBy) (id := 3) (l := padZ j) (r := [0]) rfl rfl rfl rfl hpl.symm rfl elt_byte rfl rfl (fun u hu => hu.liR (κ := kBy) (l := [0]) (id := 4) rfl (by simp [hl])) (by simp; omega) (by simp; omega) ?_
  intro A3 c3 m3 hm3
  rw [padZ_snoc]
  refine RH.adv tk [] rfl rfl (by simp <;> omega) ?_
  exact RH.again (j + 1, (A3, c3)) (.head _) rfl rfl (by show padN rest.length - (j + 1) < padN rest.length - j; omega) fun u hu => ⟨hu.1, hlt⟩
 ·have hj' : j = padN rest.length := by omega
  subst hj'
  have heq := padN_end rest.length
  rw [hpl]
  refine RH.adv tk [false] rfl rfl (by simp <;> omega) ?_
  refine RH.loadS (intE L) rfl rfl rfl rfl (fun u hu => load_swL (hu.holds 0 _ rfl).2 h8) ?_
  refine RH.adv tk [] rfl rfl (by simp <;> omega) ?_
  have e1 : ((8 : Int) * ((L : Int) % 18446744073709551616)) % 18446744073709551616 = 8 * (L : Int) := by omega
  rw [e1]
  rw [← hpl]
  generalize hP0 : padZ (padN rest.length) = P0 at *
  have hP : P0.length ≤ 64 := by omega
  have hll : ∀ t, (lensL L t).length = t := fun t => by unfold lensL; simp
  have hpb : padB rest.length L = P0 ++ lensL L 8 := by unfold padB; rw [hP0]
  have hpb64 : (P0 ++ lensL L 8).length ≤ 100 := by rw [List.length_append, hll]; omega
  refine RH.loop (α := Nat × (Option Addr × Nat)) (fun y => [(0, .av (.val (.pointer (some ⟨b, 0, none⟩)))), (2, .av (.box 2 m0 0)), (3, rowS 3 y.2.1 (P0 ++ lensL L y.1).length y.2.2), (4, .av (.val (.int .u64 (8 * (L : Int))))), (5, intE (56 - 8 * (y.1 : Int)))]) (fun y => [(0, swE b ws (.slice A rest.length c) L), (1, rowE kBy A c rest), (2, bsE m0 (outB ws 0)), (3, rowE kBy y.2.1 y.2.2 (P0 ++ lensL L y.1))])
   (fun y u => (K u ∧ Glob u) ∧ y.1 ≤ 8) (fun y => 8 - y.1) (0, (A2, c2)) (by show V.Sub [(0, .av (.val (.pointer (some ⟨b, 0, none⟩)))), (2, .av (.box 2 m0 0)), (3, rowS 3 A2 (P0 ++ []).length c2), (4, .av (.val (.int .u64 (8 * (L : Int))))), (5, intE (56 - 8 * ((0 : Nat) : Int)))] _; rw [List.append_nil]; rfl) (by show SubH [(0, swE b ws (.slice A rest.length c) L), (1, rowE kBy A c rest), (2, bsE m0 (outB ws 0)), (3, rowE kBy A2 c2 (P0 ++ []))] _; rw [List.append_nil]; rfl) (fun u hu => ⟨hu.1, Nat.zero_le _⟩) ?_
  rintro ⟨t, A3, c3⟩ m3
  refine RH.pure (fun u hu => hu.2) fun ht => ?_
  dsimp only at ht ⊢
  by_cases hlt2 : t < 8
  ·refine RH.adv tk [true] rfl rfl (by simp <;> omega) ?_
   rw [byte_raw L t hlt2]
   have hl1 := hll t
   refine RH.apK (κ := kBy) (id := 3) (l := P0 ++ lensL L t) (r := [byteL L t]) rfl rfl rfl rfl rfl rfl elt_byte rfl rfl (fun u hu => hu.liR (κ := kBy) (l := [byteL L t]) (id := 4) rfl (by simp [hl])) (by rw [List.length_append, hll]; simp; omega) (by rw [List.length_append, hll]; simp; omega) ?_
   intro A4 c4 m4 hm4
   rw [List.append_assoc, lensL_snoc]
   refine RH.adv tk [] rfl rfl (by simp <;> omega) ?_
   refine RH.again (t + 1, (A4, c4)) (.head _) ?_ rfl (by show 8 - (t + 1) < 8 - t; omega) fun u hu => ⟨hu.1, hlt2⟩
   have e : (56 : Int) - 8 * ((t + 1 : Nat) : Int) = 56 - 8 * (t : Int) - 8 := by omega
   simp only [e]
   rfl
  ·have ht8 : t = 8 := by omega
   subst ht8
   refine RH.adv tk [false] rfl rfl (by simp <;> omega) ?_
   refine RH.doB [(0, 0), (1, 1)] 6 (hc := Tryz.call141) (ho := rfl) (hw := rfl) (hd := rfl) (hf := rfl) (hes := rfl) (hσ := rfl) (hn := rfl) (hV := fun _ => rfl) (hG := fun _ => rfl) (e := fun _ : Option Addr × Nat => .av (.val (.tuple #[]))) (hC := put_spec b ws h8 A c L rest A3 c3 (P0 ++ lensL L 8) (by omega)) (hp := fun u hu => ⟨hu.fact.1.2, Sl.own (B := B0) (hu.row (κ := kBy) (id := 3) (l := P0 ++ lensL L 8) rfl) (by omega)⟩) ?_
   rintro ⟨A5, c5⟩ m5 hm5
   refine RH.drop ?_
   have hend : endW ws rest L = digW (blocksW ws (rest ++ (P0 ++ lensL L 8)) ((rest ++ (P0 ++ lensL L 8)).length / 64)) := by unfold endW; rw [hpb]
   rw [hend]
   have hw18 := blocksW_len (ws := ws) (rest ++ (P0 ++ lensL L 8)) ((rest ++ (P0 ++ lensL L 8)).length / 64) h8
   generalize blocksW ws (rest ++ (P0 ++ lensL L 8)) ((rest ++ (P0 ++ lensL L 8)).length / 64) = W1 at *
   generalize tailB (rest ++ (P0 ++ lensL L 8)) = tl at *
   refine RH.adv tk [] rfl rfl (by simp <;> omega) ?_
   refine RH.loop (α := Nat) (fun i => [(0, .av (.val (.pointer (some ⟨b, 0, none⟩)))), (2, .av (.box 2 m0 0)), (46, intE i)]) (fun i => [(0, swE b W1 (.slice A5 tl.length c5) L), (2, bsE m0 (outB W1 i))]) (fun i u => K u ∧ i ≤ 32) (fun i => 32 - i) 0 rfl rfl (fun u hu => ⟨hu.1.1, Nat.zero_le _⟩) ?_
   intro i m6
   refine RH.pure (fun u hu => hu.2) fun hi => ?_
   have hol := outB_len W1 i
   by_cases hlt3 : i < 32
   ·have hnext : (outB W1 i).set i (byteW W1 i) = outB W1 (i + 1) := rfl
    refine RH.adv tk [true] rfl rfl (by simp <;> omega) ?_
    refine RH.loadS (u32E (gW W1 (i / 4))) rfl rfl rfl rfl (fun u hu => ?_) ?_
    ·have h1 := load_swI (hu.holds 0 _ rfl).2 hw18 (i := i / 4) (by omega)
     have e : (((i : Nat) : Int) / 4).toNat = i / 4 := by omega
     rw [← e] at h1
     rw [show gW W1 (i / 4) = gW W1 (((i : Nat) : Int) / 4).toNat by rw [e]]
     exact h1
    refine RH.adv tk [] rfl rfl (by simp <;> omega) ?_
    refine RH.storeB (id := 2) (l := outB W1 i) i (byteW W1 i) rfl rfl rfl rfl rfl (by omega) rfl (by unfold u8V; rw [← byteW_raw]; rfl) ?_
    intro m7 hm7
    rw [hnext]
    refine RH.adv tk [] rfl rfl (by simp <;> omega) ?_
    exact RH.again (i + 1) (.head _) rfl rfl (by show 32 - (i + 1) < 32 - i; omega) fun u hu => ⟨hu.1, hlt3⟩
   ·have hi32 : i = 32 := by omega
    subst hi32
    refine RH.objBox (id := 2) [.val (sumV (digW W1))] rfl (by unfold boxCells sumV digW bsC; simp [flat, AV.v, Value.cells]) ⟨_, rfl, vok_sum _⟩ ?_
    refine RH.adv tk [false] rfl rfl (by simp) ?_
    exact RH.retBox tk (.av (.val (sumV (digW W1)))) Tryz.func142 rfl rfl rfl rfl fun w hst => ⟨(), rfl, hst.out [] rfl rfl fun u h => ⟨h.1, trivial⟩⟩
def shaW (bytes : List UInt8) : Sum := endW (blocksW beginW bytes (bytes.length / 64)) (tailB bytes) bytes.length
theorem tailB_lt (l : List UInt8) : (tailB l).length < 64 := by unfold tailB; rw [List.length_drop]; omega
theorem V.RH.storeLn {f : Fr} {n : Nat} {S : Stops} {R : Ending → World → Prop} {B0 : Nat} {I : World → Prop} {H : Heap} {nx m : Nat} {env : SEnv} {k : List Item} {ops : Array Oper} {i : Nat} {rs : List Nat} {ty : TypeId} {ps : String} {af : Array Edge} {gd : Option (Nat × Bool)} {px y : Operand} {pa : Addr} {ey : EV} {id b : Nat} {ws : List UInt32} {v : Value} {ln : Int} (h8 : ws.length = 8) (ln' : Int)
  (ho : ops.toList[i]? = some ⟨none, .store 3 px y, ty, ps, af, gd⟩) (hw : wantE env ops gd = .yes) (hx : ptrE (evE env px) = some pa) (hy : evE env y = some ey) (hH : loH H id = swE b ws v ln) (hp : pa = ⟨b, 9, none⟩) (hv : ey.v = intV ln')
  (hk : ∀ m', m ≤ m' → RH Tryz.prog f n tb B0 S R (.inRegion ops rs :: k) env ((id, swE b ws v ln') :: H) nx m' I) : RH Tryz.prog f n tb B0 S R (.inRegion ops (i :: rs) :: k) env H nx m I :=
 RH.storeS _ ho hw hx hy (fun w _ hst => by rw [hv, hp]; exact store_swL h8 hst hH ln') hk
theorem Of_spec (w : World) (hG : Glob w) (A : Option Addr) (c : Nat) (bytes : List UInt8) (hb : Sl kBy w A c bytes) (hn : bytes.length ≤ 1000000) : Gives Tryz.prog 78 [.slice A bytes.length c] w (.av (.val (sumV (shaW bytes)))) := by
 have hl : lim = 140737488351232 := rfl
 refine enterH tk [(0, slE A bytes.length c)] Tryz.func78 rfl Tryz.ntmps78 rfl rfl ?_
 refine RH.adv tk [] rfl rfl ?_ ?_
 ·first | exact ⟨⟨rfl, List.all_eq_true.1 (by kernel_rfl)⟩, trivial⟩ | (simp; done)
 refine RH.gives (ho := rfl) (hw := rfl) (hd := rfl) (hf := rfl) (hes := rfl) (hc := Tryz.call140) (e := newE) (hC := fun u hu => New_spec u (hG.ext hu.fact)) ?_
 intro m1 hm1
 refine RH.adv tk [] rfl rfl ?_ ?_
 ·first | trivial
 refine RH.read (.st [.val (.agg (swC beginW (.slice none 0 0) 0))]) rfl rfl rfl rfl (fun u q _ ha => ?_) ?_
 ·have h1 : q.eval (.tmp 4) = newE.v := ev_run (e := newE) ha rfl
  have hb : (Instr.build 231 #[(0, newE.v)]).run Tryz.prog u = .ok (EV.st [.val (.agg (swC beginW (.slice none 0 0) 0))]).v u := by
   refine run_build u _ _ _ ?_
   kernel_rfl
  simp only [execOp, List.map_toArray, List.map_cons, List.map_nil, h1, hb, Sem.run_bind, Result.andThen_ok, Sem.run_pure]
 refine RH.adv tk [] rfl rfl ?_ ?_
 ·first | trivial
 refine RH.boxObj (id := 1) (swC beginW (.slice none 0 0) 0) rfl (by unfold boxCells; simp [flat, AV.v, Value.cells]) ?_
 refine RH.storeLn (id := 1) (ws := beginW) rfl bytes.length rfl rfl rfl rfl rfl rfl rfl ?_
 intro m2 hm2
 refine RH.adv tk [] rfl rfl (by simp <;> omega) ?_
 refine RH.nilrow 2 kBy.T kBy.sz 3 ?_
 refine RH.doB [(0, 1), (1, 2)] 4 (hc := Tryz.call141) (ho := rfl) (hw := rfl) (hd := rfl) (hf := rfl) (hes := rfl) (hσ := rfl) (hn := rfl) (hV := fun _ => rfl) (hG := fun _ => rfl) (e := fun _ : Option Addr × Nat => .av (.val (.tuple #[]))) (hC := put_spec m1 beginW rfl none 0 bytes.length [] A c bytes (by simpa using hn)) (hp := fun u hu => ⟨hG.ext hu.fact, hb.ext hu.fact⟩) ?_
 rintro ⟨A1, c1⟩ m3 hm3
 refine RH.drop ?_
 have hw8 := blocksW_len (ws := beginW) ([] ++ bytes) (([] ++ bytes).length / 64) rfl
 have hsh : shaW bytes = endW (blocksW beginW ([] ++ bytes) (([] ++ bytes).length / 64)) (tailB ([] ++ bytes)) bytes.length := rfl
 rw [hsh]
 have htl := tailB_lt ([] ++ bytes)
 generalize blocksW beginW ([] ++ bytes) (([] ++ bytes).length / 64) = W1 at *
 generalize tailB ([] ++ bytes) = tl at *
 refine RH.adv tk [] rfl rfl (by simp <;> omega) ?_
 refine RH.doB [(0, 1), (1, 2)] 5 (hc := Tryz.call142) (ho := rfl) (hw := rfl) (hd := rfl) (hf := rfl) (hes := rfl) (hσ := rfl) (hn := rfl) (hV := fun _ => rfl) (hG := fun _ => rfl) (e := fun _ : Unit => .av (.val (sumV (endW W1 tl bytes.length)))) (hC := end_spec m1 W1 hw8 A1 c1 bytes.length tl hn htl) (hp := fun u hu => hG.ext hu.fact) ?_
 rintro ⟨⟩ m4 hm4
 refine RH.drop ?_
 refine RH.adv tk [] rfl rfl (by simp) ?_
 exact RH.retBox tk (.av (.val (sumV (endW W1 tl bytes.length)))) Tryz.func78 rfl rfl rfl rfl fun u hu => ⟨rfl, hu.fact⟩
section
variable {n : Nat} {B0 : Nat} {I : World → Prop} {H : Heap} {m : Nat} {env : SEnv}
theorem strCells_flat (t : Str) : Lib.strCells ⟨⟨t⟩⟩ = t.flatMap kBy.cs := by
 unfold Lib.strCells
 show t.map (fun b => Value.int .u8 b.toNat) = _
 induction t with
 | nil => rfl
 | cons x r ih => rw [List.map_cons, List.flatMap_cons, ih]; rfl
theorem V.OpGo.appendStr {d id : Nat} {s x : Operand} {ty : TypeId} {ps : String} {af : Array Edge} {gd : Option (Nat × Bool)} {A : Option Addr} {c : Nat} {l : List UInt8} {t : Str}
  (hd : Nat.blt d n = true) (hs : evE env s = some (rowS id A l.length c)) (hH : loH H id = rowE kBy A c l) (hx : evE env x = some (strE t)) (hp : l ≠ []) (hb : l.length + t.length ≤ 1000000) :
  OpGo Tryz.prog tb B0 n ⟨some d, .call ⟨.builtin .append, #[s, x], #[22, 9]⟩, ty, ps, af, gd⟩ env H m I (fun y : Option Addr × Nat => (d, rowS id y.1 (l ++ t).length y.2) :: env)
   (fun y => (id, rowE kBy y.1 y.2 (l ++ t)) :: H) (fun _ => I) := by
 intro w a hm hst ha
 have hdn : d < n := Nat.lt_of_lt_of_le (Nat.lt_succ_self d) (Nat.le_of_ble_eq_true hd)
 have ht : Tryz.prog.underlying 22 = some (.slice 5) := tk.und rfl
 have hu : Tryz.prog.underlying 9 = some .string := tk.und rfl
 have hi : Tryz.prog.info? 5 = some Tryz.t5 := tk.get (by kernel_rfl)
 have hz : (Tryz.t5).zero = some (.int .u8 0) := by kernel_rfl
 have hown : w.ownsRow B0 5 1 (.slice A l.length c) l.length (l.flatMap kBy.cs) := hst.row (κ := kBy) hH
 have hlen : ((l ++ t).flatMap kBy.cs) = l.flatMap kBy.cs ++ Lib.strCells ⟨⟨t⟩⟩ := by rw [List.flatMap_append, strCells_flat]
 have hfl : (l.flatMap kBy.cs).length = l.length := by rw [kBy.flL, show kBy.sz = 1 from rfl, Nat.mul_one]
 have hsz : (⟨⟨t⟩⟩ : ByteArray).size = t.length := rfl
 have key : ∃ A' c' w', (Builtin.append_ #[22, 9] ty #[.slice A l.length c, .string ⟨⟨t⟩⟩]).run Tryz.prog w = .ok (.slice A' (l ++ t).length c') w' ∧ w'.ownsRow B0 5 1 (.slice A' (l ++ t).length c') (l ++ t).length ((l ++ t).flatMap kBy.cs) ∧ w.grownBy w' (Value.slice A l.length c).ownBlock ∧ ((Value.slice A' (l ++ t).length c').ownBlock = (Value.slice A l.length c).ownBlock ∨ (Value.slice A' (l ++ t).length c').ownBlock = some w.heap.size) := by
  rw [hlen, List.length_append]
  rcases hown.2 with ⟨h1, h2⟩ | ⟨g, cap, cur, hv, hg, hh, hc, hmx, hcs, htk⟩
  ·exact absurd (List.length_eq_zero_iff.1 h2) hp
  ·injection hv with h3 h4 h5
   subst h3; subst h5
   have hpos : 0 < l.length := List.length_pos_iff.2 hp
   by_cases hroom : l.length + t.length ≤ c
   ·obtain ⟨w', q1, q2, q3⟩ := Lib.run_append_fits_string (P := Tryz.prog) w B0 22 9 ty 5 Tryz.t5 ht hu hi rfl (some ⟨g, 0, none⟩) l.length c (l.flatMap kBy.cs) hown ⟨⟨t⟩⟩ (by omega) hroom
    exact ⟨_, _, w', q1, q2, q3, .inl rfl⟩
   ·have holds : ∀ j u, (l.flatMap kBy.cs)[j]? = some u → w.cell? ((⟨g, 0, none⟩ : Addr).add j) = some u := hown.cells (g := g) rfl
    have hr := Lib.run_append_grow_string (P := Tryz.prog) w 22 9 ty 5 Tryz.t5 (.int .u8 0) ht hu hi hz ⟨g, 0, none⟩ l.length c (l.flatMap kBy.cs) (by rw [hfl]; exact (Nat.mul_one _).symm) holds ⟨⟨t⟩⟩ (by rw [hsz]; omega) (by rw [hsz]; omega) (growslice_fits (by rw [hsz]; omega) (by rw [hsz, show (Tryz.t5).bytes = 1 from rfl]; omega))
    rw [hsz] at hr
    refine ⟨_, _, _, hr, ⟨by rw [List.length_append, hfl, Lib.strCells_length, hsz, Nat.mul_one], .inr ⟨w.heap.size, _, _, rfl, hst.base, heap_alloc_new w.drew _, grownCap_ge w _ c _, grownCap_le_maxLen w _ c _ (by simp only [maxLen]; omega), ?_, ?_⟩⟩, ⟨rfl, rfl, rfl, by simp, fun k hk _ => heap_alloc_old w.drew _ hk⟩, .inr rfl⟩
    ·have hge := grownCap_ge w (l.length + t.length) c 5
     have hz1 : (Value.int IntKind.u8 0).cells.size = 1 := rfl
     simp only [Array.size_append, List.size_toArray, size_zeroCells, hz1, hfl, Lib.strCells_length, hsz]
     omega
    ·simp only [Array.toList_append, List.append_assoc]
     rw [← List.append_assoc]
     exact List.take_left' (by rw [List.length_append, hfl, Lib.strCells_length, hsz, Nat.mul_one])
 obtain ⟨A', c', w', hr, h2, h3, h5⟩ := key
 unfold Oper.wp
 have : (execOp a.eval ⟨some d, .call ⟨.builtin .append, #[s, x], #[22, 9]⟩, ty, ps, af, gd⟩).run Tryz.prog w = .ok (.value (.slice A' (l ++ t).length c')) w' := by
  have hsv : a.eval s = .slice A l.length c := ev_run ha hs
  have hxv : a.eval x = .string ⟨⟨t⟩⟩ := ev_run ha hx
  simp only [execOp, resolve, invoke, builtin, Sem.run_bind, Sem.run_pure, Result.andThen_ok, List.map_toArray, List.map_cons, List.map_nil, hsv, hxv, hr]
 rw [this]
 refine ⟨(A', c'), ?_, by rw [← hm]; exact h3.size, ?_⟩
 ·rw [kn_cons]; exact ha.put hdn _
 ·refine hst.turn id (.row (.slice A l.length c) kBy.T kBy.sz l.length (l.flatMap kBy.cs)) (.row (.slice A' (l ++ t).length c') kBy.T kBy.sz (l ++ t).length ((l ++ t).flatMap kBy.cs)) hH (agr_grown h3) h2 fun k hk' => ?_
  rcases h5 with h5 | h5
  ·exact .inl (h5.symm.trans hk')
  ·right
   have : some k = some w.heap.size := hk'.symm.trans h5
   injection this with this
   omega
end
structure Com where
 root : Sum
 ps : Row Sum
 note : Str
def Com.ev (x : Com) : EV := .st [.val (sumV x.root), x.ps.av, .val (strV x.note)]
theorem map_flat (l : List UInt8) : l.map u8V = l.flatMap kBy.cs := by
 induction l with
 | nil => rfl
 | cons x r ih => rw [List.map_cons, List.flatMap_cons, ih]; rfl
theorem slice_all (w : World) (a o : Nat) : (Instr.sliceAt 40 (.pointer (some ⟨a, o, none⟩)) none none none).run Tryz.prog w = .ok (.slice (some ⟨a, o, none⟩) 32 32) w := by
 have h1 : (underlying 40).run Tryz.prog w = .ok (.array 32 5) w := run_underlying (tk.und rfl) w
 have h2 : (sizeOf 5).run Tryz.prog w = .ok 1 w := run_tsize tk (i := Tryz.t5) rfl
 simp [Instr.sliceAt, Instr.sliceBounds, Instr.sliceBound, h1, h2, asIntOf, Instr.sureAddr, Addr.add_lit]
end Go.Proofs.YtbfjmimiigjenaaGreatDoor
