/-
Contracts of functions, and lemmas on them. No condition.
-/
import Derived.Lib.AppendStr
import Derived.Room.AppendFits
import Derived.Laws.MakeOwn
import Derived.Test.YtbfjmimiigjenaaGreatDoorKPW3
set_option linter.unusedVariables false
set_option linter.unusedSectionVars false
set_option linter.unusedSimpArgs false
namespace Go.Proofs.YtbfjmimiigjenaaGreatDoor
open Go V RowKit
theorem rst_sl {w : World} {z : Option Addr × Nat × Nat} {l : List UInt8} (h : Sl kByte w z.1 z.2.2 l) : ∀ i, 64 * i ≤ l.length → Sl kByte w (rst z i).1 (rst z i).2.2 (l.drop (64 * i))
  | 0, _ => h
  | i + 1, hi => by
    have h1 := Sl.drop (rst_sl h i (by omega)) 64 (by rw [List.length_drop]; omega)
    rw [List.drop_drop] at h1
    exact h1
def blocksW (ws : List UInt32) (all : List UInt8) (n : Nat) : List UInt32 := iterN (fun i h => takenW h ((all.drop (64 * i)).take 64)) n ws
theorem blocksW_succ (ws : List UInt32) (all : List UInt8) (i : Nat) : takenW (blocksW ws all i) ((all.drop (64 * i)).take 64) = blocksW ws all (i + 1) := by unfold blocksW; rw [iterN]
theorem blocksW_len {ws : List UInt32} (all : List UInt8) (n : Nat) (h8 : ws.length = 8) : (blocksW ws all n).length = 8 :=
  iterN_inv (p := fun (x : List UInt32) => x.length = 8) (fun i x hx => takenW_len _ hx) n ws h8
def tailB (all : List UInt8) : List UInt8 := all.drop (64 * (all.length / 64))
section
variable {f : Fr} {n : Nat} {S : Stops} {R : Ending → World → Prop} {B0 : Nat} {I : World → Prop} {H : Heap} {nx m : Nat} {env : SEnv} {k : List Item} {ops : Array Oper} {i : Nat} {l : List Bool} {G0 : Heap} {I0 : World → Prop} {ty : TypeId} {ps : String} {af : Array Edge} {gd : Option (Nat × Bool)} {px y : Operand} {pa : Addr} {ey : EV} {id b : Nat} {ws : List UInt32} {v : Value} {ln : Int}
theorem V.RunD.lastR {A : Option Addr} {q c : Nat} (h8 : ws.length = 8)
    (ho : ops.toList[i]? = some ⟨none, .store 22 px y, ty, ps, af, gd⟩) (hr : Region.ready .any ops l.toArray = [i]) (hw : wantE env ops gd = .yes) (hf : finB ops i = true) (hl : Region.ready .any ops (l.set i true).toArray = []) (hx : ptrE (evE env px) = some pa) (hy : evE env y = some ey) (hH : lookH H id = swE b ws v ln) (hp : pa = ⟨b, 8, none⟩) (hv : ey.v = .slice A q c)
    (hk : ∀ m', m ≤ m' → RunH Tryz.prog f n tb B0 S R k env ((id, swE b ws (.slice A q c) ln) :: H) nx m' I) : RunD Tryz.prog f n tb B0 S R k ops G0 I0 (0 + 1) l env H nx m I :=
  RunD.lastS _ ho hr hw hf hl hx hy (fun w _ hst => by rw [hv, hp]; exact store_swR h8 hst hH A q c) hk
theorem V.RunD.lastSW (h8 : ws.length = 8) (ws' : List UInt32) (h8' : ws'.length = 8)
    (ho : ops.toList[i]? = some ⟨none, .store 226 px y, ty, ps, af, gd⟩) (hr : Region.ready .any ops l.toArray = [i]) (hw : wantE env ops gd = .yes) (hf : finB ops i = true) (hl : Region.ready .any ops (l.set i true).toArray = []) (hx : ptrE (evE env px) = some pa) (hy : evE env y = some ey) (hH : lookH H id = swE b ws v ln) (hp : pa = ⟨b, 0, none⟩) (hv : ey.v = wsV ws')
    (hk : ∀ m', m ≤ m' → RunH Tryz.prog f n tb B0 S R k env ((id, swE b ws' v ln) :: H) nx m' I) : RunD Tryz.prog f n tb B0 S R k ops G0 I0 (0 + 1) l env H nx m I :=
  RunD.lastS _ ho hr hw hf hl hx hy (fun w _ hst => by rw [hv, hp]; exact store_swW h8 hst hH ws' h8') hk
end
set_option maxRecDepth 10000 in
theorem put_spec (b : Nat) (ws : List UInt32) (h8 : ws.length = 8) (A : Option Addr) (c : Nat) (ln : Int) (rest : List UInt8) (Bb : Option Addr) (cb : Nat) (bytes : List UInt8) (hn : rest.length + bytes.length ≤ 1000000) :
    Does Tryz.prog tb 141 [.pointer (some ⟨b, 0, none⟩), .slice Bb bytes.length cb] [(0, swE b ws (.slice A rest.length c) ln), (1, rowE kByte A c rest)] (fun u => Glob u ∧ Sl kByte u Bb cb bytes) (fun _ : Option Addr × Nat => .tuple #[])
      (fun y => [(0, swE b (blocksW ws (rest ++ bytes) ((rest ++ bytes).length / 64)) (.slice y.1 (tailB (rest ++ bytes)).length y.2) ln), (1, rowE kByte y.1 y.2 (tailB (rest ++ bytes)))]) (fun _ _ _ => True) := by
  have hl : lim = 140737488351232 := rfl
  refine Does.enter tb_ok [(0, .av (.val (.pointer (some ⟨b, 0, none⟩)))), (1, slE Bb bytes.length cb)] Tryz.func141 rfl Tryz.ntmps141 rfl rfl 2 ?_
  intro B0 m0 K
  refine RunH.adv tb_ok [] rfl rfl (by simp <;> omega) ?_
  refine RunH.draw rfl [(0, swE b ws (.slice A rest.length c) ln), (2, bxE m0 b)] rfl 13 rfl rfl ?_
  refine RunD.adv tb_ok (by kernel_rfl) [] rfl rfl (by simp <;> omega) ?_
  refine RunD.loadG (by kernel_rfl) (i := 5) (slE A rest.length c) rfl rfl rfl rfl rfl rfl (fun u hu => load_swR (hu.holds 0 _ rfl).2 h8) ?_
  refine RunD.adv tb_ok (by kernel_rfl) [] rfl rfl (by simp <;> omega) ?_
  refine RunD.step tb_ok (i := 7) rfl (by kernel_rfl) rfl rfl rfl (by simp [AllOb, Ob.P]; try exact ⟨rfl, rfl⟩) rfl (fun _ h => h) ⟨rfl, rfl⟩ ?_
  refine RunD.adv tb_ok (by kernel_rfl) [] rfl rfl (by simp <;> omega) ?_
  have hall : [(⟨A, c, rest⟩ : Row UInt8), ⟨Bb, cb, bytes⟩].flatMap Row.l = rest ++ bytes := by simp
  have hCc := Concat_spec (some ⟨m0 + 1, 0, none⟩) 2 [(⟨A, c, rest⟩ : Row UInt8), ⟨Bb, cb, bytes⟩] (by unfold lenS; simp; omega)
  rw [hall] at hCc
  generalize hae : rest ++ bytes = all at *
  refine RunD.doesB (i := 8) [] 5 (fun y : Option Addr × Nat => rowS 4 y.1 all.length y.2) rfl (by kernel_rfl) rfl rfl rfl rfl Tryz.call115 hCc rfl rfl (fun _ => rfl) (fun _ => rfl) (fun u hu => ⟨Sl.own (B := B0) (hu.row (κ := kSli) (l := [(A, rest.length, c), (Bb, bytes.length, cb)]) (id := 3) rfl) (by simp [hl]), ?_⟩) (fun _ => rfl) (fun _ h => h) ?_
  · intro r hr
    have hr : r = ⟨A, c, rest⟩ ∨ r = ⟨Bb, cb, bytes⟩ := by simpa using hr
    rcases hr with rfl | rfl
    · exact Sl.own (B := B0) (hu.row (κ := kByte) (l := rest) (id := 1) rfl) (by show rest.length ≤ lim; omega)
    · exact hu.fact.2.2
  rintro ⟨A', c'⟩ m1 hm1
  refine RunD.adv tb_ok (by kernel_rfl) [] rfl rfl (by simp <;> omega) ?_
  have hal : all.length ≤ 1000000 := by rw [← hae, List.length_append]; omega
  refine RunD.lastR (i := 12) (id := 0) (A := A') (q := all.length) (c := c') h8 rfl (by kernel_rfl) rfl (by kernel_rfl) (by kernel_rfl) rfl rfl rfl rfl rfl ?_
  intro m2 hm2
  refine RunH.adv tb_ok [] rfl rfl (by simp <;> omega) ?_
  refine RunH.doesB [] 6 (hc := Tryz.call207) (ho := rfl) (hw := rfl) (hd := rfl) (hf := rfl) (hes := rfl) (hσ := rfl) (hn := rfl) (hV := fun _ => rfl) (hG := fun _ => rfl) (e := fun bx : Nat => .av (.val (.func (.func 260) #[] #[.pointer (some ⟨bx, 0, none⟩)]))) (hC := blocks_spec b) (hp := fun _ _ => trivial) ?_
  rintro bx m3 hm3
  refine RunH.drop ?_
  refine RunH.adv tb_ok [] rfl rfl (by simp <;> omega) ?_
  generalize hze : ((A', all.length, c') : Option Addr × Nat × Nat) = z at *
  have hz1 : z.1 = A' := by rw [← hze]
  have hz2 : z.2.1 = all.length := by rw [← hze]
  have hz3 : z.2.2 = c' := by rw [← hze]
  refine RunH.tell [(2, .av (.box 2 m0 0)), (18, .av (.val (.func (.func 260) #[] #[.pointer (some ⟨bx, 0, none⟩)])))]
    [(0, swE b ws (slZ (rst z 0)) ln), (2, bxE m0 b), (4, rowE kByte A' c' all), (5, bxE bx b)] [] rfl (by rw [← hze]; rfl) rfl 6 ?_
  refine RunH.pureS (fun w hst => own_cap (hst.row (κ := kByte) (id := 4) (l := all) rfl)) fun hcap => ?_
  refine RunH.defs0 ?_
  have hw8 := fun i => blocksW_len (ws := ws) all i h8
  have hN : z.2.1 / 64 = all.length / 64 := by rw [hz2]
  refine RunH.rangeFuncB (σ := Empty) (α := Unit) (nx := 6) (enc := fun i => [blkZ z i]) rfl rfl (fun xs w => Tryz.call260 xs w) (blocks1_spec bx b z (by omega) (by omega)) (fun _ => rfl) rfl [(0, 5)] (fun _ _ _ => rfl) rfl
    [(2, .av (.box 2 m0 0))] rfl (fun u => K u ∧ Glob u) (fun w h => h.mono fun _ _ h => ⟨h.1.1, h.1.2.1⟩)
    (fun i _ => [(0, swE b (blocksW ws all i) (slZ (rst z i)) ln), (2, bxE m0 b), (4, rowE kByte A' c' all)])
    (fun i _ => [(0, swE b (blocksW ws all i) (slZ (rst z (i + 1))) ln), (2, bxE m0 b), (4, rowE kByte A' c' all)])
    (fun _ _ => True) () trivial (fun _ _ _ => rfl) (fun l t D i x F w hi _ hst => load_swR (hst.holds 0 _ rfl).2 (hw8 i))
    (fun l t D i x F w hi _ hst => by
      obtain ⟨w', e1, e2, e3⟩ := store_swR (hw8 i) hst (id := 0) rfl (rst z (i + 1)).1 (rst z (i + 1)).2.1 (rst z (i + 1)).2.2
      exact ⟨w', e1, e2, e3.out [] rfl rfl fun _ h => h⟩) (fun _ x => x.elim) (fun _ x => x.elim) .ret ?_ 8 ?_ (fun _ _ x => x.elim)
  · intro i hi x _ l D tt Kg m5 hKg
    have hi64 : 64 * i + 64 ≤ all.length := by omega
    have hb64 : ((all.drop (64 * i)).take 64).length = 64 := by rw [List.length_take, List.length_drop]; omega
    have hnext : takenW (blocksW ws all i) ((all.drop (64 * i)).take 64) = blocksW ws all (i + 1) := blocksW_succ ws all i
    have hl0 := hw8 i
    have hl1 := hw8 (i + 1)
    dsimp only
    generalize hW0 : blocksW ws all i = W0 at *
    generalize hW1 : blocksW ws all (i + 1) = W1 at *
    refine RunH.adv tb_ok [] rfl rfl (by simp <;> omega) ?_
    refine RunH.beginRound (id := 6) rfl rfl ?_
    refine RunH.adv tb_ok [] rfl rfl (by simp <;> omega) ?_
    refine RunH.draw rfl [(0, swE b W0 (slZ (rst z (i + 1))) ln), (2, bxE m0 b)] rfl 12 rfl rfl ?_
    refine RunD.adv tb_ok (by kernel_rfl) [] rfl rfl (by simp <;> omega) ?_
    refine RunD.loadG (by kernel_rfl) (i := 5) (.av (.val (wsV W0))) rfl rfl rfl rfl rfl rfl (fun u hu => load_swW (hu.holds 0 _ rfl).2 hl0) ?_
    refine RunD.adv tb_ok (by kernel_rfl) [] rfl rfl (by simp <;> omega) ?_
    refine RunD.gives (i := 7) (.av (.val (wsV W1))) rfl (by kernel_rfl) rfl rfl rfl rfl Tryz.call208 (fun u hu => by
      have hS := Sl.take (rst_sl (z := z) (by rw [hz1, hz3]; exact Sl.own (B := B0) (hu.row (κ := kByte) (id := 4) (l := all) rfl) (by omega)) i (by omega)) 64 (by rw [List.length_drop]; omega)
      have := taken_spec u (hKg u hu.fact).2 W0 hl0 (rst z i).1 (rst z i).2.2 _ hS hb64
      rw [hb64, hnext] at this
      exact this) rfl (fun _ h => h) ?_
    intro m6 hm6
    refine RunD.adv tb_ok (by kernel_rfl) [] rfl rfl (by simp <;> omega) ?_
    refine RunD.lastSW (i := 11) (id := 0) hl0 W1 hl1 rfl (by kernel_rfl) rfl (by kernel_rfl) (by kernel_rfl) rfl rfl rfl rfl rfl ?_
    intro m7 hm7
    refine RunH.adv tb_ok [] rfl rfl (by simp <;> omega) ?_
    refine RunH.leave .fin fun w hst => ⟨(), trivial, hst.out [] rfl rfl fun u h => h⟩
  · intro _ D m5 _
    rw [hN]
    have hq2 : (rst z (all.length / 64)).2.1 = (tailB all).length := by
      rw [rst_len, hz2]; unfold tailB; rw [List.length_drop]
    have hqs : ∀ w, Sl kByte w z.1 z.2.2 all → Sl kByte w (rst z (all.length / 64)).1 (rst z (all.length / 64)).2.2 (tailB all) := fun w h => rst_sl h _ (by omega)
    generalize rst z (all.length / 64) = q at *
    obtain ⟨q1, q2, q3⟩ := q
    dsimp only at hq2 hqs
    subst hq2
    have hWl := hw8 (all.length / 64)
    have htl : (tailB all).length ≤ 1000000 := by unfold tailB; rw [List.length_drop]; omega
    generalize blocksW ws all (all.length / 64) = Wn at *
    refine RunH.adv tb_ok [] rfl rfl (by simp <;> omega) ?_
    refine RunH.draw rfl [(0, swE b Wn (slV q1 (tailB all).length q3) ln), (2, bxE m0 b)] rfl 11 rfl rfl ?_
    refine RunD.adv tb_ok (by kernel_rfl) [] rfl rfl (by simp <;> omega) ?_
    refine RunD.loadG (by kernel_rfl) (i := 5) (slE q1 (tailB all).length q3) rfl rfl rfl rfl rfl rfl (fun u hu => load_swR (hu.holds 0 _ rfl).2 hWl) ?_
    refine RunD.adv tb_ok (by kernel_rfl) [] rfl rfl (by simp <;> omega) ?_
    refine RunD.doesB (i := 6) [] 9 (fun y : Option Addr × Nat => rowS 8 y.1 (tailB all).length y.2) rfl (by kernel_rfl) rfl rfl rfl rfl Tryz.call90 (cloneB q1 q3 (tailB all) (by omega)) rfl rfl (fun _ => rfl) (fun _ => rfl) (fun u hu => hqs u (by rw [hz1, hz3]; exact Sl.own (B := B0) (hu.row (κ := kByte) (id := 4) (l := all) rfl) (by omega))) (fun _ => rfl) (fun _ h => h) ?_
    rintro ⟨A2, c2⟩ m6 hm6
    refine RunD.adv tb_ok (by kernel_rfl) [] rfl rfl (by simp <;> omega) ?_
    refine RunD.lastR (i := 10) (id := 0) (A := A2) (q := (tailB all).length) (c := c2) hWl rfl (by kernel_rfl) rfl (by kernel_rfl) (by kernel_rfl) rfl rfl rfl rfl rfl ?_
    intro m7 hm7
    refine RunH.adv tb_ok [] rfl rfl (by simp <;> omega) ?_
    refine RunH.facts (Def tb B0 [D] (fun u => K u ∧ Glob u)) (fun u h => h.1) ?_
    refine RunH.finD0 Tryz.func141 rfl fun w hst => ⟨(A2, c2), rfl, hst.out [(0, 0), (1, 8)] rfl rfl fun u h => ⟨h.1, trivial⟩⟩
end Go.Proofs.YtbfjmimiigjenaaGreatDoor
namespace Go.Proofs.YtbfjmimiigjenaaGreatDoor
open Go V RowKit
theorem load_beg {w : World} (h : Glob w) : (loadVar 226 ⟨0, 0, none⟩).run Tryz.prog w = .ok (wsV beginW) w :=
  V.run_load tb_ok (vok_w8 rfl) h.beg
abbrev newE : EV := .st [.val (wsV beginW), .val (.slice none 0 0), .val (intV 0)]
theorem New_spec (w : World) (hG : Glob w) : Gives Tryz.prog 140 [] w newE := by
  refine enterH tb_ok [] Tryz.func140 rfl Tryz.ntmps140 rfl rfl ?_
  refine RunH.adv tb_ok [] rfl rfl ?_ ?_
  · first | exact ⟨⟨rfl, List.all_eq_true.1 (by kernel_rfl)⟩, trivial⟩ | trivial
  refine RunH.load (.av (.val (wsV beginW))) rfl rfl rfl rfl (fun w' h' => load_beg (hG.ext h')) ?_
  refine RunH.adv tb_ok [] rfl rfl ?_ ?_
  · first | exact ⟨⟨rfl, List.all_eq_true.1 (by kernel_rfl)⟩, trivial⟩ | trivial
  exact RunH.retBox tb_ok newE Tryz.func140 rfl rfl rfl rfl fun w' hst => ⟨rfl, hst.fact⟩
def bsC (l : List UInt8) : Array Value := (l.map u8V).toArray
abbrev bsE (b : Nat) (l : List UInt8) : Option HE := some (.obj b (.cells (bsC l) 40))
theorem vok_b (x : UInt8) : VOk tb 5 (u8V x) := ⟨rfl, Tryz.t5, rfl, rfl⟩
theorem bsC_set (l : List UInt8) (i : Nat) (hi : i < l.length) (x : UInt8) : ((bsC l).toList.take i ++ [u8V x] ++ (bsC l).toList.drop (i + 1)).toArray = bsC (l.set i x) := by
  unfold bsC
  rw [List.map_set, List.set_eq_take_append_cons_drop, if_pos (by simpa using hi)]
  simp
theorem V.St.storeB {w : World} {B0 : Nat} {H : Heap} {I : World → Prop} {id b : Nat} {l : List UInt8} (hst : St tb B0 H I w) (hH : lookH H id = bsE b l) {i : Nat} (hi : i < l.length) (x : UInt8) :
    ∃ w', (storeVar 5 ⟨b, i * 1, none⟩ (u8V x)).run Tryz.prog w = .ok () w' ∧ w.heap.size ≤ w'.heap.size ∧ St tb B0 ((id, bsE b (l.set i x)) :: H) I w' := by
  have ho := hst.holds id _ hH
  obtain ⟨w', q1, q2, q3, q4⟩ := run_storeAt (P := Tryz.prog) tb_ok (vok_b x) (o := i * 1) ho.2 (by show i * 1 + 1 ≤ _; unfold bsC; simp; omega)
  refine ⟨w', q1, by rw [q4]; exact Nat.le_refl _, ?_⟩
  rw [Nat.mul_one] at q2
  have e := bsC_set l i hi x
  have q2' : w'.heap[b]? = some (.cells (bsC (l.set i x)) 40 (0, 0)) := by rw [← e]; exact q2
  exact hst.turn (w' := w') id _ (.obj b (.cells (bsC (l.set i x)) 40)) hH (q3.mono fun j _ hj => by rw [hj]; rfl) ⟨ho.1, q2'⟩ fun j hj => .inl hj
theorem V.RunH.storeB {f : Fr} {n : Nat} {S : Stops} {R : Ending → World → Prop} {B0 : Nat} {I : World → Prop} {H : Heap} {nx m : Nat} {env : SEnv} {k : List Item} {ops : Array Oper} {i : Nat} {rs : List Nat} {ty : TypeId} {ps : String} {af : Array Edge} {gd : Option (Nat × Bool)} {px y : Operand} {pa : Addr} {ey : EV} {id b : Nat} {l : List UInt8} (j : Nat) (x : UInt8)
    (ho : ops.toList[i]? = some ⟨none, .store 5 px y, ty, ps, af, gd⟩) (hw : wantE env ops gd = .yes) (hx : ptrE (evE env px) = some pa) (hy : evE env y = some ey) (hH : lookH H id = bsE b l) (hj : j < l.length) (hp : pa = ⟨b, j * 1, none⟩) (hv : ey.v = u8V x)
    (hk : ∀ m', m ≤ m' → RunH Tryz.prog f n tb B0 S R (.inRegion ops rs :: k) env ((id, bsE b (l.set j x)) :: H) nx m' I) : RunH Tryz.prog f n tb B0 S R (.inRegion ops (i :: rs) :: k) env H nx m I :=
  RunH.storeS _ ho hw hx hy (fun w _ hst => by rw [hv, hp]; exact hst.storeB hH hj x) hk
def padN (r : Nat) : Nat := (119 - r % 64) % 64
def padZ (j : Nat) : List UInt8 := 128 :: List.replicate j 0
def byteL (L : Nat) (t : Nat) : UInt8 := UInt8.ofNat (8 * L / 2 ^ (56 - 8 * t))
def lensL (L : Nat) (t : Nat) : List UInt8 := (List.range t).map (byteL L)
def padB (r L : Nat) : List UInt8 := padZ (padN r) ++ lensL L 8
def byteW (ws : List UInt32) (i : Nat) : UInt8 := UInt8.ofNat ((gW ws (i / 4)).toNat / 2 ^ (24 - i % 4 * 8))
def outB (ws : List UInt32) (i : Nat) : List UInt8 := iterN (fun i l => l.set i (byteW ws i)) i (List.replicate 32 0)
theorem outB_len (ws : List UInt32) (i : Nat) : (outB ws i).length = 32 :=
  iterN_inv (p := fun (x : List UInt8) => x.length = 32) (fun n x h => by rw [List.length_set]; exact h) i _ (by rw [List.length_replicate])
def digW (ws : List UInt32) : Sum := ⟨outB ws 32, outB_len ws 32⟩
def endW (ws : List UInt32) (rest : List UInt8) (L : Nat) : Sum := digW (blocksW ws (rest ++ padB rest.length L) ((rest ++ padB rest.length L).length / 64))
theorem padN_lt (r : Nat) : padN r < 64 := Nat.mod_lt _ (by decide)
theorem padN_at (r j : Nat) (h : j < padN r) : (r + (1 + j)) % 64 ≠ 56 := by unfold padN at h; omega
theorem padN_end (r : Nat) : (r + (1 + padN r)) % 64 = 56 := by unfold padN; omega
theorem padZ_len (j : Nat) : (padZ j).length = 1 + j := by unfold padZ; simp; omega
theorem padZ_snoc (j : Nat) : padZ j ++ [0] = padZ (j + 1) := by unfold padZ; rw [List.cons_append, ← List.replicate_succ']
theorem lensL_snoc (L t : Nat) : lensL L t ++ [byteL L t] = lensL L (t + 1) := by unfold lensL; rw [List.range_succ, List.map_append]; rfl
theorem byte_raw (L t : Nat) (ht : t < 8) : ((8 * (L : Int)).fdiv (2 ^ (min ((56 : Int) - 8 * t).toNat IntKind.u64.bits))) % 256 = ((byteL L t).toNat : Int) := by
  have e : ((56 : Int) - 8 * t).toNat = 56 - 8 * t := by omega
  unfold byteL
  rw [e, show min (56 - 8 * t) IntKind.u64.bits = 56 - 8 * t from Nat.min_eq_left (by show _ ≤ 64; omega), Int.fdiv_eq_ediv_of_nonneg _ (Int.le_of_lt (Int.pow_pos (by decide))), UInt8.toNat_ofNat', Int.natCast_emod, Int.natCast_ediv, Int.natCast_mul, Int.natCast_pow]
  rfl
theorem byteW_raw (ws : List UInt32) (i : Nat) : (((gW ws (i / 4)).toNat : Int).fdiv (2 ^ (min ((24 : Int) - (i : Int) % 4 * 8).toNat IntKind.u32.bits))) % 256 = ((byteW ws i).toNat : Int) := by
  have e : ((24 : Int) - (i : Int) % 4 * 8).toNat = 24 - i % 4 * 8 := by omega
  unfold byteW
  rw [e, show min (24 - i % 4 * 8) IntKind.u32.bits = 24 - i % 4 * 8 from Nat.min_eq_left (by show _ ≤ 32; omega), Int.fdiv_eq_ediv_of_nonneg _ (Int.le_of_lt (Int.pow_pos (by decide))), UInt8.toNat_ofNat', Int.natCast_emod, Int.natCast_ediv, Int.natCast_pow]
  rfl
set_option maxRecDepth 10000 in
theorem end_spec (b : Nat) (ws : List UInt32) (h8 : ws.length = 8) (A : Option Addr) (c : Nat) (L : Nat) (rest : List UInt8) (hL : L ≤ 1000000) (hn : rest.length < 64) :
    Does Tryz.prog tb 142 [.pointer (some ⟨b, 0, none⟩)] [(0, swE b ws (.slice A rest.length c) L), (1, rowE kByte A c rest)] (fun u => Glob u) (fun _ : Unit => sumV (endW ws rest L)) (fun _ => []) (fun _ _ _ => True) := by
  have hl : lim = 140737488351232 := rfl
  refine Does.enter tb_ok [(0, .av (.val (.pointer (some ⟨b, 0, none⟩))))] Tryz.func142 rfl Tryz.ntmps142 rfl rfl 2 ?_
  intro B0 m0 K
  refine RunH.adv tb_ok [] rfl rfl ?_ ?_
  · first | exact ⟨⟨rfl, List.all_eq_true.1 (by kernel_rfl)⟩, trivial⟩ | (simp; done)
  refine RunH.boxObj (id := 2) (bsC (outB ws 0)) rfl (by show boxCells [.val (.agg (bsC (List.replicate 32 0)))] = _; unfold boxCells; simp [flat, AV.v, Value.cells]; rfl) ?_
  have hpn := padN_lt rest.length
  refine RunH.loop (α := Nat × (Option Addr × Nat)) (fun y => [(0, .av (.val (.pointer (some ⟨b, 0, none⟩)))), (2, .av (.box 2 m0 0)), (3, rowS 3 y.2.1 (padZ y.1).length y.2.2)]) (fun y => [(0, swE b ws (.slice A rest.length c) L), (1, rowE kByte A c rest), (2, bsE m0 (outB ws 0)), (3, rowE kByte y.2.1 y.2.2 (padZ y.1))])
    (fun y u => (K u ∧ Glob u) ∧ y.1 ≤ padN rest.length) (fun y => padN rest.length - y.1) (0, (some ⟨m0 + 1, 0, none⟩, 1)) rfl rfl (fun u hu => ⟨hu, Nat.zero_le _⟩) ?_
  rintro ⟨j, A2, c2⟩ m2
  refine RunH.pure (fun u hu => hu.2) fun hj => ?_
  dsimp only at hj ⊢
  have hpl := padZ_len j
  refine RunH.adv tb_ok [] rfl rfl (by simp <;> omega) ?_
  refine RunH.loadS (slE A rest.length c) rfl rfl rfl rfl (fun u hu => load_swR (hu.holds 0 _ rfl).2 h8) ?_
  by_cases hlt : j < padN rest.length
  · have hne := padN_at rest.length j hlt
    rw [hpl]
    refine RunH.adv tb_ok [true] rfl rfl (by simp <;> omega) ?_
    refine RunH.appendK (κ := kByte) (id := 3) (l := padZ j) (r := [0]) rfl rfl rfl rfl hpl.symm rfl elt_byte rfl rfl (fun u hu => hu.liesRow (κ := kByte) (l := [0]) (id := 4) rfl (by simp [hl])) (by simp; omega) (by simp; omega) ?_
    intro A3 c3 m3 hm3
    rw [padZ_snoc]
    refine RunH.adv tb_ok [] rfl rfl (by simp <;> omega) ?_
    exact RunH.again (j + 1, (A3, c3)) (.head _) rfl rfl (by show padN rest.length - (j + 1) < padN rest.length - j; omega) fun u hu => ⟨hu.1, hlt⟩
  · have hj' : j = padN rest.length := by omega
    subst hj'
    have heq := padN_end rest.length
    rw [hpl]
    refine RunH.adv tb_ok [false] rfl rfl (by simp <;> omega) ?_
    refine RunH.loadS (intE L) rfl rfl rfl rfl (fun u hu => load_swL (hu.holds 0 _ rfl).2 h8) ?_
    refine RunH.adv tb_ok [] rfl rfl (by simp <;> omega) ?_
    have e1 : ((8 : Int) * ((L : Int) % 18446744073709551616)) % 18446744073709551616 = 8 * (L : Int) := by omega
    rw [e1]
    rw [← hpl]
    generalize hP0 : padZ (padN rest.length) = P0 at *
    have hP : P0.length ≤ 64 := by omega
    have hll : ∀ t, (lensL L t).length = t := fun t => by unfold lensL; simp
    have hpb : padB rest.length L = P0 ++ lensL L 8 := by unfold padB; rw [hP0]
    have hpb64 : (P0 ++ lensL L 8).length ≤ 100 := by rw [List.length_append, hll]; omega
    refine RunH.loop (α := Nat × (Option Addr × Nat)) (fun y => [(0, .av (.val (.pointer (some ⟨b, 0, none⟩)))), (2, .av (.box 2 m0 0)), (3, rowS 3 y.2.1 (P0 ++ lensL L y.1).length y.2.2), (4, .av (.val (.int .u64 (8 * (L : Int))))), (5, intE (56 - 8 * (y.1 : Int)))]) (fun y => [(0, swE b ws (.slice A rest.length c) L), (1, rowE kByte A c rest), (2, bsE m0 (outB ws 0)), (3, rowE kByte y.2.1 y.2.2 (P0 ++ lensL L y.1))])
      (fun y u => (K u ∧ Glob u) ∧ y.1 ≤ 8) (fun y => 8 - y.1) (0, (A2, c2)) (by show V.Sub [(0, .av (.val (.pointer (some ⟨b, 0, none⟩)))), (2, .av (.box 2 m0 0)), (3, rowS 3 A2 (P0 ++ []).length c2), (4, .av (.val (.int .u64 (8 * (L : Int))))), (5, intE (56 - 8 * ((0 : Nat) : Int)))] _; rw [List.append_nil]; rfl) (by show SubH [(0, swE b ws (.slice A rest.length c) L), (1, rowE kByte A c rest), (2, bsE m0 (outB ws 0)), (3, rowE kByte A2 c2 (P0 ++ []))] _; rw [List.append_nil]; rfl) (fun u hu => ⟨hu.1, Nat.zero_le _⟩) ?_
    rintro ⟨t, A3, c3⟩ m3
    refine RunH.pure (fun u hu => hu.2) fun ht => ?_
    dsimp only at ht ⊢
    by_cases hlt2 : t < 8
    · refine RunH.adv tb_ok [true] rfl rfl (by simp <;> omega) ?_
      rw [byte_raw L t hlt2]
      have hl1 := hll t
      refine RunH.appendK (κ := kByte) (id := 3) (l := P0 ++ lensL L t) (r := [byteL L t]) rfl rfl rfl rfl rfl rfl elt_byte rfl rfl (fun u hu => hu.liesRow (κ := kByte) (l := [byteL L t]) (id := 4) rfl (by simp [hl])) (by rw [List.length_append, hll]; simp; omega) (by rw [List.length_append, hll]; simp; omega) ?_
      intro A4 c4 m4 hm4
      rw [List.append_assoc, lensL_snoc]
      refine RunH.adv tb_ok [] rfl rfl (by simp <;> omega) ?_
      refine RunH.again (t + 1, (A4, c4)) (.head _) ?_ rfl (by show 8 - (t + 1) < 8 - t; omega) fun u hu => ⟨hu.1, hlt2⟩
      have e : (56 : Int) - 8 * ((t + 1 : Nat) : Int) = 56 - 8 * (t : Int) - 8 := by omega
      simp only [e]
      rfl
    · have ht8 : t = 8 := by omega
      subst ht8
      refine RunH.adv tb_ok [false] rfl rfl (by simp <;> omega) ?_
      refine RunH.doesB [(0, 0), (1, 1)] 6 (hc := Tryz.call141) (ho := rfl) (hw := rfl) (hd := rfl) (hf := rfl) (hes := rfl) (hσ := rfl) (hn := rfl) (hV := fun _ => rfl) (hG := fun _ => rfl) (e := fun _ : Option Addr × Nat => .av (.val (.tuple #[]))) (hC := put_spec b ws h8 A c L rest A3 c3 (P0 ++ lensL L 8) (by omega)) (hp := fun u hu => ⟨hu.fact.1.2, Sl.own (B := B0) (hu.row (κ := kByte) (id := 3) (l := P0 ++ lensL L 8) rfl) (by omega)⟩) ?_
      rintro ⟨A5, c5⟩ m5 hm5
      refine RunH.drop ?_
      have hend : endW ws rest L = digW (blocksW ws (rest ++ (P0 ++ lensL L 8)) ((rest ++ (P0 ++ lensL L 8)).length / 64)) := by unfold endW; rw [hpb]
      rw [hend]
      have hw18 := blocksW_len (ws := ws) (rest ++ (P0 ++ lensL L 8)) ((rest ++ (P0 ++ lensL L 8)).length / 64) h8
      generalize blocksW ws (rest ++ (P0 ++ lensL L 8)) ((rest ++ (P0 ++ lensL L 8)).length / 64) = W1 at *
      generalize tailB (rest ++ (P0 ++ lensL L 8)) = tl at *
      refine RunH.adv tb_ok [] rfl rfl (by simp <;> omega) ?_
      refine RunH.loop (α := Nat) (fun i => [(0, .av (.val (.pointer (some ⟨b, 0, none⟩)))), (2, .av (.box 2 m0 0)), (46, intE i)]) (fun i => [(0, swE b W1 (.slice A5 tl.length c5) L), (2, bsE m0 (outB W1 i))]) (fun i u => K u ∧ i ≤ 32) (fun i => 32 - i) 0 rfl rfl (fun u hu => ⟨hu.1.1, Nat.zero_le _⟩) ?_
      intro i m6
      refine RunH.pure (fun u hu => hu.2) fun hi => ?_
      have hol := outB_len W1 i
      by_cases hlt3 : i < 32
      · have hnext : (outB W1 i).set i (byteW W1 i) = outB W1 (i + 1) := rfl
        refine RunH.adv tb_ok [true] rfl rfl (by simp <;> omega) ?_
        refine RunH.loadS (u32E (gW W1 (i / 4))) rfl rfl rfl rfl (fun u hu => ?_) ?_
        · have h1 := load_swI (hu.holds 0 _ rfl).2 hw18 (i := i / 4) (by omega)
          have e : (((i : Nat) : Int) / 4).toNat = i / 4 := by omega
          rw [← e] at h1
          rw [show gW W1 (i / 4) = gW W1 (((i : Nat) : Int) / 4).toNat by rw [e]]
          exact h1
        refine RunH.adv tb_ok [] rfl rfl (by simp <;> omega) ?_
        refine RunH.storeB (id := 2) (l := outB W1 i) i (byteW W1 i) rfl rfl rfl rfl rfl (by omega) rfl (by unfold u8V; rw [← byteW_raw]; rfl) ?_
        intro m7 hm7
        rw [hnext]
        refine RunH.adv tb_ok [] rfl rfl (by simp <;> omega) ?_
        exact RunH.again (i + 1) (.head _) rfl rfl (by show 32 - (i + 1) < 32 - i; omega) fun u hu => ⟨hu.1, hlt3⟩
      · have hi32 : i = 32 := by omega
        subst hi32
        refine RunH.objBox (id := 2) [.val (sumV (digW W1))] rfl (by unfold boxCells sumV digW bsC; simp [flat, AV.v, Value.cells]) ⟨_, rfl, vok_sum _⟩ ?_
        refine RunH.adv tb_ok [false] rfl rfl (by simp) ?_
        exact RunH.retBox tb_ok (.av (.val (sumV (digW W1)))) Tryz.func142 rfl rfl rfl rfl fun w hst => ⟨(), rfl, hst.out [] rfl rfl fun u h => ⟨h.1, trivial⟩⟩
end Go.Proofs.YtbfjmimiigjenaaGreatDoor
namespace Go.Proofs.YtbfjmimiigjenaaGreatDoor
open Go V RowKit
def shaW (bytes : List UInt8) : Sum := endW (blocksW beginW bytes (bytes.length / 64)) (tailB bytes) bytes.length
theorem tailB_lt (l : List UInt8) : (tailB l).length < 64 := by unfold tailB; rw [List.length_drop]; omega
theorem V.RunH.storeLn {f : Fr} {n : Nat} {S : Stops} {R : Ending → World → Prop} {B0 : Nat} {I : World → Prop} {H : Heap} {nx m : Nat} {env : SEnv} {k : List Item} {ops : Array Oper} {i : Nat} {rs : List Nat} {ty : TypeId} {ps : String} {af : Array Edge} {gd : Option (Nat × Bool)} {px y : Operand} {pa : Addr} {ey : EV} {id b : Nat} {ws : List UInt32} {v : Value} {ln : Int} (h8 : ws.length = 8) (ln' : Int)
    (ho : ops.toList[i]? = some ⟨none, .store 3 px y, ty, ps, af, gd⟩) (hw : wantE env ops gd = .yes) (hx : ptrE (evE env px) = some pa) (hy : evE env y = some ey) (hH : lookH H id = swE b ws v ln) (hp : pa = ⟨b, 9, none⟩) (hv : ey.v = intV ln')
    (hk : ∀ m', m ≤ m' → RunH Tryz.prog f n tb B0 S R (.inRegion ops rs :: k) env ((id, swE b ws v ln') :: H) nx m' I) : RunH Tryz.prog f n tb B0 S R (.inRegion ops (i :: rs) :: k) env H nx m I :=
  RunH.storeS _ ho hw hx hy (fun w _ hst => by rw [hv, hp]; exact store_swL h8 hst hH ln') hk
set_option maxRecDepth 10000 in
theorem Of_spec (w : World) (hG : Glob w) (A : Option Addr) (c : Nat) (bytes : List UInt8) (hb : Sl kByte w A c bytes) (hn : bytes.length ≤ 1000000) : Gives Tryz.prog 78 [.slice A bytes.length c] w (.av (.val (sumV (shaW bytes)))) := by
  have hl : lim = 140737488351232 := rfl
  refine enterH tb_ok [(0, slE A bytes.length c)] Tryz.func78 rfl Tryz.ntmps78 rfl rfl ?_
  refine RunH.adv tb_ok [] rfl rfl ?_ ?_
  · first | exact ⟨⟨rfl, List.all_eq_true.1 (by kernel_rfl)⟩, trivial⟩ | (simp; done)
  refine RunH.gives (ho := rfl) (hw := rfl) (hd := rfl) (hf := rfl) (hes := rfl) (hc := Tryz.call140) (e := newE) (hC := fun u hu => New_spec u (hG.ext hu.fact)) ?_
  intro m1 hm1
  refine RunH.adv tb_ok [] rfl rfl ?_ ?_
  · first | trivial
  refine RunH.read (.st [.val (.agg (swC beginW (.slice none 0 0) 0))]) rfl rfl rfl rfl (fun u q _ ha => ?_) ?_
  · have h1 : q.eval (.tmp 4) = newE.v := ev_run (e := newE) ha rfl
    have hb : (Instr.build 231 #[(0, newE.v)]).run Tryz.prog u = .ok (EV.st [.val (.agg (swC beginW (.slice none 0 0) 0))]).v u := by
      refine run_build u _ _ _ ?_
      kernel_rfl
    simp only [execOp, List.map_toArray, List.map_cons, List.map_nil, h1, hb, Sem.run_bind, Result.andThen_ok, Sem.run_pure]
  refine RunH.adv tb_ok [] rfl rfl ?_ ?_
  · first | trivial
  refine RunH.boxObj (id := 1) (swC beginW (.slice none 0 0) 0) rfl (by unfold boxCells; simp [flat, AV.v, Value.cells]) ?_
  refine RunH.storeLn (id := 1) (ws := beginW) rfl bytes.length rfl rfl rfl rfl rfl rfl rfl ?_
  intro m2 hm2
  refine RunH.adv tb_ok [] rfl rfl (by simp <;> omega) ?_
  refine RunH.nilrow 2 kByte.T kByte.sz 3 ?_
  refine RunH.doesB [(0, 1), (1, 2)] 4 (hc := Tryz.call141) (ho := rfl) (hw := rfl) (hd := rfl) (hf := rfl) (hes := rfl) (hσ := rfl) (hn := rfl) (hV := fun _ => rfl) (hG := fun _ => rfl) (e := fun _ : Option Addr × Nat => .av (.val (.tuple #[]))) (hC := put_spec m1 beginW rfl none 0 bytes.length [] A c bytes (by simpa using hn)) (hp := fun u hu => ⟨hG.ext hu.fact, hb.ext hu.fact⟩) ?_
  rintro ⟨A1, c1⟩ m3 hm3
  refine RunH.drop ?_
  have hw8 := blocksW_len (ws := beginW) ([] ++ bytes) (([] ++ bytes).length / 64) rfl
  have hsh : shaW bytes = endW (blocksW beginW ([] ++ bytes) (([] ++ bytes).length / 64)) (tailB ([] ++ bytes)) bytes.length := rfl
  rw [hsh]
  have htl := tailB_lt ([] ++ bytes)
  generalize blocksW beginW ([] ++ bytes) (([] ++ bytes).length / 64) = W1 at *
  generalize tailB ([] ++ bytes) = tl at *
  refine RunH.adv tb_ok [] rfl rfl (by simp <;> omega) ?_
  refine RunH.doesB [(0, 1), (1, 2)] 5 (hc := Tryz.call142) (ho := rfl) (hw := rfl) (hd := rfl) (hf := rfl) (hes := rfl) (hσ := rfl) (hn := rfl) (hV := fun _ => rfl) (hG := fun _ => rfl) (e := fun _ : Unit => .av (.val (sumV (endW W1 tl bytes.length)))) (hC := end_spec m1 W1 hw8 A1 c1 bytes.length tl hn htl) (hp := fun u hu => hG.ext hu.fact) ?_
  rintro ⟨⟩ m4 hm4
  refine RunH.drop ?_
  refine RunH.adv tb_ok [] rfl rfl (by simp) ?_
  exact RunH.retBox tb_ok (.av (.val (sumV (endW W1 tl bytes.length)))) Tryz.func78 rfl rfl rfl rfl fun u hu => ⟨rfl, hu.fact⟩
end Go.Proofs.YtbfjmimiigjenaaGreatDoor
namespace Go.Proofs.YtbfjmimiigjenaaGreatDoor
open Go V RowKit
section
variable {n : Nat} {B0 : Nat} {I : World → Prop} {H : Heap} {m : Nat} {env : SEnv}
theorem strCells_flat (t : Str) : Lib.strCells ⟨⟨t⟩⟩ = t.flatMap kByte.cs := by
  unfold Lib.strCells
  show t.map (fun b => Value.int .u8 b.toNat) = _
  induction t with
  | nil => rfl
  | cons x r ih => rw [List.map_cons, List.flatMap_cons, ih]; rfl
end
end Go.Proofs.YtbfjmimiigjenaaGreatDoor
namespace Go.Proofs.YtbfjmimiigjenaaGreatDoor
open Go V RowKit
structure Com where
  root : Sum
  ps : Row Sum
  note : Str
def Com.ev (x : Com) : EV := .st [.val (sumV x.root), x.ps.av, .val (strV x.note)]
theorem map_flat (l : List UInt8) : l.map u8V = l.flatMap kByte.cs := by
  induction l with
  | nil => rfl
  | cons x r ih => rw [List.map_cons, List.flatMap_cons, ih]; rfl
theorem slice_all (w : World) (a o : Nat) : (Instr.sliceAt 40 (.pointer (some ⟨a, o, none⟩)) none none none).run Tryz.prog w = .ok (.slice (some ⟨a, o, none⟩) 32 32) w := by
  have h1 : (underlying 40).run Tryz.prog w = .ok (.array 32 5) w := run_underlying (tb_ok.und rfl) w
  have h2 : (sizeOf 5).run Tryz.prog w = .ok 1 w := run_tsize tb_ok (i := Tryz.t5) rfl
  simp [Instr.sliceAt, Instr.sliceBounds, Instr.sliceBound, h1, h2, asIntOf, Instr.sureAddr, Addr.add_lit]
end Go.Proofs.YtbfjmimiigjenaaGreatDoor
