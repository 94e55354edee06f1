/-
A part of the proofs of the laws of a seat: contracts of functions and lemmas on them; the listed package variables hold what the program's text lays. No further condition.
-/
import Derived.Test.YtagnkcdhenilbaaGreatDoorKPG1
import Derived.Test.YtagnkcdhenilbaaGreatDoorKPW7
import Derived.Test.YtagnkcdhenilbaaGreatDoorKPC7
set_option linter.unusedVariables false
set_option linter.unusedSectionVars false
set_option linter.unusedSimpArgs false
namespace Go.Proofs.YtagnkcdhenilbaaGreatDoor
open Go V RowKit

set_option maxRecDepth 10000 in
theorem ended_spec (w : World) (ws : List UInt32) (h8 : ws.length = 8) (A : Option Addr) (c : Nat) (rest : List UInt8) (hr : Sl kByte w A c rest) (hn : rest.length < 64) (L : Nat) (hL : L ≤ 1000000) :
    Gives Tryz.prog 168 [wsV ws, .slice A rest.length c, intV L] w (.av (.val (sumV (endW ws rest L)))) := by
  have hl : lim = 140737488351232 := rfl
  have hpn := padN_lt rest.length
  refine enterH tb_ok [(0, .av (.val (wsV ws))), (1, slE A rest.length c), (2, intE L)] Tryz.func168 rfl Tryz.ntmps168 rfl rfl ?_
  refine RunH.adv tb_ok [] rfl rfl ⟨⟨rfl, List.all_eq_true.1 (by kernel_rfl)⟩, ⟨by unfold wsC; simp [h8]; rfl, wsC_one ws⟩, trivial⟩ ?_
  refine RunH.appendK (κ := kByte) (id := 2) (r := rest) (l := []) rfl rfl rfl rfl rfl rfl elt_byte rfl rfl (fun u hu => (hr.ext hu.fact).lies) (by simp; omega) (by simp; omega) ?_
  intro A1 c1 m1 hm1
  refine RunH.adv tb_ok [] rfl rfl (by simp <;> omega) ?_
  refine RunH.appendK (κ := kByte) (id := 2) (r := [128]) (l := rest) rfl rfl rfl rfl rfl rfl elt_byte rfl rfl (fun u hu => hu.liesRow (κ := kByte) (l := [128]) (id := 3) rfl (by simp [hl])) (by simp; omega) (by simp; omega) ?_
  intro A2 c2 m2 hm2
  refine RunH.adv tb_ok [] rfl rfl (by simp <;> omega) ?_
  refine RunH.loop (α := Nat × (Option Addr × Nat)) (fun y => [(3, .av (.box 0 w.heap.size 0)), (6, .av (.box 1 (w.heap.size + 1) 0)), (2, intE L), (7, rowS 2 y.2.1 (rest ++ padZ y.1).length y.2.2)]) (fun y => [(0, some (.box w.heap.size [.val (wsV ws)] 201)), (1, some (.box (w.heap.size + 1) [.val (sumV Sum.zero)] 39)), (2, rowE kByte y.2.1 y.2.2 (rest ++ padZ y.1))])
    (fun y u => Ext w u ∧ y.1 ≤ padN rest.length) (fun y => padN rest.length - y.1) (0, (A2, c2)) rfl rfl (fun u hu => ⟨hu, Nat.zero_le _⟩) ?_
  rintro ⟨j, A3, c3⟩ m3
  refine RunH.pure (fun u hu => hu.2) fun hj => ?_
  dsimp only at hj ⊢
  have hpl : (rest ++ padZ j).length = rest.length + (1 + j) := by rw [List.length_append, padZ_len]
  by_cases hlt : j < padN rest.length
  · have hne := padN_at rest.length j hlt
    have hsn : (rest ++ padZ j) ++ [0] = rest ++ padZ (j + 1) := by rw [List.append_assoc, padZ_snoc]
    rw [hpl]
    refine RunH.adv tb_ok [true] rfl rfl (by simp <;> omega) ?_
    refine RunH.appendK (κ := kByte) (id := 2) (l := rest ++ padZ j) (r := [0]) rfl rfl rfl rfl hpl.symm rfl elt_byte rfl rfl (fun u hu => hu.liesRow (κ := kByte) (l := [0]) (id := 4) rfl (by simp [hl])) (by rw [hpl]; simp; omega) (by rw [hpl]; simp; omega) ?_
    intro A4 c4 m4 hm4
    rw [hsn]
    refine RunH.adv tb_ok [] rfl rfl (by simp <;> omega) ?_
    exact RunH.again (j + 1, (A4, c4)) (.head _) rfl rfl (by show padN rest.length - (j + 1) < padN rest.length - j; omega) fun u hu => ⟨hu.1, hlt⟩
  · have hj' : j = padN rest.length := by omega
    subst hj'
    have heq := padN_end rest.length
    rw [hpl]
    refine RunH.adv tb_ok [false] rfl rfl (by simp <;> omega) ?_
    rw [← hpl]
    have hb : ∀ b, b = rest ++ padZ (padN rest.length) ++ lensL L 8 → endW ws rest L = digW (blocksW ws b (b.length / 64)) := by
      rintro b rfl
      unfold endW padB
      rw [List.append_assoc]
    generalize hP0 : rest ++ padZ (padN rest.length) = P0 at *
    have hP : P0.length ≤ 200 := by omega
    have hll : ∀ t, (lensL L t).length = t := fun t => by unfold lensL; simp
    refine RunH.loop (α := Nat × (Option Addr × Nat)) (fun y => [(3, .av (.box 0 w.heap.size 0)), (6, .av (.box 1 (w.heap.size + 1) 0)), (2, intE L), (7, rowS 2 y.2.1 (P0 ++ lensL L y.1).length y.2.2), (8, intE (7 - (y.1 : Int)))]) (fun y => [(0, some (.box w.heap.size [.val (wsV ws)] 201)), (1, some (.box (w.heap.size + 1) [.val (sumV Sum.zero)] 39)), (2, rowE kByte y.2.1 y.2.2 (P0 ++ lensL L y.1))])
      (fun y u => Ext w u ∧ y.1 ≤ 8) (fun y => 8 - y.1) (0, (A3, c3)) (by show V.Sub [(3, .av (.box 0 w.heap.size 0)), (6, .av (.box 1 (w.heap.size + 1) 0)), (2, intE L), (7, rowS 2 A3 (P0 ++ []).length c3), (8, intE (7 - ((0 : Nat) : Int)))] _; rw [List.append_nil]; rfl) (by show SubH [(0, some (.box w.heap.size [.val (wsV ws)] 201)), (1, some (.box (w.heap.size + 1) [.val (sumV Sum.zero)] 39)), (2, rowE kByte A3 c3 (P0 ++ []))] _; rw [List.append_nil]; rfl) (fun u hu => ⟨hu.1, Nat.zero_le _⟩) ?_
    rintro ⟨t, A4, c4⟩ m4
    refine RunH.pure (fun u hu => hu.2) fun ht => ?_
    dsimp only at ht ⊢
    have hpt : (P0 ++ lensL L t).length = P0.length + t := by rw [List.length_append, hll]
    by_cases hlt2 : t < 8
    · have hsn : (P0 ++ lensL L t) ++ [byteL L t] = P0 ++ lensL L (t + 1) := by rw [List.append_assoc, lensL_snoc]
      have e1 : (((L : Int) % 18446744073709551616) * 8) % 18446744073709551616 = 8 * (L : Int) := by omega
      have e2 : (8 : Int) * (7 - (t : Int)) = 56 - 8 * (t : Int) := by omega
      have hbr := byte_raw L t hlt2
      refine RunH.adv tb_ok [true] rfl rfl (by simp <;> omega) ?_
      rw [e1, e2, hbr]
      refine RunH.appendK (κ := kByte) (id := 2) (l := P0 ++ lensL L t) (r := [byteL L t]) rfl rfl rfl rfl rfl rfl elt_byte rfl rfl (fun u hu => hu.liesRow (κ := kByte) (l := [byteL L t]) (id := 4) rfl (by simp [hl])) (by rw [hpt]; simp; omega) (by rw [hpt]; simp; omega) ?_
      intro A5 c5 m5 hm5
      rw [hsn]
      refine RunH.adv tb_ok [] rfl rfl (by simp <;> omega) ?_
      refine RunH.again (t + 1, (A5, c5)) (.head _) ?_ rfl (by show 8 - (t + 1) < 8 - t; omega) fun u hu => ⟨hu.1, hlt2⟩
      have e : (7 : Int) - ((t + 1 : Nat) : Int) = 7 - (t : Int) - 1 := by omega
      simp only [e]
      rfl
    · have ht8 : t = 8 := by omega
      subst ht8
      have hbb := hb (P0 ++ lensL L 8) rfl
      rw [hbb]
      clear hb hbb
      have hb2 : (P0 ++ lensL L 8).length ≤ 300 := by rw [hpt]; omega
      have hw18 := blocksW_len (ws := ws) (P0 ++ lensL L 8) ((P0 ++ lensL L 8).length / 64) h8
      have hA := fun (u : World) (hs : Sl kByte u A4 c4 (P0 ++ lensL L 8)) => All_spec u ws h8 A4 c4 (P0 ++ lensL L 8) hs
      generalize P0 ++ lensL L 8 = b at *
      generalize blocksW ws b (b.length / 64) = W1 at *
      refine RunH.adv tb_ok [false] rfl rfl (by simp <;> omega) ?_
      refine RunH.gives (ho := rfl) (hw := rfl) (hd := rfl) (hf := rfl) (hes := rfl) (hc := Tryz.call166) (e := .av (.val (.tuple #[wsV W1, .slice (leftZ A4 c4 (b.length / 64)).1 (tailB b).length (leftZ A4 c4 (b.length / 64)).2]))) (hC := fun u hu => hA u (Sl.own (B := w.heap.size) (hu.row (κ := kByte) (l := b) (id := 2) rfl) (by omega))) ?_
      intro m5 hm5
      refine RunH.adv tb_ok [] rfl rfl ⟨⟨rfl, List.all_eq_true.1 (by kernel_rfl)⟩, ⟨by unfold wsC; simp [hw18]; rfl, wsC_one _⟩, trivial⟩ ?_
      refine RunH.boxObj (id := 0) (wsC W1) rfl (boxCells_ws _) ?_
      refine RunH.boxObj (id := 4) (bsC (outB W1 0)) rfl (by show boxCells [.val (.agg (bsC (List.replicate 32 0)))] = _; unfold boxCells; simp [flat, AV.v, Value.cells]; rfl) ?_
      refine RunH.loop (α := Nat) (fun i => [(3, .av (.box 0 w.heap.size 0)), (6, .av (.box 1 (w.heap.size + 1) 0)), (9, .av (.box 4 m5 0)), (10, intE i)]) (fun i => [(0, wsE w.heap.size 201 W1), (1, some (.box (w.heap.size + 1) [.val (sumV Sum.zero)] 39)), (4, bsE m5 (outB W1 i))]) (fun i u => Ext w u ∧ i ≤ 32) (fun i => 32 - i) 0 rfl rfl (fun u hu => ⟨hu.1, Nat.zero_le _⟩) ?_
      intro i m6
      refine RunH.pure (fun u hu => hu.2) fun hi => ?_
      have hol := outB_len W1 i
      by_cases hlt3 : i < 32
      · have hnext : (outB W1 i).set i (byteW W1 i) = outB W1 (i + 1) := rfl
        have hbw := byteW_raw2 W1 i
        refine RunH.adv tb_ok [true] rfl rfl (by simp <;> omega) ?_
        refine RunH.loadS (u32E (gW W1 (i / 4))) rfl rfl rfl rfl (fun u hu => load_wsAt (hu.holds 0 _ rfl).2 (i / 4) (by omega) _ (by show (((i : Nat) : Int) / 4).toNat * 1 = i / 4 * 1; omega)) ?_
        refine RunH.adv tb_ok [] rfl rfl (by simp <;> omega) ?_
        refine RunH.storeB (id := 4) (l := outB W1 i) i (byteW W1 i) rfl rfl rfl rfl rfl (by omega) rfl (by unfold u8V; rw [← hbw]; rfl) ?_
        intro m7 hm7
        rw [hnext]
        refine RunH.adv tb_ok [] rfl rfl (by simp <;> omega) ?_
        exact RunH.again (i + 1) (.head _) rfl rfl (by show 32 - (i + 1) < 32 - i; omega) fun u hu => ⟨hu.1, hlt3⟩
      · have hi32 : i = 32 := by omega
        subst hi32
        refine RunH.objBox (id := 4) [.val (sumV (digW W1))] rfl (by unfold boxCells sumV digW bsC; simp [flat, AV.v, Value.cells]) ⟨_, rfl, vok_sum _⟩ ?_
        refine RunH.adv tb_ok [false] rfl rfl (by simp [AllOb, Ob.P, sum_len, sz_sum, one_int, u8V_one]) ?_
        exact RunH.retBox tb_ok (.av (.val (sumV (digW W1)))) Tryz.func168 rfl rfl rfl rfl fun u hu => ⟨rfl, hu.fact.1⟩

theorem OfR_spec (w : World) (A : Option Addr) (c : Nat) (bytes : List UInt8) (hb : Sl kByte w A c bytes) (hn : bytes.length ≤ 1000000) : Gives Tryz.prog 128 [.slice A bytes.length c] w (.av (.val (sumV (shaW bytes)))) := by
  have hl : lim = 140737488351232 := rfl
  have hS := fun (u : World) (he : Ext w u) => leftZ_sl (hb.ext he) (bytes.length / 64) (by omega)
  have htl := tailB_lt bytes
  have hw8 := blocksW_len (ws := beginW) bytes (bytes.length / 64) rfl
  have hA := fun (u : World) (hs : Sl kByte u A c bytes) => All_spec u beginW rfl A c bytes hs
  have hsh : shaW bytes = endW (blocksW beginW bytes (bytes.length / 64)) (tailB bytes) bytes.length := rfl
  have htb : bytes.drop (64 * (bytes.length / 64)) = tailB bytes := rfl
  rw [hsh]
  rw [htb] at hS
  clear hsh htb
  generalize blocksW beginW bytes (bytes.length / 64) = W1 at *
  generalize tailB bytes = tl at *
  generalize leftZ A c (bytes.length / 64) = Z at *
  refine enterH tb_ok [(0, slE A bytes.length c)] Tryz.func128 rfl Tryz.ntmps128 rfl rfl ?_
  refine RunH.adv tb_ok [] rfl rfl ?_ ?_
  · first | exact ⟨⟨rfl, List.all_eq_true.1 (by kernel_rfl)⟩, trivial⟩ | (simp [AllOb, Ob.P, sum_len, sz_sum, one_int, u8V_one]; done)
  refine RunH.gives (ho := rfl) (hw := rfl) (hd := rfl) (hf := rfl) (hes := rfl) (hc := Tryz.call167) (e := .av (.val (wsV beginW))) (hC := fun u hu => First_spec u) ?_
  intro m1 hm1
  refine RunH.adv tb_ok [] rfl rfl (by simp <;> omega) ?_
  refine RunH.gives (ho := rfl) (hw := rfl) (hd := rfl) (hf := rfl) (hes := rfl) (hc := Tryz.call166) (e := .av (.val (.tuple #[wsV W1, .slice Z.1 tl.length Z.2]))) (hC := fun u hu => hA u (hb.ext hu.fact)) ?_
  intro m2 hm2
  refine RunH.adv tb_ok [] rfl rfl ⟨⟨by unfold wsC; simp [hw8]; rfl, wsC_one _⟩, ⟨rfl, List.all_eq_true.1 (by kernel_rfl)⟩, trivial⟩ ?_
  refine RunH.gives (ho := rfl) (hw := rfl) (hd := rfl) (hf := rfl) (hes := rfl) (hc := Tryz.call168) (e := .av (.val (sumV (endW W1 tl bytes.length)))) (hC := fun u hu => ended_spec u W1 hw8 Z.1 Z.2 tl (hS u hu.fact) htl bytes.length hn) ?_
  intro m3 hm3
  refine RunH.adv tb_ok [] rfl rfl (by simp [AllOb, Ob.P, sum_len, sz_sum, one_int, u8V_one]) ?_
  exact RunH.retBox tb_ok (.av (.val (sumV (endW W1 tl bytes.length)))) Tryz.func128 rfl rfl rfl rfl fun u hu => ⟨rfl, hu.fact⟩
end Go.Proofs.YtagnkcdhenilbaaGreatDoor

namespace Go.Proofs.YtagnkcdhenilbaaGreatDoor
open Go V RowKit
theorem indexR_spec (w : World) (A : Option Addr) (c : Nat) (l : List Sum) (h : Sl kSum w A c l) (x : Sum) : Gives Tryz.prog 134 [.slice A l.length c, sumV x] w (intE (idxOf (fun y => decide (x = y)) l 0)) := by
  have hl : lim = 140737488351232 := rfl
  have hsm := h.small
  refine enterH tb_ok [(0, slE A l.length c), (1, sumE x)] Tryz.func134 rfl Tryz.ntmps134 rfl rfl ?_
  refine RunH.adv tb_ok [] rfl rfl (by simp [AllOb, Ob.P, sum_len, sz_sum, one_int, u8V_one] <;> omega) ?_
  refine RunH.loop (α := Nat) (fun i => [(3, .av (.box 0 w.heap.size 0)), (7, slE A l.length c), (8, intE l.length), (9, intE i)]) (fun _ => [(0, some (.box w.heap.size [.val (sumV x)] 39))]) (fun i w' => Ext w w' ∧ i ≤ l.length ∧ (l.take i).any (fun y => decide (x = y)) = false) (fun i => l.length - i) 0
    rfl rfl (fun w' h => ⟨h, Nat.zero_le _, rfl⟩) ?_
  intro i m
  refine RunH.pure (fun w' h => h.2) fun ⟨hi, hpre⟩ => ?_
  by_cases hlt : i < l.length
  · have hts : l.take (i + 1) = l.take i ++ [l[i]] := List.take_succ_eq_append_getElem hlt
    refine RunH.adv tb_ok [true] rfl rfl (by simp [AllOb, Ob.P, sum_len, sz_sum, one_int, u8V_one, h.ptr hlt] <;> omega) ?_
    refine RunH.loadS (sumE l[i]) rfl rfl rfl rfl (fun w' h' => (h.ext h'.fact.1).load hlt) ?_
    refine RunH.adv tb_ok [] rfl rfl (by simp [AllOb, Ob.P, sum_len, sz_sum, one_int, u8V_one] <;> omega) ?_
    refine RunH.read (boolE (decide (l[i] = x))) rfl rfl rfl rfl (fun w' a h hag => op_eq hag rfl rfl rfl rfl rfl (by kernel_rfl) (eq_sum w' 9998 _ _)) ?_
    by_cases hp : x = l[i]
    · refine RunH.adv tb_ok [true] rfl rfl (by simp [hp] <;> omega) ?_
      refine RunH.ret1 Tryz.func134 rfl rfl fun w' hst => ⟨?_, hst.fact.1⟩
      rw [idxOf_at _ l 0 i hlt hpre (by simpa using hp), Nat.zero_add]
    · have hp2 : ¬ l[i] = x := fun e => hp e.symm
      refine RunH.adv tb_ok [false] rfl rfl (by simp [hp2] <;> omega) ?_
      refine RunH.again (i + 1) (.head _) rfl rfl (by omega) fun w' h => ⟨h.1, by omega, ?_⟩
      rw [hts, List.any_append, hpre]; simp [hp]
  · rw [List.take_of_length_le (by omega)] at hpre
    refine RunH.adv tb_ok [false] rfl rfl (by simp <;> omega) ?_
    refine RunH.ret1 Tryz.func134 rfl rfl fun w' hst => ⟨?_, hst.fact.1⟩
    rw [idxOf_none _ l 0 hpre]
theorem hasR_spec (w : World) (A : Option Addr) (c : Nat) (l : List Sum) (h : Sl kSum w A c l) (x : Sum) : Gives Tryz.prog 127 [.slice A l.length c, sumV x] w (boolE (hasD l x)) := by
  refine enterH tb_ok [(0, slE A l.length c), (1, sumE x)] Tryz.func127 rfl Tryz.ntmps127 rfl rfl ?_
  refine RunH.adv tb_ok [] rfl rfl (by simp [AllOb, Ob.P, sum_len, sz_sum, one_int, u8V_one] <;> omega) ?_
  refine RunH.gives (intE (idxOf (fun y => decide (x = y)) l 0)) rfl rfl rfl rfl rfl Tryz.call134 (fun w' hst => indexR_spec w' A c l (h.ext hst.fact) x) ?_
  intro m' hm'
  refine RunH.adv tb_ok [] rfl rfl (by simp <;> omega) ?_
  refine RunH.ret1 Tryz.func127 rfl rfl fun w' hst => ⟨?_, hst.fact⟩
  have : decide (0 ≤ idxOf (fun y => decide (x = y)) l 0) = hasD l x := by rw [Bool.eq_iff_iff]; simp only [decide_eq_true_eq]; exact idxOf_ge _ l 0
  simp [this, EV.v, AV.v]
theorem lies_root {B0 : Nat} {H : Heap} {I : World → Prop} {u : World} {b i : Nat} {root : Sum} {a : Value} {t : Value} {T : TypeId} (hu : St tb B0 H I u) (hH : lookH H i = some (.box b [.val (sumV root), .val a, .val t] T)) : Lies u (some ⟨b, 0, none⟩) 32 (root.l.flatMap kByte.cs) := by
  refine ⟨nofun, fun _ => rfl, ?_⟩
  refine range_take (n := 32) (hu.holds i _ hH).2.1 ?_
  show ((boxCells [.val (sumV root), .val a, .val t]).toList.drop 0).take 32 = _
  unfold boxCells sumV
  simp [flat, AV.v, Value.cells, root.h]
  rw [← map_flat]
set_option maxRecDepth 10000 in
set_option maxHeartbeats 1000000 in
theorem CommitR_spec (w : World) (x : Com) (hp : Sl kSum w x.ps.A x.ps.c x.ps.l) : Gives Tryz.prog 57 [x.ev.v] w (.av (.val (.tuple #[sumV (comS x.root x.ps.l x.note), intV (comE x.ps.l x.note)]))) := by
  have hl : lim = 140737488351232 := rfl
  have hsm := hp.small
  obtain ⟨root, ⟨PA, pc, ps⟩, note⟩ := x
  dsimp only at hp hsm ⊢
  refine enterH tb_ok [(0, .st [.val (sumV root), .val (.slice PA ps.length pc), .val (strV note)])] Tryz.func57 rfl Tryz.ntmps57 rfl rfl ?_
  generalize hre : comE ps note = e
  unfold comS
  rw [hre]
  have hE := hre.symm
  unfold comE at hE
  by_cases h1 : 4 < ps.length
  · rw [if_pos h1] at hE
    refine RunH.adv tb_ok [true] rfl rfl (by simp [AllOb, Ob.P, sum_len, sz_sum, one_int, u8V_one, h1] <;> omega) ?_
    refine RunH.read (sumE Sum.zero) rfl rfl rfl rfl (fun w' a _ hag => ?_) ?_
    · simp only [execOp, List.map_toArray, List.map_nil, build_zero, Sem.run_bind, Result.andThen_ok, Sem.run_pure]
      rfl
    refine RunH.adv tb_ok [] rfl rfl (by simp [AllOb, Ob.P, sum_len, sz_sum, one_int, u8V_one] <;> omega) ?_
    exact RunH.retBoxT tb_ok (sumE Sum.zero) Tryz.func57 rfl rfl rfl rfl rfl fun w' hst => ⟨by rw [hE, if_neg (by decide)]; rfl, hst.fact⟩
  · rw [if_neg h1] at hE
    refine RunH.adv tb_ok [false] rfl rfl (by simp [AllOb, Ob.P, sum_len, sz_sum, one_int, u8V_one, h1] <;> omega) ?_
    by_cases h2 : 200 < note.length
    · rw [if_pos h2] at hE
      refine RunH.adv tb_ok [true] rfl rfl (by simp [AllOb, Ob.P, sum_len, sz_sum, one_int, u8V_one, h2] <;> omega) ?_
      refine RunH.read (sumE Sum.zero) rfl rfl rfl rfl (fun w' a _ hag => ?_) ?_
      · simp only [execOp, List.map_toArray, List.map_nil, build_zero, Sem.run_bind, Result.andThen_ok, Sem.run_pure]
        rfl
      refine RunH.adv tb_ok [] rfl rfl (by simp [AllOb, Ob.P, sum_len, sz_sum, one_int, u8V_one] <;> omega) ?_
      exact RunH.retBoxT tb_ok (sumE Sum.zero) Tryz.func57 rfl rfl rfl rfl rfl fun w' hst => ⟨by rw [hE, if_neg (by decide)]; rfl, hst.fact⟩
    · rw [if_neg h2] at hE
      refine RunH.adv tb_ok [false] rfl rfl (by simp [AllOb, Ob.P, sum_len, sz_sum, one_int, u8V_one, h2] <;> omega) ?_
      have hbyte : ((ps.length : Int) % 256) = ((UInt8.ofNat ps.length).toNat : Int) := by rw [UInt8.toNat_ofNat']; omega
      apply RunH.joinK (α := Option Addr × Nat) (fun z => [(1, .av (.box 0 w.heap.size 0)), (2, .av (.box 1 (w.heap.size + 1) 0)), (3, intE 0), (4, rowS 50 z.1 (root.l ++ [UInt8.ofNat ps.length]).length z.2)]) (fun z => [(0, some (.box w.heap.size [.val (sumV root), .val (.slice PA ps.length pc), .val (strV note)] 73)), (1, some (.box (w.heap.size + 1) [.val (sumV Sum.zero)] 39)), (50, rowE kByte z.1 z.2 (root.l ++ [UInt8.ofNat ps.length]))]) (fun _ u => Ext w u)
      · refine RunH.draw rfl [(0, some (.box w.heap.size [.val (sumV root), .val (.slice PA ps.length pc), .val (strV note)] 73))] rfl 11 rfl rfl ?_
        refine RunD.adv tb_ok (by kernel_rfl) [] rfl rfl (by simp <;> omega) ?_
        refine RunD.read (by kernel_rfl) (i := 2) (.av (.val (.slice (some ⟨w.heap.size, 0, none⟩) 32 32))) rfl rfl rfl rfl rfl rfl (fun u q _ ha => ?_) ?_
        · have e1 : q.eval (.tmp 18) = .pointer (some ⟨w.heap.size, 0, none⟩) := ev_run (e := .av (.box 0 w.heap.size 0)) ha rfl
          simp only [execOp, e1, Option.map_none, slice_all, Sem.run_bind, Result.andThen_ok, Sem.run_pure]
          rfl
        refine RunD.adv tb_ok (by kernel_rfl) [] rfl rfl (by simp <;> omega) ?_
        refine RunD.two (i := 0) (j := 8) (by kernel_rfl) ?_ ?_
        · refine opD_step tb_ok (nx := 50) (i := 0) rfl rfl rfl rfl ?_ rfl (fun _ h => h) ⟨rfl, rfl⟩ ?_
          · first | trivial | (simp [AllOb, Ob.P, sum_len, sz_sum, one_int, u8V_one]; done)
          refine RunD.adv tb_ok (by kernel_rfl) [] rfl rfl (by simp <;> omega) ?_
          refine RunD.two (i := 3) (j := 8) (by kernel_rfl) ?_ ?_
          · refine opD_appendK (nx := 70) (i := 3) (κ := kByte) (id := 50) (r := root.l) (l := []) (A2 := some ⟨w.heap.size, 0, none⟩) (c2 := 32) rfl rfl rfl rfl rfl rfl elt_byte rfl (by rw [root.h]; rfl) (fun u hu => lies_root hu (i := 0) rfl) (by simp only [root.h, List.length_append, List.length_nil, List.length_singleton] <;> omega) (by simp only [root.h, List.length_append, List.length_nil, List.length_singleton] <;> omega) (fun _ _ => rfl) (fun _ h => h) ?_
            intro A1 c1 m3 hm3
            refine RunD.adv tb_ok (by kernel_rfl) [] rfl rfl (by simp <;> omega) ?_
            refine RunD.step tb_ok (nx := 58) (i := 8) rfl (by kernel_rfl) rfl rfl rfl ?_ rfl (fun _ h => h) ⟨rfl, rfl⟩ ?_
            · first | trivial | (simp [AllOb, Ob.P, sum_len, sz_sum, one_int, u8V_one]; done)
            refine RunD.adv tb_ok (by kernel_rfl) [] rfl rfl (by simp <;> omega) ?_
            refine RunD.appendK (nx := 70) (i := 9) (κ := kByte) (id := 50) (r := [UInt8.ofNat ps.length]) (l := root.l)  rfl (by kernel_rfl) rfl rfl rfl rfl rfl elt_byte rfl rfl (fun u hu => hu.liesRow (id := 58) (κ := kByte) (l := [UInt8.ofNat ps.length]) (by rw [hbyte]; rfl) (by simp [hl])) (by simp only [root.h, List.length_append, List.length_nil, List.length_singleton] <;> omega) (by simp only [root.h, List.length_append, List.length_nil, List.length_singleton] <;> omega) (fun _ _ => rfl) (fun _ h => h) ?_
            intro A2 c2 m9 hm9
            refine RunD.adv tb_ok (by kernel_rfl) [] rfl rfl (by simp <;> omega) ?_
            refine RunD.done (.inl rfl) (by kernel_rfl) ?_
            refine RunH.meetS (A2, c2) [(50, 50)] (.head _) rfl rfl rfl fun _ h => h
          · refine opD_step tb_ok (nx := 58) (i := 8) rfl rfl rfl rfl ?_ rfl (fun _ h => h) ⟨rfl, rfl⟩ ?_
            · first | trivial | (simp [AllOb, Ob.P, sum_len, sz_sum, one_int, u8V_one]; done)
            refine RunD.adv tb_ok (by kernel_rfl) [] rfl rfl (by simp <;> omega) ?_
            refine RunD.appendK (nx := 70) (i := 3) (κ := kByte) (id := 50) (r := root.l) (l := []) (A2 := some ⟨w.heap.size, 0, none⟩) (c2 := 32) rfl (by kernel_rfl) rfl rfl rfl rfl rfl elt_byte rfl (by rw [root.h]; rfl) (fun u hu => lies_root hu (i := 0) rfl) (by simp only [root.h, List.length_append, List.length_nil, List.length_singleton] <;> omega) (by simp only [root.h, List.length_append, List.length_nil, List.length_singleton] <;> omega) (fun _ _ => rfl) (fun _ h => h) ?_
            intro A1 c1 m3 hm3
            refine RunD.adv tb_ok (by kernel_rfl) [] rfl rfl (by simp <;> omega) ?_
            refine RunD.appendK (nx := 70) (i := 9) (κ := kByte) (id := 50) (r := [UInt8.ofNat ps.length]) (l := root.l)  rfl (by kernel_rfl) rfl rfl rfl rfl rfl elt_byte rfl rfl (fun u hu => hu.liesRow (id := 58) (κ := kByte) (l := [UInt8.ofNat ps.length]) (by rw [hbyte]; rfl) (by simp [hl])) (by simp only [root.h, List.length_append, List.length_nil, List.length_singleton] <;> omega) (by simp only [root.h, List.length_append, List.length_nil, List.length_singleton] <;> omega) (fun _ _ => rfl) (fun _ h => h) ?_
            intro A2 c2 m9 hm9
            refine RunD.adv tb_ok (by kernel_rfl) [] rfl rfl (by simp <;> omega) ?_
            refine RunD.done (.inl rfl) (by kernel_rfl) ?_
            refine RunH.meetS (A2, c2) [(50, 50)] (.head _) rfl rfl rfl fun _ h => h
        · refine opD_step tb_ok (nx := 58) (i := 8) rfl rfl rfl rfl ?_ rfl (fun _ h => h) ⟨rfl, rfl⟩ ?_
          · first | trivial | (simp [AllOb, Ob.P, sum_len, sz_sum, one_int, u8V_one]; done)
          refine RunD.adv tb_ok (by kernel_rfl) [] rfl rfl (by simp <;> omega) ?_
          refine RunD.step tb_ok (nx := 50) (i := 0) rfl (by kernel_rfl) rfl rfl rfl ?_ rfl (fun _ h => h) ⟨rfl, rfl⟩ ?_
          · first | trivial | (simp [AllOb, Ob.P, sum_len, sz_sum, one_int, u8V_one]; done)
          refine RunD.adv tb_ok (by kernel_rfl) [] rfl rfl (by simp <;> omega) ?_
          refine RunD.appendK (nx := 70) (i := 3) (κ := kByte) (id := 50) (r := root.l) (l := []) (A2 := some ⟨w.heap.size, 0, none⟩) (c2 := 32) rfl (by kernel_rfl) rfl rfl rfl rfl rfl elt_byte rfl (by rw [root.h]; rfl) (fun u hu => lies_root hu (i := 0) rfl) (by simp only [root.h, List.length_append, List.length_nil, List.length_singleton] <;> omega) (by simp only [root.h, List.length_append, List.length_nil, List.length_singleton] <;> omega) (fun _ _ => rfl) (fun _ h => h) ?_
          intro A1 c1 m3 hm3
          refine RunD.adv tb_ok (by kernel_rfl) [] rfl rfl (by simp <;> omega) ?_
          refine RunD.appendK (nx := 70) (i := 9) (κ := kByte) (id := 50) (r := [UInt8.ofNat ps.length]) (l := root.l)  rfl (by kernel_rfl) rfl rfl rfl rfl rfl elt_byte rfl rfl (fun u hu => hu.liesRow (id := 58) (κ := kByte) (l := [UInt8.ofNat ps.length]) (by rw [hbyte]; rfl) (by simp [hl])) (by simp only [root.h, List.length_append, List.length_nil, List.length_singleton] <;> omega) (by simp only [root.h, List.length_append, List.length_nil, List.length_singleton] <;> omega) (fun _ _ => rfl) (fun _ h => h) ?_
          intro A2 c2 m9 hm9
          refine RunD.adv tb_ok (by kernel_rfl) [] rfl rfl (by simp <;> omega) ?_
          refine RunD.done (.inl rfl) (by kernel_rfl) ?_
          refine RunH.meetS (A2, c2) [(50, 50)] (.head _) rfl rfl rfl fun _ h => h
      · rintro ⟨A1, c1⟩ m4
        have hb0 : (root.l ++ [UInt8.ofNat ps.length]).length = 33 := by rw [List.length_append, root.h]; rfl
        have hcB : comB root ps note = (root.l ++ [UInt8.ofNat ps.length]) ++ ps.flatMap Sum.l ++ note := rfl
        generalize root.l ++ [UInt8.ofNat ps.length] = b0 at *
        have hfl : ∀ l : List Sum, (l.flatMap Sum.l).length = 32 * l.length := by
          intro l
          induction l with
          | nil => rfl
          | cons q r ih => rw [List.flatMap_cons, List.length_append, ih, q.h, List.length_cons]; omega
        refine RunH.toNx 51 ?_
        refine RunH.adv tb_ok [] rfl rfl (by simp <;> omega) ?_
        refine RunH.loop (α := Nat × (Option Addr × Nat)) (fun y => [(1, .av (.box 0 w.heap.size 0)), (2, .av (.box 1 (w.heap.size + 1) 0)), (3, intE 0), (28, slE PA ps.length pc), (29, intE ps.length), (30, intE y.1), (4, rowS 50 y.2.1 (b0 ++ (ps.take y.1).flatMap Sum.l).length y.2.2)])
          (fun y => [(0, some (.box w.heap.size [.val (sumV root), .val (.slice PA ps.length pc), .val (strV note)] 73)), (1, some (.box (w.heap.size + 1) [.val (sumV Sum.zero)] 39)), (50, rowE kByte y.2.1 y.2.2 (b0 ++ (ps.take y.1).flatMap Sum.l))]) (fun y u => Ext w u ∧ y.1 ≤ ps.length ∧ ((List.range y.1).any fun i => hasD (ps.take i) (ps.getD i Sum.zero)) = false) (fun y => ps.length - y.1) (0, (A1, c1))
          (by show V.Sub [(1, .av (.box 0 w.heap.size 0)), (2, .av (.box 1 (w.heap.size + 1) 0)), (3, intE 0), (28, slE PA ps.length pc), (29, intE ps.length), (30, intE ((0 : Nat) : Int)), (4, rowS 50 A1 (b0 ++ []).length c1)] _; rw [List.append_nil]; rfl)
          (by show SubH [(0, some (.box w.heap.size [.val (sumV root), .val (.slice PA ps.length pc), .val (strV note)] 73)), (1, some (.box (w.heap.size + 1) [.val (sumV Sum.zero)] 39)), (50, rowE kByte A1 c1 (b0 ++ []))] _; rw [List.append_nil]; rfl) (fun u hu => ⟨hu, Nat.zero_le _, rfl⟩) ?_
        rintro ⟨i, A2, c2⟩ m5
        refine RunH.pure (fun u hu => hu.2) fun ⟨hi, hno⟩ => ?_
        dsimp only at hi hno ⊢
        have hti := hfl (ps.take i)
        rw [List.length_take] at hti
        by_cases hlt : i < ps.length
        · have hts : ps.take (i + 1) = ps.take i ++ [ps[i]] := List.take_succ_eq_append_getElem hlt
          have hfm : b0 ++ (ps.take (i + 1)).flatMap Sum.l = (b0 ++ (ps.take i).flatMap Sum.l) ++ ps[i].l := by rw [hts, List.flatMap_append, ← List.append_assoc]; simp
          have hqh := ps[i].h
          have hgd : ps.getD i Sum.zero = ps[i] := by rw [List.getD_eq_getElem?_getD, List.getElem?_eq_getElem hlt]; rfl
          have htk : (ps.take i).length = i := by rw [List.length_take]; omega
          have hcap := hp.cap
          refine RunH.adv tb_ok [true] rfl rfl (by simp [AllOb, Ob.P, sum_len, sz_sum, one_int, u8V_one, hp.ptr hlt] <;> omega) ?_
          refine RunH.loadS (sumE ps[i]) rfl rfl rfl rfl (fun u hu => (hp.ext hu.fact.1).load hlt) ?_
          refine RunH.adv tb_ok [] rfl rfl (by simp [AllOb, Ob.P, sum_len, sz_sum, one_int, u8V_one] <;> omega) ?_
          refine RunH.draw rfl [(0, some (.box w.heap.size [.val (sumV root), .val (.slice PA ps.length pc), .val (strV note)] 73)), (51, some (.box m5 [.val (sumV ps[i])] 39))] rfl 6 rfl rfl ?_
          refine RunD.adv tb_ok (by kernel_rfl) [] rfl rfl (by simp <;> omega) ?_
          refine RunD.gives (i := 5) (boolE (hasD (ps.take i) ps[i])) rfl (by kernel_rfl) rfl rfl rfl rfl Tryz.call127 (fun u hu => by
            have := hasR_spec u PA pc (ps.take i) (Sl.take (hp.ext hu.fact.1) i (by omega)) ps[i]
            rw [htk] at this
            exact this) rfl (fun _ h => h) ?_
          intro m6 hm6
          refine RunD.done (.inl rfl) (by kernel_rfl) ?_
          by_cases h3 : hasD (ps.take i) ps[i] = true
          · have htw : twiceL ps = true := by
              unfold twiceL
              rw [List.any_eq_true]
              exact ⟨i, List.mem_range.2 hlt, by rw [hgd]; exact h3⟩
            rw [if_pos htw] at hE
            refine RunH.adv tb_ok [true] rfl rfl (by simp [AllOb, Ob.P, sum_len, sz_sum, one_int, u8V_one, h3] <;> omega) ?_
            refine RunH.read (sumE Sum.zero) rfl rfl rfl rfl (fun w' a _ hag => ?_) ?_
            · simp only [execOp, List.map_toArray, List.map_nil, build_zero, Sem.run_bind, Result.andThen_ok, Sem.run_pure]
              rfl
            refine RunH.adv tb_ok [] rfl rfl (by simp [AllOb, Ob.P, sum_len, sz_sum, one_int, u8V_one] <;> omega) ?_
            exact RunH.retBoxT tb_ok (sumE Sum.zero) Tryz.func57 rfl rfl rfl rfl rfl fun w' hst => ⟨by rw [hE, if_neg (by decide)]; rfl, hst.fact.1⟩
          · refine RunH.adv tb_ok [false] rfl rfl (by simp [AllOb, Ob.P, sum_len, sz_sum, one_int, u8V_one, h3] <;> omega) ?_
            refine RunH.read (.av (.val (.slice (some ⟨m5, 0, none⟩) 32 32))) rfl rfl rfl rfl (fun u q _ ha => ?_) ?_
            · have e1 : q.eval (.tmp 6) = .pointer (some ⟨m5, 0, none⟩) := ev_run (e := .av (.box 51 m5 0)) ha rfl
              simp only [execOp, e1, Option.map_none, slice_all, Sem.run_bind, Result.andThen_ok, Sem.run_pure]
              rfl
            refine RunH.appendK (κ := kByte) (id := 50) (l := b0 ++ (ps.take i).flatMap Sum.l) (r := ps[i].l) (A2 := some ⟨m5, 0, none⟩) (c2 := 32) rfl rfl rfl rfl rfl rfl elt_byte rfl (by rw [hqh]; rfl) (fun u hu => ⟨nofun, fun _ => rfl, ?_⟩) (by rw [List.length_append, hb0, hti, hqh]; omega) (by rw [List.length_append, hb0, hti, hqh]; omega) ?_
            · refine range_take (n := 32) (hu.holds 51 _ rfl).2.1 ?_
              show ((boxCells [.val (sumV ps[i])]).toList.drop 0).take 32 = _
              unfold boxCells sumV
              simp [flat, AV.v, Value.cells, hqh]
              rw [List.take_of_length_le (by rw [List.length_map, hqh]; decide)]
              exact map_flat ps[i].l
            intro A3 c3 m6 hm6
            rw [← hfm]
            refine RunH.adv tb_ok [] rfl rfl (by simp <;> omega) ?_
            refine RunH.again (i + 1, (A3, c3)) (.head _) rfl rfl (by show ps.length - (i + 1) < ps.length - i; omega) fun u hu => ⟨hu.1, hlt, ?_⟩
            show ((List.range (i + 1)).any _) = false
            rw [List.range_succ, List.any_append, hno, Bool.false_or]
            show (hasD (ps.take i) (ps.getD i Sum.zero) || false) = false
            rw [hgd, Bool.or_false]
            simpa using h3
        · have hi' : i = ps.length := by omega
          subst hi'
          have htw : ¬ twiceL ps = true := by unfold twiceL; rw [hno]; decide
          rw [if_neg htw] at hE
          rw [hE, if_pos rfl]
          rw [List.take_length]
          have hfa := hfl ps
          refine RunH.adv tb_ok [false] rfl rfl (by simp <;> omega) ?_
          have hne : b0 ++ ps.flatMap Sum.l ≠ [] := by
            intro h
            have := congrArg List.length h
            rw [List.length_append, hb0] at this
            simp at this
          refine RunH.go rfl rfl (OpGo.appendStr (id := 50) (l := b0 ++ ps.flatMap Sum.l) (t := note) rfl rfl rfl rfl hne (by rw [List.length_append, hb0, hfa]; omega)) 51 ?_
          rintro ⟨A3, c3⟩ m6 hm6
          refine RunH.gives (ho := rfl) (hw := rfl) (hd := rfl) (hf := rfl) (hes := rfl) (hc := Tryz.call128) (e := .av (.val (sumV (shaW (comB root ps note))))) (hC := fun u hu => by
            rw [hcB]
            exact OfR_spec u A3 c3 _ (Sl.own (B := w.heap.size) (hu.row (κ := kByte) (id := 50) (l := b0 ++ ps.flatMap Sum.l ++ note) rfl) (by rw [List.length_append, List.length_append, hb0, hfa]; omega)) (by rw [List.length_append, List.length_append, hb0, hfa]; omega)) ?_
          intro m7 hm7
          refine RunH.adv tb_ok [] rfl rfl (by simp [AllOb, Ob.P, sum_len, sz_sum, one_int, u8V_one] <;> omega) ?_
          exact RunH.retBoxT tb_ok (sumE (shaW (comB root ps note))) Tryz.func57 rfl rfl rfl rfl rfl fun w' hst => ⟨rfl, hst.fact.1⟩
end Go.Proofs.YtagnkcdhenilbaaGreatDoor

/-
Ancestors: what the search finds is what is reached; the bases are the greatest common ones; no program.
-/
namespace Go.Proofs.YtagnkcdhenilbaaGreatDoor
open V

/-- Reached from a commit, by parents. -/
inductive Up (par : Sum → List Sum) : Sum → Sum → Prop where
  | refl (x : Sum) : Up par x x
  | step {x p z : Sum} (h : p ∈ par x) (r : Up par p z) : Up par x z

theorem Up.trans {par : Sum → List Sum} {x y z : Sum} (h1 : Up par x y) (h2 : Up par y z) : Up par x z := by
  induction h1 with
  | refl => exact h2
  | step h _ ih => exact .step h (ih h2)

theorem Up.le {par : Sum → List Sum} {ix : Sum → Nat} (hpar : ∀ x, ∀ p ∈ par x, ix p < ix x) {x z : Sum} (h : Up par x z) : x = z ∨ ix z < ix x := by
  induction h with
  | refl => exact .inl rfl
  | step h _ ih =>
    right
    have := hpar _ _ h
    rcases ih with rfl | ih
    · exact this
    · omega

theorem hasD_iff {l : List Sum} {t : Sum} : hasD l t = true ↔ t ∈ l := by
  unfold hasD; simp

/-- The parents of what is before m are there. -/
def Shut (par : Sum → List Sum) (ix : Sum → Nat) (is : List Sum) (m : Nat) : Prop := ∀ y ∈ is, ix y < m → ∀ p ∈ par y, p ∈ is

theorem upL_inv {par : Sum → List Sum} {ix : Sum → Nat} (hpar : ∀ x, ∀ p ∈ par x, ix p < ix x) : ∀ (n : Nat) (x : Sum) (is : List Sum), ix x < n →
    (∀ y ∈ is, y ∈ upL par n is x) ∧ x ∈ upL par n is x ∧ (∀ y ∈ upL par n is x, y ∈ is ∨ Up par x y) ∧ ∀ m, ix x < m → Shut par ix is m → Shut par ix (upL par n is x) m
  | 0, _, _, h => by omega
  | n + 1, x, is, hn => by
    have ih := upL_inv hpar n
    unfold upL
    split
    · rename_i hx
      exact ⟨fun y hy => hy, hasD_iff.1 hx, fun y hy => .inl hy, fun m _ h => h⟩
    · have fold : ∀ (ps : List Sum) (is : List Sum), (∀ p ∈ ps, ix p < ix x) →
          (∀ y ∈ is, y ∈ ps.foldl (fun is p => upL par n is p) is) ∧ (∀ p ∈ ps, p ∈ ps.foldl (fun is p => upL par n is p) is) ∧
          (∀ y ∈ ps.foldl (fun is p => upL par n is p) is, y ∈ is ∨ ∃ p ∈ ps, Up par p y) ∧ (Shut par ix is (ix x) → Shut par ix (ps.foldl (fun is p => upL par n is p) is) (ix x)) := by
        intro ps
        induction ps with
        | nil => intro is _; exact ⟨fun y hy => hy, fun p hp => (by cases hp), fun y hy => .inl hy, fun h => h⟩
        | cons p r ihr =>
          intro is hp
          have hpx := hp p (.head _)
          obtain ⟨a1, a2, a3, a4⟩ := ih p is (by omega)
          obtain ⟨b1, b2, b3, b4⟩ := ihr (upL par n is p) fun q hq => hp q (.tail _ hq)
          rw [List.foldl_cons]
          refine ⟨fun y hy => b1 y (a1 y hy), fun q hq => ?_, fun y hy => ?_, fun h => b4 (a4 _ hpx h)⟩
          · rcases List.mem_cons.1 hq with rfl | hq
            · exact b1 _ a2
            · exact b2 q hq
          · rcases b3 y hy with h | ⟨q, hq, h⟩
            · rcases a3 y h with h | h
              · exact .inl h
              · exact .inr ⟨p, .head _, h⟩
            · exact .inr ⟨q, .tail _ hq, h⟩
      obtain ⟨f1, f2, f3, f4⟩ := fold (par x) (is ++ [x]) (hpar x)
      have f3' : ∀ y ∈ (par x).foldl (fun is p => upL par n is p) (is ++ [x]), y ∈ is ∨ Up par x y := fun y hy => by
        rcases f3 y hy with h | ⟨p, hp, h⟩
        · rcases List.mem_append.1 h with h | h
          · exact .inl h
          · have : y = x := by simpa using h
            subst this
            exact .inr (.refl _)
        · exact .inr (.step hp h)
      refine ⟨fun y hy => f1 y (List.mem_append_left _ hy), f1 x (by simp), f3', fun m hm hs y hy hym => ?_⟩
      have hs1 : Shut par ix (is ++ [x]) (ix x) := fun y hy hyx p hp => by
        rcases List.mem_append.1 hy with h | h
        · exact List.mem_append_left _ (hs y h (by omega) p hp)
        · have : y = x := by simpa using h
          subst this
          omega
      rcases f3' y hy with h | h
      · exact fun p hp => f1 p (List.mem_append_left _ (hs y h hym p hp))
      · rcases h.le hpar with rfl | hlt
        · exact f2
        · exact f4 hs1 y hy hlt

theorem upL_iff {par : Sum → List Sum} {ix : Sum → Nat} (hpar : ∀ x, ∀ p ∈ par x, ix p < ix x) {n : Nat} {x : Sum} (hn : ix x < n) (z : Sum) : z ∈ upL par n [] x ↔ Up par x z := by
  obtain ⟨_, h2, h3, h4⟩ := upL_inv hpar n x [] hn
  constructor
  · intro h
    rcases h3 z h with h | h
    · cases h
    · exact h
  · have key : ∀ y z, Up par y z → y ∈ upL par n [] x → z ∈ upL par n [] x := by
      intro y z h
      induction h with
      | refl => exact fun h => h
      | @step a p z hp _ ih =>
        intro hy
        exact ih (h4 (ix a + 1 + ix x) (by omega) (fun y hy => by cases hy) a hy (by omega) p hp)
    exact fun h => key x z h h2

theorem histGo_nodup : ∀ (r : List Com) (out S : List Sum), histGo r out = (0, S) → out.Nodup → S.Nodup
  | [], out, S, h, hn => by
    have h : (0, out) = ((0 : Int), S) := h
    injection h with _ h
    rw [← h]; exact hn
  | x :: r, out, S, h, hn => by
    rw [hist_step] at h
    split at h
    · split at h
      · cases h
      · split at h
        · cases h
        · rename_i hd
          refine histGo_nodup r _ S h ?_
          rw [List.nodup_append]
          refine ⟨hn, by simp, fun a ha b hb => ?_⟩
          have : b = comS x.root x.ps.l x.note := by simpa using hb
          subst this
          rintro rfl
          exact hd (hasD_iff.2 ha)
    · rename_i hc
      injection h with h _
      exact absurd h hc

/-- A history, and the digests of it. -/
structure Hist (cs : List Com) (S : List Sum) : Prop where
  len : S.length = cs.length
  small : cs.length ≤ 60
  nodup : S.Nodup
  par : ∀ x, ∀ p ∈ parL cs S x, p ∈ S ∧ ixD S p < ixD S x

theorem Hist.of {cs : List Com} {S : List Sum} (h : hist cs = (0, S)) : Hist cs S := by
  obtain ⟨h1, h2, h3⟩ := hist_ok h
  refine ⟨h1, h2, ?_, fun x p hp => ?_⟩
  · unfold hist at h
    split at h
    · cases h
    · exact histGo_nodup cs [] S h (by simp)
  · rcases Nat.lt_or_ge (ixD S x) cs.length with hx | hx
    · rw [parL_eq hx] at hp
      have := h3 _ hx p hp
      exact ⟨List.mem_of_mem_take (hasD_iff.1 this), ixD_take this⟩
    · unfold parL at hp
      rw [List.getD_eq_getElem?_getD, List.getElem?_eq_none (by rw [List.length_map]; exact hx)] at hp
      cases hp

abbrev UpH (cs : List Com) (S : List Sum) : Sum → Sum → Prop := Up (parL cs S)

theorem Hist.anc {cs : List Com} {S : List Sum} (h : Hist cs S) {x : Sum} (hx : x ∈ S) (z : Sum) : hasD (ancL cs S x) z = true ↔ UpH cs S x z := by
  rw [hasD_iff]
  exact upL_iff (ix := ixD S) (fun x p hp => (h.par x p hp).2) (by rw [← h.len]; exact ixD_lt (hasD_iff.2 hx)) z

theorem Hist.mem {cs : List Com} {S : List Sum} (h : Hist cs S) {x z : Sum} (hx : x ∈ S) (hu : UpH cs S x z) : z ∈ S := by
  have key : ∀ x z, UpH cs S x z → x ∈ S → z ∈ S := by
    intro x z hu
    induction hu with
    | refl => exact fun h => h
    | step hp _ ih => exact fun _ => ih (h.par _ _ hp).1
  exact key x z hu hx

/-- The ancestors, in order. -/
def ancsL (cs : List Com) (S : List Sum) (x : Sum) : List Sum := keepL (fun s => !hasD (ancL cs S x) s) S

theorem mem_keepL {p : Sum → Bool} {l : List Sum} {x : Sum} : x ∈ keepL p l ↔ x ∈ l ∧ p x = false := by
  unfold keepL; rw [List.mem_filter]; simp

theorem Hist.ancs {cs : List Com} {S : List Sum} (h : Hist cs S) {x : Sum} (hx : x ∈ S) (z : Sum) : hasD (ancsL cs S x) z = true ↔ UpH cs S x z := by
  rw [hasD_iff]
  unfold ancsL
  rw [mem_keepL, ← h.anc hx]
  constructor
  · rintro ⟨_, h⟩; simpa using h
  · exact fun hu => ⟨h.mem hx ((h.anc hx z).1 hu), by simpa using hu⟩

theorem Hist.com {cs : List Com} {S : List Sum} (h : Hist cs S) {x y : Sum} (hx : x ∈ S) (hy : y ∈ S) (z : Sum) : z ∈ comL cs S x y ↔ UpH cs S x z ∧ UpH cs S y z := by
  unfold comL
  rw [mem_keepL, ← h.anc hx, ← h.anc hy]
  constructor
  · rintro ⟨_, h⟩; simpa using h
  · exact fun hu => ⟨h.mem hx ((h.anc hx z).1 hu.1), by simpa using hu⟩

theorem Hist.base {cs : List Com} {S : List Sum} (h : Hist cs S) {x y : Sum} (hx : x ∈ S) (hy : y ∈ S) (z : Sum) :
    z ∈ baseL cs S x y ↔ (UpH cs S x z ∧ UpH cs S y z) ∧ ∀ t, UpH cs S x t → UpH cs S y t → t ≠ z → ¬ UpH cs S t z := by
  unfold baseL
  rw [mem_keepL, h.com hx hy, List.any_eq_false]
  refine and_congr_right fun _ => ⟨fun hh t h1 h2 h3 h4 => ?_, fun hh t ht => ?_⟩
  · exact hh t ((h.com hx hy t).2 ⟨h1, h2⟩) (by simp [h3, (h.anc (h.mem hx h1) z).2 h4])
  · obtain ⟨h1, h2⟩ := (h.com hx hy t).1 ht
    intro hc
    simp only [Bool.and_eq_true, Bool.not_eq_true', decide_eq_false_iff_not] at hc
    exact hh t h1 h2 hc.1 ((h.anc (h.mem hx h1) z).1 hc.2)

theorem ixD_at {S : List Sum} (hn : S.Nodup) {q : Nat} (hq : q < S.length) : ixD S S[q] = q := by
  have h1 : ixD S S[q] < S.length := ixD_lt (hasD_iff.2 (List.getElem_mem hq))
  have h2 : S[ixD S S[q]] = S[q] := by
    have := List.findIdx_getElem (w := h1)
    exact (of_decide_eq_true this).symm
  exact (List.getElem_inj hn).1 h2

theorem at_ixD {S : List Sum} {x : Sum} (hx : x ∈ S) : ∃ h : ixD S x < S.length, S[ixD S x] = x := by
  have h1 : ixD S x < S.length := ixD_lt (hasD_iff.2 hx)
  refine ⟨h1, ?_⟩
  have := List.findIdx_getElem (w := h1)
  exact (of_decide_eq_true this).symm

theorem Hist.pars {cs : List Com} {S : List Sum} (h : Hist cs S) {k : Nat} (hk : k < cs.length) : parL cs S (S[k]'(by rw [h.len]; exact hk)) = cs[k].ps.l := by
  have hk2 : k < S.length := by rw [h.len]; exact hk
  have e := ixD_at h.nodup hk2
  rw [parL_eq (by rw [e]; exact hk)]
  simp only [e]

/-- What the reference marks, going down from a commit. -/
structure Marks (cs : List Com) (S : List Sum) (i : Nat) (is : List Bool) (k t : Nat) : Prop where
  len : is.length = S.length
  root : is.getD i false = true
  sound : ∀ q (hq : q < S.length), is.getD q false = true → ∀ hi : i < S.length, UpH cs S S[i] S[q]
  above : ∀ q, k < q → (hq : q < cs.length) → is.getD q false = true → ∀ p ∈ cs[q].ps.l, is.getD (ixD S p) false = true
  here : (hk : k < cs.length) → is.getD k false = true → ∀ p ∈ cs[k].ps.l.take t, is.getD (ixD S p) false = true

theorem getD_set {l : List Bool} {a q : Nat} : (l.set a true).getD q false = true ↔ (q = a ∧ a < l.length) ∨ l.getD q false = true := by
  rw [List.getD_eq_getElem?_getD, List.getD_eq_getElem?_getD, List.getElem?_set]
  by_cases h : a = q
  · subst h
    by_cases h2 : a < l.length
    · simp [h2]
    · have : l[a]? = none := List.getElem?_eq_none (by omega)
      simp [h2, this]
  · have h3 : ¬ q = a := fun e => h e.symm
    simp [h, h3]

theorem Marks.start {cs : List Com} {S : List Sum} (h : Hist cs S) {i : Nat} (hi : i < S.length) : Marks cs S i ((List.replicate S.length false).set i true) i 0 := by
  have hz : ∀ q, (List.replicate S.length false).getD q false = false := fun q => by
    rw [List.getD_eq_getElem?_getD, List.getElem?_replicate]
    split <;> rfl
  have hg : ∀ q, ((List.replicate S.length false).set i true).getD q false = true ↔ q = i := fun q => by
    rw [getD_set, hz, List.length_replicate]
    simp
    exact fun _ => hi
  refine ⟨by simp, (hg i).2 rfl, fun q hq h1 _ => ?_, fun q h1 hq h2 => ?_, fun hk h1 p hp => by simp at hp⟩
  · have := (hg q).1 h1
    subst this
    exact .refl _
  · have := (hg q).1 h2
    omega

theorem Marks.go {cs : List Com} {S : List Sum} (h : Hist cs S) {i k t : Nat} {is : List Bool} (hm : Marks cs S i is k t) (hk : k < cs.length) (ht : t < cs[k].ps.l.length) :
    Marks cs S i (if is.getD k false = true then is.set (ixD S cs[k].ps.l[t]) true else is) k (t + 1) := by
  have hp0 : cs[k].ps.l[t] ∈ cs[k].ps.l := List.getElem_mem ht
  have hts : cs[k].ps.l.take (t + 1) = cs[k].ps.l.take t ++ [cs[k].ps.l[t]] := List.take_succ_eq_append_getElem ht
  have hkS : k < S.length := by rw [h.len]; exact hk
  have hpar := h.pars hk
  have hin := h.par S[k] cs[k].ps.l[t] (by rw [hpar]; exact hp0)
  rw [ixD_at h.nodup hkS] at hin
  generalize hP : cs[k].ps.l[t] = P at *
  by_cases hk1 : is.getD k false = true
  · rw [if_pos hk1]
    have hS := at_ixD hin.1
    refine ⟨by rw [List.length_set]; exact hm.len, getD_set.2 (.inr hm.root), fun q hq h1 hi => ?_, fun q h1 hq h2 p hp => ?_, fun _ h1 p hp => ?_⟩
    · rcases getD_set.1 h1 with ⟨rfl, h2⟩ | h2
      · obtain ⟨h3, h4⟩ := hS
        rw [h4]
        exact (hm.sound k hkS hk1 hi).trans (.step (by rw [hpar]; exact hp0) (.refl _))
      · exact hm.sound q hq h2 hi
    · rcases getD_set.1 h2 with ⟨rfl, h3⟩ | h3
      · omega
      · exact getD_set.2 (.inr (hm.above q h1 hq h3 p hp))
    · rw [hts, List.mem_append, List.mem_singleton] at hp
      rcases hp with hp | rfl
      · exact getD_set.2 (.inr (hm.here hk hk1 p hp))
      · exact getD_set.2 (.inl ⟨rfl, by rw [hm.len]; omega⟩)
  · rw [if_neg hk1]
    exact ⟨hm.len, hm.root, hm.sound, hm.above, fun _ h1 => absurd h1 hk1⟩

theorem Marks.next {cs : List Com} {S : List Sum} {i k : Nat} {is : List Bool} (hm : Marks cs S i is (k + 1) (if hk : k + 1 < cs.length then cs[k + 1].ps.l.length else 0)) : Marks cs S i is k 0 := by
  refine ⟨hm.len, hm.root, hm.sound, fun q h1 hq h2 p hp => ?_, fun _ _ p hp => by simp at hp⟩
  by_cases e : q = k + 1
  · subst e
    have := hm.here hq h2 p
    rw [dif_pos hq, List.take_length] at this
    exact this hp
  · exact hm.above q (by omega) hq h2 p hp

/-- What is marked is reached. -/
theorem Marks.all {cs : List Com} {S : List Sum} (h : Hist cs S) {i : Nat} {is : List Bool} (hi : i < S.length) (h0 : 0 < cs.length) (hm : Marks cs S i is 0 (cs[0].ps.l.length)) (q : Nat) (hq : q < S.length) :
    is.getD q false = hasD (ancL cs S S[i]) S[q] := by
  rw [Bool.eq_iff_iff, h.anc (List.getElem_mem hi)]
  constructor
  · exact fun h1 => hm.sound q hq h1 hi
  · have shut : ∀ k (hk : k < cs.length), is.getD k false = true → ∀ p ∈ cs[k].ps.l, is.getD (ixD S p) false = true := fun k hk h1 p hp => by
      by_cases e : k = 0
      · subst e
        exact hm.here h0 h1 p (by rw [List.take_length]; exact hp)
      · exact hm.above k (by omega) hk h1 p hp
    have key : ∀ x z, UpH cs S x z → x ∈ S → is.getD (ixD S x) false = true → is.getD (ixD S z) false = true := by
      intro x z hu
      induction hu with
      | refl => exact fun _ h => h
      | @step a p z hp _ ih =>
        intro ha h1
        have hin := h.par _ _ hp
        refine ih hin.1 ?_
        obtain ⟨h2, h3⟩ := at_ixD ha
        have h2' : ixD S a < cs.length := by rw [← h.len]; exact h2
        have hpp := h.pars h2'
        rw [h3] at hpp
        exact shut _ h2' h1 p (by rw [← hpp]; exact hp)
    intro hu
    have := key _ _ hu (List.getElem_mem hi) (by rw [ixD_at h.nodup hi]; exact hm.root)
    rwa [ixD_at h.nodup hq] at this

/-- The law's facts. -/
theorem Hist.apart {cs : List Com} {S : List Sum} (h : Hist cs S) {x y : Sum} (hx : x ∈ S) (hy : y ∈ S) {w z : Sum} (hw : w ∈ baseL cs S x y) (hz : z ∈ baseL cs S x y) (hne : w ≠ z) : hasD (ancsL cs S w) z = false := by
  obtain ⟨⟨w1, w2⟩, _⟩ := (h.base hx hy w).1 hw
  obtain ⟨_, z3⟩ := (h.base hx hy z).1 hz
  cases hc : hasD (ancsL cs S w) z with
  | false => rfl
  | true => exact absurd ((h.ancs (h.mem hx w1) z).1 hc) (z3 w w1 w2 hne)

end Go.Proofs.YtagnkcdhenilbaaGreatDoor
