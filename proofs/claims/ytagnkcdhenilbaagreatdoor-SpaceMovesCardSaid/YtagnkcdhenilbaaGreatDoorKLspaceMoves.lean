/-
A part of the proof of SpaceMoves: for every input the law returns true, and what was passed in reads as before; the listed package variables hold what the program's text lays. No further condition.
-/
import Derived.Test.YtagnkcdhenilbaaGreatDoorRows
import Derived.Test.YtagnkcdhenilbaaGreatDoorCards
import Derived.KernelRfl
import Derived.Test.YtagnkcdhenilbaaGreatDoorTie
import Derived.SevenTiedAt
import Derived.Test.YtagnkcdhenilbaaGreatDoorKPA2
import Derived.Test.YtagnkcdhenilbaaGreatDoorKPK1
import Derived.Test.YtagnkcdhenilbaaGreatDoorKSMoves
import Derived.Test.YtagnkcdhenilbaaGreatDoorKR1
set_option linter.unusedVariables false
set_option linter.unusedSectionVars false
set_option linter.unusedSimpArgs false
namespace Go.Proofs.YtagnkcdhenilbaaGreatDoor
open Go V RowKit
theorem any_isAt {l : List Entry} (h : rises l = true) (p : Str) : (l.any fun e => decide (e.path = p)) = isAt l p := by
  rw [Bool.eq_iff_iff, isAt_iff h]
  simp
theorem op_eqlE {n : Nat} {env : SEnv} {a : Act} (ha : Agree n a (kn env)) {o : Oper} {T T' : TypeId} {x y : Operand} {u v : EV} {b : Bool} {w : World} (hop : o.op = .binOp .eql T x y T') (hx : evE env x = some u) (hy : evE env y = some v)
    {xs ys : Array Value} (hu : u.v = .agg xs) (hv : v.v = .agg ys) (hg : Tryz.prog.eqGuardType Tryz.prog.depth T = false) (h : (Op.equalIn 10000 T (.agg xs) (.agg ys)).run Tryz.prog w = .ok b w) :
    (execOp a.eval o).run Tryz.prog w = .ok (.value (EV.av (.val (.bool b))).v) w := by
  simp only [execOp, hop, ev_run ha hx, ev_run ha hy, hu, hv]
  rw [Sem.run_bind, Sem.run_bind, run_eqGuard_agg w .eql T x y xs ys hg, Result.andThen_ok, run_eql_struct w T xs ys, h]
  rfl
theorem sum9 : Value.agg (.int .u8 9 :: List.replicate 31 (.int .u8 0)).toArray = (sumE (sumK 9)).v := sumK_v 9
set_option maxRecDepth 10000 in
set_option maxHeartbeats 2000000 in
theorem moves_walk (w : World) (hG : Glob w) (NA : Option Addr) (nc : Nat) (nl : List UInt8) (hnl : Sl kByte w NA nc nl) (MA : Option Addr) (mc : Nat) (ml : List UInt8) (hml : Sl kByte w MA mc ml) (which : UInt8) :
    Gives Tryz.prog 12 [.slice NA nl.length nc, .slice MA ml.length mc, u8V which] w .tt := by
  have hl : lim = 140737488351232 := rfl
  refine enterH tb_ok [(0, slE NA nl.length nc), (1, slE MA ml.length mc), (2, .av (.val (u8V which)))] Tryz.func12 rfl Tryz.ntmps12 rfl rfl ?_
  refine RunH.adv tb_ok [] rfl rfl (by simp <;> omega) ?_
  refine RunH.doesB [] 2 (hc := Tryz.call39) (ho := rfl) (hw := rfl) (hd := rfl) (hf := rfl) (hes := rfl) (hσ := rfl) (hn := rfl) (hV := fun _ => rfl) (hG := fun _ => rfl) (e := fun y : Nat × Option Addr × Nat => .av (.box 0 y.1 0)) (hC := OfK_spec NA nc nl) (hp := fun u hu => hnl.ext hu.fact) ?_
  rintro ⟨b, SA, sc⟩ m1 hm1
  refine RunH.drop ?_
  refine RunH.adv tb_ok [] rfl rfl (by simp <;> omega) ?_
  refine RunH.doesB [(0, 0)] 5 (hc := Tryz.call38) (ho := rfl) (hw := rfl) (hd := rfl) (hf := rfl) (hes := rfl) (hσ := rfl) (hn := rfl) (hV := fun _ => rfl) (hG := fun _ => rfl) (e := fun y : (Nat × Int) × (Option Addr × Nat) × (Option Addr × Nat) × List Entry × List Entry => .st [.val (.slice y.2.1.1 y.2.2.2.1.length y.2.1.2), .val (.slice y.2.2.1.1 y.2.2.2.2.length y.2.2.1.2)]) (hC := Named_spec b ⟨SA, sc, nl.take 300, 0, 88172645463325252⟩ (by rw [List.length_take]; omega) (Nat.zero_le _) 10 (by decide)) (hp := fun u hu => Sl.own (B := w.heap.size) (hu.row (κ := kByte) (l := nl.take 300) (id := 1) rfl) (by rw [List.length_take]; omega)) ?_
  rintro ⟨z1, ⟨A1, c1⟩, ⟨B1, d1⟩, T, Y⟩ m2 hm2
  refine RunH.pure (fun u h => h.2) fun ⟨hT, hY, _⟩ => ?_
  dsimp only at hT hY
  refine RunH.drop ?_
  have oT : okL 100 T := gooL_okL hT.1 (by omega)
  have oY : okL 100 Y := gooL_okL hY.1 (by omega)
  have lT := oT.len
  have lY := oY.len
  clear hT hY
  refine RunH.adv tb_ok [] rfl rfl (by simp <;> omega) ?_
  refine RunH.gives (ho := rfl) (hw := rfl) (hd := rfl) (hf := rfl) (hes := rfl) (hc := Tryz.call40) (e := intE (kindU which)) (hC := fun u _ => kind_spec u which) ?_
  intro m3 hm3
  have hk := kindU_or which
  generalize kindU which = k at *
  refine RunH.adv tb_ok [] rfl rfl (by simp <;> omega) ?_
  refine RunH.doesB [] 8 (hc := Tryz.call39) (ho := rfl) (hw := rfl) (hd := rfl) (hf := rfl) (hes := rfl) (hσ := rfl) (hn := rfl) (hV := fun _ => rfl) (hG := fun _ => rfl) (e := fun y : Nat × Option Addr × Nat => .av (.box 6 y.1 0)) (hC := OfK_spec MA mc ml) (hp := fun u hu => hml.ext hu.fact) ?_
  rintro ⟨b2, SB, sd⟩ m3b hm3b
  refine RunH.drop ?_
  refine RunH.adv tb_ok [] rfl rfl (by simp <;> omega) ?_
  refine RunH.doesB [(0, 6)] 8 (hc := Tryz.call69) (ho := rfl) (hw := rfl) (hd := rfl) (hf := rfl) (hes := rfl) (hσ := rfl) (hn := rfl) (hV := fun _ => rfl) (hG := fun _ => rfl) (e := fun y : List Str × Nat × Int => strE (joinD y.1)) (hC := path_spec b2 ⟨SB, sd, ml.take 300, 0, 88172645463325252⟩ (by rw [List.length_take]; omega) (Nat.zero_le _) 4 (by decide) (by decide)) (hp := fun u hu => Sl.own (B := w.heap.size) (hu.row (κ := kByte) (l := ml.take 300) (id := 7) rfl) (by rw [List.length_take]; omega)) ?_
  rintro ⟨ws, z2⟩ m4 hm4
  refine RunH.pure (fun u h => h.2) fun ⟨⟨hw1, hw2, hw3⟩, _⟩ => ?_
  dsimp only at hw1 hw2 hw3
  refine RunH.drop ?_
  have hto : pathOk (joinD ws) = true := nice_ok hw1 (by omega) hw3
  generalize joinD ws = to at *
  have hslk : ∀ u, Sl kEntry u A1 c1 T → Sl kEntry u B1 d1 Y → Sl kEntry u (kA k A1 B1) (kA k c1 d1) (kList k T Y) := fun u h1 h2 => by
    unfold kA kList; split <;> assumption
  have oL := (okL_k (k := k) oT oY).1
  have lL := oL.len
  refine RunH.adv tb_ok [] rfl rfl (by simp <;> omega) ?_
  refine RunH.tell [(2, .av (.val (u8V which))), (7, .av (.box 5 m2 0)), (8, intE k), (9, .av (.box 8 m4 0)), (32, .st [.val (.slice A1 T.length c1), .val (.slice B1 Y.length d1)]), (33, intE k)] [(3, rowE kEntry A1 c1 T), (4, rowE kEntry B1 d1 Y), (5, some (.box m2 [.val (.slice A1 T.length c1), .val (.slice B1 Y.length d1)] 24)), (8, some (.box m4 [.val (strV to)] 9))] [] rfl rfl rfl 9 ?_
  refine RunH.gives (ho := rfl) (hw := rfl) (hd := rfl) (hf := rfl) (hes := rfl) (hc := Tryz.call41) (e := .av (.val (.slice (kA k A1 B1) (kList k T Y).length (kA k c1 d1)))) (hC := fun u _ => listK_spec u ⟨⟨A1, c1, T⟩, ⟨B1, d1, Y⟩⟩ k) ?_
  intro m5 hm5
  refine RunH.adv tb_ok [] rfl rfl (by simp <;> omega) ?_
  refine RunH.gives (ho := rfl) (hw := rfl) (hd := rfl) (hf := rfl) (hes := rfl) (hc := Tryz.call70) (e := boolE (isAt (kList k T Y) to)) (hC := fun u hu => by
    rw [← any_isAt oL.rises to]
    exact containsFuncE u _ _ _ (hslk u (Sl.own (B := w.heap.size) (hu.row (κ := kEntry) (l := T) (id := 3) rfl) (by show T.length ≤ lim; omega)) (Sl.own (B := w.heap.size) (hu.row (κ := kEntry) (l := Y) (id := 4) rfl) (by show Y.length ≤ lim; omega))) 71 [] [.pointer (some ⟨m4, 0, none⟩)] (fun e => decide (e.path = to)) ⟨Tryz.call71, fun x _ u' hu' => Moves1_spec u' m4 x to fun v hv => hu.loadBox (id := 8) (e := strE to) tb_ok rfl rfl v (hu'.trans' hv)⟩) ?_
  intro m6 hm6
  have h9 := sum9
  have g9 := moves_add (p := to) (sumK 9) oT oY hk hto (k := k) rfl rfl
  have hA := Add_spec ⟨⟨A1, c1, T⟩, ⟨B1, d1, Y⟩⟩ k to (sumK 9) (by show T.length ≤ _; omega) (by show Y.length ≤ _; omega)
  have hSt := fun (s : Spc) (x : Str) (h1 : s.t.l.length ≤ 1000000) (h2 : s.y.l.length ≤ 1000000) => Set_all s k x (sumK 9) h1 h2
  generalize sumK 9 = x9 at *
  dsimp only at hA
  generalize hTa : edT (addE T Y k to) k (setL (kList k T Y) ⟨to, x9⟩) (kList k Y T) = Ta at *
  generalize hYa : edY (addE T Y k to) k (setL (kList k T Y) ⟨to, x9⟩) (kList k Y T) = Ya at *
  generalize hea : addE T Y k to = ea at *
  obtain ⟨g1, g2, g3, g4⟩ := g9
  generalize hth : isAt (kList k T Y) to = there at *
  refine RunH.adv tb_ok [] rfl rfl (by simp <;> omega) ?_
  refine RunH.read (sumE x9) rfl rfl rfl rfl (fun w' a _ ha => ?_) ?_
  · simp only [execOp, List.map_toArray, List.map_cons, List.map_nil, Sem.run_bind, Result.andThen_ok, Sem.run_pure]
    rw [show a.eval (.const (.int .u8 9)) = .int .u8 9 from rfl, build_sum1, Result.andThen_ok, h9]
  refine RunH.adv tb_ok [] rfl rfl (by simp <;> omega) ?_
  refine RunH.doesB [] 11 (hc := Tryz.call46) (ho := rfl) (hw := rfl) (hd := rfl) (hf := rfl) (hes := rfl) (hσ := rfl) (hn := rfl) (hV := fun _ => rfl) (hG := fun _ => rfl) (e := fun z : (Option Addr × Nat) × (Option Addr × Nat) => .av (.val (.tuple #[.agg #[.slice z.1.1 Ta.length z.1.2, .slice z.2.1 Ya.length z.2.2], intV ea]))) (hC := hA) (hp := fun u hu => ⟨(hG.ext hu.fact).max, ⟨Sl.own (B := w.heap.size) (hu.row (κ := kEntry) (l := T) (id := 3) rfl) (by show (T : List Entry).length ≤ lim; omega), Sl.own (B := w.heap.size) (hu.row (κ := kEntry) (l := Y) (id := 4) rfl) (by show (Y : List Entry).length ≤ lim; omega)⟩⟩) ?_
  rintro ⟨⟨Aa, ca⟩, ⟨Ba, da⟩⟩ mAdda hmAdda
  refine RunH.drop ?_
  refine RunH.adv tb_ok [] rfl rfl (by simp <;> omega) ?_
  refine RunH.tell [(43, .st [.val (.slice Aa Ta.length ca), .val (.slice Ba Ya.length da)]), (44, intE ea), (11, .av (.box 11 mAdda 0)), (2, .av (.val (u8V which))), (7, .av (.box 5 m2 0)), (8, intE k), (9, .av (.box 8 m4 0)), (10, boolE there)] [(9, rowE kEntry Aa ca Ta), (10, rowE kEntry Ba da Ya), (11, some (.box mAdda [.val (.slice none 0 0), .val (.slice none 0 0)] 24)), (3, rowE kEntry A1 c1 T), (4, rowE kEntry B1 d1 Y), (5, some (.box m2 [.val (.slice A1 T.length c1), .val (.slice B1 Y.length d1)] 24)), (8, some (.box m4 [.val (strV to)] 9))] [] rfl rfl rfl 12 ?_
  apply RunH.joinK (α := Unit) (fun _ => [(2, .av (.val (u8V which))), (7, .av (.box 5 m2 0)), (8, intE k), (9, .av (.box 8 m4 0)), (10, boolE there), (67, .st [.val (.slice A1 T.length c1), .val (.slice B1 Y.length d1)]), (68, intE k)]) (fun _ => [(3, rowE kEntry A1 c1 T), (4, rowE kEntry B1 d1 Y), (5, some (.box m2 [.val (.slice A1 T.length c1), .val (.slice B1 Y.length d1)] 24)), (8, some (.box m4 [.val (strV to)] 9))]) (fun _ u => Ext w u)
  · cases there with
    | true =>
      have h5 := g1 rfl
      refine RunH.adv tb_ok [true, false] rfl rfl (by simp [h5] <;> omega) ?_
      exact RunH.meetS () [] (.head _) rfl rfl rfl fun u h => h
    | false =>
      obtain ⟨h0, h1, h2, h3⟩ := g2 rfl
      have hD := Drop_all ⟨⟨Aa, ca, Ta⟩, ⟨Ba, da, Ya⟩⟩ k to (by show Ta.length ≤ _; omega) (by show Ya.length ≤ _; omega)
      dsimp only at hD
      rw [h2, h3, h1] at hD
      refine RunH.adv tb_ok [false] rfl rfl (by simp <;> omega) ?_
      refine RunH.doesB [] 14 (hc := Tryz.call45) (ho := rfl) (hw := rfl) (hd := rfl) (hf := rfl) (hes := rfl) (hσ := rfl) (hn := rfl) (hV := fun _ => rfl) (hG := fun _ => rfl) (e := fun z : (Option Addr × Nat) × (Option Addr × Nat) => .av (.val (.tuple #[.agg #[.slice z.1.1 T.length z.1.2, .slice z.2.1 Y.length z.2.2], intV 0]))) (hC := hD) (hp := fun u hu => ⟨(hG.ext hu.fact).max, ⟨Sl.own (B := w.heap.size) (hu.row (κ := kEntry) (l := Ta) (id := 9) rfl) (by show (Ta : List Entry).length ≤ lim; omega), Sl.own (B := w.heap.size) (hu.row (κ := kEntry) (l := Ya) (id := 10) rfl) (by show (Ya : List Entry).length ≤ lim; omega)⟩⟩) ?_
      rintro ⟨⟨Ab, cb⟩, ⟨Bb, db⟩⟩ m8 hm8
      refine RunH.drop ?_
      refine RunH.adv tb_ok [] rfl rfl (by simp <;> omega) ?_
      subst h0
      refine RunH.tell [(53, .st [.val (.slice Ab T.length cb), .val (.slice Bb Y.length db)]), (54, intE 0), (13, .av (.box 14 m8 0)), (12, intE 0), (2, .av (.val (u8V which))), (7, .av (.box 5 m2 0)), (8, intE k), (9, .av (.box 8 m4 0)), (10, boolE false)] [(12, rowE kEntry Ab cb T), (13, rowE kEntry Bb db Y), (14, some (.box m8 [.val (.slice none 0 0), .val (.slice none 0 0)] 24)), (3, rowE kEntry A1 c1 T), (4, rowE kEntry B1 d1 Y), (5, some (.box m2 [.val (.slice A1 T.length c1), .val (.slice B1 Y.length d1)] 24)), (8, some (.box m4 [.val (strV to)] 9))] [] rfl rfl rfl 15 ?_
      refine RunH.adv tb_ok [false, false] rfl rfl (by simp <;> omega) ?_
      refine RunH.gives (ho := rfl) (hw := rfl) (hd := rfl) (hf := rfl) (hes := rfl) (hc := Tryz.call21) (e := boolE (decide (T = T) && decide (Y = Y))) (hC := fun u hu => space_Same u ⟨⟨Ab, cb, T⟩, ⟨Bb, db, Y⟩⟩ ⟨⟨A1, c1, T⟩, ⟨B1, d1, Y⟩⟩ ⟨Sl.own (B := w.heap.size) (hu.row (κ := kEntry) (l := T) (id := 12) rfl) (by show (T : List Entry).length ≤ lim; omega), Sl.own (B := w.heap.size) (hu.row (κ := kEntry) (l := Y) (id := 13) rfl) (by show (Y : List Entry).length ≤ lim; omega)⟩ ⟨Sl.own (B := w.heap.size) (hu.row (κ := kEntry) (l := T) (id := 3) rfl) (by show (T : List Entry).length ≤ lim; omega), Sl.own (B := w.heap.size) (hu.row (κ := kEntry) (l := Y) (id := 4) rfl) (by show (Y : List Entry).length ≤ lim; omega)⟩) ?_
      intro m9 hm9
      refine RunH.adv tb_ok [false] rfl rfl (by simp <;> omega) ?_
      exact RunH.meetS () [] (.head _) rfl rfl rfl fun u h => h
  · rintro ⟨⟩ m10
    refine RunH.toNx 9 ?_
    clear g1 g2 hA hTa hYa hea g3 g4
    refine RunH.gives (ho := rfl) (hw := rfl) (hd := rfl) (hf := rfl) (hes := rfl) (hc := Tryz.call41) (e := .av (.val (.slice (kA k A1 B1) (kList k T Y).length (kA k c1 d1)))) (hC := fun u _ => listK_spec u ⟨⟨A1, c1, T⟩, ⟨B1, d1, Y⟩⟩ k) ?_
    intro m11 hm11
    by_cases hz : (kList k T Y).length = 0
    · refine RunH.adv tb_ok [true] rfl rfl (by simp [hz] <;> omega) ?_
      refine RunH.gives (ho := rfl) (hw := rfl) (hd := rfl) (hf := rfl) (hes := rfl) (hc := Tryz.call15) (e := .tt) (hC := fun u hu => awake_spec u (hG.ext hu.fact)) ?_
      intro mA hmA
      refine RunH.adv tb_ok [] rfl rfl (by simp <;> omega) ?_
      refine RunH.ret1 Tryz.func12 rfl rfl fun u hu => ⟨rfl, hu.fact⟩
    · refine RunH.adv tb_ok [false] rfl rfl (by simp [hz] <;> omega) ?_
      have hi : which.toNat / 2 % (kList k T Y).length < (kList k T Y).length := Nat.mod_lt _ (by omega)
      have hq0 : ((which.toNat : Int) / 2) % ((kList k T Y).length : Int) = ((which.toNat / 2 % (kList k T Y).length : Nat) : Int) := by
        rw [Int.natCast_emod]; rfl
      have hq : (((which.toNat : Int) / 2) % ((kList k T Y).length : Int)).toNat = which.toNat / 2 % (kList k T Y).length := by rw [hq0]; exact Int.toNat_natCast _
      have hq1 : 0 ≤ ((which.toNat : Int) / 2) % ((kList k T Y).length : Int) := by omega
      have hq2 : ((which.toNat : Int) / 2) % ((kList k T Y).length : Int) < ((kList k T Y).length : Int) := by omega
      have hwb : which.toNat < 256 := which.toNat_lt
      refine RunH.pureS (fun u hu => (hslk u (Sl.own (B := w.heap.size) (hu.row (κ := kEntry) (l := T) (id := 3) rfl) (by show T.length ≤ lim; omega)) (Sl.own (B := w.heap.size) (hu.row (κ := kEntry) (l := Y) (id := 4) rfl) (by show Y.length ≤ lim; omega))).ptr hi) fun hptr => ?_
      obtain ⟨x, hx⟩ : ∃ x, x = (kList k T Y)[which.toNat / 2 % (kList k T Y).length] := ⟨_, rfl⟩
      have hxm : x ∈ kList k T Y := by rw [hx]; exact List.getElem_mem hi
      apply RunH.joinK (α := Nat) (fun z => [(2, .av (.val (u8V which))), (7, .av (.box 5 m2 0)), (8, intE k), (9, .av (.box 8 m4 0)), (10, boolE there), (15, .av (.box 9 z 0))]) (fun z => [(3, rowE kEntry A1 c1 T), (4, rowE kEntry B1 d1 Y), (5, some (.box m2 [.val (.slice A1 T.length c1), .val (.slice B1 Y.length d1)] 24)), (8, some (.box m4 [.val (strV to)] 9)), (9, some (.box z (entryF x) 44))]) (fun _ u => Ext w u)
      · refine RunH.draw rfl [(5, some (.box m2 [.val (.slice A1 T.length c1), .val (.slice B1 Y.length d1)] 24)), (8, some (.box m4 [.val (strV to)] 9))] rfl 15 rfl rfl ?_
        refine RunD.adv tb_ok (by kernel_rfl) [] rfl rfl (by simp <;> omega) ?_
        refine RunD.two (i := 2) (j := 13) (by kernel_rfl) ?_ ?_
        · refine opD_go (i := 2) rfl rfl (OpGo.gives (fo := .func 41) (.av (.val (.slice (kA k A1 B1) (kList k T Y).length (kA k c1 d1)))) rfl rfl rfl rfl Tryz.call41 (fun u _ => listK_spec u ⟨⟨A1, c1, T⟩, ⟨B1, d1, Y⟩⟩ k)) 9 (fun _ => rfl) (fun _ _ h => h) ?_
          rintro ⟨⟩ n2 hn2
          refine RunD.adv tb_ok (by kernel_rfl) [] rfl rfl (by simp [hptr, hq1, hq2, hz] <;> omega) ?_
          refine RunD.two (i := 8) (j := 13) (by kernel_rfl) ?_ ?_
          · refine opD_go (i := 8) rfl rfl (OpGo.gives (fo := .func 41) (.av (.val (.slice (kA k A1 B1) (kList k T Y).length (kA k c1 d1)))) rfl rfl rfl rfl Tryz.call41 (fun u _ => listK_spec u ⟨⟨A1, c1, T⟩, ⟨B1, d1, Y⟩⟩ k)) 9 (fun _ => rfl) (fun _ _ h => h) ?_
            rintro ⟨⟩ n8 hn8
            refine RunD.adv tb_ok (by kernel_rfl) [] rfl rfl (by simp [hptr, hq1, hq2, hz] <;> omega) ?_
            refine RunD.two (i := 12) (j := 13) (by kernel_rfl) ?_ ?_
            · refine opD_go (i := 12) rfl rfl (OpGo.load (.st (entryF x)) rfl rfl rfl (fun u hu => by rw [hq, hx]; exact (hslk u (Sl.own (B := w.heap.size) (hu.row (κ := kEntry) (l := T) (id := 3) rfl) (by show T.length ≤ lim; omega)) (Sl.own (B := w.heap.size) (hu.row (κ := kEntry) (l := Y) (id := 4) rfl) (by show Y.length ≤ lim; omega))).load hi)) 9 (fun _ => rfl) (fun _ _ h => h) ?_
              rintro ⟨⟩ n12 hn12
              refine RunD.adv tb_ok (by kernel_rfl) [] rfl rfl (by simp [hptr, hq1, hq2, hz] <;> omega) ?_
              refine RunD.step tb_ok (nx := 9) (i := 13) rfl (by kernel_rfl) rfl rfl rfl ?_ rfl (fun _ h => h) ⟨rfl, rfl⟩ ?_
              · first | trivial | (simp [AllOb, Ob.P, sum_len, sz_sum, one_int, u8V_one]; done)
              refine RunD.adv tb_ok (by kernel_rfl) [] rfl rfl (by simp [hptr, hq1, hq2, hz] <;> omega) ?_
              refine RunD.step tb_ok (i := 14) rfl (by kernel_rfl) rfl rfl rfl ?_ rfl (fun _ h => h) rfl ?_
              · first | trivial | (simp [AllOb, Ob.P, sum_len, sz_sum, one_int, u8V_one]; done)
              refine RunD.done (.inl rfl) (by kernel_rfl) ?_
              refine RunH.meetS n12 [] (.head _) rfl rfl rfl fun u h => h
            · refine opD_step tb_ok (nx := 9) (i := 13) rfl rfl rfl rfl ?_ rfl (fun _ h => h) ⟨rfl, rfl⟩ ?_
              · first | trivial | (simp [AllOb, Ob.P, sum_len, sz_sum, one_int, u8V_one]; done)
              refine RunD.adv tb_ok (by kernel_rfl) [] rfl rfl (by simp [hptr, hq1, hq2, hz] <;> omega) ?_
              refine RunD.loadS (i := 12) (.st (entryF x)) rfl (by kernel_rfl) rfl rfl rfl (fun u hu => by rw [hq, hx]; exact (hslk u (Sl.own (B := w.heap.size) (hu.row (κ := kEntry) (l := T) (id := 3) rfl) (by show T.length ≤ lim; omega)) (Sl.own (B := w.heap.size) (hu.row (κ := kEntry) (l := Y) (id := 4) rfl) (by show Y.length ≤ lim; omega))).load hi) rfl (fun _ h => h) ?_
              intro n12 hn12
              refine RunD.adv tb_ok (by kernel_rfl) [] rfl rfl (by simp [hptr, hq1, hq2, hz] <;> omega) ?_
              refine RunD.step tb_ok (i := 14) rfl (by kernel_rfl) rfl rfl rfl ?_ rfl (fun _ h => h) rfl ?_
              · first | trivial | (simp [AllOb, Ob.P, sum_len, sz_sum, one_int, u8V_one]; done)
              refine RunD.done (.inl rfl) (by kernel_rfl) ?_
              refine RunH.meetS n8 [] (.head _) rfl rfl rfl fun u h => h
          · refine opD_step tb_ok (nx := 9) (i := 13) rfl rfl rfl rfl ?_ rfl (fun _ h => h) ⟨rfl, rfl⟩ ?_
            · first | trivial | (simp [AllOb, Ob.P, sum_len, sz_sum, one_int, u8V_one]; done)
            refine RunD.adv tb_ok (by kernel_rfl) [] rfl rfl (by simp [hptr, hq1, hq2, hz] <;> omega) ?_
            refine RunD.gives (i := 8) (.av (.val (.slice (kA k A1 B1) (kList k T Y).length (kA k c1 d1)))) rfl (by kernel_rfl) rfl rfl rfl rfl Tryz.call41 (fun u _ => listK_spec u ⟨⟨A1, c1, T⟩, ⟨B1, d1, Y⟩⟩ k) rfl (fun _ h => h) ?_
            intro n8 hn8
            refine RunD.adv tb_ok (by kernel_rfl) [] rfl rfl (by simp [hptr, hq1, hq2, hz] <;> omega) ?_
            refine RunD.loadS (i := 12) (.st (entryF x)) rfl (by kernel_rfl) rfl rfl rfl (fun u hu => by rw [hq, hx]; exact (hslk u (Sl.own (B := w.heap.size) (hu.row (κ := kEntry) (l := T) (id := 3) rfl) (by show T.length ≤ lim; omega)) (Sl.own (B := w.heap.size) (hu.row (κ := kEntry) (l := Y) (id := 4) rfl) (by show Y.length ≤ lim; omega))).load hi) rfl (fun _ h => h) ?_
            intro n12 hn12
            refine RunD.adv tb_ok (by kernel_rfl) [] rfl rfl (by simp [hptr, hq1, hq2, hz] <;> omega) ?_
            refine RunD.step tb_ok (i := 14) rfl (by kernel_rfl) rfl rfl rfl ?_ rfl (fun _ h => h) rfl ?_
            · first | trivial | (simp [AllOb, Ob.P, sum_len, sz_sum, one_int, u8V_one]; done)
            refine RunD.done (.inl rfl) (by kernel_rfl) ?_
            refine RunH.meetS n2 [] (.head _) rfl rfl rfl fun u h => h
        · refine opD_step tb_ok (nx := 9) (i := 13) rfl rfl rfl rfl ?_ rfl (fun _ h => h) ⟨rfl, rfl⟩ ?_
          · first | trivial | (simp [AllOb, Ob.P, sum_len, sz_sum, one_int, u8V_one]; done)
          refine RunD.adv tb_ok (by kernel_rfl) [] rfl rfl (by simp [hptr, hq1, hq2, hz] <;> omega) ?_
          refine RunD.gives (i := 2) (.av (.val (.slice (kA k A1 B1) (kList k T Y).length (kA k c1 d1)))) rfl (by kernel_rfl) rfl rfl rfl rfl Tryz.call41 (fun u _ => listK_spec u ⟨⟨A1, c1, T⟩, ⟨B1, d1, Y⟩⟩ k) rfl (fun _ h => h) ?_
          intro n2 hn2
          refine RunD.adv tb_ok (by kernel_rfl) [] rfl rfl (by simp [hptr, hq1, hq2, hz] <;> omega) ?_
          refine RunD.gives (i := 8) (.av (.val (.slice (kA k A1 B1) (kList k T Y).length (kA k c1 d1)))) rfl (by kernel_rfl) rfl rfl rfl rfl Tryz.call41 (fun u _ => listK_spec u ⟨⟨A1, c1, T⟩, ⟨B1, d1, Y⟩⟩ k) rfl (fun _ h => h) ?_
          intro n8 hn8
          refine RunD.adv tb_ok (by kernel_rfl) [] rfl rfl (by simp [hptr, hq1, hq2, hz] <;> omega) ?_
          refine RunD.loadS (i := 12) (.st (entryF x)) rfl (by kernel_rfl) rfl rfl rfl (fun u hu => by rw [hq, hx]; exact (hslk u (Sl.own (B := w.heap.size) (hu.row (κ := kEntry) (l := T) (id := 3) rfl) (by show T.length ≤ lim; omega)) (Sl.own (B := w.heap.size) (hu.row (κ := kEntry) (l := Y) (id := 4) rfl) (by show Y.length ≤ lim; omega))).load hi) rfl (fun _ h => h) ?_
          intro n12 hn12
          refine RunD.adv tb_ok (by kernel_rfl) [] rfl rfl (by simp [hptr, hq1, hq2, hz] <;> omega) ?_
          refine RunD.step tb_ok (i := 14) rfl (by kernel_rfl) rfl rfl rfl ?_ rfl (fun _ h => h) rfl ?_
          · first | trivial | (simp [AllOb, Ob.P, sum_len, sz_sum, one_int, u8V_one]; done)
          refine RunD.done (.inl rfl) (by kernel_rfl) ?_
          refine RunH.meetS m11 [] (.head _) rfl rfl rfl fun u h => h
      · intro bx m12
        refine RunH.toNx 10 ?_
        have g8 := moves_move (q := to) oT oY hk hto hxm rfl rfl
        have hMv := Move_all ⟨⟨A1, c1, T⟩, ⟨B1, d1, Y⟩⟩ k x.path to (by show T.length ≤ _; omega) (by show Y.length ≤ _; omega)
        dsimp only at hMv
        generalize edT (MoveE T Y k x.path to) k (moveL (kList k T Y) x.path to) (kList k Y T) = Tc at *
        generalize edY (MoveE T Y k x.path to) k (moveL (kList k T Y) x.path to) (kList k Y T) = Yc at *
        generalize MoveE T Y k x.path to = ec at *
        rw [hth] at g8
        obtain ⟨f1, f2, f3, f4⟩ := g8
        refine RunH.adv tb_ok [] rfl rfl (by simp <;> omega) ?_
        refine RunH.doesB [] 12 (hc := Tryz.call51) (ho := rfl) (hw := rfl) (hd := rfl) (hf := rfl) (hes := rfl) (hσ := rfl) (hn := rfl) (hV := fun _ => rfl) (hG := fun _ => rfl) (e := fun z : (Option Addr × Nat) × (Option Addr × Nat) => .av (.val (.tuple #[.agg #[.slice z.1.1 Tc.length z.1.2, .slice z.2.1 Yc.length z.2.2], intV ec]))) (hC := hMv) (hp := fun u hu => ⟨(hG.ext hu.fact).max, ⟨Sl.own (B := w.heap.size) (hu.row (κ := kEntry) (l := T) (id := 3) rfl) (by show (T : List Entry).length ≤ lim; omega), Sl.own (B := w.heap.size) (hu.row (κ := kEntry) (l := Y) (id := 4) rfl) (by show (Y : List Entry).length ≤ lim; omega)⟩⟩) ?_
        rintro ⟨⟨Ac, cc⟩, ⟨Bc, dc⟩⟩ mMovec hmMovec
        refine RunH.drop ?_
        refine RunH.adv tb_ok [] rfl rfl (by simp <;> omega) ?_
        refine RunH.tell [(93, .st [.val (.slice Ac Tc.length cc), .val (.slice Bc Yc.length dc)]), (94, intE ec), (16, .av (.box 12 mMovec 0)), (15, .av (.box 9 bx 0)), (2, .av (.val (u8V which))), (7, .av (.box 5 m2 0)), (8, intE k), (9, .av (.box 8 m4 0)), (10, boolE there)] [(10, rowE kEntry Ac cc Tc), (11, rowE kEntry Bc dc Yc), (12, some (.box mMovec [.val (.slice none 0 0), .val (.slice none 0 0)] 24)), (9, some (.box bx (entryF x) 44)), (3, rowE kEntry A1 c1 T), (4, rowE kEntry B1 d1 Y), (5, some (.box m2 [.val (.slice A1 T.length c1), .val (.slice B1 Y.length d1)] 24)), (8, some (.box m4 [.val (strV to)] 9))] [] rfl rfl rfl 13 ?_
        cases there with
        | true =>
          have h5 := f1 rfl
          refine RunH.adv tb_ok [true, true] rfl rfl (by simp [h5] <;> omega) ?_
          refine RunH.gives (ho := rfl) (hw := rfl) (hd := rfl) (hf := rfl) (hes := rfl) (hc := Tryz.call15) (e := .tt) (hC := fun u hu => awake_spec u (hG.ext hu.fact)) ?_
          intro mA hmA
          refine RunH.adv tb_ok [] rfl rfl (by simp <;> omega) ?_
          refine RunH.ret1 Tryz.func12 rfl rfl fun u hu => ⟨rfl, hu.fact⟩
        | false =>
          obtain ⟨h0, hp1, hp2, hm1, hm2, hm3, hs1⟩ := f2 rfl
          subst h0
          have hC2 := Move_all ⟨⟨Ac, cc, Tc⟩, ⟨Bc, dc, Yc⟩⟩ k to x.path (by show Tc.length ≤ _; omega) (by show Yc.length ≤ _; omega)
          have hC3 := hSt ⟨⟨Ac, cc, Tc⟩, ⟨Bc, dc, Yc⟩⟩ x.path (by show Tc.length ≤ _; omega) (by show Yc.length ≤ _; omega)
          dsimp only at hC2 hC3
          rw [hm2, hm3, hm1] at hC2
          rw [hs1] at hC3
          generalize edT 6 k (setL (kList k Tc Yc) ⟨x.path, x9⟩) (kList k Yc Tc) = Te at hC3
          generalize edY 6 k (setL (kList k Tc Yc) ⟨x.path, x9⟩) (kList k Yc Tc) = Ye at hC3
          refine RunH.adv tb_ok [false] rfl rfl (by simp <;> omega) ?_
          refine RunH.gives (ho := rfl) (hw := rfl) (hd := rfl) (hf := rfl) (hes := rfl) (hc := Tryz.call26) (e := .av (.val (.tuple #[sumV x.sum, intV 0]))) (hC := fun u hu => by
            have := Plain_spec u ⟨⟨Ac, cc, Tc⟩, ⟨Bc, dc, Yc⟩⟩ k to (hG.ext hu.fact).max ⟨Sl.own (B := w.heap.size) (hu.row (κ := kEntry) (l := Tc) (id := 10) rfl) (by show (Tc : List Entry).length ≤ lim; omega), Sl.own (B := w.heap.size) (hu.row (κ := kEntry) (l := Yc) (id := 11) rfl) (by show (Yc : List Entry).length ≤ lim; omega)⟩ (by show Tc.length ≤ _; omega) (by show Yc.length ≤ _; omega)
            dsimp only at this
            rw [hp1, hp2] at this
            exact this) ?_
          intro mp hmp
          refine RunH.adv tb_ok [] rfl rfl (by simp <;> omega) ?_
          refine RunH.doesB [] 16 (hc := Tryz.call51) (ho := rfl) (hw := rfl) (hd := rfl) (hf := rfl) (hes := rfl) (hσ := rfl) (hn := rfl) (hV := fun _ => rfl) (hG := fun _ => rfl) (e := fun z : (Option Addr × Nat) × (Option Addr × Nat) => .av (.val (.tuple #[.agg #[.slice z.1.1 T.length z.1.2, .slice z.2.1 Y.length z.2.2], intV 0]))) (hC := hC2) (hp := fun u hu => ⟨(hG.ext hu.fact).max, ⟨Sl.own (B := w.heap.size) (hu.row (κ := kEntry) (l := Tc) (id := 10) rfl) (by show (Tc : List Entry).length ≤ lim; omega), Sl.own (B := w.heap.size) (hu.row (κ := kEntry) (l := Yc) (id := 11) rfl) (by show (Yc : List Entry).length ≤ lim; omega)⟩⟩) ?_
          rintro ⟨⟨Ad, cd⟩, ⟨Bd, dd⟩⟩ md hmd
          refine RunH.drop ?_
          refine RunH.adv tb_ok [] rfl rfl (by simp <;> omega) ?_
          refine RunH.tell [(115, .st [.val (.slice Ad T.length cd), .val (.slice Bd Y.length dd)]), (116, intE 0), (20, .av (.box 16 md 0)), (16, .av (.box 12 mMovec 0)), (17, intE 0), (18, .av (.box 13 mp 0)), (19, intE 0), (15, .av (.box 9 bx 0)), (2, .av (.val (u8V which))), (7, .av (.box 5 m2 0)), (8, intE k), (9, .av (.box 8 m4 0)), (10, boolE false)] [(14, rowE kEntry Ad cd T), (15, rowE kEntry Bd dd Y), (16, some (.box md [.val (.slice none 0 0), .val (.slice none 0 0)] 24)), (12, some (.box mMovec [.val (.slice Ac Tc.length cc), .val (.slice Bc Yc.length dc)] 24)), (10, rowE kEntry Ac cc Tc), (11, rowE kEntry Bc dc Yc), (13, some (.box mp [.val (sumV x.sum)] 39)), (9, some (.box bx (entryF x) 44)), (3, rowE kEntry A1 c1 T), (4, rowE kEntry B1 d1 Y), (5, some (.box m2 [.val (.slice A1 T.length c1), .val (.slice B1 Y.length d1)] 24)), (8, some (.box m4 [.val (strV to)] 9))] [] rfl rfl rfl 17 ?_
          refine RunH.adv tb_ok [] rfl rfl (by simp <;> omega) ?_
          refine RunH.read (sumE x9) rfl rfl rfl rfl (fun w' a _ ha => ?_) ?_
          · simp only [execOp, List.map_toArray, List.map_cons, List.map_nil, Sem.run_bind, Result.andThen_ok, Sem.run_pure]
            rw [show a.eval (.const (.int .u8 9)) = .int .u8 9 from rfl, build_sum1, Result.andThen_ok, h9]
          refine RunH.adv tb_ok [] rfl rfl (by simp <;> omega) ?_
          refine RunH.doesB [] 19 (hc := Tryz.call48) (ho := rfl) (hw := rfl) (hd := rfl) (hf := rfl) (hes := rfl) (hσ := rfl) (hn := rfl) (hV := fun _ => rfl) (hG := fun _ => rfl) (e := fun z : (Option Addr × Nat) × (Option Addr × Nat) => .av (.val (.tuple #[.agg #[.slice z.1.1 Te.length z.1.2, .slice z.2.1 Ye.length z.2.2], intV 6]))) (hC := hC3) (hp := fun u hu => ⟨(hG.ext hu.fact).max, ⟨Sl.own (B := w.heap.size) (hu.row (κ := kEntry) (l := Tc) (id := 10) rfl) (by show (Tc : List Entry).length ≤ lim; omega), Sl.own (B := w.heap.size) (hu.row (κ := kEntry) (l := Yc) (id := 11) rfl) (by show (Yc : List Entry).length ≤ lim; omega)⟩⟩) ?_
          rintro ⟨⟨Ae, ce⟩, ⟨Be, de⟩⟩ me hme
          refine RunH.drop ?_
          refine RunH.adv tb_ok [] rfl rfl (by simp <;> omega) ?_
          refine RunH.tell [(124, .st [.val (.slice Ae Te.length ce), .val (.slice Be Ye.length de)]), (125, intE 6), (22, .av (.box 19 me 0)), (20, .av (.box 16 md 0)), (21, intE 0), (16, .av (.box 12 mMovec 0)), (17, intE 0), (18, .av (.box 13 mp 0)), (19, intE 0), (15, .av (.box 9 bx 0)), (2, .av (.val (u8V which))), (7, .av (.box 5 m2 0)), (8, intE k), (9, .av (.box 8 m4 0)), (10, boolE false)] [(17, rowE kEntry Ae ce Te), (18, rowE kEntry Be de Ye), (19, some (.box me [.val (.slice none 0 0), .val (.slice none 0 0)] 24)), (14, rowE kEntry Ad cd T), (15, rowE kEntry Bd dd Y), (16, some (.box md [.val (.slice Ad T.length cd), .val (.slice Bd Y.length dd)] 24)), (12, some (.box mMovec [.val (.slice Ac Tc.length cc), .val (.slice Bc Yc.length dc)] 24)), (10, rowE kEntry Ac cc Tc), (11, rowE kEntry Bc dc Yc), (13, some (.box mp [.val (sumV x.sum)] 39)), (9, some (.box bx (entryF x) 44)), (3, rowE kEntry A1 c1 T), (4, rowE kEntry B1 d1 Y), (5, some (.box m2 [.val (.slice A1 T.length c1), .val (.slice B1 Y.length d1)] 24)), (8, some (.box m4 [.val (strV to)] 9))] [] rfl rfl rfl 20 ?_
          refine RunH.adv tb_ok [true, true] rfl rfl (by simp <;> omega) ?_
          refine RunH.read (boolE (decide (x.sum = x.sum))) rfl rfl rfl rfl (fun u q h hag => op_eqlE hag rfl rfl rfl rfl rfl (by kernel_rfl) (eq_sum u 9998 _ _)) ?_
          refine RunH.adv tb_ok [true, true] rfl rfl (by simp <;> omega) ?_
          refine RunH.gives (ho := rfl) (hw := rfl) (hd := rfl) (hf := rfl) (hes := rfl) (hc := Tryz.call21) (e := boolE (decide (T = T) && decide (Y = Y))) (hC := fun u hu => space_Same u ⟨⟨Ad, cd, T⟩, ⟨Bd, dd, Y⟩⟩ ⟨⟨A1, c1, T⟩, ⟨B1, d1, Y⟩⟩ ⟨Sl.own (B := w.heap.size) (hu.row (κ := kEntry) (l := T) (id := 14) rfl) (by show (T : List Entry).length ≤ lim; omega), Sl.own (B := w.heap.size) (hu.row (κ := kEntry) (l := Y) (id := 15) rfl) (by show (Y : List Entry).length ≤ lim; omega)⟩ ⟨Sl.own (B := w.heap.size) (hu.row (κ := kEntry) (l := T) (id := 3) rfl) (by show (T : List Entry).length ≤ lim; omega), Sl.own (B := w.heap.size) (hu.row (κ := kEntry) (l := Y) (id := 4) rfl) (by show (Y : List Entry).length ≤ lim; omega)⟩) ?_
          intro mf hmf
          refine RunH.adv tb_ok [true, true] rfl rfl (by simp <;> omega) ?_
          refine RunH.gives (ho := rfl) (hw := rfl) (hd := rfl) (hf := rfl) (hes := rfl) (hc := Tryz.call15) (e := .tt) (hC := fun u hu => awake_spec u (hG.ext hu.fact)) ?_
          intro mA hmA
          refine RunH.adv tb_ok [] rfl rfl (by simp <;> omega) ?_
          refine RunH.ret1 Tryz.func12 rfl rfl fun u hu => ⟨rfl, hu.fact⟩
end Go.Proofs.YtagnkcdhenilbaaGreatDoor

/-
SpaceMoves: the law is true for every input; the listed variables hold what the program's text lays.
-/
namespace Go.Proofs.YtagnkcdhenilbaaGreatDoor
open Go V RowKit Go.ChangeShapes Go.WideShapes Go.ChangeAt

set_option maxRecDepth 100000 in
theorem spaceMoves_lifted (os : Os) (started : os.Started) (H : Type) (enc : TypeId × Value → H) :
    ReturnsInHanded {} Tryz.checked os 12 .any (fun w args => (Rows.spaceMovesSpec.pre enc Tryz.prog Tryz.f12 [] false w args ∧ laidMetH Tryz.prog Rows.spaceMovesRow.laid w) ∧ sizedMet enc Tryz.prog Tryz.f12 (OpenSpec.ofChange Rows.spaceMovesSpec) false w args)
      (Rows.spaceMovesSpec.post enc Tryz.prog Tryz.f12 false true false false) := by
  refine wrap (C := Tryz.checked) (X := fun w _ => laidMetH Tryz.prog Rows.spaceMovesRow.laid w) (fun _ _ _ hh h => h.of_heap hh) ownKnobs started (by kernel_rfl) Tryz.func12
    (ChangeSpec.witness_shaped (enc := enc) (C := Tryz.checked) (os := os) (X := fun w _ => laidMetH Tryz.prog Rows.spaceMovesRow.laid w) false (World.laidAll Tryz.prog os Rows.spaceMovesRow.laid)
      #[.slice none 0 0, .slice none 0 0, .int .u8 0] 8 (World.laidAll_os _ _ _)
      (World.shaped_of_ZipB (by kernel_rfl) (by kernel_rfl)) (by kernel_rfl) (by kernel_rfl) (by kernel_rfl)
      (by rw [MakeChecks.laidMetH_plain _ _ _ (by kernel_rfl)]; exact laidMet_laidAll _ (by kernel_rfl) (by kernel_rfl))) ?_
  intro W base args ds gs before hval0 hW hsz0 hL hS
  have hval : ∀ (j : Nat) t v, Tryz.f12.params[j]? = some t → args[j]? = some v → Value.okWide Tryz.prog W .any base t v := hval0
  have hsz : (DataW.weightsEach Tryz.prog (Tryz.f12.params.toList ++ Rows.spaceMovesSpec.plain.varTypes Tryz.prog) (ds ++ gs)).all (· ≤ reachBytes) = true := hsz0
  have hW' := hW
  obtain ⟨p, q, hA0, hV, rfl, _, _⟩ := hW
  have hA : DataW.TrodAll enc Tryz.prog W 0 (fun _ => true) true Tryz.f12.params.toList args.toList ds p := hA0
  rw [Tryz.params12] at hA hval hsz
  obtain ⟨v0, v1, v2, d0, d1, d2, p0, p1, p2, rfl, rfl, rfl, h0, h1, h2⟩ := trodAll_three hA
  obtain ⟨rfl, rfl⟩ := trodVars_none hV
  have wt : ∀ {j : Nat} {t : TypeId} {d : DataW H}, [54, 54, 5][j]? = some t → [d0, d1, d2][j]? = some d → ∀ n ∈ d.weights Tryz.prog t, n ≤ reachBytes := by
    intro j t d ht hd n hn
    exact of_decide_eq_true (List.all_eq_true.1 hsz _ (DataW.weights_mem_each ht hd n hn))
  obtain ⟨x0, rfl, hx0⟩ := open_bytes h0 (wt (j := 0) rfl rfl) (hval 0 _ v0 rfl rfl)
  obtain ⟨x1, rfl, hx1⟩ := open_bytes h1 (wt (j := 1) rfl rfl) (hval 1 _ v1 rfl rfl)
  obtain ⟨x2, rfl⟩ := open_u8 (hval 2 _ v2 rfl rfl) h2
  refine (moves_walk W (glob_of hS (show laidMetH Tryz.prog Rows.spaceChecksRow.laid W from hL)) x0.A x0.c x0.l hx0 x1.A x1.c x1.l hx1 x2).mono fun e W' ⟨he, hb⟩ => ?_
  subst he
  exact ⟨_, rfl, _, _, _, [], _, [], hW', trodAll_mk1 (shut_bool Tryz.underlying4 _),
    trodAll_mk3 (Below.trod laidOuts (by kernel_rfl) (of_decide_eq_true (by kernel_rfl)) h0 hb (fun y hy => hW'.lt y (by simp [hy]))) (Below.trod laidOuts (by kernel_rfl) (of_decide_eq_true (by kernel_rfl)) h1 hb (fun y hy => hW'.lt y (by simp [hy]))) (Below.trod laidOuts (by kernel_rfl) (of_decide_eq_true (by kernel_rfl)) h2 hb (fun y hy => hW'.lt y (by simp [hy]))), rfl, hb.frame _, fun h => by cases h⟩

end Go.Proofs.YtagnkcdhenilbaaGreatDoor

/-
The closed facts of spaceMoves's row and card, one by one; no condition.
-/
namespace Go.Proofs.YtagnkcdhenilbaaGreatDoor
open Go
theorem spaceMoves_c0 : (Rows.spaceMovesRow.wf (OpenSpec.ofChange Rows.spaceMovesSpec) : Bool) = true := by kernel_rfl
theorem spaceMoves_c1 : (laidOutB Tryz.prog : Bool) = true := by kernel_rfl
theorem spaceMoves_c2 : (mapsRowed Tryz.prog : Bool) = true := by kernel_rfl
theorem spaceMoves_c3 : (Tryz.f12.params.all (Tryz.prog.readableRec ·) : Bool) = true := by kernel_rfl
theorem spaceMoves_c4 : (namedTie Tryz.prog Rows.spaceMovesRow.named Rows.spaceMovesSpec.vars : Bool) = true := by kernel_rfl
theorem spaceMoves_c5 : (Rows.spaceMovesRow.stops == [] : Bool) = true := by kernel_rfl
theorem spaceMoves_c6 : (Tryz.prog.stops == [] : Bool) = true := by kernel_rfl
theorem spaceMoves_c7 : (Rows.spaceMovesRow.knobs == [] : Bool) = true := by kernel_rfl
theorem spaceMoves_c8 : (Tryz.prog.stopKnobs == [] : Bool) = true := by kernel_rfl
theorem spaceMoves_c9 : (Rows.spaceMovesRow.inPlace == Tryz.prog.inPlace 12 : Bool) = true := by kernel_rfl
theorem spaceMoves_c10 : (Rows.spaceMovesRow.unfollowed == Tryz.prog.unfollowed 12 : Bool) = true := by kernel_rfl
theorem spaceMoves_c11 : (Rows.spaceMovesRow.recurses == Tryz.prog.recurses 12 : Bool) = true := by kernel_rfl
theorem spaceMoves_c12 : (Rows.spaceMovesRow.named == Tryz.prog.varsNamed 12 : Bool) = true := by kernel_rfl
theorem spaceMoves_c13 : (Rows.spaceMovesRow.maps == (Tryz.f12.params.toList ++ Rows.spaceMovesSpec.plain.varTypes Tryz.prog).any (Tryz.prog.mapsRec ·) : Bool) = true := by kernel_rfl
theorem spaceMoves_c14 : (Rows.spaceMovesRow.ifaces == (Tryz.f12.params.toList ++ Rows.spaceMovesSpec.plain.varTypes Tryz.prog).any (Tryz.prog.ifacesRec ·) : Bool) = true := by kernel_rfl
theorem spaceMoves_c15 : (Rows.spaceMovesRow.mapsOut == Tryz.prog.mapsAmong Tryz.f12.resultTypes.toList : Bool) = true := by kernel_rfl
theorem spaceMoves_c16 : (Rows.spaceMovesRow.loops == (Tryz.f12.params.toList ++ Rows.spaceMovesSpec.plain.varTypes Tryz.prog).any (Tryz.prog.loopsFrom ·) : Bool) = true := by kernel_rfl
theorem spaceMoves_c17 : (Rows.spaceMovesRow.wideKeys == (Tryz.f12.params.toList ++ Rows.spaceMovesSpec.plain.varTypes Tryz.prog ++ Tryz.f12.resultTypes.toList).any (Tryz.prog.wideKeysFrom ·) : Bool) = true := by kernel_rfl
theorem spaceMoves_c18 : (Rows.spaceMovesSpec.vars.all (Tryz.prog.varReadable ·) : Bool) = true := by kernel_rfl
theorem spaceMoves_c19 : (Tryz.f12.resultTypes.all (fun t => Tryz.prog.readableRec t && decide (t < Tryz.prog.types.size)) : Bool) = true := by kernel_rfl
theorem spaceMoves_c20 : (Rows.spaceMovesRow.ifacesOut == Tryz.f12.resultTypes.toList.any (Tryz.prog.ifacesRec ·) : Bool) = true := by kernel_rfl
theorem spaceMoves_c21 : (Rows.spaceMovesRow.loopsOut == Tryz.f12.resultTypes.toList.any (Tryz.prog.loopsFrom ·) : Bool) = true := by kernel_rfl
theorem spaceMoves_c22 : (Rows.spaceMovesRow.plainKeys == Tryz.prog.plainKeys : Bool) = true := by kernel_rfl
theorem spaceMoves_c23 : (Rows.spaceMovesRow.shortTexts.isNone : Bool) = true := by kernel_rfl
theorem spaceMoves_c24 : (Tryz.prog.stopsHeard : Bool) = true := by kernel_rfl
theorem spaceMoves_c25 : (Tryz.prog.mayEnter : Bool) = true := by kernel_rfl
theorem spaceMoves_c26 : (Rows.spaceMovesRow.lifted == Tryz.prog.liftsFinal : Bool) = true := by kernel_rfl
theorem spaceMoves_c27 : (Tryz.prog.make == some Rows.spaceMovesRow.make : Bool) = true := by kernel_rfl
theorem spaceMoves_c28 : (Rows.spaceMovesRow.kinds == (if Rows.spaceMovesRow.domain.isEmpty then [] else Tryz.f12.params.toList.map fun t => match Tryz.prog.underlying t with | some (.int k) => some k | _ => none) : Bool) = true := by kernel_rfl
theorem spaceMoves_c29 : (Rows.spaceMovesRow.pinned == Rows.spaceMovesRow.pinnedBy : Bool) = true := by kernel_rfl
theorem spaceMoves_c30 : (Rows.spaceMovesRow.veiled == (Tryz.f12.params.toList ++ Rows.spaceMovesSpec.plain.varTypes Tryz.prog ++ Tryz.f12.resultTypes.toList).any (Tryz.prog.veiledRec ·) : Bool) = true := by kernel_rfl
theorem spaceMoves_c31 : (Rows.spaceMovesRow.veiledFits Tryz.prog Tryz.f12.params.toList (Tryz.f12.params.toList ++ Rows.spaceMovesSpec.plain.varTypes Tryz.prog ++ Tryz.f12.resultTypes.toList) : Bool) = true := by kernel_rfl
set_option maxRecDepth 100000 in
theorem spaceMoves_joined : joinedFacts Tryz.prog 12 Tryz.f12 Rows.spaceMovesSpec Rows.spaceMovesRow = true :=
  joined_of spaceMoves_c0 spaceMoves_c1 spaceMoves_c2 spaceMoves_c3 spaceMoves_c4 spaceMoves_c5 spaceMoves_c6 spaceMoves_c7 spaceMoves_c8 spaceMoves_c9 spaceMoves_c10 spaceMoves_c11 spaceMoves_c12 spaceMoves_c13 spaceMoves_c14 spaceMoves_c15 spaceMoves_c16 spaceMoves_c17 spaceMoves_c18 spaceMoves_c19 spaceMoves_c20 spaceMoves_c21 spaceMoves_c22 spaceMoves_c23 spaceMoves_c24 spaceMoves_c25 spaceMoves_c26 spaceMoves_c27 spaceMoves_c28 spaceMoves_c29 spaceMoves_c30 spaceMoves_c31
theorem spaceMoves_named : Tryz.prog.funcNamed "hoarstone/hoarstonelaw07.SpaceMoves" = some 12 := by kernel_rfl
theorem spaceMoves_inst : decide (Tryz.f12.isInstance Tryz.prog Rows.spaceMovesRow.origin Rows.spaceMovesRow.targs) = true := by kernel_rfl
theorem spaceMoves_wfText : Rows.spaceMovesRow.wfByText (OpenSpec.ofChange Rows.spaceMovesSpec) = true := by kernel_rfl
theorem spaceMoves_goes : (false = Rows.spaceMovesRow.goesBy Tryz.prog) := by kernel_rfl
end Go.Proofs.YtagnkcdhenilbaaGreatDoor

/-
SpaceMoves: the law is true for every input; its listed package variables hold what the program's text lays (the card ties them). No condition.
-/
namespace Go.Proofs.YtagnkcdhenilbaaGreatDoor
open Go
theorem spaceMoves_wrapped : Tryz.f12.isWrapper Tryz.prog Rows.spaceMovesRow.wrapper Rows.spaceMovesRow.mainSum := by
  unfold Func.isWrapper; first | (rw [if_pos (by decide +kernel)]; kernel_rfl) | (rw [if_neg (by decide +kernel)]; exact ⟨rfl, rfl⟩)
theorem spaceMoves_prog : Rows.spaceMovesRow.program = Tryz.pinned.name := by kernel_rfl
theorem spaceMoves_sum : Rows.spaceMovesRow.sum = Tryz.pinned.sum := by kernel_rfl
theorem spaceMoves_spec : Rows.spaceMovesRow.spec = Rows.spaceMovesSpec.name := by kernel_rfl
theorem spaceMoves_holds : Rows.SpaceMovesSaid :=
  OpenClaim.holds_of_wide 12 Tryz.f12 spaceMoves_prog spaceMoves_sum spaceMoves_spec rfl rfl rfl rfl ⟨rfl, rfl, rfl, rfl, rfl⟩ rfl rfl rfl rfl rfl spaceMoves_named Tryz.func12 spaceMoves_joined
    (of_decide_eq_true spaceMoves_inst) spaceMoves_wrapped (fun os started H enc _ => spaceMoves_lifted os started H enc)
theorem spaceMoves_main : Tryz.prog.mainIs = some (Rows.spaceMovesCard.stood.harness.1, Rows.spaceMovesCard.stood.harness.2.toList) := by kernel_rfl
theorem spaceMoves_har : (!Rows.spaceMovesCard.stood.harness.1 && Rows.spaceMovesCard.stood.harness.2.isEmpty && !false) = false := by kernel_rfl
theorem spaceMoves_looks : false = Tryz.prog.looks [] := by kernel_rfl
theorem spaceMoves_plain : ([54, 54, 5].all fun u => !Tryz.prog.wantsStandIn u) = true := by kernel_rfl
theorem spaceMoves_card_holds : Rows.SpaceMovesCardSaid :=
  Claim7.holds_tied_plain_at .later [] [.data, .data, .data, .pinned] true Rows.spaceMovesCard.stood.harness false
    spaceMoves_holds (fun _ h => by cases h) spaceMoves_wfText (fun _ h => by cases h) spaceMoves_row_tie rfl ⟨rfl, rfl⟩ spaceMoves_main spaceMoves_har
    (fun f fn hf hfn => by
      obtain rfl : f = 12 := (Option.some.inj (spaceMoves_named.symm.trans hf)).symm
      obtain rfl : fn = Tryz.f12 := (Option.some.inj (Tryz.func12.symm.trans hfn)).symm
      exact ⟨spaceMoves_looks, fun j t ht => by
        rw [Tryz.params12] at ht
        have hm : t ∈ [54, 54, 5] := by simpa using Array.mem_of_getElem? ht
        exact (show Tryz.prog.wantsStandIn t = false by simpa using List.all_eq_true.1 spaceMoves_plain t hm)⟩)
    spaceMoves_goes
#print axioms spaceMoves_card_holds
end Go.Proofs.YtagnkcdhenilbaaGreatDoor
