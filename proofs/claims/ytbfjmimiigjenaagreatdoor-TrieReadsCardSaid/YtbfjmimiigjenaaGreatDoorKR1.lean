/-
Contracts of functions, and lemmas on them. No condition.
-/
import Derived.Test.YtbfjmimiigjenaaGreatDoorRows
import Derived.ProofKit
import Derived.OpenShut
import Derived.Lay
import Derived.Carry
import Derived.HandedShaped
import Derived.Shelf.Vars
import Derived.MakeChecks
import Derived.Test.YtbfjmimiigjenaaGreatDoorTie
import Derived.Test.YtbfjmimiigjenaaGreatDoorCards
import Derived.LaidMore
import Derived.SevenTiedAt
import Derived.Stop.Joined
import Derived.JoinedOf
import Derived.Test.YtbfjmimiigjenaaGreatDoorKPW3
import Derived.Test.YtbfjmimiigjenaaGreatDoorKPW7
set_option linter.unusedVariables false
set_option linter.unusedSectionVars false
set_option linter.unusedSimpArgs false
namespace Go.Proofs.YtbfjmimiigjenaaGreatDoor
open Go V RowKit
namespace V
theorem wrap {H : Type} {enc : TypeId × Value → H} {a : Assume} {C : Checked} {os : Os} {f : FuncId} {fn : Func} {s : ChangeSpec} {conds : List PathCond} {apart fresh handsOn again : Bool} {X : World → Array Value → Prop}
    (hX : ∀ (w w' : World) (args : Array Value), w.heap = w'.heap → X w args → X w' args)
    (own : ownKnob C.prog.godebug = none) (started : os.Started) (noInit : C.prog.inits.idxOf? f = none) (hfn : C.prog.funcs[f]? = some fn)
    (witness : ∃ (w : World) (tape : Tape) (i : Input), w.os = os ∧ (w.forCall tape i).Shaped C.prog ∧ i.vars = [] ∧ Input.okWide C.prog (w.forCall tape i) .any w.heap.size f i ∧
      ((s.pre enc C.prog fn conds apart (w.forCall tape i).memory i.args ∧ X (w.forCall tape i).memory i.args) ∧ sizedMet enc C.prog fn (OpenSpec.ofChange s) apart (w.forCall tape i).memory i.args) ∧ a.holds C.prog (lone (Frame.enter C.prog f i.args .normal) [] (w.forCall tape i)))
    (contract : ∀ (W : World) (base : Nat) (args : Array Value) (ds gs : List (DataW H)) (before : List MemPlace),
      (∀ (j : Nat) t v, fn.params[j]? = some t → args[j]? = some v → Value.okWide C.prog W .any base t v) →
      DataW.Whole enc C.prog fn.params.toList s.vars apart W args.toList ds gs before →
      (DataW.weightsEach C.prog (fn.params.toList ++ s.plain.varTypes C.prog) (ds ++ gs)).all (· ≤ reachBytes) = true → X W args → W.ShapedOpen C.prog →
      Calls C.prog f args W fun e W' => ∃ v, e = .returned v ∧ s.post enc C.prog fn apart fresh handsOn again W args v W') :
    ReturnsInHanded a C os f .any (fun w args => (s.pre enc C.prog fn conds apart w args ∧ X w args) ∧ sizedMet enc C.prog fn (OpenSpec.ofChange s) apart w args) (s.post enc C.prog fn apart fresh handsOn again) := by
  refine returnsInHanded_of_calls own started noInit witness ?_
  intro w tape i _ hsh _ hok hpre hholds
  obtain ⟨_, _, _, fn', hfn', _, _, _, _, hval⟩ := hok
  have e : fn' = fn := Option.some.inj (hfn'.symm.trans hfn)
  subst e
  obtain ⟨⟨⟨ds, gs, before, hw, hc⟩, hx⟩, hz⟩ := hpre
  have hw' := DataW.Whole.of_heap (w' := w.forCall tape i) (by rfl) hw
  refine (contract (w.forCall tape i) w.heap.size i.args ds gs before hval hw' (hz.weights hw) (hX _ _ _ (by rfl) hx) hsh).mono fun e W' ⟨v, he, hp⟩ => ?_
  subst he
  exact ChangeSpec.post_blind hp
section
open Go.ChangeShapes
variable {H : Type} {enc : TypeId × Value → H} {w : World} {base : Nat} {sp : Nat → Bool} {held : Bool}
theorem open_row {α : Type} (κ : Kd α) {st : TypeId} (hs : Tryz.prog.underlying st = some (.slice κ.T)) (hc : Tryz.prog.cellsOf κ.T = κ.sz) (hp : 0 < κ.sz) (hb : 0 < Tryz.prog.bytesOf κ.T)
    (hopen : ∀ {w : World} {base : Nat} {sp : Nat → Bool} {held : Bool} {fuel : Nat} {cs : List Value} {x : DataW H × List MemPlace}, DataW.trod enc Tryz.prog w base sp held fuel κ.T cs = some x → ∃ e : α, cs = κ.cs e)
    {fuel : Nat} {cs : List Value} {x : DataW H × List MemPlace} (h : DataW.trod enc Tryz.prog w base (fun _ => true) held fuel st cs = some x)
    (hz : ∀ n ∈ x.1.weights Tryz.prog st, n ≤ reachBytes) : ∃ r : Row α, cs = [.slice r.A r.l.length r.c] ∧ r.ok κ w := by
  rcases DataW.trod_slice hs h with ⟨rfl, rfl⟩ | ⟨a, len, cap, elems, rest, n, _, rfl, rfl, _, hl, _, hlen, hel, hsp, _⟩
  · exact ⟨⟨none, 0, []⟩, rfl, ⟨Nat.le_refl _, Nat.zero_le _, fun h => absurd rfl h, fun j v hv => by simp at hv, fun _ => ⟨rfl, rfl⟩⟩⟩
  · have hr := (hsp rfl).1
    have hcap : cap ≤ lim := by
      have := hz ((elems.length + rest.length) * Tryz.prog.bytesOf κ.T) (by simp [DataW.weights, hs])
      have h2 : cap * 1 ≤ cap * Tryz.prog.bytesOf κ.T := Nat.mul_le_mul_left _ hb
      have h3 : elems.length + rest.length = cap := by omega
      rw [h3] at this
      have : reachBytes = lim := rfl
      omega
    have hex : ∀ i, i < len → ∃ e : α, w.cells? base (a.add (i * κ.sz)) κ.sz = some (κ.cs e) := fun i hi => by
      have hE := hel i hi
      rw [hc, List.getElem?_eq_getElem (by omega), Option.bind_eq_some_iff] at hE
      obtain ⟨c1, hc1, hy⟩ := hE
      obtain ⟨e, rfl⟩ := hopen hy
      exact ⟨e, hc1⟩
    obtain ⟨l, hll, hl2⟩ : ∃ l : List α, l.length = len ∧ ∀ i (h : i < l.length), w.cells? base (a.add (i * κ.sz)) κ.sz = some (κ.cs l[i]) := by
      refine ⟨(List.range len).attach.map fun i => (hex i.1 (List.mem_range.1 i.2)).choose, by simp, fun i hi => ?_⟩
      simp only [List.length_map, List.length_attach, List.length_range] at hi
      simp only [List.getElem_map, List.getElem_attach, List.getElem_range]
      exact (hex i hi).choose_spec
    have hcell : ∀ i (h : i < l.length) j, j < κ.sz → w.cell? ((a.add (i * κ.sz)).add j) = (κ.cs l[i])[j]? := fun i h j hj => by
      have h1 := hl2 i h
      unfold World.cells? at h1
      split at h1
      · have := mapM_some_get h1 j j (by simp [hj])
        exact this
      · cases h1
    have hspot : l ≠ [] → a.spot = none := fun hne => by
      have h0 : 0 < l.length := List.length_pos_iff.2 hne
      have := hcell 0 h0 0 hp
      rw [List.getElem?_eq_getElem (by rw [κ.cs_len]; exact hp)] at this
      unfold World.cell? at this
      cases ha : a.spot with
      | none => rfl
      | some k =>
        have hs1 : ((a.add (0 * κ.sz)).add 0).spot.isSome = true := by simp [Addr.add, ha]
        simp only [hs1, if_true] at this
        split at this <;> cases this
    refine ⟨⟨some a, cap, l⟩, by rw [hll], ⟨by rw [hll]; exact hl, by show l.length ≤ lim; omega, ?_, ?_, fun h => by cases h⟩⟩
    · intro hne
      show some a = some ⟨a.block, a.off, none⟩
      rw [← hspot hne]
    · intro j v hv
      have hj : j < l.length * κ.sz := by
        rw [← κ.flat_len]; exact (List.getElem?_eq_some_iff.1 hv).1
      have hi : j / κ.sz < l.length := Nat.div_lt_of_lt_mul (by rw [Nat.mul_comm]; exact hj)
      have hne : l ≠ [] := fun e => by subst e; simp at hi
      have hm : j % κ.sz < κ.sz := Nat.mod_lt _ hp
      have := hcell (j / κ.sz) hi (j % κ.sz) hm
      have hg := κ.get l (j / κ.sz) hi
      have e1 : (κ.cs l[j / κ.sz])[j % κ.sz]? = (l.flatMap κ.cs)[j]? := by
        rw [← hg, List.getElem?_take_of_lt hm, List.getElem?_drop, Nat.mul_comm, Nat.div_add_mod]
      rw [e1, hv] at this
      have ha := hspot hne
      have ea : (⟨blkA (some a), offA (some a) + j, none⟩ : Addr) = (a.add (j / κ.sz * κ.sz)).add (j % κ.sz) := by
        obtain ⟨ab, ao, asp⟩ := a
        have ha' : asp = none := ha
        subst ha'
        rw [Addr.add_mid, Addr.add_mid]
        show (⟨ab, ao + j, none⟩ : Addr) = _
        rw [Nat.add_assoc, Nat.mul_comm, Nat.div_add_mod]
      show w.cell? (⟨blkA (some a), offA (some a) + j, none⟩ : Addr) = some v
      rw [ea]
      exact this
end
end V
end Go.Proofs.YtbfjmimiigjenaaGreatDoor
namespace Go.Proofs.YtbfjmimiigjenaaGreatDoor
open Go V RowKit
namespace V
theorem u32s_of : ∀ (cs : List Value) (zs : List Int), cs.length = zs.length → (∀ i (h : i < zs.length), (cs.drop i).take 1 = [.int .u32 zs[i]]) → cs = zs.map fun z => .int .u32 z
  | [], [], _, _ => rfl
  | c :: r, z :: t, hl, h => by
    rw [List.map_cons, ← u32s_of r t (by simpa using hl) (fun i hi => h (i + 1) (Nat.succ_lt_succ hi))]
    have := h 0 (by simp)
    simp at this
    rw [this]
  | [], _ :: _, hl, _ => by simp at hl
  | _ :: _, [], hl, _ => by simp at hl
theorem laid_words {W : World} {nm : String} {g : Nat} {t u : TypeId} {cs : Array Value} {fuel n : Nat} {p : List MemPlace} {zs : List Int} (hg : Tryz.prog.globalNamed nm = some g)
    (hu : Tryz.prog.underlying t = some (.array n u)) (hi : Tryz.prog.underlying u = some (.int .u32)) (c1 : Tryz.prog.cellsOf u = 1) (cn : Tryz.prog.cellsOf t = n)
    (hv : W.var? Tryz.prog nm = some cs) {enc : TypeId × Value → Unit} {base : Nat} {sp : Nat → Bool} {held : Bool}
    (hd : DataW.trod enc Tryz.prog W base sp held fuel t cs.toList = some (.agg (zs.map fun z => .lit (.int .u32 z)), p)) : W.rangeAt g 0 (zs.map fun z => .int .u32 z) := by
  obtain ⟨xs, m, _, ex, hl, hn, hel⟩ := DataW.trod_array hu hd
  rw [cn] at hl
  have e3 : (xs.map (·.1)) = zs.map fun z => (DataW.lit (.int .u32 z) : DataW Unit) := (DataW.agg.inj (Prod.mk.inj ex).1).symm
  have hzl : zs.length = n := by
    have := congrArg List.length e3
    simp at this
    omega
  have hcs : cs.toList = zs.map fun z => .int .u32 z := by
    refine u32s_of _ _ (by omega) fun i hi' => ?_
    have hE := hel i (by omega)
    rw [c1, Nat.mul_one, List.getElem?_eq_getElem (by omega)] at hE
    obtain ⟨z, e1, e2, _⟩ := DataW.trod_int hi hE
    have e4 : (xs.map (·.1))[i]? = (zs.map fun z => (DataW.lit (.int .u32 z) : DataW Unit))[i]? := by rw [e3]
    rw [List.getElem?_map, List.getElem?_map, List.getElem?_eq_getElem (by omega : i < xs.length), List.getElem?_eq_getElem hi', e2] at e4
    simp only [Option.map_some, Option.some.injEq, DataW.lit.injEq, Lit.int.injEq, true_and] at e4
    rw [e1, e4]
  intro j v hv'
  rw [← hcs] at hv'
  have := World.var?_cell hg hv (0 + j)
  rw [this, Nat.zero_add]
  simpa using hv'
theorem glob_of {W : World} (hS : W.ShapedOpen Tryz.prog) (h : laidMetH Tryz.prog Rows.trieShapeRow.laid W) : Glob W := by
  have hmax : MaxLen W := by
    refine cell_of_shapedOpen_int hS (t := 3) (of_decide_eq_true (by kernel_rfl)) (zero := #[.int .i64 0]) (by kernel_rfl) rfl (by kernel_rfl) (by kernel_rfl) Tryz.underlying3
  rw [MakeChecks.laidMetH_plain _ _ _ (by kernel_rfl)] at h
  obtain ⟨ps, ⟨g1, t1, cs1, f1, pA, q1, hgA, htA, hvA, hdA, ⟨g2, t2, cs2, f2, pB, q2, hgB, htB, hvB, hdB, ⟨g0, t0, cs0, f0, p0, q0, hg0, ht0, hv0, hd0, _, _⟩, _⟩, _⟩, _, _⟩ := h
  obtain rfl := Option.some.inj ((show Tryz.prog.globalNamed "hoarstone/sum.constants" = some 1 by kernel_rfl).symm.trans hgA)
  obtain rfl := Option.some.inj ((show Tryz.prog.globalNamed "hoarstone/sum.begin" = some 0 by kernel_rfl).symm.trans hgB)
  obtain rfl := Option.some.inj ((show (Tryz.prog.globals[1]?).map (·.type) = some 367 by kernel_rfl).symm.trans htA)
  obtain rfl := Option.some.inj ((show (Tryz.prog.globals[0]?).map (·.type) = some 226 by kernel_rfl).symm.trans htB)
  refine ⟨hmax, ?_, ?_⟩
  · have e : constW.map u32V = (constW.map fun x => (x.toNat : Int)).map fun z => .int .u32 z := by rw [List.map_map]; rfl
    rw [e]
    refine laid_words hgA Tryz.underlying367 Tryz.underlying225 (by kernel_rfl) (by kernel_rfl) hvA (hdA.trans (congrArg (fun d => some (d, pA)) (show (Rows.laid_hoarstone_sum_constants : DataW Unit) = _ from by kernel_rfl)))
  · have e : beginW.map u32V = (beginW.map fun x => (x.toNat : Int)).map fun z => .int .u32 z := by rw [List.map_map]; rfl
    rw [e]
    refine laid_words hgB Tryz.underlying226 Tryz.underlying225 (by kernel_rfl) (by kernel_rfl) hvB (hdB.trans (congrArg (fun d => some (d, pB)) (show (Rows.laid_hoarstone_sum_begin : DataW Unit) = _ from by kernel_rfl)))
end V
end Go.Proofs.YtbfjmimiigjenaaGreatDoor
namespace Go.Proofs.YtbfjmimiigjenaaGreatDoor
open Go V RowKit Go.ChangeShapes Go.WideShapes Go.ChangeAt
theorem ownKnobs : ownKnob Tryz.prog.godebug = none := by kernel_rfl
theorem laidOuts : laidOutB Tryz.prog = true := by kernel_rfl
section
variable {H : Type} {enc : TypeId × Value → H} {P : Program} {w : World} {base : Nat} {spare : Nat → Bool} {held : Bool}
set_option maxRecDepth 100000 in
theorem open_u8 {v : Value} {d : DataW H} {p : List MemPlace} {r : Reach} {b0 : Nat} (hv : Value.okWide Tryz.prog w r b0 5 v) (h : DataW.Trod enc Tryz.prog w base spare held 5 v d p) : ∃ b : UInt8, v = u8V b := by
  obtain ⟨z, rfl, _, _, hz⟩ := ChangeShapes.open_int Tryz.underlying5 hv h
  have hb : 0 ≤ z ∧ z ≤ 255 := by simpa [Lit.wf, IntKind.min, IntKind.max, IntKind.signed, IntKind.bits] using hz
  refine ⟨UInt8.ofNat z.toNat, ?_⟩
  unfold u8V
  congr 1
  have : (UInt8.ofNat z.toNat).toNat = z.toNat := by
    rw [UInt8.toNat_ofNat']
    exact Nat.mod_eq_of_lt (by omega)
  rw [this]
  omega
end
end Go.Proofs.YtbfjmimiigjenaaGreatDoor
namespace Go.Proofs.YtbfjmimiigjenaaGreatDoor
open Go
theorem joined_of {P : Program} {f : FuncId} {fn : Func} {s : ChangeSpec} {c : OpenClaim}
    (h0 : (c.wf (OpenSpec.ofChange s) : Bool) = true)
    (h1 : (laidOutB P : Bool) = true)
    (h2 : (mapsRowed P : Bool) = true)
    (h3 : (fn.params.all (P.readableRec ·) : Bool) = true)
    (h4 : (namedTie P c.named s.vars : Bool) = true)
    (h5 : (c.stops == [] : Bool) = true)
    (h6 : (P.stops == [] : Bool) = true)
    (h7 : (c.knobs == [] : Bool) = true)
    (h8 : (P.stopKnobs == [] : Bool) = true)
    (h9 : (c.inPlace == P.inPlace f : Bool) = true)
    (h10 : (c.unfollowed == P.unfollowed f : Bool) = true)
    (h11 : (c.recurses == P.recurses f : Bool) = true)
    (h12 : (c.named == P.varsNamed f : Bool) = true)
    (h13 : (c.maps == (fn.params.toList ++ s.plain.varTypes P).any (P.mapsRec ·) : Bool) = true)
    (h14 : (c.ifaces == (fn.params.toList ++ s.plain.varTypes P).any (P.ifacesRec ·) : Bool) = true)
    (h15 : (c.mapsOut == P.mapsAmong fn.resultTypes.toList : Bool) = true)
    (h16 : (c.loops == (fn.params.toList ++ s.plain.varTypes P).any (P.loopsFrom ·) : Bool) = true)
    (h17 : (c.wideKeys == (fn.params.toList ++ s.plain.varTypes P ++ fn.resultTypes.toList).any (P.wideKeysFrom ·) : Bool) = true)
    (h18 : (s.vars.all (P.varReadable ·) : Bool) = true)
    (h19 : (fn.resultTypes.all (fun t => P.readableRec t && decide (t < P.types.size)) : Bool) = true)
    (h20 : (c.ifacesOut == fn.resultTypes.toList.any (P.ifacesRec ·) : Bool) = true)
    (h21 : (c.loopsOut == fn.resultTypes.toList.any (P.loopsFrom ·) : Bool) = true)
    (h22 : (c.plainKeys == P.plainKeys : Bool) = true)
    (h23 : (c.shortTexts.isNone : Bool) = true)
    (h24 : (P.stopsHeard : Bool) = true)
    (h25 : (P.mayEnter : Bool) = true)
    (h26 : (c.lifted == P.liftsFinal : Bool) = true)
    (h27 : (P.make == some c.make : Bool) = true)
    (h28 : (c.kinds == (if c.domain.isEmpty then [] else fn.params.toList.map fun t => match P.underlying t with | some (.int k) => some k | _ => none) : Bool) = true)
    (h29 : (c.pinned == c.pinnedBy : Bool) = true)
    (h30 : (c.veiled == (fn.params.toList ++ s.plain.varTypes P ++ fn.resultTypes.toList).any (P.veiledRec ·) : Bool) = true)
    (h31 : (c.veiledFits P fn.params.toList (fn.params.toList ++ s.plain.varTypes P ++ fn.resultTypes.toList) : Bool) = true)
    : joinedFacts P f fn s c = true := by
  unfold joinedFacts
  simp only [Bool.and_eq_true]
  exact ⟨⟨⟨⟨⟨⟨⟨⟨⟨⟨⟨⟨⟨⟨⟨⟨⟨⟨⟨⟨⟨⟨⟨⟨⟨⟨⟨⟨⟨⟨⟨h0, h1⟩, h2⟩, h3⟩, h4⟩, h5⟩, h6⟩, h7⟩, h8⟩, h9⟩, h10⟩, h11⟩, h12⟩, h13⟩, h14⟩, h15⟩, h16⟩, h17⟩, h18⟩, h19⟩, h20⟩, h21⟩, h22⟩, h23⟩, h24⟩, h25⟩, h26⟩, h27⟩, h28⟩, h29⟩, h30⟩, h31⟩
end Go.Proofs.YtbfjmimiigjenaaGreatDoor
namespace Go.Proofs.YtbfjmimiigjenaaGreatDoor
open Go V RowKit Go.ChangeShapes Go.WideShapes Go.ChangeAt
section
variable {H : Type} {enc : TypeId × Value → H} {w : World} {base : Nat} {sp : Nat → Bool} {held : Bool}
set_option maxRecDepth 100000 in
theorem open_byte {fuel : Nat} {cs : List Value} {x : DataW H × List MemPlace} (h : DataW.trod enc Tryz.prog w base sp held fuel 5 cs = some x) : ∃ e : UInt8, cs = kByte.cs e := by
  obtain ⟨z, rfl, _, hz⟩ := DataW.trod_int Tryz.underlying5 h
  have hb : 0 ≤ z ∧ z ≤ 255 := by simpa [Lit.wf, IntKind.min, IntKind.max, IntKind.signed, IntKind.bits] using hz
  refine ⟨UInt8.ofNat z.toNat, ?_⟩
  show _ = [u8V _]
  unfold u8V
  congr 2
  have : (UInt8.ofNat z.toNat).toNat = z.toNat := by
    rw [UInt8.toNat_ofNat']
    exact Nat.mod_eq_of_lt (by omega)
  rw [this]
  omega
set_option maxRecDepth 100000 in
theorem open_bytes {v : Value} {d : DataW H} {p : List MemPlace} {r : Reach} {b0 : Nat} (h : DataW.Trod enc Tryz.prog w base (fun _ => true) held 22 v d p)
    (hz : ∀ n ∈ d.weights Tryz.prog 22, n ≤ reachBytes) (hv : Value.okWide Tryz.prog w r b0 22 v) : ∃ x : Row UInt8, v = .slice x.A x.l.length x.c ∧ x.ok kByte w := by
  obtain ⟨fuel, hf⟩ := h
  have c1 : Tryz.prog.cellsOf 5 = 1 := by kernel_rfl
  obtain ⟨x, e, ok⟩ := V.open_row kByte Tryz.underlying22 c1 (by decide) (Nat.le_of_ble_eq_true (by kernel_rfl)) (fun h => open_byte h) hf hz
  refine ⟨x, ?_, ok⟩
  have e3 : ∃ A l c, v = .slice A l c := by
    simp only [Value.okWide, Tryz.underlying22] at hv
    cases v <;> simp_all [Cell.okWide, Cell.ok, Value.cells, Tryz.underlying22]
  obtain ⟨A, l, c, rfl⟩ := e3
  simpa [Value.cells] using e
end
end Go.Proofs.YtbfjmimiigjenaaGreatDoor
namespace Go.Proofs.YtbfjmimiigjenaaGreatDoor
open V
mutual
inductive Tree where
  | node (stem : Str) (v : Option Sum) (k : Kids) : Tree
inductive Kids where
  | nil : Kids
  | cons (b : UInt8) (t : Tree) (r : Kids) : Kids
end
mutual
def Tree.many : Tree → Nat
  | .node _ v k => (if v.isSome = true then 1 else 0) + k.many
def Kids.many : Kids → Nat
  | .nil => 0
  | .cons _ t r => t.many + r.many
end
def Kids.bytes : Kids → List UInt8
  | .nil => []
  | .cons b _ r => b :: r.bytes
def Kids.trees : Kids → List Tree
  | .nil => []
  | .cons _ t r => t :: r.trees
theorem Kids.len : ∀ k : Kids, k.bytes.length = k.trees.length
  | .nil => rfl
  | .cons _ _ r => by simp [Kids.bytes, Kids.trees, Kids.len r]
def vB (v : Option Sum) : List UInt8 := match v with
  | some s => 1 :: s.l
  | none => [0]
def pairB (bs : List UInt8) (os : List Sum) : List UInt8 := (bs.zip os).flatMap fun p => p.1 :: p.2.l
def stepB (stem : Str) (v : Option Sum) (bs : List UInt8) (os : List Sum) : List UInt8 :=
  [UInt8.ofNat stem.length] ++ stem ++ vB v ++ [UInt8.ofNat (bs.length / 256), UInt8.ofNat bs.length] ++ pairB bs os
mutual
def Tree.own : Tree → Sum
  | .node stem v k => shaW (stepB stem v k.bytes k.owns)
def Kids.owns : Kids → List Sum
  | .nil => []
  | .cons _ t r => t.own :: r.owns
end
theorem Kids.owns_eq : ∀ k : Kids, k.owns = k.trees.map Tree.own
  | .nil => rfl
  | .cons _ _ r => by simp [Kids.owns, Kids.trees, Kids.owns_eq r]
mutual
def Tree.ents : Tree → Str → List (Str × Sum)
  | .node stem v k, beg => (match v with
    | some s => [(beg ++ stem, s)]
    | none => []) ++ k.ents (beg ++ stem)
def Kids.ents : Kids → Str → List (Str × Sum)
  | .nil, _ => []
  | .cons b t r, beg => t.ents (beg ++ [b]) ++ r.ents beg
end
def cutP : Str → Str → Option Str
  | [], n => some n
  | _ :: _, [] => none
  | a :: s, b :: n => if a = b then cutP s n else none
theorem cutP_iff : ∀ (s n r : Str), cutP s n = some r ↔ n = s ++ r
  | [], n, r => by simp [cutP]
  | a :: s, [], r => by simp [cutP]
  | a :: s, b :: n, r => by
    unfold cutP
    by_cases h : a = b
    · subst h
      simp [cutP_iff s n r]
    · have h2 : ¬ b = a := fun e => h e.symm
      simp [h, h2]
theorem cutP_app (s r : Str) : cutP s (s ++ r) = some r := (cutP_iff s (s ++ r) r).2 rfl
theorem cutP_none {s n : Str} (h : ∀ r, n ≠ s ++ r) : cutP s n = none := by
  cases hc : cutP s n with
  | none => rfl
  | some r => exact absurd ((cutP_iff s n r).1 hc) (h r)
mutual
def Tree.get : Tree → Str → Option Sum
  | .node stem v k, name => match cutP stem name with
    | none => none
    | some [] => v
    | some (b :: r) => k.get b r
def Kids.get : Kids → UInt8 → Str → Option Sum
  | .nil, _, _ => none
  | .cons b t r, c, n => if b = c then t.get n else r.get c n
end
mutual
def Tree.wf : Tree → Prop
  | .node _ v k => k.wf ∧ (v.isSome = true ∨ 2 ≤ k.bytes.length)
def Kids.wf : Kids → Prop
  | .nil => True
  | .cons b t r => t.wf ∧ r.wf ∧ ∀ c ∈ r.bytes, b < c
end
theorem get_here (stem : Str) (v : Option Sum) (k : Kids) : (Tree.node stem v k).get stem = v := by
  have := cutP_app stem []
  rw [List.append_nil] at this
  simp [Tree.get, this]
theorem get_kid (stem : Str) (v : Option Sum) (k : Kids) (b : UInt8) (r : Str) : (Tree.node stem v k).get (stem ++ b :: r) = k.get b r := by
  simp [Tree.get, cutP_app]
theorem get_off {stem n : Str} (v : Option Sum) (k : Kids) (h : ∀ r, n ≠ stem ++ r) : (Tree.node stem v k).get n = none := by
  simp [Tree.get, cutP_none h]
theorem kget_mem : ∀ {k : Kids} {c : UInt8} {n : Str}, c ∉ k.bytes → k.get c n = none
  | .nil, _, _, _ => rfl
  | .cons b t r, c, n, h => by
    have h1 : ¬ b = c := fun e => h (by rw [e]; exact .head _)
    unfold Kids.get
    rw [if_neg h1]
    exact kget_mem fun hm => h (.tail _ hm)
theorem part_cases : ∀ (s n : Str), (n = s) ∨ (∃ c r, n = s ++ c :: r) ∨ (∃ p b q, s = p ++ b :: q ∧ n = p) ∨ (∃ p b q c r, s = p ++ b :: q ∧ n = p ++ c :: r ∧ b ≠ c)
  | [], [] => .inl rfl
  | [], c :: r => .inr (.inl ⟨c, r, rfl⟩)
  | b :: q, [] => .inr (.inr (.inl ⟨[], b, q, rfl, rfl⟩))
  | a :: s, c :: n => by
    by_cases h : a = c
    · subst h
      rcases part_cases s n with e | ⟨c, r, e⟩ | ⟨p, b, q, e1, e2⟩ | ⟨p, b, q, c, r, e1, e2, e3⟩
      · exact .inl (by rw [e])
      · exact .inr (.inl ⟨c, r, by rw [e]; rfl⟩)
      · exact .inr (.inr (.inl ⟨a :: p, b, q, by rw [e1]; rfl, by rw [e2]⟩))
      · exact .inr (.inr (.inr ⟨a :: p, b, q, c, r, by rw [e1]; rfl, by rw [e2]; rfl, e3⟩))
    · exact .inr (.inr (.inr ⟨[], a, s, c, n, rfl, rfl, h⟩))
def lcp : Str → Str → Nat
  | a :: x, b :: y => if a = b then lcp x y + 1 else 0
  | _, _ => 0
theorem lcp_app : ∀ (p x y : Str), lcp (p ++ x) (p ++ y) = p.length + lcp x y
  | [], _, _ => by simp
  | a :: p, x, y => by
    show (if a = a then lcp (p ++ x) (p ++ y) + 1 else 0) = _
    rw [if_pos rfl, lcp_app p x y, List.length_cons]
    omega
theorem lcp_ne {a b : UInt8} (h : a ≠ b) (x y : Str) : lcp (a :: x) (b :: y) = 0 := by
  unfold lcp; rw [if_neg h]
theorem lcp_nil (x : Str) : lcp x [] = 0 := by cases x <;> rfl
theorem lcp_nil2 (x : Str) : lcp [] x = 0 := rfl
def leaf (n : Str) (x : Sum) : Tree := .node n (some x) .nil
def Kids.ins : Kids → UInt8 → Tree → Kids
  | .nil, c, t => .cons c t .nil
  | .cons b s r, c, t => if b < c then .cons b s (r.ins c t) else .cons c t (.cons b s r)
mutual
def Tree.put : Tree → Str → Sum → Tree
  | .node stem v k, name, x =>
    if lcp stem name < stem.length then
      (if lcp stem name = name.length then .node (stem.take (lcp stem name)) (some x) (.cons (stem.getD (lcp stem name) 0) (.node (stem.drop (lcp stem name + 1)) v k) .nil)
      else .node (stem.take (lcp stem name)) none ((Kids.cons (stem.getD (lcp stem name) 0) (.node (stem.drop (lcp stem name + 1)) v k) .nil).ins (name.getD (lcp stem name) 0) (leaf (name.drop (lcp stem name + 1)) x)))
    else if lcp stem name = name.length then .node stem (some x) k
    else .node stem v (k.put (name.getD (lcp stem name) 0) (name.drop (lcp stem name + 1)) x)
def Kids.put : Kids → UInt8 → Str → Sum → Kids
  | .nil, c, n, x => .cons c (leaf n x) .nil
  | .cons b t r, c, n, x => if b < c then .cons b t (r.put c n x) else if b = c then .cons b (t.put n x) r else .cons c (leaf n x) (.cons b t r)
end
theorem put_here (s : Str) (v : Option Sum) (k : Kids) (x : Sum) : (Tree.node s v k).put s x = .node s (some x) k := by
  have h := lcp_app s [] []
  rw [List.append_nil] at h
  have h : lcp s s = s.length := h
  unfold Tree.put
  simp [h]
theorem put_kid (s : Str) (v : Option Sum) (k : Kids) (c : UInt8) (r : Str) (x : Sum) : (Tree.node s v k).put (s ++ c :: r) x = .node s v (k.put c r x) := by
  have h := lcp_app s [] (c :: r)
  rw [List.append_nil, lcp_nil2, Nat.add_zero] at h
  unfold Tree.put
  rw [h, if_neg (Nat.lt_irrefl _), if_neg (by simp)]
  congr 2
  · simp
  · rw [← List.drop_drop, List.drop_left]; rfl
theorem put_up (p : Str) (b : UInt8) (q : Str) (v : Option Sum) (k : Kids) (x : Sum) : (Tree.node (p ++ b :: q) v k).put p x = .node p (some x) (.cons b (.node q v k) .nil) := by
  have h := lcp_app p (b :: q) []
  rw [List.append_nil, lcp_nil, Nat.add_zero] at h
  unfold Tree.put
  rw [h, if_pos (by simp), if_pos rfl]
  congr 1
  · simp
  · congr 1
    · simp
    · congr 1
      rw [← List.drop_drop, List.drop_left]; rfl
theorem put_fork (p : Str) (b : UInt8) (q : Str) (v : Option Sum) (k : Kids) (c : UInt8) (r : Str) (x : Sum) (hbc : b ≠ c) : (Tree.node (p ++ b :: q) v k).put (p ++ c :: r) x = .node p none ((Kids.cons b (.node q v k) .nil).ins c (leaf r x)) := by
  have h := lcp_app p (b :: q) (c :: r)
  rw [lcp_ne hbc, Nat.add_zero] at h
  unfold Tree.put
  rw [h, if_pos (by simp), if_neg (by simp)]
  have e1 : ∀ (a : UInt8) (s : Str), (p ++ a :: s).drop (p.length + 1) = s := fun a s => by rw [← List.drop_drop, List.drop_left]; rfl
  have e2 : ∀ (a : UInt8) (s : Str), (p ++ a :: s).getD p.length 0 = a := fun a s => by simp
  rw [e1, e1, e2, e2, List.take_left]
theorem ins_bytes : ∀ (k : Kids) (c : UInt8) (t : Tree), ∀ b, b ∈ (k.ins c t).bytes ↔ b = c ∨ b ∈ k.bytes
  | .nil, c, t, b => by simp [Kids.ins, Kids.bytes]
  | .cons a s r, c, t, b => by
    unfold Kids.ins
    split
    · simp only [Kids.bytes, List.mem_cons, ins_bytes r c t b]
      constructor
      · rintro (h | h | h)
        · exact .inr (.inl h)
        · exact .inl h
        · exact .inr (.inr h)
      · rintro (h | h | h)
        · exact .inr (.inl h)
        · exact .inl h
        · exact .inr (.inr h)
    · simp [Kids.bytes]
theorem kput_bytes : ∀ (k : Kids) (c : UInt8) (n : Str) (x : Sum), ∀ b, b ∈ (k.put c n x).bytes ↔ b = c ∨ b ∈ k.bytes
  | .nil, c, n, x, b => by simp [Kids.put, Kids.bytes]
  | .cons a s r, c, n, x, b => by
    unfold Kids.put
    split
    · simp only [Kids.bytes, List.mem_cons, kput_bytes r c n x b]
      constructor
      · rintro (h | h | h)
        · exact .inr (.inl h)
        · exact .inl h
        · exact .inr (.inr h)
      · rintro (h | h | h)
        · exact .inr (.inl h)
        · exact .inl h
        · exact .inr (.inr h)
    · split
      · rename_i h
        subst h
        simp only [Kids.bytes, List.mem_cons]
        constructor
        · rintro (h | h)
          · exact .inl h
          · exact .inr (.inr h)
        · rintro (h | h | h)
          · exact .inl h
          · exact .inl h
          · exact .inr h
      · simp [Kids.bytes]
theorem kput_len : ∀ (k : Kids) (c : UInt8) (n : Str) (x : Sum), k.bytes.length ≤ (k.put c n x).bytes.length
  | .nil, _, _, _ => Nat.zero_le _
  | .cons a s r, c, n, x => by
    unfold Kids.put
    split
    · simp only [Kids.bytes, List.length_cons]
      have := kput_len r c n x
      omega
    · split <;> simp [Kids.bytes]
theorem u8_lt_of {a b : UInt8} (h1 : ¬ a < b) (h2 : ¬ a = b) : b < a := by
  rw [UInt8.lt_iff_toNat_lt] at *
  rcases Nat.lt_trichotomy a.toNat b.toNat with h | h | h
  · exact absurd h h1
  · exact absurd (UInt8.toNat_inj.1 h) h2
  · exact h
theorem u8_trans {a b c : UInt8} (h1 : a < b) (h2 : b < c) : a < c := by
  rw [UInt8.lt_iff_toNat_lt] at *; omega
theorem u8_ne {a b : UInt8} (h : a < b) : a ≠ b := by
  rintro rfl
  rw [UInt8.lt_iff_toNat_lt] at h
  exact Nat.lt_irrefl _ h
theorem leaf_wf (n : Str) (x : Sum) : (leaf n x).wf := by simp [leaf, Tree.wf, Kids.wf]
theorem ins_wf : ∀ {k : Kids} {c : UInt8} {t : Tree}, k.wf → t.wf → c ∉ k.bytes → (k.ins c t).wf
  | .nil, c, t, _, ht, _ => by simp [Kids.ins, Kids.wf, ht, Kids.bytes]
  | .cons a s r, c, t, hk, ht, hc => by
    unfold Kids.wf at hk
    obtain ⟨h1, h2, h3⟩ := hk
    have hca : a ≠ c := fun e => hc (by rw [e]; exact .head _)
    have hcr : c ∉ r.bytes := fun h => hc (.tail _ h)
    unfold Kids.ins
    split
    · rename_i hlt
      unfold Kids.wf
      refine ⟨h1, ins_wf h2 ht hcr, fun b hb => ?_⟩
      rcases (ins_bytes r c t b).1 hb with rfl | hb
      · exact hlt
      · exact h3 b hb
    · rename_i hlt
      have hlt := u8_lt_of hlt hca
      unfold Kids.wf
      refine ⟨ht, by unfold Kids.wf; exact ⟨h1, h2, h3⟩, fun b hb => ?_⟩
      rcases List.mem_cons.1 hb with rfl | hb
      · exact hlt
      · exact u8_trans hlt (h3 b hb)
mutual
theorem put_wf : ∀ {t : Tree} {n : Str} {x : Sum}, t.wf → (t.put n x).wf
  | .node s v k, n, x, h => by
    unfold Tree.wf at h
    rcases part_cases s n with rfl | ⟨c, r, rfl⟩ | ⟨p, b, q, rfl, rfl⟩ | ⟨p, b, q, c, r, rfl, rfl, hbc⟩
    · rw [put_here]
      unfold Tree.wf
      exact ⟨h.1, .inl rfl⟩
    · rw [put_kid]
      unfold Tree.wf
      refine ⟨kput_wf h.1, h.2.imp id fun h2 => ?_⟩
      exact Nat.le_trans h2 (kput_len k c r x)
    · rw [put_up]
      unfold Tree.wf
      refine ⟨?_, .inl rfl⟩
      unfold Kids.wf
      refine ⟨?_, trivial, fun c hc => by cases hc⟩
      unfold Tree.wf
      exact h
    · rw [put_fork p b q v k c r x hbc]
      unfold Tree.wf
      have hl : (Tree.node q v k).wf := by unfold Tree.wf; exact h
      refine ⟨ins_wf (by unfold Kids.wf; exact ⟨hl, trivial, fun c hc => by cases hc⟩) (leaf_wf r x) (by simp [Kids.bytes]; exact fun e => hbc e.symm), .inr ?_⟩
      unfold Kids.ins
      split <;> simp [Kids.ins, Kids.bytes]
theorem kput_wf : ∀ {k : Kids} {c : UInt8} {n : Str} {x : Sum}, k.wf → (k.put c n x).wf
  | .nil, c, n, x, _ => by
    unfold Kids.put Kids.wf
    exact ⟨leaf_wf n x, trivial, fun b hb => by cases hb⟩
  | .cons b t r, c, n, x, h => by
    unfold Kids.wf at h
    obtain ⟨h1, h2, h3⟩ := h
    unfold Kids.put
    split
    · rename_i hlt
      unfold Kids.wf
      refine ⟨h1, kput_wf h2, fun a ha => ?_⟩
      rcases (kput_bytes r c n x a).1 ha with rfl | ha
      · exact hlt
      · exact h3 a ha
    · split
      · unfold Kids.wf
        exact ⟨put_wf h1, h2, h3⟩
      · rename_i h4 h5
        have hlt := u8_lt_of h4 h5
        unfold Kids.wf
        refine ⟨leaf_wf n x, by unfold Kids.wf; exact ⟨h1, h2, h3⟩, fun a ha => ?_⟩
        rcases List.mem_cons.1 ha with rfl | ha
        · exact hlt
        · exact u8_trans hlt (h3 a ha)
end
theorem get_leaf (n : Str) (x : Sum) (m : Str) : (leaf n x).get m = if m = n then some x else none := by
  by_cases h : m = n
  · subst h
    rw [if_pos rfl]
    exact get_here m (some x) .nil
  · rw [if_neg h]
    by_cases h2 : ∃ r, m = n ++ r
    · obtain ⟨r, rfl⟩ := h2
      cases r with
      | nil => rw [List.append_nil] at h; exact absurd rfl h
      | cons b r => exact get_kid n (some x) .nil b r
    · exact get_off _ _ fun r e => h2 ⟨r, e⟩
theorem get_ins : ∀ {k : Kids} {c : UInt8} {t : Tree}, c ∉ k.bytes → ∀ (a : UInt8) (m : Str), (k.ins c t).get a m = if a = c then t.get m else k.get a m
  | .nil, c, t, _, a, m => by
    unfold Kids.ins Kids.get Kids.get
    by_cases h : c = a
    · rw [if_pos h, if_pos h.symm]
    · rw [if_neg h, if_neg fun e => h e.symm]
  | .cons b s r, c, t, hc, a, m => by
    have hca : b ≠ c := fun e => hc (by rw [e]; exact .head _)
    have hcr : c ∉ r.bytes := fun h => hc (.tail _ h)
    unfold Kids.ins
    split
    · have ih := get_ins (k := r) (c := c) (t := t) hcr a m
      rw [Kids.get, ih]
      conv => rhs; rw [Kids.get]
      by_cases h1 : b = a
      · subst h1
        rw [if_pos rfl, if_neg hca, if_pos rfl]
      · rw [if_neg h1, if_neg h1]
    · rw [Kids.get]
      by_cases h1 : c = a
      · rw [if_pos h1, if_pos h1.symm]
      · rw [if_neg h1, if_neg fun e => h1 e.symm]
mutual
theorem get_put : ∀ {t : Tree} {n : Str} {x : Sum}, t.wf → ∀ m, (t.put n x).get m = if m = n then some x else t.get m
  | .node s v k, n, x, h, m => by
    unfold Tree.wf at h
    rcases part_cases s n with rfl | ⟨c, r, rfl⟩ | ⟨p, b, q, rfl, hp⟩ | ⟨p, b, q, c, r, rfl, rfl, hbc⟩
    · rw [put_here]
      rcases part_cases n m with rfl | ⟨c', r', rfl⟩ | ⟨p', b', q', rfl, rfl⟩ | ⟨p', b', q', c', r', rfl, rfl, hbc'⟩
      · rw [get_here, if_pos rfl]
      · rw [get_kid, get_kid, if_neg (by simp)]
      · rw [if_neg (by simp), get_off, get_off] <;> (intro r e; have := congrArg List.length e; simp at this <;> omega)
      · have h1 : ∀ r, p' ++ c' :: r' ≠ p' ++ b' :: q' ++ r := fun r e => by
          rw [List.append_assoc] at e
          have := List.append_cancel_left e
          injection this with e1 _
          exact hbc' e1.symm
        rw [get_off _ _ h1, get_off _ _ h1, if_neg fun e => h1 [] (by rw [List.append_nil]; exact e)]
    · rw [put_kid]
      rcases part_cases s m with rfl | ⟨c', r', rfl⟩ | ⟨p', b', q', rfl, rfl⟩ | ⟨p', b', q', c', r', rfl, rfl, hbc'⟩
      · rw [get_here, get_here, if_neg (by simp)]
      · rw [get_kid, get_kid, kget_put h.1]
        by_cases e : c' = c ∧ r' = r
        · rw [if_pos e, if_pos (by rw [e.1, e.2])]
        · rw [if_neg e, if_neg fun e2 => e (by have := List.append_cancel_left e2; injection this with a1 a2; exact ⟨a1, a2⟩)]
      · rw [if_neg (by intro e; have := congrArg List.length e; simp at this <;> omega), get_off, get_off] <;> (intro r e; have := congrArg List.length e; simp at this <;> omega)
      · have h1 : ∀ r, p' ++ c' :: r' ≠ p' ++ b' :: q' ++ r := fun r e => by
          rw [List.append_assoc] at e
          have := List.append_cancel_left e
          injection this with e1 _
          exact hbc' e1.symm
        rw [get_off _ _ h1, get_off _ _ h1, if_neg fun e => h1 _ e]
    · obtain rfl : p = n := hp.symm
      rw [put_up]
      rcases part_cases p m with rfl | ⟨c', r', rfl⟩ | ⟨p', b', q', rfl, rfl⟩ | ⟨p', b', q', c', r', rfl, rfl, hbc'⟩
      · rw [get_here, if_pos rfl]
      · rw [get_kid, if_neg (by simp)]
        unfold Kids.get Kids.get
        exact fork_get p b q v k c' r'
      · rw [if_neg (by intro e; have := congrArg List.length e; simp at this), get_off, get_off] <;> (intro r e; have := congrArg List.length e; simp at this <;> omega)
      · have h1 : ∀ r, p' ++ c' :: r' ≠ p' ++ b' :: q' ++ r := fun r e => by
          rw [List.append_assoc] at e
          have := List.append_cancel_left e
          injection this with e1 _
          exact hbc' e1.symm
        rw [get_off _ _ h1, if_neg fun e => h1 [] (by rw [List.append_nil]; exact e), get_off]
        intro r e
        rw [List.append_assoc] at e
        exact h1 _ e
    · rw [put_fork p b q v k c r x hbc]
      have hni : c ∉ (Kids.cons b (Tree.node q v k) .nil).bytes := by simp [Kids.bytes]; exact fun e => hbc e.symm
      rcases part_cases p m with rfl | ⟨c', r', rfl⟩ | ⟨p', b', q', rfl, rfl⟩ | ⟨p', b', q', c', r', rfl, rfl, hbc'⟩
      · rw [get_here, if_neg (by simp), get_off]
        intro r e
        have := congrArg List.length e
        simp at this
      · rw [get_kid, get_ins hni, get_leaf]
        by_cases h1 : c' = c
        · subst h1
          rw [if_pos rfl]
          by_cases h2 : r' = r
          · subst h2
            rw [if_pos rfl, if_pos rfl]
          · rw [if_neg h2, if_neg fun e => h2 (by have := List.append_cancel_left e; injection this), get_off]
            intro r0 e
            rw [List.append_assoc] at e
            have := List.append_cancel_left e
            injection this with e1 _
            exact hbc e1.symm
        · rw [if_neg h1, if_neg fun e => h1 (by have := List.append_cancel_left e; injection this)]
          unfold Kids.get Kids.get
          exact fork_get p b q v k c' r'
      · rw [if_neg (by intro e; have := congrArg List.length e; simp at this <;> omega), get_off, get_off] <;> (intro r e; have := congrArg List.length e; simp at this <;> omega)
      · have h1 : ∀ r, p' ++ c' :: r' ≠ p' ++ b' :: q' ++ r := fun r e => by
          rw [List.append_assoc] at e
          have := List.append_cancel_left e
          injection this with e1 _
          exact hbc' e1.symm
        rw [get_off _ _ h1, if_neg fun e => h1 _ e, get_off]
        intro r e
        rw [List.append_assoc] at e
        exact h1 _ e
theorem kget_put : ∀ {k : Kids} {c : UInt8} {n : Str} {x : Sum}, k.wf → ∀ a m, (k.put c n x).get a m = if a = c ∧ m = n then some x else k.get a m
  | .nil, c, n, x, _, a, m => by
    unfold Kids.put Kids.get Kids.get
    rw [get_leaf]
    by_cases h : c = a
    · subst h
      simp
    · have h2 : ¬ a = c := fun e => h e.symm
      simp [h, h2]
  | .cons b t r, c, n, x, h, a, m => by
    unfold Kids.wf at h
    obtain ⟨h1, h2, h3⟩ := h
    unfold Kids.put
    split
    · rename_i hlt
      rw [Kids.get, kget_put h2]
      conv => rhs; rw [Kids.get]
      by_cases e : b = a
      · subst e
        have := u8_ne hlt
        simp [this]
      · simp [e]
    · split
      · rename_i _ e
        subst e
        rw [Kids.get, get_put h1]
        conv => rhs; rw [Kids.get]
        by_cases e : b = a
        · subst e; simp
        · have e2 : ¬ a = b := fun h => e h.symm
          simp [e, e2]
      · rename_i h4 h5
        have hlt := u8_lt_of h4 h5
        rw [Kids.get, get_leaf]
        by_cases e : c = a
        · subst e
          have h0 : (Kids.cons b t r).get c m = none := kget_mem fun hm => by
            rcases List.mem_cons.1 hm with rfl | hm
            · exact h5 rfl
            · exact u8_ne (u8_trans hlt (h3 c hm)) rfl
          simp [h0]
        · have e2 : ¬ a = c := fun h => e h.symm
          simp [e, e2]
theorem fork_get (p : Str) (b : UInt8) (q : Str) (v : Option Sum) (k : Kids) (c : UInt8) (r : Str) : (if b = c then (Tree.node q v k).get r else none) = (Tree.node (p ++ b :: q) v k).get (p ++ c :: r) := by
  by_cases h : b = c
  · subst h
    rw [if_pos rfl]
    unfold Tree.get
    have e : cutP (p ++ b :: q) (p ++ b :: r) = cutP q r := by
      cases hc : cutP q r with
      | none =>
        refine cutP_none fun s e => ?_
        rw [List.append_assoc] at e
        have := List.append_cancel_left e
        injection this with _ e2
        have := (cutP_iff q r s).2 e2
        rw [hc] at this; cases this
      | some s =>
        have := (cutP_iff q r s).1 hc
        rw [this]
        exact (cutP_iff _ _ _).2 (by simp)
    rw [e]
  · rw [if_neg h, get_off]
    intro s e
    rw [List.append_assoc] at e
    have := List.append_cancel_left e
    injection this with e1 _
    exact h e1.symm
end
end Go.Proofs.YtbfjmimiigjenaaGreatDoor
namespace Go.Proofs.YtbfjmimiigjenaaGreatDoor
open V
theorem get_pre {s : Str} {v : Option Sum} {k : Kids} {n : Str} {x : Sum} (h : (Tree.node s v k).get n = some x) : ∃ r, n = s ++ r := by
  refine Classical.byContradiction fun hc => ?_
  rw [get_off v k fun r e => hc ⟨r, e⟩] at h
  cases h
theorem kget_in {k : Kids} {c : UInt8} {n : Str} {x : Sum} (h : k.get c n = some x) : c ∈ k.bytes := by
  refine Classical.byContradiction fun hc => ?_
  rw [kget_mem hc] at h
  cases h
mutual
theorem has_name : ∀ {t : Tree}, t.wf → ∃ n x, t.get n = some x
  | .node s v k, h => by
    unfold Tree.wf at h
    cases v with
    | some x => exact ⟨s, x, get_here s (some x) k⟩
    | none =>
      have h2 : 2 ≤ k.bytes.length := h.2.resolve_left (by simp)
      obtain ⟨c, n, x, hx⟩ := khas_name h.1 (by omega)
      exact ⟨s ++ c :: n, x, by rw [get_kid]; exact hx⟩
theorem khas_name : ∀ {k : Kids}, k.wf → 0 < k.bytes.length → ∃ c n x, k.get c n = some x
  | .nil, _, h => absurd h (by simp [Kids.bytes])
  | .cons b t r, h, _ => by
    unfold Kids.wf at h
    obtain ⟨n, x, hx⟩ := has_name h.1
    exact ⟨b, n, x, by rw [Kids.get, if_pos rfl]; exact hx⟩
end
theorem no_longer {s : Str} {v : Option Sum} {k : Kids} (h : (Tree.node s v k).wf) (c : UInt8) (r : Str) (f : Str → Option Sum) (hf : ∀ n x, f n = some x → ∃ q, n = (s ++ c :: r) ++ q) (he : ∀ n, (Tree.node s v k).get n = f n) : False := by
  unfold Tree.wf at h
  cases v with
  | some x =>
    have h1 := he s
    rw [get_here] at h1
    obtain ⟨q, hq⟩ := hf s x h1.symm
    have := congrArg List.length hq
    simp at this <;> omega
  | none =>
    have h2 : 2 ≤ k.bytes.length := h.2.resolve_left (by simp)
    have key : ∀ b n x, k.get b n = some x → b ≠ c → False := fun b n x hx hb => by
      have h1 := he (s ++ b :: n)
      rw [get_kid, hx] at h1
      obtain ⟨q, hq⟩ := hf _ x h1.symm
      rw [List.append_assoc] at hq
      have := List.append_cancel_left hq
      injection this with e _
      exact hb e
    match k, h.1, h2 with
    | .nil, _, h2 => simp [Kids.bytes] at h2
    | .cons _ _ .nil, _, h2 => simp [Kids.bytes] at h2
    | .cons b1 t1 (.cons b2 t2 q), hk, _ =>
      unfold Kids.wf at hk
      obtain ⟨w1, w2, w3⟩ := hk
      have hlt := w3 b2 (by simp [Kids.bytes])
      unfold Kids.wf at w2
      obtain ⟨n1, x1, hx1⟩ := has_name w1
      obtain ⟨n2, x2, hx2⟩ := has_name w2.1
      by_cases e : b1 = c
      · refine key b2 n2 x2 ?_ fun e2 => u8_ne hlt (by rw [e, e2])
        rw [Kids.get, if_neg (u8_ne hlt), Kids.get, if_pos rfl]
        exact hx2
      · exact key b1 n1 x1 (by rw [Kids.get, if_pos rfl]; exact hx1) e
mutual
theorem canon : ∀ {t u : Tree}, t.wf → u.wf → (∀ n, t.get n = u.get n) → t = u
  | .node s v k, .node s' v' k', h, h', he => by
    rcases part_cases s s' with rfl | ⟨c, r, rfl⟩ | ⟨p, b, q, rfl, rfl⟩ | ⟨p, b, q, c, r, rfl, rfl, hbc⟩
    · have hv : v = v' := by
        have := he s'
        rwa [get_here, get_here] at this
      unfold Tree.wf at h h'
      have hk : k = k' := kcanon h.1 h'.1 fun c n => by
        have := he (s' ++ c :: n)
        rwa [get_kid, get_kid] at this
      rw [hv, hk]
    · exact (no_longer h c r _ (fun n x hx => get_pre hx) he).elim
    · exact (no_longer h' b q _ (fun n x hx => get_pre hx) fun n => (he n).symm).elim
    · obtain ⟨n, x, hx⟩ := has_name h
      obtain ⟨q1, e1⟩ := get_pre hx
      rw [he n] at hx
      obtain ⟨q2, e2⟩ := get_pre hx
      rw [e1, List.append_assoc, List.append_assoc] at e2
      have := List.append_cancel_left e2
      injection this with e _
      exact absurd e hbc
theorem kcanon : ∀ {k l : Kids}, k.wf → l.wf → (∀ c n, k.get c n = l.get c n) → k = l
  | .nil, .nil, _, _, _ => rfl
  | .nil, .cons b t r, _, h, he => by
    obtain ⟨c, n, x, hx⟩ := khas_name h (by simp [Kids.bytes])
    have := he c n
    rw [hx] at this
    cases this
  | .cons b t r, .nil, h, _, he => by
    obtain ⟨c, n, x, hx⟩ := khas_name h (by simp [Kids.bytes])
    have := he c n
    rw [hx] at this
    cases this
  | .cons b t r, .cons b' t' r', h, h', he => by
    unfold Kids.wf at h h'
    obtain ⟨w1, w2, w3⟩ := h
    obtain ⟨w1', w2', w3'⟩ := h'
    have hb : b = b' := by
      refine Classical.byContradiction fun hne => ?_
      by_cases hlt : b < b'
      · obtain ⟨n, x, hx⟩ := has_name w1
        have h1 := he b n
        rw [Kids.get, if_pos rfl, hx] at h1
        have := kget_in h1.symm
        rcases List.mem_cons.1 this with e | hm
        · exact hne e
        · exact u8_ne (u8_trans hlt (w3' b hm)) rfl
      · have hlt := u8_lt_of hlt hne
        obtain ⟨n, x, hx⟩ := has_name w1'
        have h1 := he b' n
        conv at h1 => rhs; rw [Kids.get, if_pos rfl, hx]
        have := kget_in h1
        rcases List.mem_cons.1 this with e | hm
        · exact hne e.symm
        · exact u8_ne (u8_trans hlt (w3 b' hm)) rfl
    subst hb
    have ht : t = t' := canon w1 w1' fun n => by
      have := he b n
      rwa [Kids.get, Kids.get, if_pos rfl, if_pos rfl] at this
    have hr : r = r' := kcanon w2 w2' fun c n => by
      by_cases e : b = c
      · subst e
        rw [kget_mem fun hm => u8_ne (w3 b hm) rfl, kget_mem fun hm => u8_ne (w3' b hm) rfl]
      · have := he c n
        rwa [Kids.get, Kids.get, if_neg e, if_neg e] at this
    rw [ht, hr]
end
mutual
theorem mem_ents : ∀ {t : Tree}, t.wf → ∀ (beg m : Str) (x : Sum), (m, x) ∈ t.ents beg ↔ ∃ n, m = beg ++ n ∧ t.get n = some x
  | .node s v k, h, beg, m, x => by
    unfold Tree.wf at h
    have ih := mem_kents h.1 (beg ++ s) m x
    unfold Tree.ents
    rw [List.mem_append, ih]
    constructor
    · rintro (h1 | ⟨c, n, rfl, hx⟩)
      · cases v with
        | none => cases h1
        | some y =>
          have h1 : (m, x) = (beg ++ s, y) := List.mem_singleton.1 h1
          injection h1 with e1 e2
          subst e1 e2
          exact ⟨s, rfl, get_here _ _ _⟩
      · exact ⟨s ++ c :: n, by rw [List.append_assoc], by rw [get_kid]; exact hx⟩
    · rintro ⟨n, rfl, hx⟩
      obtain ⟨r, rfl⟩ := get_pre hx
      cases r with
      | nil =>
        rw [List.append_nil, get_here] at hx
        subst hx
        left
        rw [List.append_nil]
        exact .head _
      | cons c r =>
        rw [get_kid] at hx
        exact .inr ⟨c, r, by rw [List.append_assoc], hx⟩
theorem mem_kents : ∀ {k : Kids}, k.wf → ∀ (beg m : Str) (x : Sum), (m, x) ∈ k.ents beg ↔ ∃ c n, m = beg ++ c :: n ∧ k.get c n = some x
  | .nil, _, beg, m, x => by
    constructor
    · intro h; cases h
    · rintro ⟨c, n, _, h⟩; cases h
  | .cons b t r, h, beg, m, x => by
    unfold Kids.wf at h
    obtain ⟨w1, w2, w3⟩ := h
    unfold Kids.ents
    rw [List.mem_append, mem_ents w1, mem_kents w2]
    constructor
    · rintro (⟨n, rfl, hx⟩ | ⟨c, n, rfl, hx⟩)
      · exact ⟨b, n, by simp, by rw [Kids.get, if_pos rfl]; exact hx⟩
      · have hc := kget_in hx
        exact ⟨c, n, rfl, by rw [Kids.get, if_neg (u8_ne (w3 c hc))]; exact hx⟩
    · rintro ⟨c, n, rfl, hx⟩
      rw [Kids.get] at hx
      by_cases e : b = c
      · subst e
        rw [if_pos rfl] at hx
        exact .inl ⟨n, by simp, hx⟩
      · rw [if_neg e] at hx
        exact .inr ⟨c, n, rfl, hx⟩
end
theorem less_app : ∀ (p x y : Str), Go.Op.bytesLess (p ++ x) (p ++ y) = Go.Op.bytesLess x y
  | [], _, _ => rfl
  | a :: p, x, y => by
    show Go.Op.bytesLess (a :: (p ++ x)) (a :: (p ++ y)) = _
    simp [Go.Op.bytesLess, less_app p x y]
theorem less_cons {a b : UInt8} (h : a < b) (x y : Str) : Go.Op.bytesLess (a :: x) (b :: y) = true := by simp [Go.Op.bytesLess, h]
def Rise (l : List (Str × Sum)) : Prop := l.Pairwise fun p q => Go.Op.bytesLess p.1 q.1 = true
mutual
theorem ents_rise : ∀ {t : Tree}, t.wf → ∀ beg, Rise (t.ents beg)
  | .node s v k, h, beg => by
    have h' := h
    unfold Tree.wf at h
    unfold Rise Tree.ents
    rw [List.pairwise_append]
    refine ⟨?_, kents_rise h.1 (beg ++ s), fun p hp q hq => ?_⟩
    · cases v <;> simp
    · obtain ⟨m, y⟩ := q
      obtain ⟨c, n, rfl, _⟩ := (mem_kents h.1 _ _ _).1 hq
      cases v with
      | none => cases hp
      | some x =>
        have hp : p = (beg ++ s, x) := List.mem_singleton.1 hp
        subst hp
        have := less_app (beg ++ s) [] (c :: n)
        rw [List.append_nil] at this
        exact this
theorem kents_rise : ∀ {k : Kids}, k.wf → ∀ beg, Rise (k.ents beg)
  | .nil, _, _ => List.Pairwise.nil
  | .cons b t r, h, beg => by
    unfold Kids.wf at h
    obtain ⟨w1, w2, w3⟩ := h
    unfold Rise Kids.ents
    rw [List.pairwise_append]
    refine ⟨ents_rise w1 _, kents_rise w2 _, fun p hp q hq => ?_⟩
    obtain ⟨m, y⟩ := q
    obtain ⟨m', y'⟩ := p
    obtain ⟨c, n, rfl, hx⟩ := (mem_kents w2 _ _ _).1 hq
    obtain ⟨n', rfl, _⟩ := (mem_ents w1 _ _ _).1 hp
    show Go.Op.bytesLess (beg ++ [b] ++ n') (beg ++ c :: n) = true
    rw [List.append_assoc, less_app]
    exact less_cons (w3 c (kget_in hx)) _ _
end
mutual
theorem many_ents : ∀ (t : Tree) (beg : Str), (t.ents beg).length = t.many
  | .node s v k, beg => by
    unfold Tree.ents Tree.many
    rw [List.length_append, many_kents]
    cases v <;> simp
theorem many_kents : ∀ (k : Kids) (beg : Str), (k.ents beg).length = k.many
  | .nil, _ => rfl
  | .cons b t r, beg => by
    unfold Kids.ents Kids.many
    rw [List.length_append, many_ents, many_kents]
end
def joinT (s : Str) (v : Option Sum) (k : Kids) : Option Tree := match v, k with
  | some x, k => some (.node s (some x) k)
  | none, .nil => none
  | none, .cons b (.node s2 v2 k2) .nil => some (.node (s ++ b :: s2) v2 k2)
  | none, .cons b t (.cons c u r) => some (.node s none (.cons b t (.cons c u r)))
mutual
def Tree.drop : Tree → Str → Option Tree
  | .node s v k, n => if n.length = s.length then joinT s none k else joinT s v (k.drop (n.getD s.length 0) (n.drop (s.length + 1)))
def Kids.drop : Kids → UInt8 → Str → Kids
  | .nil, _, _ => .nil
  | .cons b t r, c, n => if b = c then (match t.drop n with
    | some t' => .cons b t' r
    | none => r) else .cons b t (r.drop c n)
end
def getO (t : Option Tree) (n : Str) : Option Sum := match t with
  | none => none
  | some t => t.get n
def wfO (t : Option Tree) : Prop := match t with
  | none => True
  | some t => t.wf
theorem get_empty (s : Str) (m : Str) : (Tree.node s none .nil).get m = none := by
  rcases part_cases s m with rfl | ⟨c, r, rfl⟩ | ⟨p, b, q, rfl, rfl⟩ | ⟨p, b, q, c, r, rfl, rfl, hbc⟩
  · exact get_here _ _ _
  · rw [get_kid]; rfl
  · refine get_off _ _ fun r e => ?_
    have := congrArg List.length e
    simp at this <;> omega
  · refine get_off _ _ fun r0 e => ?_
    rw [List.append_assoc] at e
    have := List.append_cancel_left e
    injection this with e1 _
    exact hbc e1.symm
theorem get_one (s : Str) (b : UInt8) (s2 : Str) (v2 : Option Sum) (k2 : Kids) (m : Str) : (Tree.node (s ++ b :: s2) v2 k2).get m = (Tree.node s none (.cons b (.node s2 v2 k2) .nil)).get m := by
  rcases part_cases s m with rfl | ⟨c, r, rfl⟩ | ⟨p, b', q, rfl, rfl⟩ | ⟨p, b', q, c, r, rfl, rfl, hbc⟩
  · rw [get_here, get_off]
    intro r e
    have := congrArg List.length e
    simp at this <;> omega
  · rw [get_kid, ← fork_get]
    unfold Kids.get Kids.get
    rfl
  · rw [get_off, get_off] <;> (intro r e; have := congrArg List.length e; simp at this <;> omega)
  · have h1 : ∀ z, p ++ c :: r ≠ p ++ b' :: q ++ z := fun z e => by
      rw [List.append_assoc] at e
      have := List.append_cancel_left e
      injection this with e1 _
      exact hbc e1.symm
    rw [get_off _ _ h1, get_off]
    intro z e
    rw [List.append_assoc] at e
    exact h1 _ e
theorem joinT_get (s : Str) (v : Option Sum) (k : Kids) (m : Str) : getO (joinT s v k) m = (Tree.node s v k).get m := by
  unfold joinT
  split
  · rfl
  · rw [get_empty]; rfl
  · exact get_one s _ _ _ _ m
  · rfl
theorem joinT_wf {s : Str} {v : Option Sum} {k : Kids} (h : k.wf) : wfO (joinT s v k) := by
  unfold joinT
  split
  · show Tree.wf _
    unfold Tree.wf
    exact ⟨h, .inl rfl⟩
  · trivial
  · unfold Kids.wf at h
    have h1 := h.1
    show Tree.wf _
    unfold Tree.wf at h1 ⊢
    exact h1
  · show Tree.wf _
    unfold Tree.wf
    exact ⟨h, .inr (by simp [Kids.bytes])⟩
mutual
theorem drop_all : ∀ {t : Tree} {n : Str}, t.wf → (t.get n).isSome = true → wfO (t.drop n) ∧ ∀ m, getO (t.drop n) m = if m = n then none else t.get m
  | .node s v k, n, h, hn => by
    unfold Tree.wf at h
    obtain ⟨x, hx⟩ := Option.isSome_iff_exists.1 hn
    obtain ⟨r, rfl⟩ := get_pre hx
    unfold Tree.drop
    cases r with
    | nil =>
      rw [if_pos (by simp)]
      refine ⟨joinT_wf h.1, fun m => ?_⟩
      rw [joinT_get, List.append_nil]
      rcases part_cases s m with rfl | ⟨c, r, rfl⟩ | ⟨p, b, q, rfl, rfl⟩ | ⟨p, b, q, c, r, rfl, rfl, hbc⟩
      · rw [get_here, if_pos rfl]
      · rw [get_kid, get_kid, if_neg (by simp)]
      · rw [if_neg (by simp), get_off, get_off] <;> (intro r e; have := congrArg List.length e; simp at this <;> omega)
      · have h1 : ∀ z, p ++ c :: r ≠ p ++ b :: q ++ z := fun z e => by
          rw [List.append_assoc] at e
          have := List.append_cancel_left e
          injection this with e1 _
          exact hbc e1.symm
        rw [get_off _ _ h1, get_off _ _ h1, if_neg fun e => h1 [] (by rw [List.append_nil]; exact e)]
    | cons c r =>
      rw [get_kid] at hx
      have e1 : (s ++ c :: r).getD s.length 0 = c := by simp
      have e2 : (s ++ c :: r).drop (s.length + 1) = r := by rw [← List.drop_drop, List.drop_left]; rfl
      rw [if_neg (by simp), e1, e2]
      obtain ⟨w1, _, w3⟩ := kdrop_all h.1 (by rw [hx]; rfl : (k.get c r).isSome = true)
      refine ⟨joinT_wf w1, fun m => ?_⟩
      rw [joinT_get]
      rcases part_cases s m with rfl | ⟨c', r', rfl⟩ | ⟨p, b, q, rfl, rfl⟩ | ⟨p, b, q, c', r', rfl, rfl, hbc⟩
      · rw [get_here, get_here, if_neg (by simp)]
      · rw [get_kid, get_kid, w3]
        by_cases e : c' = c ∧ r' = r
        · rw [if_pos e, if_pos (by rw [e.1, e.2])]
        · rw [if_neg e, if_neg fun e2 => e (by have := List.append_cancel_left e2; injection this with a1 a2; exact ⟨a1, a2⟩)]
      · rw [if_neg (by intro e; have := congrArg List.length e; simp at this <;> omega), get_off, get_off] <;> (intro r e; have := congrArg List.length e; simp at this <;> omega)
      · have h1 : ∀ z, p ++ c' :: r' ≠ p ++ b :: q ++ z := fun z e => by
          rw [List.append_assoc] at e
          have := List.append_cancel_left e
          injection this with e1 _
          exact hbc e1.symm
        rw [get_off _ _ h1, get_off _ _ h1, if_neg fun e => h1 _ e]
theorem kdrop_all : ∀ {k : Kids} {c : UInt8} {n : Str}, k.wf → (k.get c n).isSome = true → (k.drop c n).wf ∧ (∀ b ∈ (k.drop c n).bytes, b ∈ k.bytes) ∧ ∀ a m, (k.drop c n).get a m = if a = c ∧ m = n then none else k.get a m
  | .nil, c, n, _, h => by cases h
  | .cons b t r, c, n, h, hn => by
    unfold Kids.wf at h
    obtain ⟨w1, w2, w3⟩ := h
    have hnb : b ∉ r.bytes := fun hm => u8_ne (w3 b hm) rfl
    rw [Kids.get] at hn
    unfold Kids.drop
    by_cases e : b = c
    · subst e
      rw [if_pos rfl] at hn
      obtain ⟨d1, d2⟩ := drop_all w1 hn
      rw [if_pos rfl]
      cases hd : t.drop n with
      | none =>
        rw [hd] at d2
        refine ⟨w2, fun a ha => .tail _ ha, fun a m => ?_⟩
        show r.get a m = _
        rw [Kids.get]
        by_cases ea : b = a
        · subst ea
          rw [kget_mem hnb, if_pos rfl]
          have := d2 m
          change none = _ at this
          by_cases em : m = n
          · rw [if_pos ⟨rfl, em⟩]
          · rw [if_neg em] at this
            rw [if_neg fun h => em h.2]
            exact this
        · rw [if_neg ea, if_neg fun h => ea h.1.symm]
      | some t' =>
        rw [hd] at d1 d2
        refine ⟨?_, fun a ha => ?_, fun a m => ?_⟩
        · show (Kids.cons b t' r).wf
          unfold Kids.wf
          exact ⟨d1, w2, w3⟩
        · exact ha
        · show (Kids.cons b t' r).get a m = _
          rw [Kids.get]
          conv => rhs; rw [Kids.get]
          by_cases ea : b = a
          · subst ea
            rw [if_pos rfl, if_pos rfl]
            have := d2 m
            change t'.get m = _ at this
            rw [this]
            by_cases em : m = n
            · rw [if_pos em, if_pos ⟨rfl, em⟩]
            · rw [if_neg em, if_neg fun h => em h.2]
          · rw [if_neg ea, if_neg ea, if_neg fun h => ea h.1.symm]
    · rw [if_neg e] at hn
      obtain ⟨d1, d2, d3⟩ := kdrop_all w2 hn
      rw [if_neg e]
      refine ⟨?_, fun a ha => ?_, fun a m => ?_⟩
      · unfold Kids.wf
        exact ⟨w1, d1, fun a ha => w3 a (d2 a ha)⟩
      · rcases List.mem_cons.1 ha with rfl | ha
        · exact .head _
        · exact .tail _ (d2 a ha)
      · rw [Kids.get, d3]
        conv => rhs; rw [Kids.get]
        by_cases ea : b = a
        · subst ea
          rw [if_pos rfl, if_pos rfl, if_neg fun h => e h.1]
        · rw [if_neg ea, if_neg ea]
end
end Go.Proofs.YtbfjmimiigjenaaGreatDoor
namespace Go.Proofs.YtbfjmimiigjenaaGreatDoor
open V
def posB (bs : List UInt8) (c : UInt8) : Nat := (bs.takeWhile fun b => decide (b < c)).length
def isB (bs : List UInt8) (c : UInt8) : Bool := decide (posB bs c < bs.length) && decide (bs.getD (posB bs c) 0 = c)
theorem posB_cons (b : UInt8) (bs : List UInt8) (c : UInt8) : posB (b :: bs) c = if b < c then posB bs c + 1 else 0 := by
  unfold posB
  rw [List.takeWhile_cons]
  by_cases h : b < c <;> simp [h]
theorem isB_cons (b : UInt8) (bs : List UInt8) (c : UInt8) : isB (b :: bs) c = if b < c then isB bs c else decide (b = c) := by
  unfold isB
  rw [posB_cons]
  by_cases h : b < c
  · simp [h]
  · simp [h]
theorem posB_le (bs : List UInt8) (c : UInt8) : posB bs c ≤ bs.length := tw_le _ _
theorem kget_pos : ∀ {k : Kids} {c : UInt8} {n : Str}, k.wf → (isB k.bytes c = true → ∃ h : posB k.bytes c < k.trees.length, k.get c n = (k.trees[posB k.bytes c]).get n) ∧ (isB k.bytes c = false → k.get c n = none ∧ c ∉ k.bytes)
  | .nil, c, n, _ => ⟨fun h => by simp [isB, Kids.bytes] at h, fun _ => ⟨rfl, by simp [Kids.bytes]⟩⟩
  | .cons b t r, c, n, h => by
    unfold Kids.wf at h
    obtain ⟨w1, w2, w3⟩ := h
    obtain ⟨i1, i2⟩ := kget_pos (k := r) (c := c) (n := n) w2
    unfold Kids.bytes Kids.trees
    rw [isB_cons, Kids.get]
    simp only [posB_cons]
    by_cases hlt : b < c
    · simp only [hlt, if_true, if_neg (u8_ne hlt)]
      constructor
      · intro hi
        obtain ⟨h1, h2⟩ := i1 hi
        exact ⟨by simpa using h1, by simpa using h2⟩
      · intro hi
        obtain ⟨h1, h2⟩ := i2 hi
        refine ⟨h1, fun hm => ?_⟩
        rcases List.mem_cons.1 hm with e | hm
        · exact u8_ne hlt e.symm
        · exact h2 hm
    · simp only [hlt, if_false]
      by_cases e : b = c
      · subst e
        simp
      · have hcb := u8_lt_of hlt e
        simp only [e, decide_false, if_false]
        refine ⟨fun h => (by cases h), fun _ => ?_⟩
        have hn : c ∉ r.bytes := fun hm => u8_ne (u8_trans hcb (w3 c hm)) rfl
        refine ⟨kget_mem hn, fun hm => ?_⟩
        rcases List.mem_cons.1 hm with e2 | hm
        · exact e e2.symm
        · exact hn hm
theorem kput_is : ∀ {k : Kids} {c : UInt8} (n : Str) (x : Sum), k.wf → isB k.bytes c = true → (k.put c n x).bytes = k.bytes ∧ ∃ h : posB k.bytes c < k.trees.length, (k.put c n x).trees = k.trees.set (posB k.bytes c) (k.trees[posB k.bytes c].put n x)
  | .nil, c, n, x, _, h => by simp [isB, Kids.bytes] at h
  | .cons b t r, c, n, x, h, hi => by
    unfold Kids.wf at h
    obtain ⟨w1, w2, w3⟩ := h
    unfold Kids.bytes at hi
    rw [isB_cons] at hi
    unfold Kids.put
    by_cases hlt : b < c
    · rw [if_pos hlt] at hi ⊢
      obtain ⟨h1, h2, h3⟩ := kput_is n x w2 hi
      unfold Kids.bytes Kids.trees
      simp only [posB_cons, hlt, if_true]
      exact ⟨by rw [h1], by simpa using h2, by simp [h3]⟩
    · rw [if_neg hlt] at hi ⊢
      have e : b = c := by simpa using hi
      subst e
      unfold Kids.bytes Kids.trees
      simp [posB_cons, hlt]
theorem kput_not : ∀ {k : Kids} {c : UInt8} (n : Str) (x : Sum), isB k.bytes c = false → (k.put c n x).bytes = k.bytes.take (posB k.bytes c) ++ c :: k.bytes.drop (posB k.bytes c) ∧ (k.put c n x).trees = k.trees.take (posB k.bytes c) ++ leaf n x :: k.trees.drop (posB k.bytes c)
  | .nil, c, n, x, _ => by simp [Kids.put, Kids.bytes, Kids.trees]
  | .cons b t r, c, n, x, hi => by
    unfold Kids.bytes at hi
    rw [isB_cons] at hi
    unfold Kids.put
    by_cases hlt : b < c
    · rw [if_pos hlt] at hi ⊢
      obtain ⟨h1, h2⟩ := kput_not (k := r) n x hi
      unfold Kids.bytes Kids.trees
      simp only [posB_cons, hlt, if_true]
      simp [h1, h2]
    · rw [if_neg hlt] at hi ⊢
      have e : ¬ b = c := by simpa using hi
      rw [if_neg e]
      unfold Kids.bytes Kids.trees
      simp [posB_cons, hlt, Kids.bytes, Kids.trees]
theorem kdrop_is : ∀ {k : Kids} {c : UInt8} (n : Str), k.wf → isB k.bytes c = true → ∃ h : posB k.bytes c < k.trees.length,
    (∀ t', (k.trees[posB k.bytes c]).drop n = some t' → (k.drop c n).bytes = k.bytes ∧ (k.drop c n).trees = k.trees.set (posB k.bytes c) t') ∧
    ((k.trees[posB k.bytes c]).drop n = none → (k.drop c n).bytes = k.bytes.eraseIdx (posB k.bytes c) ∧ (k.drop c n).trees = k.trees.eraseIdx (posB k.bytes c))
  | .nil, c, n, _, h => by simp [isB, Kids.bytes] at h
  | .cons b t r, c, n, h, hi => by
    unfold Kids.wf at h
    obtain ⟨w1, w2, w3⟩ := h
    unfold Kids.bytes at hi
    rw [isB_cons] at hi
    unfold Kids.drop
    by_cases hlt : b < c
    · rw [if_pos hlt] at hi
      obtain ⟨h1, h2, h3⟩ := kdrop_is n w2 hi
      rw [if_neg (u8_ne hlt)]
      unfold Kids.bytes Kids.trees
      simp only [posB_cons, hlt, if_true]
      refine ⟨by simpa using h1, fun t' ht => ?_, fun ht => ?_⟩
      · obtain ⟨a1, a2⟩ := h2 t' (by simpa using ht)
        exact ⟨by rw [a1], by simp [a2]⟩
      · obtain ⟨a1, a2⟩ := h3 (by simpa using ht)
        exact ⟨by simp [a1], by simp [a2]⟩
    · rw [if_neg hlt] at hi
      have e : b = c := by simpa using hi
      subst e
      rw [if_pos rfl]
      unfold Kids.bytes Kids.trees
      simp only [posB_cons, hlt, if_false]
      refine ⟨by simp, fun t' ht => ?_, fun ht => ?_⟩
      · have ht : t.drop n = some t' := by simpa using ht
        rw [ht]
        simp [Kids.bytes, Kids.trees]
      · have ht : t.drop n = none := by simpa using ht
        rw [ht]
        cases r <;> simp [Kids.bytes, Kids.trees]
theorem kbytes_low : ∀ {k : Kids}, k.wf → ∀ (m : Nat), (∀ c ∈ k.bytes, m ≤ c.toNat) → m ≤ 256 → k.bytes.length + m ≤ 256
  | .nil, _, m, _, hm => by simpa [Kids.bytes] using hm
  | .cons b t r, h, m, hc, hm => by
    unfold Kids.wf at h
    have hb := hc b (by simp [Kids.bytes])
    have hb2 := b.toNat_lt
    have := kbytes_low h.2.1 (m + 1) (fun c hcr => by
      have := h.2.2 c hcr
      rw [UInt8.lt_iff_toNat_lt] at this
      omega) (by omega)
    simp only [Kids.bytes, List.length_cons]
    omega
theorem kbytes_len {k : Kids} (h : k.wf) : k.bytes.length ≤ 256 := by
  have := kbytes_low h 0 (fun _ _ => Nat.zero_le _) (by decide)
  omega
end Go.Proofs.YtbfjmimiigjenaaGreatDoor
