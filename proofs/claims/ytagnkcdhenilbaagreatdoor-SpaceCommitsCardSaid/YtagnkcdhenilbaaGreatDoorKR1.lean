/-
A part of the proofs of the laws of a seat: contracts of functions and lemmas on them; the listed package variables hold what the program's text lays. No further condition.
-/
import Derived.Test.YtagnkcdhenilbaaGreatDoorRows
import Derived.ProofKit
import Derived.OpenShut
import Derived.Lay
import Derived.Carry
import Derived.HandedShaped
import Derived.Shelf.Vars
import Derived.MakeChecks
import Derived.Test.YtagnkcdhenilbaaGreatDoorTie
import Derived.Test.YtagnkcdhenilbaaGreatDoorCards
import Derived.LaidMore
import Derived.SevenTiedAt
import Derived.Stop.Joined
import Derived.JoinedOf
import Derived.Test.YtagnkcdhenilbaaGreatDoorKPW4
set_option linter.unusedVariables false
set_option linter.unusedSectionVars false
set_option linter.unusedSimpArgs false
/-
What a row's claim hands over, turned into the stepper's own terms: the wrap that keeps the world's shape and the listed variables; rows of entries, namespaces and texts that came in; no condition.
-/
namespace Go.Proofs.YtagnkcdhenilbaaGreatDoor
open Go V RowKit
namespace V

/-- The wrap: as the kit's two, the listed variables and the world's shape both kept. -/
theorem wrap {H : Type} {enc : TypeId × Value → H} {a : Assume} {C : Checked} {os : Os} {f : FuncId} {fn : Func} {s : ChangeSpec} {conds : List PathCond} {apart fresh handsOn again : Bool} {X : World → Array Value → Prop}
    (hX : ∀ (w w' : World) (args : Array Value), w.heap = w'.heap → X w args → X w' args)
    (own : ownKnob C.prog.godebug = none) (started : os.Started) (noInit : C.prog.inits.idxOf? f = none) (hfn : C.prog.funcs[f]? = some fn)
    (witness : ∃ (w : World) (tape : Tape) (i : Input), w.os = os ∧ (w.forCall tape i).Shaped C.prog ∧ i.vars = [] ∧ Input.okWide C.prog (w.forCall tape i) .any w.heap.size f i ∧
      ((s.pre enc C.prog fn conds apart (w.forCall tape i).memory i.args ∧ X (w.forCall tape i).memory i.args) ∧ sizedMet enc C.prog fn (OpenSpec.ofChange s) apart (w.forCall tape i).memory i.args) ∧ a.holds C.prog (lone (Frame.enter C.prog f i.args .normal) [] (w.forCall tape i)))
    (contract : ∀ (W : World) (base : Nat) (args : Array Value) (ds gs : List (DataW H)) (before : List MemPlace),
      (∀ (j : Nat) t v, fn.params[j]? = some t → args[j]? = some v → Value.okWide C.prog W .any base t v) →
      DataW.Whole enc C.prog fn.params.toList s.vars apart W args.toList ds gs before →
      (DataW.weightsEach C.prog (fn.params.toList ++ s.plain.varTypes C.prog) (ds ++ gs)).all (· ≤ reachBytes) = true → X W args → W.ShapedOpen C.prog →
      Calls C.prog f args W fun e W' => ∃ v, e = .returned v ∧ s.post enc C.prog fn apart fresh handsOn again W args v W') :
    ReturnsInHanded a C os f .any (fun w args => (s.pre enc C.prog fn conds apart w args ∧ X w args) ∧ sizedMet enc C.prog fn (OpenSpec.ofChange s) apart w args) (s.post enc C.prog fn apart fresh handsOn again) := by
  refine returnsInHanded_of_calls own started noInit witness ?_
  intro w tape i _ hsh _ hok hpre hholds
  obtain ⟨_, _, _, fn', hfn', _, _, _, _, hval⟩ := hok
  have e : fn' = fn := Option.some.inj (hfn'.symm.trans hfn)
  subst e
  obtain ⟨⟨⟨ds, gs, before, hw, hc⟩, hx⟩, hz⟩ := hpre
  have hw' := DataW.Whole.of_heap (w' := w.forCall tape i) (by rfl) hw
  refine (contract (w.forCall tape i) w.heap.size i.args ds gs before hval hw' (hz.weights hw) (hX _ _ _ (by rfl) hx) hsh).mono fun e W' ⟨v, he, hp⟩ => ?_
  subst he
  exact ChangeSpec.post_blind hp

section
open Go.ChangeShapes
variable {H : Type} {enc : TypeId × Value → H} {w : World} {base : Nat} {sp : Nat → Bool} {held : Bool}

theorem u8s_of : ∀ (cs : List Value), (∀ i, i < cs.length → ∃ z, (Lit.int .u8 z).wf = true ∧ (cs.drop i).take 1 = [.int .u8 z]) → ∃ l : List UInt8, cs = l.map u8V
  | [], _ => ⟨[], rfl⟩
  | c :: r, h => by
    obtain ⟨l, hl⟩ := u8s_of r (fun i hi => by
      obtain ⟨z, hz, e⟩ := h (i + 1) (by simpa using hi)
      exact ⟨z, hz, by simpa using e⟩)
    obtain ⟨z, hz, e⟩ := h 0 (by simp)
    have ec : c = .int .u8 z := by simpa using e
    have hb : 0 ≤ z ∧ z ≤ 255 := by simpa [Lit.wf, IntKind.min, IntKind.max, IntKind.signed, IntKind.bits] using hz
    refine ⟨UInt8.ofNat z.toNat :: l, ?_⟩
    rw [ec, hl, List.map_cons]
    congr 1
    unfold u8V
    congr 1
    have : (UInt8.ofNat z.toNat).toNat = z.toNat := by
      rw [UInt8.toNat_ofNat']
      exact Nat.mod_eq_of_lt (by omega)
    rw [this]
    omega

theorem open_sum {fuel : Nat} {cs : List Value} {x : DataW H × List MemPlace} (h : DataW.trod enc Tryz.prog w base sp held fuel 39 cs = some x) : ∃ s : Sum, cs = s.l.map u8V := by
  obtain ⟨xs, m, _, _, hl, hn, hel⟩ := DataW.trod_array Tryz.underlying39 h
  have c1 : Tryz.prog.cellsOf 5 = 1 := by kernel_rfl
  have c32 : Tryz.prog.cellsOf 39 = 32 := by kernel_rfl
  rw [c32] at hl
  obtain ⟨l, hl'⟩ := u8s_of cs (fun i hi => by
    rw [hl] at hi
    have hE := hel i hi
    rw [c1, Nat.mul_one, List.getElem?_eq_getElem (by omega)] at hE
    obtain ⟨z, e1, _, e3⟩ := DataW.trod_int Tryz.underlying5 hE
    exact ⟨z, e3, e1⟩)
  exact ⟨⟨l, by rw [hl'] at hl; simpa using hl⟩, hl'⟩

theorem open_row {α : Type} (κ : Kd α) {st : TypeId} (hs : Tryz.prog.underlying st = some (.slice κ.T)) (hc : Tryz.prog.cellsOf κ.T = κ.sz) (hp : 0 < κ.sz) (hb : 0 < Tryz.prog.bytesOf κ.T)
    (hopen : ∀ {w : World} {base : Nat} {sp : Nat → Bool} {held : Bool} {fuel : Nat} {cs : List Value} {x : DataW H × List MemPlace}, DataW.trod enc Tryz.prog w base sp held fuel κ.T cs = some x → ∃ e : α, cs = κ.cs e)
    {fuel : Nat} {cs : List Value} {x : DataW H × List MemPlace} (h : DataW.trod enc Tryz.prog w base (fun _ => true) held fuel st cs = some x)
    (hz : ∀ n ∈ x.1.weights Tryz.prog st, n ≤ reachBytes) : ∃ r : Row α, cs = [.slice r.A r.l.length r.c] ∧ r.ok κ w := by
  rcases DataW.trod_slice hs h with ⟨rfl, rfl⟩ | ⟨a, len, cap, elems, rest, n, _, rfl, rfl, _, hl, _, hlen, hel, hsp, _⟩
  · exact ⟨⟨none, 0, []⟩, rfl, ⟨Nat.le_refl _, Nat.zero_le _, fun h => absurd rfl h, fun j v hv => by simp at hv, fun _ => ⟨rfl, rfl⟩⟩⟩
  · have hr := (hsp rfl).1
    have hcap : cap ≤ lim := by
      have := hz ((elems.length + rest.length) * Tryz.prog.bytesOf κ.T) (by simp [DataW.weights, hs])
      have h2 : cap * 1 ≤ cap * Tryz.prog.bytesOf κ.T := Nat.mul_le_mul_left _ hb
      have h3 : elems.length + rest.length = cap := by omega
      rw [h3] at this
      have : reachBytes = lim := rfl
      omega
    have hex : ∀ i, i < len → ∃ e : α, w.cells? base (a.add (i * κ.sz)) κ.sz = some (κ.cs e) := fun i hi => by
      have hE := hel i hi
      rw [hc, List.getElem?_eq_getElem (by omega), Option.bind_eq_some_iff] at hE
      obtain ⟨c1, hc1, hy⟩ := hE
      obtain ⟨e, rfl⟩ := hopen hy
      exact ⟨e, hc1⟩
    obtain ⟨l, hll, hl2⟩ : ∃ l : List α, l.length = len ∧ ∀ i (h : i < l.length), w.cells? base (a.add (i * κ.sz)) κ.sz = some (κ.cs l[i]) := by
      refine ⟨(List.range len).attach.map fun i => (hex i.1 (List.mem_range.1 i.2)).choose, by simp, fun i hi => ?_⟩
      simp only [List.length_map, List.length_attach, List.length_range] at hi
      simp only [List.getElem_map, List.getElem_attach, List.getElem_range]
      exact (hex i hi).choose_spec
    have hcell : ∀ i (h : i < l.length) j, j < κ.sz → w.cell? ((a.add (i * κ.sz)).add j) = (κ.cs l[i])[j]? := fun i h j hj => by
      have h1 := hl2 i h
      unfold World.cells? at h1
      split at h1
      · have := mapM_some_get h1 j j (by simp [hj])
        exact this
      · cases h1
    have hspot : l ≠ [] → a.spot = none := fun hne => by
      have h0 : 0 < l.length := List.length_pos_iff.2 hne
      have := hcell 0 h0 0 hp
      rw [List.getElem?_eq_getElem (by rw [κ.cs_len]; exact hp)] at this
      unfold World.cell? at this
      cases ha : a.spot with
      | none => rfl
      | some k =>
        have hs1 : ((a.add (0 * κ.sz)).add 0).spot.isSome = true := by simp [Addr.add, ha]
        simp only [hs1, if_true] at this
        split at this <;> cases this
    refine ⟨⟨some a, cap, l⟩, by rw [hll], ⟨by rw [hll]; exact hl, by show l.length ≤ lim; omega, ?_, ?_, fun h => by cases h⟩⟩
    · intro hne
      show some a = some ⟨a.block, a.off, none⟩
      rw [← hspot hne]
    · intro j v hv
      have hj : j < l.length * κ.sz := by
        rw [← κ.flat_len]; exact (List.getElem?_eq_some_iff.1 hv).1
      have hi : j / κ.sz < l.length := Nat.div_lt_of_lt_mul (by rw [Nat.mul_comm]; exact hj)
      have hne : l ≠ [] := fun e => by subst e; simp at hi
      have hm : j % κ.sz < κ.sz := Nat.mod_lt _ hp
      have := hcell (j / κ.sz) hi (j % κ.sz) hm
      have hg := κ.get l (j / κ.sz) hi
      have e1 : (κ.cs l[j / κ.sz])[j % κ.sz]? = (l.flatMap κ.cs)[j]? := by
        rw [← hg, List.getElem?_take_of_lt hm, List.getElem?_drop, Nat.mul_comm, Nat.div_add_mod]
      rw [e1, hv] at this
      have ha := hspot hne
      have ea : (⟨blkA (some a), offA (some a) + j, none⟩ : Addr) = (a.add (j / κ.sz * κ.sz)).add (j % κ.sz) := by
        obtain ⟨ab, ao, asp⟩ := a
        have ha' : asp = none := ha
        subst ha'
        rw [Addr.add_mid, Addr.add_mid]
        show (⟨ab, ao + j, none⟩ : Addr) = _
        rw [Nat.add_assoc, Nat.mul_comm, Nat.div_add_mod]
      show w.cell? (⟨blkA (some a), offA (some a) + j, none⟩ : Addr) = some v
      rw [ea]
      exact this

end
end V
end Go.Proofs.YtagnkcdhenilbaaGreatDoor

/-
The listed variables as the claim's rows lay them, turned into what the walks ask of the variables; no condition.
-/
namespace Go.Proofs.YtagnkcdhenilbaaGreatDoor
open Go V RowKit
namespace V

theorem u32s_of : ∀ (cs : List Value) (zs : List Int), cs.length = zs.length → (∀ i (h : i < zs.length), (cs.drop i).take 1 = [.int .u32 zs[i]]) → cs = zs.map fun z => .int .u32 z
  | [], [], _, _ => rfl
  | c :: r, z :: t, hl, h => by
    rw [List.map_cons, ← u32s_of r t (by simpa using hl) (fun i hi => h (i + 1) (Nat.succ_lt_succ hi))]
    have := h 0 (by simp)
    simp at this
    rw [this]
  | [], _ :: _, hl, _ => by simp at hl
  | _ :: _, [], hl, _ => by simp at hl

theorem laid_words {W : World} {nm : String} {g : Nat} {t u : TypeId} {cs : Array Value} {fuel n : Nat} {p : List MemPlace} {zs : List Int} (hg : Tryz.prog.globalNamed nm = some g)
    (hu : Tryz.prog.underlying t = some (.array n u)) (hi : Tryz.prog.underlying u = some (.int .u32)) (c1 : Tryz.prog.cellsOf u = 1) (cn : Tryz.prog.cellsOf t = n)
    (hv : W.var? Tryz.prog nm = some cs) {enc : TypeId × Value → Unit} {base : Nat} {sp : Nat → Bool} {held : Bool}
    (hd : DataW.trod enc Tryz.prog W base sp held fuel t cs.toList = some (.agg (zs.map fun z => .lit (.int .u32 z)), p)) : W.rangeAt g 0 (zs.map fun z => .int .u32 z) := by
  obtain ⟨xs, m, _, ex, hl, hn, hel⟩ := DataW.trod_array hu hd
  rw [cn] at hl
  have e3 : (xs.map (·.1)) = zs.map fun z => (DataW.lit (.int .u32 z) : DataW Unit) := (DataW.agg.inj (Prod.mk.inj ex).1).symm
  have hzl : zs.length = n := by
    have := congrArg List.length e3
    simp at this
    omega
  have hcs : cs.toList = zs.map fun z => .int .u32 z := by
    refine u32s_of _ _ (by omega) fun i hi' => ?_
    have hE := hel i (by omega)
    rw [c1, Nat.mul_one, List.getElem?_eq_getElem (by omega)] at hE
    obtain ⟨z, e1, e2, _⟩ := DataW.trod_int hi hE
    have e4 : (xs.map (·.1))[i]? = (zs.map fun z => (DataW.lit (.int .u32 z) : DataW Unit))[i]? := by rw [e3]
    rw [List.getElem?_map, List.getElem?_map, List.getElem?_eq_getElem (by omega : i < xs.length), List.getElem?_eq_getElem hi', e2] at e4
    simp only [Option.map_some, Option.some.injEq, DataW.lit.injEq, Lit.int.injEq, true_and] at e4
    rw [e1, e4]
  intro j v hv'
  rw [← hcs] at hv'
  have := World.var?_cell hg hv (0 + j)
  rw [this, Nat.zero_add]
  simpa using hv'

theorem glob_of {W : World} (hS : W.ShapedOpen Tryz.prog) (h : laidMetH Tryz.prog Rows.spaceChecksRow.laid W) : Glob W := by
  have hmax : MaxLen W := by
    refine cell_of_shapedOpen_int hS (t := 3) (of_decide_eq_true (by kernel_rfl)) (zero := #[.int .i64 0]) (by kernel_rfl) rfl (by kernel_rfl) (by kernel_rfl) Tryz.underlying3
  rw [MakeChecks.laidMetH_plain _ _ _ (by kernel_rfl)] at h
  obtain ⟨ps, ⟨g0, t0, cs0, f0, p0, q0, hg0, ht0, hv0, hd0, ⟨g1, t1, cs1, f1, p1, q1, hg1, ht1, hv1, hd1, ⟨g2, t2, cs2, f2, p2, q2, hg2, ht2, hv2, hd2, _, _⟩, _⟩, _⟩, _, _⟩ := h
  obtain rfl := Option.some.inj ((show Tryz.prog.globalNamed "hoarstone/sum.constants" = some 2 by kernel_rfl).symm.trans hg1)
  obtain rfl := Option.some.inj ((show Tryz.prog.globalNamed "hoarstone/sum.begin" = some 1 by kernel_rfl).symm.trans hg2)
  obtain rfl := Option.some.inj ((show (Tryz.prog.globals[2]?).map (·.type) = some 240 by kernel_rfl).symm.trans ht1)
  obtain rfl := Option.some.inj ((show (Tryz.prog.globals[1]?).map (·.type) = some 201 by kernel_rfl).symm.trans ht2)
  refine ⟨hmax, ?_, ?_⟩
  · have e : constW.map u32V = (constW.map fun x => (x.toNat : Int)).map fun z => .int .u32 z := by rw [List.map_map]; rfl
    rw [e]
    refine laid_words hg1 Tryz.underlying240 Tryz.underlying200 (by kernel_rfl) (by kernel_rfl) hv1 (hd1.trans (congrArg (fun d => some (d, p1)) (show (Rows.laid_hoarstone_sum_constants : DataW Unit) = _ from by kernel_rfl)))
  · have e : beginW.map u32V = (beginW.map fun x => (x.toNat : Int)).map fun z => .int .u32 z := by rw [List.map_map]; rfl
    rw [e]
    refine laid_words hg2 Tryz.underlying201 Tryz.underlying200 (by kernel_rfl) (by kernel_rfl) hv2 (hd2.trans (congrArg (fun d => some (d, p2)) (show (Rows.laid_hoarstone_sum_begin : DataW Unit) = _ from by kernel_rfl)))
end V
end Go.Proofs.YtagnkcdhenilbaaGreatDoor

/-
What a row's claim hands over, for more kinds of parameters; no condition.
-/
namespace Go.Proofs.YtagnkcdhenilbaaGreatDoor
open Go V RowKit Go.ChangeShapes Go.WideShapes Go.ChangeAt

theorem ownKnobs : ownKnob Tryz.prog.godebug = none := by kernel_rfl
theorem laidOuts : laidOutB Tryz.prog = true := by kernel_rfl

section
variable {H : Type} {enc : TypeId × Value → H} {P : Program} {w : World} {base : Nat} {spare : Nat → Bool} {held : Bool}

set_option maxRecDepth 100000 in
/-- A digest that came in. -/
theorem open_sumA {v : Value} {d : DataW H} {p : List MemPlace} {r : Reach} {b0 : Nat} (h : DataW.Trod enc Tryz.prog w base spare held 39 v d p)
    (hv : Value.okWide Tryz.prog w r b0 39 v) : ∃ s : Sum, v = sumV s := by
  obtain ⟨fuel, hf⟩ := h
  obtain ⟨s, hs⟩ := open_sum hf
  have : ∃ cs : Array Value, v = .agg cs := by
    simp only [Value.okWide, Tryz.underlying39] at hv
    obtain ⟨cs, h1, _⟩ := hv
    exact ⟨cs, h1⟩
  obtain ⟨cs, rfl⟩ := this
  refine ⟨s, ?_⟩
  have e3 : (Value.agg cs).cells.toList = cs.toList := rfl
  rw [e3] at hs
  exact congrArg Value.agg (Array.ext' (by simpa using hs))

end
end Go.Proofs.YtagnkcdhenilbaaGreatDoor

/-
The closed facts of a row, put together out of single ones; no condition.
-/
namespace Go.Proofs.YtagnkcdhenilbaaGreatDoor
open Go
theorem joined_of {P : Program} {f : FuncId} {fn : Func} {s : ChangeSpec} {c : OpenClaim}
    (h0 : (c.wf (OpenSpec.ofChange s) : Bool) = true)
    (h1 : (laidOutB P : Bool) = true)
    (h2 : (mapsRowed P : Bool) = true)
    (h3 : (fn.params.all (P.readableRec ·) : Bool) = true)
    (h4 : (namedTie P c.named s.vars : Bool) = true)
    (h5 : (c.stops == [] : Bool) = true)
    (h6 : (P.stops == [] : Bool) = true)
    (h7 : (c.knobs == [] : Bool) = true)
    (h8 : (P.stopKnobs == [] : Bool) = true)
    (h9 : (c.inPlace == P.inPlace f : Bool) = true)
    (h10 : (c.unfollowed == P.unfollowed f : Bool) = true)
    (h11 : (c.recurses == P.recurses f : Bool) = true)
    (h12 : (c.named == P.varsNamed f : Bool) = true)
    (h13 : (c.maps == (fn.params.toList ++ s.plain.varTypes P).any (P.mapsRec ·) : Bool) = true)
    (h14 : (c.ifaces == (fn.params.toList ++ s.plain.varTypes P).any (P.ifacesRec ·) : Bool) = true)
    (h15 : (c.mapsOut == P.mapsAmong fn.resultTypes.toList : Bool) = true)
    (h16 : (c.loops == (fn.params.toList ++ s.plain.varTypes P).any (P.loopsFrom ·) : Bool) = true)
    (h17 : (c.wideKeys == (fn.params.toList ++ s.plain.varTypes P ++ fn.resultTypes.toList).any (P.wideKeysFrom ·) : Bool) = true)
    (h18 : (s.vars.all (P.varReadable ·) : Bool) = true)
    (h19 : (fn.resultTypes.all (fun t => P.readableRec t && decide (t < P.types.size)) : Bool) = true)
    (h20 : (c.ifacesOut == fn.resultTypes.toList.any (P.ifacesRec ·) : Bool) = true)
    (h21 : (c.loopsOut == fn.resultTypes.toList.any (P.loopsFrom ·) : Bool) = true)
    (h22 : (c.plainKeys == P.plainKeys : Bool) = true)
    (h23 : (c.shortTexts.isNone : Bool) = true)
    (h24 : (P.stopsHeard : Bool) = true)
    (h25 : (P.mayEnter : Bool) = true)
    (h26 : (c.lifted == P.liftsFinal : Bool) = true)
    (h27 : (P.make == some c.make : Bool) = true)
    (h28 : (c.kinds == (if c.domain.isEmpty then [] else fn.params.toList.map fun t => match P.underlying t with | some (.int k) => some k | _ => none) : Bool) = true)
    (h29 : (c.pinned == c.pinnedBy : Bool) = true)
    (h30 : (c.veiled == (fn.params.toList ++ s.plain.varTypes P ++ fn.resultTypes.toList).any (P.veiledRec ·) : Bool) = true)
    (h31 : (c.veiledFits P fn.params.toList (fn.params.toList ++ s.plain.varTypes P ++ fn.resultTypes.toList) : Bool) = true)
    : joinedFacts P f fn s c = true := by
  unfold joinedFacts
  simp only [Bool.and_eq_true]
  exact ⟨⟨⟨⟨⟨⟨⟨⟨⟨⟨⟨⟨⟨⟨⟨⟨⟨⟨⟨⟨⟨⟨⟨⟨⟨⟨⟨⟨⟨⟨⟨h0, h1⟩, h2⟩, h3⟩, h4⟩, h5⟩, h6⟩, h7⟩, h8⟩, h9⟩, h10⟩, h11⟩, h12⟩, h13⟩, h14⟩, h15⟩, h16⟩, h17⟩, h18⟩, h19⟩, h20⟩, h21⟩, h22⟩, h23⟩, h24⟩, h25⟩, h26⟩, h27⟩, h28⟩, h29⟩, h30⟩, h31⟩
end Go.Proofs.YtagnkcdhenilbaaGreatDoor
