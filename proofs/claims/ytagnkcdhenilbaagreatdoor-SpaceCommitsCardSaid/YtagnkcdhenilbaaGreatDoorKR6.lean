/-
A part of the proofs of the laws of a seat: contracts of functions and lemmas on them; the listed package variables hold what the program's text lays. No further condition.
-/
import Derived.Test.YtagnkcdhenilbaaGreatDoorKR1
import Derived.Test.YtagnkcdhenilbaaGreatDoorKPG1
import Derived.Test.YtagnkcdhenilbaaGreatDoorKPC3
set_option linter.unusedVariables false
set_option linter.unusedSectionVars false
set_option linter.unusedSimpArgs false
/-
What a row's claim hands over: a row of commits that came in; no condition.
-/
namespace Go.Proofs.YtagnkcdhenilbaaGreatDoor
open Go V RowKit Go.ChangeShapes Go.WideShapes Go.ChangeAt

theorem weights_all {H : Type} {P : Program} {e : TypeId} : ∀ {ds : List (DataW H)} {d : DataW H}, d ∈ ds → ∀ n ∈ d.weights P e, n ∈ DataW.weightsAll P e ds
  | [], _, h, _, _ => by cases h
  | x :: r, d, h, n, hn => by
    rw [DataW.weightsAll, List.mem_append]
    rcases List.mem_cons.1 h with rfl | h
    · exact .inl hn
    · exact .inr (weights_all h n hn)

section
variable {H : Type} {enc : TypeId × Value → H} {w : World} {base : Nat} {sp : Nat → Bool} {held : Bool}

theorem open_rowQ {α : Type} (κ : Kd α) (Q : α → Prop) {st : TypeId} (hs : Tryz.prog.underlying st = some (.slice κ.T)) (hc : Tryz.prog.cellsOf κ.T = κ.sz) (hp : 0 < κ.sz) (hb : 0 < Tryz.prog.bytesOf κ.T)
    (hopen : ∀ {fuel : Nat} {cs : List Value} {x : DataW H × List MemPlace}, DataW.trod enc Tryz.prog w base (fun _ => true) held fuel κ.T cs = some x → (∀ n ∈ x.1.weights Tryz.prog κ.T, n ≤ reachBytes) → ∃ e : α, cs = κ.cs e ∧ Q e)
    {fuel : Nat} {cs : List Value} {x : DataW H × List MemPlace} (h : DataW.trod enc Tryz.prog w base (fun _ => true) held fuel st cs = some x)
    (hz : ∀ n ∈ x.1.weights Tryz.prog st, n ≤ reachBytes) : ∃ r : Row α, cs = [.slice r.A r.l.length r.c] ∧ r.ok κ w ∧ ∀ e ∈ r.l, Q e := by
  rcases DataW.trod_slice hs h with ⟨rfl, rfl⟩ | ⟨a, len, cap, elems, rest, n, _, rfl, rfl, _, hl, _, hlen, hel, hsp, _⟩
  · exact ⟨⟨none, 0, []⟩, rfl, ⟨Nat.le_refl _, Nat.zero_le _, fun h => absurd rfl h, fun j v hv => by simp at hv, fun _ => ⟨rfl, rfl⟩⟩, fun _ h => by cases h⟩
  · have hr := (hsp rfl).1
    have hcap : cap ≤ lim := by
      have := hz ((elems.length + rest.length) * Tryz.prog.bytesOf κ.T) (by simp [DataW.weights, hs])
      have h2 : cap * 1 ≤ cap * Tryz.prog.bytesOf κ.T := Nat.mul_le_mul_left _ hb
      have h3 : elems.length + rest.length = cap := by omega
      rw [h3] at this
      have : reachBytes = lim := rfl
      omega
    have hex : ∀ i, i < len → ∃ e : α, w.cells? base (a.add (i * κ.sz)) κ.sz = some (κ.cs e) ∧ Q e := fun i hi => by
      have hE := hel i hi
      rw [hc, List.getElem?_eq_getElem (by omega), Option.bind_eq_some_iff] at hE
      obtain ⟨c1, hc1, hy⟩ := hE
      obtain ⟨e, rfl, hQ⟩ := hopen hy fun n hn => hz n (by
        simp only [DataW.weights, hs, List.mem_cons, List.mem_append]
        exact .inr (.inl (weights_all (List.mem_map.2 ⟨_, List.getElem_mem (by omega), rfl⟩) n hn)))
      exact ⟨e, hc1, hQ⟩
    obtain ⟨l, hll, hl2⟩ : ∃ l : List α, l.length = len ∧ ∀ i (h : i < l.length), w.cells? base (a.add (i * κ.sz)) κ.sz = some (κ.cs l[i]) ∧ Q l[i] := by
      refine ⟨(List.range len).attach.map fun i => (hex i.1 (List.mem_range.1 i.2)).choose, by simp, fun i hi => ?_⟩
      simp only [List.length_map, List.length_attach, List.length_range] at hi
      simp only [List.getElem_map, List.getElem_attach, List.getElem_range]
      exact (hex i hi).choose_spec
    have hlQ : ∀ e ∈ l, Q e := fun e he => by
      obtain ⟨i, hi, rfl⟩ := List.mem_iff_getElem.1 he
      exact (hl2 i hi).2
    have hl2 := fun i h => (hl2 i h).1
    have hcell : ∀ i (h : i < l.length) j, j < κ.sz → w.cell? ((a.add (i * κ.sz)).add j) = (κ.cs l[i])[j]? := fun i h j hj => by
      have h1 := hl2 i h
      unfold World.cells? at h1
      split at h1
      · have := mapM_some_get h1 j j (by simp [hj])
        exact this
      · cases h1
    have hspot : l ≠ [] → a.spot = none := fun hne => by
      have h0 : 0 < l.length := List.length_pos_iff.2 hne
      have := hcell 0 h0 0 hp
      rw [List.getElem?_eq_getElem (by rw [κ.cs_len]; exact hp)] at this
      unfold World.cell? at this
      cases ha : a.spot with
      | none => rfl
      | some k =>
        have hs1 : ((a.add (0 * κ.sz)).add 0).spot.isSome = true := by simp [Addr.add, ha]
        simp only [hs1, if_true] at this
        split at this <;> cases this
    refine ⟨⟨some a, cap, l⟩, by rw [hll], ⟨by rw [hll]; exact hl, by show l.length ≤ lim; omega, ?_, ?_, fun h => by cases h⟩, hlQ⟩
    · intro hne
      show some a = some ⟨a.block, a.off, none⟩
      rw [← hspot hne]
    · intro j v hv
      have hj : j < l.length * κ.sz := by
        rw [← κ.flat_len]; exact (List.getElem?_eq_some_iff.1 hv).1
      have hi : j / κ.sz < l.length := Nat.div_lt_of_lt_mul (by rw [Nat.mul_comm]; exact hj)
      have hne : l ≠ [] := fun e => by subst e; simp at hi
      have hm : j % κ.sz < κ.sz := Nat.mod_lt _ hp
      have := hcell (j / κ.sz) hi (j % κ.sz) hm
      have hg := κ.get l (j / κ.sz) hi
      have e1 : (κ.cs l[j / κ.sz])[j % κ.sz]? = (l.flatMap κ.cs)[j]? := by
        rw [← hg, List.getElem?_take_of_lt hm, List.getElem?_drop, Nat.mul_comm, Nat.div_add_mod]
      rw [e1, hv] at this
      have ha := hspot hne
      have ea : (⟨blkA (some a), offA (some a) + j, none⟩ : Addr) = (a.add (j / κ.sz * κ.sz)).add (j % κ.sz) := by
        obtain ⟨ab, ao, asp⟩ := a
        have ha' : asp = none := ha
        subst ha'
        rw [Addr.add_mid, Addr.add_mid]
        show (⟨ab, ao + j, none⟩ : Addr) = _
        rw [Nat.add_assoc, Nat.mul_comm, Nat.div_add_mod]
      show w.cell? (⟨blkA (some a), offA (some a) + j, none⟩ : Addr) = some v
      rw [ea]
      exact this


set_option maxRecDepth 100000 in
theorem open_com {fuel : Nat} {cs : List Value} {x : DataW H × List MemPlace} (h : DataW.trod enc Tryz.prog w base (fun _ => true) held fuel 73 cs = some x) (hz : ∀ n ∈ x.1.weights Tryz.prog 73, n ≤ reachBytes) : ∃ e : Com, cs = kCom.cs e ∧ Sl kSum w e.ps.A e.ps.c e.ps.l := by
  obtain ⟨xs, n, _, hx, hl, hlen, hf⟩ := DataW.trod_struct Tryz.underlying73 h
  have c34 : Tryz.prog.cellsOf 73 = 34 := by kernel_rfl
  have c1 : Tryz.prog.cellsOf 9 = 1 := by kernel_rfl
  have cp : Tryz.prog.cellsOf 71 = 1 := by kernel_rfl
  have c32 : Tryz.prog.cellsOf 39 = 32 := by kernel_rfl
  rw [c34] at hl
  match xs, hlen with
  | [y0, y1, y2], _ =>
  have h0 := hf 0 (gF "Root" 39 0 0) rfl
  have h1 := hf 1 (gF "Parents" 71 32 32) rfl
  have h2 := hf 2 (gF "Note" 9 33 56) rfl
  dsimp only [gF] at h0 h1 h2
  rw [c32] at h0
  rw [cp] at h1
  rw [c1] at h2
  obtain ⟨root, e0⟩ := open_sum h0
  obtain ⟨ps, e1, hps⟩ := V.open_row kSum Tryz.underlying71 c32 (by decide) (Nat.le_of_ble_eq_true (by kernel_rfl)) (fun h => by
    obtain ⟨s, hs⟩ := open_sum h
    exact ⟨s, by rw [hs]; show _ = (sumV s).cells.toList; simp [sumV, Value.cells]⟩) h1 (fun n hn => hz n (by
      rw [hx]
      simp only [DataW.weights, Tryz.underlying73, List.map_cons, List.map_nil, DataW.weightsEach, List.mem_append]
      exact .inr (.inl hn)))
  obtain ⟨s, e2, _, _⟩ := DataW.trod_string Tryz.underlying9 h2
  refine ⟨⟨root, ps, s.data.toList⟩, ?_, hps⟩
  have f0 : cs.drop 0 = (cs.drop 0).take 32 ++ cs.drop (0 + 32) := by rw [← List.drop_drop, List.take_append_drop]
  have f1 : cs.drop 32 = (cs.drop 32).take 1 ++ cs.drop (32 + 1) := by rw [← List.drop_drop, List.take_append_drop]
  have f2 : cs.drop 33 = (cs.drop 33).take 1 ++ cs.drop (33 + 1) := by rw [← List.drop_drop, List.take_append_drop]
  rw [e0] at f0
  rw [e1] at f1
  rw [e2] at f2
  have f6 : cs.drop (33 + 1) = [] := List.drop_eq_nil_of_le (by omega)
  have : cs = cs.drop 0 := rfl
  rw [this, f0, f1, f2, f6]
  show _ = ((EV.st [.val (sumV root), (Row.av ps), .val (strV s.data.toList)]).v).cells.toList
  simp [EV.v, AV.v, sumV, strV, Row.av, Value.cells, flat_cons, flat_nil]

set_option maxRecDepth 100000 in
/-- A row of commits that came in. -/
theorem open_coms {v : Value} {d : DataW H} {p : List MemPlace} {r : Reach} {b0 : Nat} (h : DataW.Trod enc Tryz.prog w base (fun _ => true) held 69 v d p)
    (hz : ∀ n ∈ d.weights Tryz.prog 69, n ≤ reachBytes) (hv : Value.okWide Tryz.prog w r b0 69 v) : ∃ x : Row Com, v = .slice x.A x.l.length x.c ∧ x.ok kCom w ∧ ∀ e ∈ x.l, Sl kSum w e.ps.A e.ps.c e.ps.l := by
  obtain ⟨fuel, hf⟩ := h
  have c34 : Tryz.prog.cellsOf 73 = 34 := by kernel_rfl
  obtain ⟨x, e, ok, hQ⟩ := open_rowQ kCom (fun e => Sl kSum w e.ps.A e.ps.c e.ps.l) Tryz.underlying69 c34 (by decide) (Nat.le_of_ble_eq_true (by kernel_rfl)) (fun h hw => open_com h hw) hf hz
  refine ⟨x, ?_, ok, hQ⟩
  have e3 : ∃ A l c, v = .slice A l c := by
    simp only [Value.okWide, Tryz.underlying69] at hv
    cases v <;> simp_all [Cell.okWide, Cell.ok, Value.cells, Tryz.underlying69]
  obtain ⟨A, l, c, rfl⟩ := e3
  simpa [Value.cells] using e
end
end Go.Proofs.YtagnkcdhenilbaaGreatDoor
