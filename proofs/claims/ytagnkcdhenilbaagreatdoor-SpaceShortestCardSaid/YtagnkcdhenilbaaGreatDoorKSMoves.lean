/-
A part of the proofs of the laws of a seat: contracts of functions and lemmas on them; the listed package variables hold what the program's text lays. No further condition.
-/
import Derived.Test.YtagnkcdhenilbaaGreatDoorKPS17
import Derived.Test.YtagnkcdhenilbaaGreatDoorKPS14
import Derived.Test.YtagnkcdhenilbaaGreatDoorKPS20
import Derived.Test.YtagnkcdhenilbaaGreatDoorKPK1
import Derived.Test.YtagnkcdhenilbaaGreatDoorKR1
import Derived.Test.YtagnkcdhenilbaaGreatDoorKSName
set_option linter.unusedVariables false
set_option linter.unusedSectionVars false
set_option linter.unusedSimpArgs false
/-
What the outright laws of a namespace ask; no program.
-/
namespace Go.Proofs.YtagnkcdhenilbaaGreatDoor
open V

theorem before_iff (t : Str) (e : Entry) : before t e = Go.Op.bytesLess e.path t := rfl

theorem posOf_mid {A B : List Entry} {x : Entry} (h : rises (A ++ x :: B) = true) : posOf (A ++ x :: B) x.path = A.length := by
  have hp := rises_pw.1 h
  rw [List.pairwise_append] at hp
  unfold posOf
  rw [List.takeWhile_append_of_pos (p := before x.path) (fun a ha => hp.2.2 a ha x (by simp)), List.takeWhile_cons, before_iff, less_irrefl]
  simp

theorem isAt_mid {A B : List Entry} {x : Entry} (h : rises (A ++ x :: B) = true) : isAt (A ++ x :: B) x.path = true := by
  have hp := posOf_mid h
  unfold isAt
  rw [hp, pathAt_eq _ _ (by simp)]
  simp

theorem getD_mid (A B : List Entry) (x : Entry) : (A ++ x :: B).getD A.length zeroE = x := by simp
theorem words_plain : ∀ x : Str, (46 : UInt8) ∉ x → words x = match x with | [] => [[]] | b :: r => [b :: r]
  | [], _ => rfl
  | [b], h => by
    have : b ≠ 46 := fun e => h (by simp [e])
    simp [words, this]
  | b :: c :: r, h => by
    have hb : b ≠ 46 := fun e => h (by simp [e])
    have ih := words_plain (c :: r) (fun e => h (List.mem_cons_of_mem _ e))
    rw [words, if_neg hb, ih]
theorem words_one (x : Str) (h : (46 : UInt8) ∉ x) : words x = [x] := by
  rw [words_plain x h]; cases x <;> rfl
theorem words_app : ∀ (x r : Str), (46 : UInt8) ∉ x → words (x ++ 46 :: r) = x :: words r
  | [], r, _ => by simp [words]
  | b :: x, r, h => by
    have hb : b ≠ 46 := fun e => h (by simp [e])
    rw [List.cons_append, words, if_neg hb, words_app x r fun e => h (List.mem_cons_of_mem _ e)]
theorem words_joinD : ∀ ws : List Str, ws ≠ [] → (∀ w ∈ ws, (46 : UInt8) ∉ w) → words (joinD ws) = ws
  | [], h, _ => absurd rfl h
  | [x], _, h => words_one x (h x (by simp))
  | x :: y :: r, _, h => by
    rw [joinD, words_app x _ (h x (by simp)), words_joinD (y :: r) (by simp) fun w hw => h w (List.mem_cons_of_mem _ hw)]

theorem NW_dot : ∀ w ∈ NW, (46 : UInt8) ∉ w := by decide
theorem NW_ok : ∀ w ∈ NW, wordOk w = true := by decide
theorem nice_words {ws : List Str} (h1 : 1 ≤ ws.length) (h : ∀ w ∈ ws, w ∈ NW) : words (joinD ws) = ws :=
  words_joinD ws (by rintro rfl; simp at h1) fun w hw => NW_dot w (h w hw)
theorem nice_ok {ws : List Str} (h1 : 1 ≤ ws.length) (h2 : ws.length ≤ 5) (h : ∀ w ∈ ws, w ∈ NW) : pathOk (joinD ws) = true := by
  rw [pathOk_words, nice_words h1 h, Bool.and_eq_true, decide_eq_true_eq, List.all_eq_true]
  exact ⟨h2, fun w hw => NW_ok w (h w hw)⟩
theorem gooE_ok {e : Entry} (h : gooE e) : pathOk e.path = true := by
  obtain ⟨ws, hp, h1, h2, h3⟩ := h
  rw [hp]; exact nice_ok h1 (by omega) h3
theorem list_ok {l : List Entry} (hr : rises l = true) (h : ∀ e ∈ l, pathOk e.path = true) (hn : l.length ≤ 300) : listE l = 0 := by
  unfold listE
  rw [if_neg (by omega), if_pos (show l.all goodE = true from List.all_eq_true.2 fun e he => h e he), if_pos hr]
theorem ask_ok {t y : List Entry} {k : Int} {ps : List Str} (ht : listE t = 0) (hy : listE y = 0) (hk : k = 1 ∨ k = 2) (hp : ∀ p ∈ ps, pathOk p = true) : askE t y k ps = 0 := by
  have hc : checkE t y = 0 := by unfold checkE; rw [if_pos ht, hy]
  have hkk : kindE t y k = 0 := by unfold kindE; rw [if_pos hc, if_pos hk]
  unfold askE pathsE
  rw [if_pos hkk, if_pos (List.all_eq_true.2 hp)]

/-- A list of a namespace that is right. -/
structure okL (n : Nat) (l : List Entry) : Prop where
  rises : rises l = true
  paths : ∀ e ∈ l, pathOk e.path = true
  len : l.length ≤ n
theorem okL.zero {n : Nat} {l : List Entry} (h : okL n l) (hn : n ≤ 300) : listE l = 0 := list_ok h.rises h.paths (Nat.le_trans h.len hn)
theorem okL.more {n m : Nat} {l : List Entry} (h : okL n l) (hn : n ≤ m) : okL m l := ⟨h.rises, h.paths, Nat.le_trans h.len hn⟩
theorem okL_k {n : Nat} {k : Int} {t y : List Entry} (ht : okL n t) (hy : okL n y) : okL n (kList k t y) ∧ okL n (kList k y t) := by
  unfold kList; split <;> exact ⟨‹_›, ‹_›⟩
theorem okL_ask {n : Nat} {t y : List Entry} {k : Int} {ps : List Str} (ht : okL n t) (hy : okL n y) (hn : n ≤ 300) (hk : k = 1 ∨ k = 2) (hp : ∀ p ∈ ps, pathOk p = true) : askE t y k ps = 0 :=
  ask_ok (ht.zero hn) (hy.zero hn) hk hp
theorem gooL_okL {n : Nat} {l : List Entry} (h : gooL l) (hn : l.length ≤ n) : okL n l := ⟨h.1, fun e he => gooE_ok (h.2 e he), hn⟩

end Go.Proofs.YtagnkcdhenilbaaGreatDoor

/-
What a row's claim hands over: a row of bytes that came in; no condition.
-/
namespace Go.Proofs.YtagnkcdhenilbaaGreatDoor
open Go V RowKit Go.ChangeShapes Go.WideShapes Go.ChangeAt

section
variable {H : Type} {enc : TypeId × Value → H} {w : World} {base : Nat} {sp : Nat → Bool} {held : Bool}

set_option maxRecDepth 100000 in
theorem open_byte {fuel : Nat} {cs : List Value} {x : DataW H × List MemPlace} (h : DataW.trod enc Tryz.prog w base sp held fuel 5 cs = some x) : ∃ e : UInt8, cs = kByte.cs e := by
  obtain ⟨z, rfl, _, hz⟩ := DataW.trod_int Tryz.underlying5 h
  have hb : 0 ≤ z ∧ z ≤ 255 := by simpa [Lit.wf, IntKind.min, IntKind.max, IntKind.signed, IntKind.bits] using hz
  refine ⟨UInt8.ofNat z.toNat, ?_⟩
  show _ = [u8V _]
  unfold u8V
  congr 2
  have : (UInt8.ofNat z.toNat).toNat = z.toNat := by
    rw [UInt8.toNat_ofNat']
    exact Nat.mod_eq_of_lt (by omega)
  rw [this]
  omega

set_option maxRecDepth 100000 in
/-- A row of bytes that came in. -/
theorem open_bytes {v : Value} {d : DataW H} {p : List MemPlace} {r : Reach} {b0 : Nat} (h : DataW.Trod enc Tryz.prog w base (fun _ => true) held 54 v d p)
    (hz : ∀ n ∈ d.weights Tryz.prog 54, n ≤ reachBytes) (hv : Value.okWide Tryz.prog w r b0 54 v) : ∃ x : Row UInt8, v = .slice x.A x.l.length x.c ∧ x.ok kByte w := by
  obtain ⟨fuel, hf⟩ := h
  have c1 : Tryz.prog.cellsOf 5 = 1 := by kernel_rfl
  obtain ⟨x, e, ok⟩ := V.open_row kByte Tryz.underlying54 c1 (by decide) (Nat.le_of_ble_eq_true (by kernel_rfl)) (fun h => open_byte h) hf hz
  refine ⟨x, ?_, ok⟩
  have e3 : ∃ A l c, v = .slice A l c := by
    simp only [Value.okWide, Tryz.underlying54] at hv
    cases v <;> simp_all [Cell.okWide, Cell.ok, Value.cells, Tryz.underlying54]
  obtain ⟨A, l, c, rfl⟩ := e3
  simpa [Value.cells] using e
end
end Go.Proofs.YtagnkcdhenilbaaGreatDoor

/-
The shortest plain end of the paths of a digest; no program.
-/
namespace Go.Proofs.YtagnkcdhenilbaaGreatDoor
open V

theorem count_joinD : ∀ ws : List Str, ws ≠ [] → (∀ w ∈ ws, (46 : UInt8) ∉ w) → (joinD ws).count 46 + 1 = ws.length
  | [], h, _ => absurd rfl h
  | [w], _, h => by
    have := List.count_eq_zero.2 (h w (.head _))
    show w.count 46 + 1 = 1
    omega
  | w :: x :: r, _, h => by
    have ih := count_joinD (x :: r) (by simp) fun y hy => h y (.tail _ hy)
    have := List.count_eq_zero.2 (h w (.head _))
    show (w ++ 46 :: joinD (x :: r)).count 46 + 1 = _
    rw [List.count_append, List.count_cons_self, this, List.length_cons]
    omega

theorem drop_words {p : Str} {n : Nat} (h1 : 1 ≤ n) (h2 : n ≤ (words p).length) :
    (words p).drop ((words p).length - n) ≠ [] ∧ (∀ w ∈ (words p).drop ((words p).length - n), (46 : UInt8) ∉ w) ∧ ((words p).drop ((words p).length - n)).length = n := by
  have hl : ((words p).drop ((words p).length - n)).length = n := by rw [List.length_drop]; omega
  exact ⟨fun e => by rw [e] at hl; simp at hl; omega, fun w hw => words_nodot p w (List.mem_of_mem_drop hw), hl⟩

theorem count_endJ {p : Str} {n : Nat} (h1 : 1 ≤ n) (h2 : n ≤ (words p).length) : (endJ p n).count 46 + 1 = n := by
  obtain ⟨a, b, c⟩ := drop_words h1 h2
  have := count_joinD _ a b
  rw [c] at this
  exact this

theorem endJ_ok {p : Str} {n : Nat} (hp : pathOk p = true) (h1 : 1 ≤ n) (h2 : n ≤ (words p).length) : pathOk (endJ p n) = true := by
  obtain ⟨a, b, c⟩ := drop_words h1 h2
  rw [pathOk_words] at hp ⊢
  simp only [Bool.and_eq_true, decide_eq_true_eq, List.all_eq_true] at hp ⊢
  unfold endJ
  rw [words_joinD _ a b]
  exact ⟨by rw [c]; omega, fun w hw => hp.2 w (List.mem_of_mem_drop hw)⟩

theorem mem_ends_J {p t : Str} : t ∈ endsOf p ↔ ∃ n, 1 ≤ n ∧ n ≤ (words p).length ∧ t = endJ p n := by
  constructor
  · intro h
    obtain ⟨j, hj, rfl⟩ := List.mem_iff_getElem.1 h
    have := endsOf_len p
    exact ⟨j + 1, by omega, by omega, endJ_get p j hj⟩
  · rintro ⟨n, h1, h2, rfl⟩
    have hl := endsOf_len p
    have hj : n - 1 < (endsOf p).length := by omega
    have := endJ_get p (n - 1) hj
    rw [show n - 1 + 1 = n by omega] at this
    rw [← this]
    exact List.getElem_mem hj

theorem whole_at {l : List Entry} (hr : rises l = true) {e : Entry} (he : e ∈ l) : AtN l e.sum e.path (words e.path).length := by
  have hne := List.length_pos_iff.2 (words_ne e.path)
  refine ⟨hne, Nat.le_refl _, ?_⟩
  have hj : endJ e.path (words e.path).length = e.path := by unfold endJ; rw [Nat.sub_self, List.drop_zero, joinD_words]
  obtain ⟨A, B, rfl⟩ := List.append_of_mem he
  have h1 := isAt_mid hr
  have hf : foundL (A ++ e :: B) e.path = [e] := by rw [foundL_means, if_pos h1, posOf_mid hr, getD_mid]
  rw [hj]
  unfold goodR oneB
  rw [hf]
  simp

/-- Fewer words; or as many, and fewer bytes; or as many, and before it. -/
def worseB (t n : Str) : Bool := decide (t.count 46 < n.count 46) || decide (t.count 46 = n.count 46) && lessN t n

theorem plain_zero {T Y : List Entry} {k : Int} {t : Str} (hT : okL 100 T) (hY : okL 100 Y) (hk : k = 1 ∨ k = 2) (ht : pathOk t = true) :
    findE T Y k t = (if foundL (kList k T Y) t = [] then 6 else 0) ∧ findL T Y k t = foundL (kList k T Y) t := by
  have ha : askE T Y k [t] = 0 := okL_ask hT hY (by decide) hk (fun q hq => by obtain rfl : q = t := List.mem_singleton.1 hq; exact ht)
  exact ⟨if_pos ha, if_pos ha⟩

theorem plain_good {T Y : List Entry} {k : Int} {t : Str} {s : Sum} (hT : okL 100 T) (hY : okL 100 Y) (hk : k = 1 ∨ k = 2) (ht : pathOk t = true) :
    plainE T Y k t = 0 ∧ plainS T Y k t = s ↔ goodR (kList k T Y) s t = true := by
  obtain ⟨h1, h2⟩ := plain_zero hT hY hk ht
  unfold goodR
  simp only [Bool.and_eq_true, decide_eq_true_eq]
  unfold plainS plainE
  rw [h1, h2]
  by_cases hf : foundL (kList k T Y) t = []
  · simp [hf]
  · have : 0 < (foundL (kList k T Y) t).length := List.length_pos_iff.2 hf
    simp only [if_neg hf, if_true]
    by_cases ho : oneB (foundL (kList k T Y) t) = true
    · simp [ho, this]
    · simp [ho]

theorem short_facts {T Y : List Entry} {k : Int} {x : Entry} (hT : okL 100 T) (hY : okL 100 Y) (hk : k = 1 ∨ k = 2) (hx : x ∈ kList k T Y) {NL : List Str} {n : Str}
    (hNL : namesL T Y k x.sum = NL) (hn : nameS T Y k x.sum = n) :
    namesE T Y k x.sum = 0 ∧ x.path ∈ NL ∧ (plainE T Y k n = 0 ∧ plainS T Y k n = x.sum) ∧ (∃ p ∈ NL, n ∈ endsOf p) ∧ (∀ p ∈ NL, pathOk p = true) ∧ NL.length ≤ 100 ∧ pathOk n = true ∧
      ∀ p ∈ NL, ∀ t ∈ endsOf p, pathOk t = true ∧ (plainE T Y k t = 0 → plainS T Y k t = x.sum → worseB t n = false) := by
  have hL := (okL_k (k := k) hT hY).1
  have hkd : kindE T Y k = 0 := (askE_zero (okL_ask (ps := []) hT hY (by decide) hk (fun q hq => by cases hq))).1
  have hNL' : namesL T Y k x.sum = pathsOf (kList k T Y) x.sum := if_pos hkd
  have hxm : x.path ∈ pathsOf (kList k T Y) x.sum := by
    unfold pathsOf
    exact List.mem_map.2 ⟨x, List.mem_filter.2 ⟨hx, by simp⟩, rfl⟩
  have hmem : ∀ p ∈ pathsOf (kList k T Y) x.sum, ∃ e ∈ kList k T Y, e.path = p ∧ e.sum = x.sum := fun p h => by
    unfold pathsOf at h
    obtain ⟨e, h1, h2⟩ := List.mem_map.1 h
    have := List.mem_filter.1 h1
    exact ⟨e, this.1, h2, of_decide_eq_true this.2⟩
  have hne : pathsOf (kList k T Y) x.sum ≠ [] := fun e => by rw [e] at hxm; cases hxm
  have hE : namesE T Y k x.sum = 0 := by unfold namesE; rw [if_pos hkd, if_neg hne]
  have hnS : nameS T Y k x.sum = (nameFold (kList k T Y) x.sum (pathsOf (kList k T Y) x.sum)).1 := by unfold nameS; rw [if_pos hE, hNL']
  have hok : ∀ p ∈ pathsOf (kList k T Y) x.sum, pathOk p = true := fun p hp => by obtain ⟨e, h1, rfl, _⟩ := hmem p hp; exact hL.paths e h1
  have h5 : ∀ p ∈ pathsOf (kList k T Y) x.sum, (words p).length ≤ 5 := fun p hp => by
    have := hok p hp
    unfold pathOk at this
    simp only [Bool.and_eq_true, decide_eq_true_eq] at this
    exact this.1.2
  obtain ⟨f1, f2⟩ := nameFold_inv (l := kList k T Y) (x := x.sum) (pathsOf (kList k T Y) x.sum) ([], 6) [] (fun p hp => by obtain ⟨e, h1, h2, _⟩ := hmem p hp; exact ⟨e, h1, h2⟩)
    (fun p hp => by obtain ⟨e, h1, rfl, h2⟩ := hmem p hp; rw [← h2]; exact ⟨_, whole_at hL.rises h1⟩) h5 (fun _ => rfl) (fun h => absurd rfl h) (fun p hp => by cases hp)
  simp only [List.nil_append] at f1 f2
  obtain ⟨q, hq, hA, he⟩ := f1 hne
  rw [← hNL, hNL', ← hn, hnS]
  unfold nameFold
  generalize List.foldl (nameStep (kList k T Y) x.sum) ([], 6) (pathsOf (kList k T Y) x.sum) = b at *
  have hpn : pathOk b.1 = true := by rw [← he]; exact endJ_ok (hok q hq) hA.1 hA.2.1
  refine ⟨hE, hxm, (plain_good hT hY hk hpn).2 (by rw [← he]; exact hA.2.2), ⟨q, hq, mem_ends_J.2 ⟨_, hA.1, hA.2.1, he.symm⟩⟩, hok, Nat.le_trans (pathsOf_len _ _) hL.len, hpn, ?_⟩
  intro p hp t ht
  obtain ⟨m, m1, m2, rfl⟩ := mem_ends_J.1 ht
  have htok := endJ_ok (hok p hp) m1 m2
  refine ⟨htok, fun g1 g2 => ?_⟩
  have hAm : AtN (kList k T Y) x.sum p m := ⟨m1, m2, (plain_good hT hY hk htok).1 ⟨g1, g2⟩⟩
  have c1 := count_endJ m1 m2
  have c2 := count_endJ hA.1 hA.2.1
  rw [he] at c2
  unfold worseB
  rcases f2 p hp m hAm with h | ⟨h, h'⟩
  · have a1 : ¬ (endJ p m).count 46 < b.1.count 46 := by omega
    have a2 : ¬ (endJ p m).count 46 = b.1.count 46 := by omega
    simp [a1, a2]
  · have a1 : ¬ (endJ p m).count 46 < b.1.count 46 := by omega
    rw [h']
    simp [a1]
end Go.Proofs.YtagnkcdhenilbaaGreatDoor

namespace Go.Proofs.YtagnkcdhenilbaaGreatDoor
open Go V

theorem count_spec (w : World) (t : Str) : Gives Tryz.prog 44 [strV t, strV [46]] w (intE (t.count 46)) :=
  (Tryz.strings_Count_one ⟨⟨t⟩⟩ 46 w).mono fun e w' h => ⟨h.1, by rw [h.2]; exact Ext.rfl' _⟩

def hasT (l : List Str) (x : Str) : Bool := l.any fun y => decide (x = y)

theorem idxS_spec (w : World) (A : Option Addr) (c : Nat) (l : List Str) (h : Sl kStr w A c l) (x : Str) : Gives Tryz.prog 116 [.slice A l.length c, strV x] w (intE (idxOf (fun y => decide (x = y)) l 0)) := by
  have hl : lim = 140737488351232 := rfl
  have hsm := h.small
  refine enterH tb_ok [(0, slE A l.length c), (1, strE x)] Tryz.func116 rfl Tryz.ntmps116 rfl rfl ?_
  refine RunH.adv tb_ok [] rfl rfl (by simp <;> omega) ?_
  refine RunH.loop (α := Nat) (fun i => [(0, slE A l.length c), (1, strE x), (7, intE l.length), (8, intE i)]) (fun _ => []) (fun i w' => Ext w w' ∧ i ≤ l.length ∧ (l.take i).any (fun y => decide (x = y)) = false) (fun i => l.length - i) 0
    rfl rfl (fun w' h => ⟨h, Nat.zero_le _, rfl⟩) ?_
  intro i m
  refine RunH.pure (fun w' h => h.2) fun ⟨hi, hpre⟩ => ?_
  by_cases hlt : i < l.length
  · have hts : l.take (i + 1) = l.take i ++ [l[i]] := List.take_succ_eq_append_getElem hlt
    refine RunH.adv tb_ok [true] rfl rfl (by simp [h.ptr hlt] <;> omega) ?_
    refine RunH.load (strE l[i]) rfl rfl rfl rfl (fun w' h' => (h.ext h'.1).load hlt) ?_
    by_cases hp : x = l[i]
    · refine RunH.adv tb_ok [true] rfl rfl (by simp [hp] <;> omega) ?_
      refine RunH.ret1 Tryz.func116 rfl rfl fun w' hst => ⟨?_, hst.fact.1⟩
      rw [idxOf_at _ l 0 i hlt hpre (by simpa using hp), Nat.zero_add]
    · refine RunH.adv tb_ok [false] rfl rfl (by simp [hp] <;> omega) ?_
      refine RunH.again (i + 1) (.head _) rfl rfl (by omega) fun w' h => ⟨h.1, by omega, ?_⟩
      rw [hts, List.any_append, hpre]; simp [hp]
  · rw [List.take_of_length_le (by omega)] at hpre
    refine RunH.adv tb_ok [false] rfl rfl (by simp <;> omega) ?_
    refine RunH.ret1 Tryz.func116 rfl rfl fun w' hst => ⟨?_, hst.fact.1⟩
    rw [idxOf_none _ l 0 hpre]

theorem conS_spec (w : World) (A : Option Addr) (c : Nat) (l : List Str) (h : Sl kStr w A c l) (x : Str) : Gives Tryz.prog 42 [.slice A l.length c, strV x] w (boolE (hasT l x)) := by
  refine enterH tb_ok [(0, slE A l.length c), (1, strE x)] Tryz.func42 rfl Tryz.ntmps42 rfl rfl ?_
  refine RunH.adv tb_ok [] rfl rfl (by simp <;> omega) ?_
  refine RunH.gives (intE (idxOf (fun y => decide (x = y)) l 0)) rfl rfl rfl rfl rfl Tryz.call116 (fun w' hst => idxS_spec w' A c l (h.ext hst.fact) x) ?_
  intro m' hm'
  refine RunH.adv tb_ok [] rfl rfl (by simp <;> omega) ?_
  refine RunH.ret1 Tryz.func42 rfl rfl fun w' hst => ⟨?_, hst.fact⟩
  have : decide (0 ≤ idxOf (fun y => decide (x = y)) l 0) = hasT l x := by rw [Bool.eq_iff_iff]; simp only [decide_eq_true_eq]; exact idxOf_ge _ l 0
  simp [this, EV.v, AV.v]

theorem tails_spec (p : Str) (hp : p.length ≤ 1000000) : Does Tryz.prog tb 43 [strV p] [] MaxLen (fun y : Option Addr × Nat => .slice y.1 (endsOf p).length y.2) (fun y => [(0, rowE kStr y.1 y.2 (endsOf p))]) (fun _ _ _ => True) := by
  have hl : lim = 140737488351232 := rfl
  have hwl := words_len p
  have hel := endsOf_len p
  refine Does.enter tb_ok [(0, strE p)] Tryz.func43 rfl Tryz.ntmps43 rfl rfl 0 ?_
  intro B0 m0 K
  refine RunH.adv tb_ok [] rfl rfl (by simp <;> omega) ?_
  refine RunH.doesB [] 1 (hc := Tryz.call81) (ho := rfl) (hw := rfl) (hd := rfl) (hf := rfl) (hes := rfl) (hσ := rfl) (hn := rfl) (hV := fun _ => rfl) (hG := fun _ => rfl) (e := fun y : Option Addr × Nat => rowS 0 y.1 (words p).length y.2) (hC := split_dot p hp) (hp := fun u hu => hu.fact.2) ?_
  rintro ⟨A, c⟩ m1 hm1
  refine RunH.drop ?_
  refine RunH.adv tb_ok [] rfl rfl (by simp <;> omega) ?_
  refine RunH.nilrow 1 kStr.T kStr.sz 2 ?_
  refine RunH.loop (α := Nat × (Option Addr × Nat) × List Str) (fun z => [(3, rowS 0 A (words p).length c), (4, rowS 1 z.2.1.1 z.2.2.length z.2.1.2), (5, intE ((z.1 + 1 : Nat) : Int))]) (fun z => [(0, rowE kStr A c (words p)), (1, rowE kStr z.2.1.1 z.2.1.2 z.2.2)])
    (fun z u => K u ∧ z.1 ≤ (words p).length ∧ z.2.2 = (endsOf p).take z.1) (fun z => (words p).length - z.1) (0, (none, 0), []) rfl rfl (fun u h => ⟨h.1, Nat.zero_le _, rfl⟩) ?_
  rintro ⟨j, ⟨B, d⟩, out⟩ m2
  refine RunH.pure (fun u h => h.2) fun ⟨hj, ho⟩ => ?_
  dsimp only at hj ho ⊢
  have hol : out.length = j := by rw [ho, List.length_take]; omega
  by_cases hlt : j < (words p).length
  · have hlt' : j < (endsOf p).length := by omega
    have hts : (endsOf p).take (j + 1) = out ++ [joinD ((words p).drop ((words p).length - 1 - j))] := by rw [List.take_succ_eq_append_getElem hlt', ho, endsOf_get]
    have e : (((words p).length : Int) - ((j + 1 : Nat) : Int)) = (((words p).length - 1 - j : Nat) : Int) := by omega
    refine RunH.pureS (fun w hst => own_cap (hst.row (κ := kStr) (id := 0) (l := words p) rfl)) fun hcap => ?_
    refine RunH.adv tb_ok [true] rfl rfl (by simp <;> omega) ?_
    simp only [e]
    have hdl : ((words p).drop ((words p).length - 1 - j)).length = (words p).length - ((words p).length - 1 - j) := by rw [List.length_drop]
    have hdne : (words p).drop ((words p).length - 1 - j) ≠ [] := fun e => by rw [e] at hdl; simp at hdl; omega
    refine RunH.gives (ho := rfl) (hw := rfl) (hd := rfl) (hf := rfl) (hes := rfl) (hc := Tryz.call117) (e := strE (joinD ((words p).drop ((words p).length - 1 - j)))) (hC := fun w hst => by
      have hs := (Sl.own (κ := kStr) (l := words p) (hst.row (κ := kStr) (id := 0) (l := words p) rfl) (by omega)).drop ((words p).length - 1 - j) (by omega)
      have h1 := joinD_drop_len (words p) ((words p).length - 1 - j)
      rw [joinD_words] at h1
      have := join_spec w _ _ _ hs hdne (by omega)
      rw [hdl] at this
      exact this) ?_
    intro m3 hm3
    generalize joinD ((words p).drop ((words p).length - 1 - j)) = t at *
    refine RunH.adv tb_ok [] rfl rfl (by simp <;> omega) ?_
    refine RunH.appendK (nx := 60) (κ := kStr) (id := 1) (r := [t]) (l := out) rfl rfl rfl rfl rfl rfl elt_str rfl rfl (fun w hst => hst.liesRow (id := 2) (κ := kStr) (l := [t]) rfl (by simp [hl])) (by simp; omega) (by simp; omega) ?_
    intro A2 c2 m4 hm4
    refine RunH.adv tb_ok [] rfl rfl (by simp <;> omega) ?_
    refine RunH.again (j + 1, (A2, c2), out ++ [t]) (.head _) rfl rfl (by dsimp only; omega) fun u h => ⟨h.1, by dsimp only; omega, by dsimp only; rw [hts]⟩
  · have hoe : out = endsOf p := by rw [ho]; exact List.take_of_length_le (by omega)
    clear ho
    subst hoe
    refine RunH.adv tb_ok [false] rfl rfl (by simp <;> omega) ?_
    refine RunH.ret1 Tryz.func43 rfl rfl fun w hst => ⟨(B, d), rfl, hst.out [(0, 1)] rfl rfl fun u h => ⟨h.1, trivial⟩⟩
end Go.Proofs.YtagnkcdhenilbaaGreatDoor
