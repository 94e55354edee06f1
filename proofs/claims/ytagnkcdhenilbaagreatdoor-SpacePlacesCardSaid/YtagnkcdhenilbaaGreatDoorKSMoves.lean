/-
A part of the proofs of the laws of a seat: contracts of functions and lemmas on them; the listed package variables hold what the program's text lays. No further condition.
-/
import Derived.Test.YtagnkcdhenilbaaGreatDoorKPS17
import Derived.Test.YtagnkcdhenilbaaGreatDoorKPS10
import Derived.Test.YtagnkcdhenilbaaGreatDoorKPS20
import Derived.Test.YtagnkcdhenilbaaGreatDoorKPK1
import Derived.Test.YtagnkcdhenilbaaGreatDoorKR1
import Derived.Test.YtagnkcdhenilbaaGreatDoorKPS22
set_option linter.unusedVariables false
set_option linter.unusedSectionVars false
set_option linter.unusedSimpArgs false
/-
What the outright laws of a namespace ask; no program.
-/
namespace Go.Proofs.YtagnkcdhenilbaaGreatDoor
open V

theorem before_iff (t : Str) (e : Entry) : before t e = Go.Op.bytesLess e.path t := rfl

theorem less_asymm {a b : Str} (h : Go.Op.bytesLess a b = true) : Go.Op.bytesLess b a = false := by
  cases hb : Go.Op.bytesLess b a with
  | false => rfl
  | true => exact absurd (less_trans h hb) (by rw [less_irrefl]; simp)

theorem posOf_mid {A B : List Entry} {x : Entry} (h : rises (A ++ x :: B) = true) : posOf (A ++ x :: B) x.path = A.length := by
  have hp := rises_pw.1 h
  rw [List.pairwise_append] at hp
  unfold posOf
  rw [List.takeWhile_append_of_pos (p := before x.path) (fun a ha => hp.2.2 a ha x (by simp)), List.takeWhile_cons, before_iff, less_irrefl]
  simp

theorem isAt_mid {A B : List Entry} {x : Entry} (h : rises (A ++ x :: B) = true) : isAt (A ++ x :: B) x.path = true := by
  have hp := posOf_mid h
  unfold isAt
  rw [hp, pathAt_eq _ _ (by simp)]
  simp

theorem erase_mid (A B : List Entry) (x : Entry) : (A ++ x :: B).eraseIdx A.length = A ++ B := by
  rw [List.eraseIdx_append_of_length_le (Nat.le_refl _), Nat.sub_self]; rfl

theorem isAt_iff {l : List Entry} (h : rises l = true) (p : Str) : isAt l p = true ↔ ∃ e ∈ l, e.path = p := by
  constructor
  · intro ha
    unfold isAt at ha
    simp only [Bool.and_eq_true, decide_eq_true_eq] at ha
    rw [pathAt_eq _ _ ha.1] at ha
    exact ⟨_, List.getElem_mem ha.1, ha.2⟩
  · rintro ⟨e, he, rfl⟩
    obtain ⟨A, B, rfl⟩ := List.append_of_mem he
    exact isAt_mid h

/-- An entry put into the list without it. -/
theorem setL_mid {A B : List Entry} {x : Entry} (h : rises (A ++ x :: B) = true) : setL (A ++ B) x = A ++ x :: B ∧ isAt (A ++ B) x.path = false := by
  have hp := rises_pw.1 h
  rw [List.pairwise_append, List.pairwise_cons] at hp
  have hr : rises (A ++ B) = true := by rw [← erase_mid A B x]; exact rises_erase h
  have hpos : posOf (A ++ B) x.path = A.length := by
    unfold posOf
    rw [List.takeWhile_append_of_pos (p := before x.path) (fun a ha => hp.2.2 a ha x (by simp))]
    cases B with
    | nil => simp
    | cons y B =>
      rw [List.takeWhile_cons, before_iff, less_asymm (hp.2.1.1 y (by simp))]
      simp
  have hat : isAt (A ++ B) x.path = false := by
    cases hc : isAt (A ++ B) x.path with
    | false => rfl
    | true =>
      obtain ⟨e, he, hep⟩ := (isAt_iff hr _).1 hc
      rw [List.mem_append] at he
      rcases he with he | he
      · have := hp.2.2 e he x (by simp)
        rw [hep, less_irrefl] at this; cases this
      · have := hp.2.1.1 e he
        rw [hep, less_irrefl] at this; cases this
  refine ⟨?_, hat⟩
  unfold setL
  rw [if_neg (by rw [hat]; simp), hpos]
  unfold insL
  simp

theorem words_plain : ∀ x : Str, (46 : UInt8) ∉ x → words x = match x with | [] => [[]] | b :: r => [b :: r]
  | [], _ => rfl
  | [b], h => by
    have : b ≠ 46 := fun e => h (by simp [e])
    simp [words, this]
  | b :: c :: r, h => by
    have hb : b ≠ 46 := fun e => h (by simp [e])
    have ih := words_plain (c :: r) (fun e => h (List.mem_cons_of_mem _ e))
    rw [words, if_neg hb, ih]
theorem words_one (x : Str) (h : (46 : UInt8) ∉ x) : words x = [x] := by
  rw [words_plain x h]; cases x <;> rfl
theorem words_app : ∀ (x r : Str), (46 : UInt8) ∉ x → words (x ++ 46 :: r) = x :: words r
  | [], r, _ => by simp [words]
  | b :: x, r, h => by
    have hb : b ≠ 46 := fun e => h (by simp [e])
    rw [List.cons_append, words, if_neg hb, words_app x r fun e => h (List.mem_cons_of_mem _ e)]
theorem words_joinD : ∀ ws : List Str, ws ≠ [] → (∀ w ∈ ws, (46 : UInt8) ∉ w) → words (joinD ws) = ws
  | [], h, _ => absurd rfl h
  | [x], _, h => words_one x (h x (by simp))
  | x :: y :: r, _, h => by
    rw [joinD, words_app x _ (h x (by simp)), words_joinD (y :: r) (by simp) fun w hw => h w (List.mem_cons_of_mem _ hw)]

theorem NW_dot : ∀ w ∈ NW, (46 : UInt8) ∉ w := by decide
theorem NW_ok : ∀ w ∈ NW, wordOk w = true := by decide
theorem nice_words {ws : List Str} (h1 : 1 ≤ ws.length) (h : ∀ w ∈ ws, w ∈ NW) : words (joinD ws) = ws :=
  words_joinD ws (by rintro rfl; simp at h1) fun w hw => NW_dot w (h w hw)
theorem nice_ok {ws : List Str} (h1 : 1 ≤ ws.length) (h2 : ws.length ≤ 5) (h : ∀ w ∈ ws, w ∈ NW) : pathOk (joinD ws) = true := by
  rw [pathOk_words, nice_words h1 h, Bool.and_eq_true, decide_eq_true_eq, List.all_eq_true]
  exact ⟨h2, fun w hw => NW_ok w (h w hw)⟩
theorem gooE_ok {e : Entry} (h : gooE e) : pathOk e.path = true := by
  obtain ⟨ws, hp, h1, h2, h3⟩ := h
  rw [hp]; exact nice_ok h1 (by omega) h3
theorem list_ok {l : List Entry} (hr : rises l = true) (h : ∀ e ∈ l, pathOk e.path = true) (hn : l.length ≤ 300) : listE l = 0 := by
  unfold listE
  rw [if_neg (by omega), if_pos (show l.all goodE = true from List.all_eq_true.2 fun e he => h e he), if_pos hr]
theorem ask_ok {t y : List Entry} {k : Int} {ps : List Str} (ht : listE t = 0) (hy : listE y = 0) (hk : k = 1 ∨ k = 2) (hp : ∀ p ∈ ps, pathOk p = true) : askE t y k ps = 0 := by
  have hc : checkE t y = 0 := by unfold checkE; rw [if_pos ht, hy]
  have hkk : kindE t y k = 0 := by unfold kindE; rw [if_pos hc, if_pos hk]
  unfold askE pathsE
  rw [if_pos hkk, if_pos (List.all_eq_true.2 hp)]

/-- A list of a namespace that is right. -/
structure okL (n : Nat) (l : List Entry) : Prop where
  rises : rises l = true
  paths : ∀ e ∈ l, pathOk e.path = true
  len : l.length ≤ n
theorem okL.zero {n : Nat} {l : List Entry} (h : okL n l) (hn : n ≤ 300) : listE l = 0 := list_ok h.rises h.paths (Nat.le_trans h.len hn)
theorem okL.more {n m : Nat} {l : List Entry} (h : okL n l) (hn : n ≤ m) : okL m l := ⟨h.rises, h.paths, Nat.le_trans h.len hn⟩
theorem okL_ask {n : Nat} {t y : List Entry} {k : Int} {ps : List Str} (ht : okL n t) (hy : okL n y) (hn : n ≤ 300) (hk : k = 1 ∨ k = 2) (hp : ∀ p ∈ ps, pathOk p = true) : askE t y k ps = 0 :=
  ask_ok (ht.zero hn) (hy.zero hn) hk hp
theorem gooL_okL {n : Nat} {l : List Entry} (h : gooL l) (hn : l.length ≤ n) : okL n l := ⟨h.1, fun e he => gooE_ok (h.2 e he), hn⟩

end Go.Proofs.YtagnkcdhenilbaaGreatDoor

/-
What a row's claim hands over: a row of bytes that came in; no condition.
-/
namespace Go.Proofs.YtagnkcdhenilbaaGreatDoor
open Go V RowKit Go.ChangeShapes Go.WideShapes Go.ChangeAt

section
variable {H : Type} {enc : TypeId × Value → H} {w : World} {base : Nat} {sp : Nat → Bool} {held : Bool}

set_option maxRecDepth 100000 in
theorem open_byte {fuel : Nat} {cs : List Value} {x : DataW H × List MemPlace} (h : DataW.trod enc Tryz.prog w base sp held fuel 5 cs = some x) : ∃ e : UInt8, cs = kByte.cs e := by
  obtain ⟨z, rfl, _, hz⟩ := DataW.trod_int Tryz.underlying5 h
  have hb : 0 ≤ z ∧ z ≤ 255 := by simpa [Lit.wf, IntKind.min, IntKind.max, IntKind.signed, IntKind.bits] using hz
  refine ⟨UInt8.ofNat z.toNat, ?_⟩
  show _ = [u8V _]
  unfold u8V
  congr 2
  have : (UInt8.ofNat z.toNat).toNat = z.toNat := by
    rw [UInt8.toNat_ofNat']
    exact Nat.mod_eq_of_lt (by omega)
  rw [this]
  omega

set_option maxRecDepth 100000 in
/-- A row of bytes that came in. -/
theorem open_bytes {v : Value} {d : DataW H} {p : List MemPlace} {r : Reach} {b0 : Nat} (h : DataW.Trod enc Tryz.prog w base (fun _ => true) held 54 v d p)
    (hz : ∀ n ∈ d.weights Tryz.prog 54, n ≤ reachBytes) (hv : Value.okWide Tryz.prog w r b0 54 v) : ∃ x : Row UInt8, v = .slice x.A x.l.length x.c ∧ x.ok kByte w := by
  obtain ⟨fuel, hf⟩ := h
  have c1 : Tryz.prog.cellsOf 5 = 1 := by kernel_rfl
  obtain ⟨x, e, ok⟩ := V.open_row kByte Tryz.underlying54 c1 (by decide) (Nat.le_of_ble_eq_true (by kernel_rfl)) (fun h => open_byte h) hf hz
  refine ⟨x, ?_, ok⟩
  have e3 : ∃ A l c, v = .slice A l c := by
    simp only [Value.okWide, Tryz.underlying54] at hv
    cases v <;> simp_all [Cell.okWide, Cell.ok, Value.cells, Tryz.underlying54]
  obtain ⟨A, l, c, rfl⟩ := e3
  simpa [Value.cells] using e
end
end Go.Proofs.YtagnkcdhenilbaaGreatDoor

/-
What was put below another word, and taken out again; no program.
-/
namespace Go.Proofs.YtagnkcdhenilbaaGreatDoor
open V

def ZZ : Str := [122, 122]
theorem pj_path (x : Entry) : (pj ZZ x).path = 122 :: 122 :: 46 :: x.path := rfl

theorem NW_head : ∀ w ∈ NW, ∃ b r, w = b :: r ∧ b.toNat < 122 := by
  intro w hw
  simp only [NW, List.mem_cons, List.not_mem_nil, or_false] at hw
  rcases hw with rfl | rfl | rfl | rfl <;> exact ⟨_, _, rfl, by decide⟩

theorem goo_head {e : Entry} (h : gooE e) : ∃ b r, e.path = b :: r ∧ b.toNat < 122 := by
  obtain ⟨ws, hp, h1, _, h3⟩ := h
  match ws, h1, h3 with
  | [w], _, h3 =>
    obtain ⟨b, r, e1, e2⟩ := NW_head w (h3 w (by simp))
    exact ⟨b, r, by rw [hp, ← e1]; rfl, e2⟩
  | w :: y :: q, _, h3 =>
    obtain ⟨b, r, e1, e2⟩ := NW_head w (h3 w (by simp))
    exact ⟨b, r ++ 46 :: joinD (y :: q), by rw [hp, joinD, e1]; rfl, e2⟩

theorem below_zz {e : Entry} (h : gooE e) (q : Str) : Go.Op.bytesLess e.path (122 :: q) = true := by
  obtain ⟨b, r, e1, e2⟩ := goo_head h
  have : b < 122 := e2
  rw [e1]; unfold Go.Op.bytesLess; simp [this]

theorem less_zz (a b : Str) : Go.Op.bytesLess (122 :: 122 :: 46 :: a) (122 :: 122 :: 46 :: b) = Go.Op.bytesLess a b := by
  simp [Go.Op.bytesLess]

/-- The one with the other below zz. -/
def zzL (l m : List Entry) : List Entry := l ++ m.map (pj ZZ)

theorem rises_zz {l m : List Entry} (hl : gooL l) (hm : rises m = true) : rises (zzL l m) = true := by
  refine rises_pw.2 ?_
  unfold zzL
  rw [List.pairwise_append]
  refine ⟨rises_pw.1 hl.1, ?_, ?_⟩
  · rw [List.pairwise_map]
    exact (rises_pw.1 hm).imp fun {a b} h => by rw [pj_path, pj_path, less_zz]; exact h
  · intro a ha b hb
    obtain ⟨x, _, rfl⟩ := List.mem_map.1 hb
    rw [pj_path]
    exact below_zz (hl.2 a ha) _

theorem putL_zz : ∀ (m l : List Entry), rises (zzL l m) = true → putL ZZ l m = zzL l m
  | [], l, _ => by simp [putL, zzL]
  | x :: m, l, h => by
    have h2 : zzL l (x :: m) = zzL (l ++ [pj ZZ x]) m := by simp [zzL]
    have h3 : rises (l ++ [pj ZZ x]) = true := by
      rw [h2] at h
      exact rises_pw.2 ((rises_pw.1 h).sublist (List.sublist_append_left _ _))
    have h4 : setL l (pj ZZ x) = l ++ [pj ZZ x] := by
      have := (setL_mid (A := l) (B := []) h3).1
      rwa [List.append_nil] at this
    rw [h2] at h ⊢
    rw [← putL_zz m (l ++ [pj ZZ x]) h, ← h4]
    rfl

theorem zz_ok {e : Entry} (h : gooE e) : pathOk (pj ZZ e).path = true := by
  obtain ⟨ws, hp, h1, h2, h3⟩ := h
  have hw : words (pj ZZ e).path = ZZ :: ws := by
    show words (ZZ ++ 46 :: e.path) = _
    rw [words_app _ _ (by decide), hp, nice_words h1 h3]
  rw [pathOk_words, hw, Bool.and_eq_true, decide_eq_true_eq, List.all_eq_true]
  refine ⟨by rw [List.length_cons]; omega, fun w hw => ?_⟩
  rcases List.mem_cons.1 hw with rfl | hw
  · decide
  · exact NW_ok w (h3 w hw)

theorem zz_okL {l m : List Entry} (hl : gooL l) (hm : gooL m) (h1 : l.length ≤ 50) (h2 : m.length ≤ 50) : okL 100 (zzL l m) := by
  refine ⟨rises_zz hl hm.1, fun e he => ?_, by unfold zzL; rw [List.length_append, List.length_map]; omega⟩
  unfold zzL at he
  rcases List.mem_append.1 he with he | he
  · exact gooE_ok (hl.2 e he)
  · obtain ⟨x, hx, rfl⟩ := List.mem_map.1 he
    exact zz_ok (hm.2 x hx)

theorem under_goo {e : Entry} (h : gooE e) : under1 ZZ e = [] := by
  obtain ⟨b, r, e1, e2⟩ := goo_head h
  unfold under1 hasPre
  rw [e1]
  have : ¬ b = 122 := by rintro rfl; exact absurd e2 (by decide)
  simp [ZZ, this]
theorem under_pj (x : Entry) : under1 ZZ (pj ZZ x) = [x] := by
  unfold under1 cutS hasPre
  rw [pj_path]
  simp [ZZ, pj]
theorem under_zz : ∀ (m l : List Entry), (∀ e ∈ l, gooE e) → underL ZZ (zzL l m) = m := by
  intro m l hl
  unfold underL zzL
  rw [List.flatMap_append]
  have h1 : l.flatMap (under1 ZZ) = [] := by rw [List.flatMap_eq_nil_iff]; exact fun e he => under_goo (hl e he)
  rw [h1, List.nil_append, List.flatMap_map]
  induction m with
  | nil => rfl
  | cons x m ih => rw [List.flatMap_cons, under_pj, ih]; rfl

/-- The first one below zz taken out. -/
theorem drop_zz {l m : List Entry} {x : Entry} (h : rises (zzL l (x :: m)) = true) : isAt (zzL l (x :: m)) (pj ZZ x).path = true ∧ (zzL l (x :: m)).eraseIdx (posOf (zzL l (x :: m)) (pj ZZ x).path) = zzL l m := by
  have e : zzL l (x :: m) = l ++ pj ZZ x :: m.map (pj ZZ) := rfl
  rw [e] at h ⊢
  exact ⟨isAt_mid h, by rw [posOf_mid h, erase_mid]; rfl⟩

theorem zz_none {l : List Entry} (h : gooL l) (x : Entry) : isAt l (pj ZZ x).path = false := by
  cases hc : isAt l (pj ZZ x).path with
  | false => rfl
  | true =>
    obtain ⟨e, he, hep⟩ := (isAt_iff h.1 _).1 hc
    obtain ⟨b, r, e1, e2⟩ := goo_head (h.2 e he)
    rw [e1, pj_path] at hep
    injection hep with h1 _
    rw [h1] at e2
    exact absurd e2 (by decide)

theorem check_ok {n : Nat} {t y : List Entry} (ht : okL n t) (hy : okL n y) (hn : n ≤ 300) : checkE t y = 0 := by
  unfold checkE; rw [if_pos (ht.zero hn), hy.zero hn]
theorem paths_zz : pathsE [ZZ] = 0 := by decide

theorem places_into {T Y T2 Y2 : List Entry} (hT : gooL T) (hY : gooL Y) (hT2 : gooL T2) (hY2 : gooL Y2) (n1 : T.length ≤ 50) (n2 : Y.length ≤ 50) (n3 : T2.length ≤ 50) (n4 : Y2.length ≤ 50) :
    intoE T Y T2 Y2 ZZ = 0 ∧ putL ZZ T T2 = zzL T T2 ∧ putL ZZ Y Y2 = zzL Y Y2 := by
  have p1 := putL_zz T2 T (rises_zz hT hT2.1)
  have p2 := putL_zz Y2 Y (rises_zz hY hY2.1)
  refine ⟨?_, p1, p2⟩
  have c1 : checkE T Y = 0 := check_ok (gooL_okL hT n1) (gooL_okL hY n2) (by decide)
  have c2 : checkE T2 Y2 = 0 := check_ok (gooL_okL hT2 n3) (gooL_okL hY2 n4) (by decide)
  have k1 : T2.all (okP ZZ) = true := List.all_eq_true.2 fun e he => zz_ok (hT2.2 e he)
  have k2 : Y2.all (okP ZZ) = true := List.all_eq_true.2 fun e he => zz_ok (hY2.2 e he)
  have d1 : T2.any (clash T ZZ) = false := List.any_eq_false.2 fun e _ => by rw [show clash T ZZ e = isAt T (pj ZZ e).path from rfl, zz_none hT]; simp
  have d2 : Y2.any (clash Y ZZ) = false := List.any_eq_false.2 fun e _ => by rw [show clash Y ZZ e = isAt Y (pj ZZ e).path from rfl, zz_none hY]; simp
  have l1 := (zz_okL hT hT2 n1 n3).len
  have l2 := (zz_okL hY hY2 n2 n4).len
  unfold intoE
  rw [if_pos c1, if_pos c2, if_pos paths_zz, k1, k2, d1, d2, p1, p2, if_pos (show (true && true) = true from rfl), if_neg (by decide), if_neg (by omega)]

theorem places_twice {T Y T2 Y2 : List Entry} (hT : gooL T) (hY : gooL Y) (hT2 : gooL T2) (hY2 : gooL Y2) (n1 : T.length ≤ 50) (n2 : Y.length ≤ 50) (n3 : T2.length ≤ 50) (n4 : Y2.length ≤ 50) (hne : 0 < T2.length + Y2.length) :
    intoE (zzL T T2) (zzL Y Y2) T2 Y2 ZZ = 5 := by
  have c1 : checkE (zzL T T2) (zzL Y Y2) = 0 := check_ok (zz_okL hT hT2 n1 n3) (zz_okL hY hY2 n2 n4) (by decide)
  have c2 : checkE T2 Y2 = 0 := check_ok (gooL_okL hT2 n3) (gooL_okL hY2 n4) (by decide)
  have k1 : T2.all (okP ZZ) = true := List.all_eq_true.2 fun e he => zz_ok (hT2.2 e he)
  have k2 : Y2.all (okP ZZ) = true := List.all_eq_true.2 fun e he => zz_ok (hY2.2 e he)
  have key : ∀ (l m : List Entry), gooL l → gooL m → 0 < m.length → m.any (clash (zzL l m) ZZ) = true := by
    intro l m hl hm h0
    cases m with
    | nil => simp at h0
    | cons x m => rw [List.any_cons, show clash (zzL l (x :: m)) ZZ x = isAt (zzL l (x :: m)) (pj ZZ x).path from rfl, (drop_zz (rises_zz hl hm.1)).1]; rfl
  have d : (T2.any (clash (zzL T T2) ZZ) || Y2.any (clash (zzL Y Y2) ZZ)) = true := by
    rw [Bool.or_eq_true]
    by_cases h : 0 < T2.length
    · exact .inl (key T T2 hT hT2 h)
    · exact .inr (key Y Y2 hY hY2 (by omega))
  unfold intoE
  rw [if_pos c1, if_pos c2, if_pos paths_zz, k1, k2, if_pos (show (true && true) = true from rfl), if_pos d]

theorem places_under {T Y T2 Y2 : List Entry} (hT : gooL T) (hY : gooL Y) (hT2 : gooL T2) (hY2 : gooL Y2) (n1 : T.length ≤ 50) (n2 : Y.length ≤ 50) (n3 : T2.length ≤ 50) (n4 : Y2.length ≤ 50) :
    undE (zzL T T2) (zzL Y Y2) ZZ = 0 ∧ underL ZZ (zzL T T2) = T2 ∧ underL ZZ (zzL Y Y2) = Y2 := by
  have c1 : checkE (zzL T T2) (zzL Y Y2) = 0 := check_ok (zz_okL hT hT2 n1 n3) (zz_okL hY hY2 n2 n4) (by decide)
  refine ⟨?_, under_zz T2 T hT.2, under_zz Y2 Y hY.2⟩
  unfold undE; rw [if_pos c1]; exact paths_zz

theorem gooL_drop {m : List Entry} (h : gooL m) (j : Nat) : gooL (m.drop j) :=
  ⟨rises_pw.2 ((rises_pw.1 h.1).sublist (List.drop_sublist j m)), fun e he => h.2 e (List.mem_of_mem_drop he)⟩

/-- One more taken out, of the one kind or the other. -/
theorem places_drop {l o m : List Entry} {x : Entry} {k : Int} {t y : List Entry} (hk : k = 1 ∨ k = 2) (hl : gooL l) (hm : gooL (x :: m)) (ho : okL 100 o) (n1 : l.length ≤ 50) (n2 : (x :: m).length ≤ 50) (ht : kList k t y = zzL l (x :: m)) (hy : kList k y t = o) :
    DropE t y k (pj ZZ x).path = 0 ∧ (kList k t y).eraseIdx (posOf (kList k t y) (pj ZZ x).path) = zzL l m := by
  have hz := zz_okL hl hm n1 n2
  have hty : okL 100 t ∧ okL 100 y := by
    rcases hk with rfl | rfl
    · have e1 : t = zzL l (x :: m) := ht
      have e2 : y = o := hy
      rw [e1, e2]; exact ⟨hz, ho⟩
    · have e1 : y = zzL l (x :: m) := ht
      have e2 : t = o := hy
      rw [e1, e2]; exact ⟨ho, hz⟩
  have ha : askE t y k [(pj ZZ x).path] = 0 := okL_ask hty.1 hty.2 (by decide) hk (by simpa using zz_ok (hm.2 x (by simp)))
  have hd := drop_zz hz.rises
  rw [ht]
  refine ⟨?_, hd.2⟩
  unfold DropE; rw [if_pos ha, ht, if_pos hd.1]
end Go.Proofs.YtagnkcdhenilbaaGreatDoor
