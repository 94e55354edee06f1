/-
A part of the proofs of the laws of a seat: contracts of functions and lemmas on them; the listed package variables hold what the program's text lays. No further condition.
-/
import Derived.Test.YtagnkcdhenilbaaGreatDoorKPS17
import Derived.Test.YtagnkcdhenilbaaGreatDoorKPS10
import Derived.Test.YtagnkcdhenilbaaGreatDoorKPS20
import Derived.Test.YtagnkcdhenilbaaGreatDoorKPK1
import Derived.Test.YtagnkcdhenilbaaGreatDoorKR1
set_option linter.unusedVariables false
set_option linter.unusedSectionVars false
set_option linter.unusedSimpArgs false
/-
What the outright laws of a namespace ask; no program.
-/
namespace Go.Proofs.YtagnkcdhenilbaaGreatDoor
open V

theorem before_iff (t : Str) (e : Entry) : before t e = Go.Op.bytesLess e.path t := rfl

theorem less_asymm {a b : Str} (h : Go.Op.bytesLess a b = true) : Go.Op.bytesLess b a = false := by
  cases hb : Go.Op.bytesLess b a with
  | false => rfl
  | true => exact absurd (less_trans h hb) (by rw [less_irrefl]; simp)

theorem posOf_mid {A B : List Entry} {x : Entry} (h : rises (A ++ x :: B) = true) : posOf (A ++ x :: B) x.path = A.length := by
  have hp := rises_pw.1 h
  rw [List.pairwise_append] at hp
  unfold posOf
  rw [List.takeWhile_append_of_pos (p := before x.path) (fun a ha => hp.2.2 a ha x (by simp)), List.takeWhile_cons, before_iff, less_irrefl]
  simp

theorem isAt_mid {A B : List Entry} {x : Entry} (h : rises (A ++ x :: B) = true) : isAt (A ++ x :: B) x.path = true := by
  have hp := posOf_mid h
  unfold isAt
  rw [hp, pathAt_eq _ _ (by simp)]
  simp

theorem getD_mid (A B : List Entry) (x : Entry) : (A ++ x :: B).getD A.length zeroE = x := by simp
theorem erase_mid (A B : List Entry) (x : Entry) : (A ++ x :: B).eraseIdx A.length = A ++ B := by
  rw [List.eraseIdx_append_of_length_le (Nat.le_refl _), Nat.sub_self]; rfl

theorem isAt_iff {l : List Entry} (h : rises l = true) (p : Str) : isAt l p = true ↔ ∃ e ∈ l, e.path = p := by
  constructor
  · intro ha
    unfold isAt at ha
    simp only [Bool.and_eq_true, decide_eq_true_eq] at ha
    rw [pathAt_eq _ _ ha.1] at ha
    exact ⟨_, List.getElem_mem ha.1, ha.2⟩
  · rintro ⟨e, he, rfl⟩
    obtain ⟨A, B, rfl⟩ := List.append_of_mem he
    exact isAt_mid h

/-- An entry put into the list without it. -/
theorem setL_mid {A B : List Entry} {x : Entry} (h : rises (A ++ x :: B) = true) : setL (A ++ B) x = A ++ x :: B ∧ isAt (A ++ B) x.path = false := by
  have hp := rises_pw.1 h
  rw [List.pairwise_append, List.pairwise_cons] at hp
  have hr : rises (A ++ B) = true := by rw [← erase_mid A B x]; exact rises_erase h
  have hpos : posOf (A ++ B) x.path = A.length := by
    unfold posOf
    rw [List.takeWhile_append_of_pos (p := before x.path) (fun a ha => hp.2.2 a ha x (by simp))]
    cases B with
    | nil => simp
    | cons y B =>
      rw [List.takeWhile_cons, before_iff, less_asymm (hp.2.1.1 y (by simp))]
      simp
  have hat : isAt (A ++ B) x.path = false := by
    cases hc : isAt (A ++ B) x.path with
    | false => rfl
    | true =>
      obtain ⟨e, he, hep⟩ := (isAt_iff hr _).1 hc
      rw [List.mem_append] at he
      rcases he with he | he
      · have := hp.2.2 e he x (by simp)
        rw [hep, less_irrefl] at this; cases this
      · have := hp.2.1.1 e he
        rw [hep, less_irrefl] at this; cases this
  refine ⟨?_, hat⟩
  unfold setL
  rw [if_neg (by rw [hat]; simp), hpos]
  unfold insL
  simp

/-- One entry more: it is there, and taken out again the list is as it was. -/
theorem setL_new {l : List Entry} {x : Entry} (h : rises l = true) (ha : isAt l x.path = false) :
    rises (setL l x) = true ∧ isAt (setL l x) x.path = true ∧ (setL l x).eraseIdx (posOf (setL l x) x.path) = l ∧ (setL l x).getD (posOf (setL l x) x.path) zeroE = x ∧ (∀ e, e ∈ setL l x ↔ e ∈ l ∨ e = x) := by
  have hr := rises_insL h ha
  have e : setL l x = l.take (posOf l x.path) ++ x :: l.drop (posOf l x.path) := by unfold setL insL; rw [if_neg (by rw [ha]; simp)]
  have e2 : rises (l.take (posOf l x.path) ++ x :: l.drop (posOf l x.path)) = true := hr
  rw [e]
  have hp := posOf_mid e2
  rw [hp]
  refine ⟨e2, isAt_mid e2, by rw [erase_mid, List.take_append_drop], getD_mid _ _ _, fun y => ?_⟩
  have : y ∈ l ↔ y ∈ l.take (posOf l x.path) ∨ y ∈ l.drop (posOf l x.path) := by rw [← List.mem_append, List.take_append_drop]
  rw [this, List.mem_append, List.mem_cons]
  constructor
  · rintro (h | h | h)
    · exact .inl (.inl h)
    · exact .inr h
    · exact .inl (.inr h)
  · rintro ((h | h) | h)
    · exact .inl h
    · exact .inr (.inr h)
    · exact .inr (.inl h)

/-- What Move makes. -/
theorem moveL_ok {l : List Entry} {x : Entry} {q : Str} (h : rises l = true) (hx : x ∈ l) (hq : isAt l q = false) :
    isAt l x.path = true ∧ rises (moveL l x.path q) = true ∧ isAt (moveL l x.path q) q = true ∧ (moveL l x.path q).getD (posOf (moveL l x.path q) q) zeroE = ⟨q, x.sum⟩ ∧ isAt (moveL l x.path q) x.path = false ∧ moveL (moveL l x.path q) q x.path = l ∧
      (∀ e, e ∈ moveL l x.path q → e ∈ l ∨ e.path = q) ∧ (moveL l x.path q).length ≤ l.length := by
  obtain ⟨A, B, rfl⟩ := List.append_of_mem hx
  have hp := posOf_mid h
  have hM : rises (A ++ B) = true := by rw [← erase_mid A B x]; exact rises_erase h
  have hqM : isAt (A ++ B) q = false := by
    cases hc : isAt (A ++ B) q with
    | false => rfl
    | true =>
      obtain ⟨e, he, hep⟩ := (isAt_iff hM _).1 hc
      have : isAt (A ++ x :: B) q = true := (isAt_iff h _).2 ⟨e, by rw [List.mem_append] at he ⊢; rcases he with he | he; exact .inl he; exact .inr (List.mem_cons_of_mem _ he), hep⟩
      rw [hq] at this; cases this
  have hne : x.path ≠ q := fun e => by
    have := isAt_mid h
    rw [e, hq] at this; cases this
  have hmv : moveL (A ++ x :: B) x.path q = setL (A ++ B) ⟨q, x.sum⟩ := by unfold moveL; rw [hp, erase_mid, getD_mid]
  obtain ⟨n1, n2, n3, n4, n5⟩ := setL_new (x := ⟨q, x.sum⟩) hM hqM
  obtain ⟨s1, s2⟩ := setL_mid h
  dsimp only at n2 n3 n4
  rw [hmv]
  refine ⟨isAt_mid h, n1, n2, n4, ?_, ?_, ?_, ?_⟩
  · cases hc : isAt (setL (A ++ B) ⟨q, x.sum⟩) x.path with
    | false => rfl
    | true =>
      obtain ⟨e, he, hep⟩ := (isAt_iff n1 _).1 hc
      rcases (n5 e).1 he with he | he
      · have := (isAt_iff hM x.path).2 ⟨e, he, hep⟩
        rw [s2] at this; cases this
      · subst he; exact absurd hep.symm hne
  · unfold moveL
    rw [n3, n4]
    exact s1
  · intro e he
    rcases (n5 e).1 he with he | he
    · left; rw [List.mem_append] at he ⊢; rcases he with he | he; exact .inl he; exact .inr (List.mem_cons_of_mem _ he)
    · right; subst he; rfl
  · have := setL_le (A ++ B) ⟨q, x.sum⟩
    simp only [List.length_append, List.length_cons] at this ⊢
    omega

theorem words_plain : ∀ x : Str, (46 : UInt8) ∉ x → words x = match x with | [] => [[]] | b :: r => [b :: r]
  | [], _ => rfl
  | [b], h => by
    have : b ≠ 46 := fun e => h (by simp [e])
    simp [words, this]
  | b :: c :: r, h => by
    have hb : b ≠ 46 := fun e => h (by simp [e])
    have ih := words_plain (c :: r) (fun e => h (List.mem_cons_of_mem _ e))
    rw [words, if_neg hb, ih]
theorem words_one (x : Str) (h : (46 : UInt8) ∉ x) : words x = [x] := by
  rw [words_plain x h]; cases x <;> rfl
theorem words_app : ∀ (x r : Str), (46 : UInt8) ∉ x → words (x ++ 46 :: r) = x :: words r
  | [], r, _ => by simp [words]
  | b :: x, r, h => by
    have hb : b ≠ 46 := fun e => h (by simp [e])
    rw [List.cons_append, words, if_neg hb, words_app x r fun e => h (List.mem_cons_of_mem _ e)]
theorem words_joinD : ∀ ws : List Str, ws ≠ [] → (∀ w ∈ ws, (46 : UInt8) ∉ w) → words (joinD ws) = ws
  | [], h, _ => absurd rfl h
  | [x], _, h => words_one x (h x (by simp))
  | x :: y :: r, _, h => by
    rw [joinD, words_app x _ (h x (by simp)), words_joinD (y :: r) (by simp) fun w hw => h w (List.mem_cons_of_mem _ hw)]

theorem NW_dot : ∀ w ∈ NW, (46 : UInt8) ∉ w := by decide
theorem NW_ok : ∀ w ∈ NW, wordOk w = true := by decide
theorem nice_words {ws : List Str} (h1 : 1 ≤ ws.length) (h : ∀ w ∈ ws, w ∈ NW) : words (joinD ws) = ws :=
  words_joinD ws (by rintro rfl; simp at h1) fun w hw => NW_dot w (h w hw)
theorem nice_ok {ws : List Str} (h1 : 1 ≤ ws.length) (h2 : ws.length ≤ 5) (h : ∀ w ∈ ws, w ∈ NW) : pathOk (joinD ws) = true := by
  rw [pathOk_words, nice_words h1 h, Bool.and_eq_true, decide_eq_true_eq, List.all_eq_true]
  exact ⟨h2, fun w hw => NW_ok w (h w hw)⟩
theorem gooE_ok {e : Entry} (h : gooE e) : pathOk e.path = true := by
  obtain ⟨ws, hp, h1, h2, h3⟩ := h
  rw [hp]; exact nice_ok h1 (by omega) h3
theorem list_ok {l : List Entry} (hr : rises l = true) (h : ∀ e ∈ l, pathOk e.path = true) (hn : l.length ≤ 300) : listE l = 0 := by
  unfold listE
  rw [if_neg (by omega), if_pos (show l.all goodE = true from List.all_eq_true.2 fun e he => h e he), if_pos hr]
theorem ask_ok {t y : List Entry} {k : Int} {ps : List Str} (ht : listE t = 0) (hy : listE y = 0) (hk : k = 1 ∨ k = 2) (hp : ∀ p ∈ ps, pathOk p = true) : askE t y k ps = 0 := by
  have hc : checkE t y = 0 := by unfold checkE; rw [if_pos ht, hy]
  have hkk : kindE t y k = 0 := by unfold kindE; rw [if_pos hc, if_pos hk]
  unfold askE pathsE
  rw [if_pos hkk, if_pos (List.all_eq_true.2 hp)]

theorem kList_kA {k : Int} (hk : k = 1 ∨ k = 2) (l o : List Entry) : kList k (kA k l o) (kA k o l) = l := by
  rcases hk with rfl | rfl <;> rfl
theorem kList_kB {k : Int} (hk : k = 1 ∨ k = 2) (l o : List Entry) : kList k (kA k o l) (kA k l o) = o := by
  rcases hk with rfl | rfl <;> rfl
theorem kA_kList {k : Int} (hk : k = 1 ∨ k = 2) (t y : List Entry) : kA k (kList k t y) (kList k y t) = t ∧ kA k (kList k y t) (kList k t y) = y := by
  rcases hk with rfl | rfl <;> exact ⟨rfl, rfl⟩
theorem ed_zero (k : Int) (l o : List Entry) : edT 0 k l o = kA k l o ∧ edY 0 k l o = kA k o l := ⟨if_pos rfl, if_pos rfl⟩
theorem ed_len2 {e k : Int} {l o : List Entry} {n : Nat} (h1 : l.length ≤ n) (h2 : o.length ≤ n) : (edT e k l o).length ≤ n ∧ (edY e k l o).length ≤ n := by
  unfold edT edY kA
  constructor <;> (split <;> (try split) <;> simp_all)

/-- A list of a namespace that is right. -/
structure okL (n : Nat) (l : List Entry) : Prop where
  rises : rises l = true
  paths : ∀ e ∈ l, pathOk e.path = true
  len : l.length ≤ n
theorem okL.zero {n : Nat} {l : List Entry} (h : okL n l) (hn : n ≤ 300) : listE l = 0 := list_ok h.rises h.paths (Nat.le_trans h.len hn)
theorem okL.more {n m : Nat} {l : List Entry} (h : okL n l) (hn : n ≤ m) : okL m l := ⟨h.rises, h.paths, Nat.le_trans h.len hn⟩
theorem okL_k {n : Nat} {k : Int} {t y : List Entry} (ht : okL n t) (hy : okL n y) : okL n (kList k t y) ∧ okL n (kList k y t) := by
  unfold kList; split <;> exact ⟨‹_›, ‹_›⟩
theorem okL_kA {n : Nat} {k : Int} {l o : List Entry} (ht : okL n l) (hy : okL n o) : okL n (kA k l o) ∧ okL n (kA k o l) := by
  unfold kA; split <;> exact ⟨‹_›, ‹_›⟩
theorem okL_ask {n : Nat} {t y : List Entry} {k : Int} {ps : List Str} (ht : okL n t) (hy : okL n y) (hn : n ≤ 300) (hk : k = 1 ∨ k = 2) (hp : ∀ p ∈ ps, pathOk p = true) : askE t y k ps = 0 :=
  ask_ok (ht.zero hn) (hy.zero hn) hk hp
theorem gooL_okL {n : Nat} {l : List Entry} (h : gooL l) (hn : l.length ≤ n) : okL n l := ⟨h.1, fun e he => gooE_ok (h.2 e he), hn⟩

theorem moves_add {T Y : List Entry} {k : Int} {p : Str} (x : Sum) (hT : okL 100 T) (hY : okL 100 Y) (hk : k = 1 ∨ k = 2) (hp : pathOk p = true) {Ta Ya : List Entry}
    (hTa : edT (addE T Y k p) k (setL (kList k T Y) ⟨p, x⟩) (kList k Y T) = Ta) (hYa : edY (addE T Y k p) k (setL (kList k T Y) ⟨p, x⟩) (kList k Y T) = Ya) :
    (isAt (kList k T Y) p = true → addE T Y k p = 5) ∧
    (isAt (kList k T Y) p = false → addE T Y k p = 0 ∧ DropE Ta Ya k p = 0 ∧ edT (DropE Ta Ya k p) k ((kList k Ta Ya).eraseIdx (posOf (kList k Ta Ya) p)) (kList k Ya Ta) = T ∧ edY (DropE Ta Ya k p) k ((kList k Ta Ya).eraseIdx (posOf (kList k Ta Ya) p)) (kList k Ya Ta) = Y) ∧
    Ta.length ≤ 101 ∧ Ya.length ≤ 101 := by
  have hL := (okL_k (k := k) hT hY).1
  have hO := (okL_k (k := k) hT hY).2
  have hask : askE T Y k [p] = 0 := okL_ask hT hY (by decide) hk (by simpa using hp)
  have hlen := setL_le (kList k T Y) ⟨p, x⟩
  have h1 := hL.len
  have h2 := hO.len
  have hel : Ta.length ≤ 101 ∧ Ya.length ≤ 101 := by rw [← hTa, ← hYa]; exact ed_len2 (by omega) (by omega)
  refine ⟨fun h => ?_, fun h => ?_, hel.1, hel.2⟩
  · unfold addE; rw [if_pos hask, if_pos h]
  · have he : addE T Y k p = 0 := by unfold addE; rw [if_pos hask, if_neg (by rw [h]; simp), if_neg (by omega)]
    rw [he, (ed_zero k _ _).1] at hTa
    rw [he, (ed_zero k _ _).2] at hYa
    obtain ⟨n1, n2, n3, n4, n5⟩ := setL_new (x := ⟨p, x⟩) hL.rises h
    have hS : okL 101 (setL (kList k T Y) ⟨p, x⟩) := ⟨n1, fun e he => by rcases (n5 e).1 he with he | rfl; exact hL.paths e he; exact hp, by omega⟩
    have hO1 := hO.more (m := 101) (by decide)
    have hka : okL 101 Ta ∧ okL 101 Ya := by rw [← hTa, ← hYa]; exact okL_kA hS hO1
    have ha2 : askE Ta Ya k [p] = 0 := okL_ask hka.1 hka.2 (by decide) hk (by simpa using hp)
    have e1 : kList k Ta Ya = setL (kList k T Y) ⟨p, x⟩ := by rw [← hTa, ← hYa, kList_kA hk]
    have e2 : kList k Ya Ta = kList k Y T := by rw [← hTa, ← hYa]; exact kList_kB hk _ _
    have hd : DropE Ta Ya k p = 0 := by unfold DropE; rw [if_pos ha2, e1, if_pos n2]
    rw [hd, (ed_zero k _ _).1, (ed_zero k _ _).2, e1, e2, n3]
    exact ⟨he, rfl, (kA_kList hk T Y).1, (kA_kList hk T Y).2⟩

theorem moves_move {T Y : List Entry} {k : Int} {q : Str} {x : Entry} (hT : okL 100 T) (hY : okL 100 Y) (hk : k = 1 ∨ k = 2) (hq : pathOk q = true) (hx : x ∈ kList k T Y) {Tc Yc : List Entry}
    (hTc : edT (MoveE T Y k x.path q) k (moveL (kList k T Y) x.path q) (kList k Y T) = Tc) (hYc : edY (MoveE T Y k x.path q) k (moveL (kList k T Y) x.path q) (kList k Y T) = Yc) :
    (isAt (kList k T Y) q = true → MoveE T Y k x.path q = 5) ∧
    (isAt (kList k T Y) q = false → MoveE T Y k x.path q = 0 ∧ plainE Tc Yc k q = 0 ∧ plainS Tc Yc k q = x.sum ∧ MoveE Tc Yc k q x.path = 0 ∧
      edT (MoveE Tc Yc k q x.path) k (moveL (kList k Tc Yc) q x.path) (kList k Yc Tc) = T ∧ edY (MoveE Tc Yc k q x.path) k (moveL (kList k Tc Yc) q x.path) (kList k Yc Tc) = Y ∧ SetE Tc Yc k x.path = 6) ∧
    Tc.length ≤ 101 ∧ Yc.length ≤ 101 := by
  have hL := (okL_k (k := k) hT hY).1
  have hO := (okL_k (k := k) hT hY).2
  have hxp := hL.paths x hx
  have hask : askE T Y k [x.path, q] = 0 := okL_ask hT hY (by decide) hk (by simpa using ⟨hxp, hq⟩)
  have h1 := hL.len
  have h2 := hO.len
  have hxat := (isAt_iff hL.rises x.path).2 ⟨x, hx, rfl⟩
  have hlen : (moveL (kList k T Y) x.path q).length ≤ 101 := by
    unfold moveL
    have h3 := setL_le ((kList k T Y).eraseIdx (posOf (kList k T Y) x.path)) ⟨q, ((kList k T Y).getD (posOf (kList k T Y) x.path) zeroE).sum⟩
    have h4 := List.length_eraseIdx_le (kList k T Y) (posOf (kList k T Y) x.path)
    omega
  have hel : Tc.length ≤ 101 ∧ Yc.length ≤ 101 := by rw [← hTc, ← hYc]; exact ed_len2 hlen (by omega)
  refine ⟨fun h => ?_, fun h => ?_, hel.1, hel.2⟩
  · unfold MoveE; rw [if_pos hask, if_pos hxat, if_pos h]
  · have he : MoveE T Y k x.path q = 0 := by unfold MoveE; rw [if_pos hask, if_pos hxat, if_neg (by rw [h]; simp)]
    rw [he, (ed_zero k _ _).1] at hTc
    rw [he, (ed_zero k _ _).2] at hYc
    obtain ⟨_, n1, n2, n3, n4, n5, n6, n7⟩ := moveL_ok hL.rises hx h
    have hS : okL 101 (moveL (kList k T Y) x.path q) := ⟨n1, fun e he => by rcases n6 e he with he | he; exact hL.paths e he; rw [he]; exact hq, hlen⟩
    have hO1 := hO.more (m := 101) (by decide)
    have hka : okL 101 Tc ∧ okL 101 Yc := by rw [← hTc, ← hYc]; exact okL_kA hS hO1
    have e1 : kList k Tc Yc = moveL (kList k T Y) x.path q := by rw [← hTc, ← hYc, kList_kA hk]
    have e2 : kList k Yc Tc = kList k Y T := by rw [← hTc, ← hYc]; exact kList_kB hk _ _
    have ha1 : askE Tc Yc k [q] = 0 := okL_ask hka.1 hka.2 (by decide) hk (by simpa using hq)
    have ha2 : askE Tc Yc k [q, x.path] = 0 := okL_ask hka.1 hka.2 (by decide) hk (by simpa using ⟨hq, hxp⟩)
    have ha3 : askE Tc Yc k [x.path] = 0 := okL_ask hka.1 hka.2 (by decide) hk (by simpa using hxp)
    have hf : foundL (kList k Tc Yc) q = [⟨q, x.sum⟩] := by unfold foundL; rw [e1, if_pos n2, n3]
    have hfl : findL Tc Yc k q = [⟨q, x.sum⟩] := by unfold findL; rw [if_pos ha1, hf]
    have hfe : findE Tc Yc k q = 0 := by unfold findE; rw [if_pos ha1, hf]; rfl
    have hpl : plainE Tc Yc k q = 0 := by unfold plainE; rw [if_pos hfe, hfl]; simp [oneB]
    have hm : MoveE Tc Yc k q x.path = 0 := by unfold MoveE; rw [if_pos ha2, e1, if_pos n2, if_neg (by rw [n4]; simp)]
    refine ⟨he, hpl, ?_, hm, ?_, ?_, ?_⟩
    · unfold plainS; rw [if_pos hpl, hfl]; rfl
    · rw [hm, (ed_zero k _ _).1, e1, e2, n5]; exact (kA_kList hk T Y).1
    · rw [hm, (ed_zero k _ _).2, e1, e2, n5]; exact (kA_kList hk T Y).2
    · unfold SetE; rw [if_pos ha3, e1, if_neg (by rw [n4]; simp)]
end Go.Proofs.YtagnkcdhenilbaaGreatDoor

/-
What a row's claim hands over: a row of bytes that came in; no condition.
-/
namespace Go.Proofs.YtagnkcdhenilbaaGreatDoor
open Go V RowKit Go.ChangeShapes Go.WideShapes Go.ChangeAt

section
variable {H : Type} {enc : TypeId × Value → H} {w : World} {base : Nat} {sp : Nat → Bool} {held : Bool}

set_option maxRecDepth 100000 in
theorem open_byte {fuel : Nat} {cs : List Value} {x : DataW H × List MemPlace} (h : DataW.trod enc Tryz.prog w base sp held fuel 5 cs = some x) : ∃ e : UInt8, cs = kByte.cs e := by
  obtain ⟨z, rfl, _, hz⟩ := DataW.trod_int Tryz.underlying5 h
  have hb : 0 ≤ z ∧ z ≤ 255 := by simpa [Lit.wf, IntKind.min, IntKind.max, IntKind.signed, IntKind.bits] using hz
  refine ⟨UInt8.ofNat z.toNat, ?_⟩
  show _ = [u8V _]
  unfold u8V
  congr 2
  have : (UInt8.ofNat z.toNat).toNat = z.toNat := by
    rw [UInt8.toNat_ofNat']
    exact Nat.mod_eq_of_lt (by omega)
  rw [this]
  omega

set_option maxRecDepth 100000 in
/-- A row of bytes that came in. -/
theorem open_bytes {v : Value} {d : DataW H} {p : List MemPlace} {r : Reach} {b0 : Nat} (h : DataW.Trod enc Tryz.prog w base (fun _ => true) held 54 v d p)
    (hz : ∀ n ∈ d.weights Tryz.prog 54, n ≤ reachBytes) (hv : Value.okWide Tryz.prog w r b0 54 v) : ∃ x : Row UInt8, v = .slice x.A x.l.length x.c ∧ x.ok kByte w := by
  obtain ⟨fuel, hf⟩ := h
  have c1 : Tryz.prog.cellsOf 5 = 1 := by kernel_rfl
  obtain ⟨x, e, ok⟩ := V.open_row kByte Tryz.underlying54 c1 (by decide) (Nat.le_of_ble_eq_true (by kernel_rfl)) (fun h => open_byte h) hf hz
  refine ⟨x, ?_, ok⟩
  have e3 : ∃ A l c, v = .slice A l c := by
    simp only [Value.okWide, Tryz.underlying54] at hv
    cases v <;> simp_all [Cell.okWide, Cell.ok, Value.cells, Tryz.underlying54]
  obtain ⟨A, l, c, rfl⟩ := e3
  simpa [Value.cells] using e
end
end Go.Proofs.YtagnkcdhenilbaaGreatDoor
