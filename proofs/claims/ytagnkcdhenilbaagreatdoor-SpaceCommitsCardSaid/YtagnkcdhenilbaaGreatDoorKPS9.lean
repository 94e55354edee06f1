/-
A part of the proofs of the laws of a seat: contracts of functions and lemmas on them; the listed package variables hold what the program's text lays. No further condition.
-/
import Derived.Lib.Join
import Derived.Test.YtagnkcdhenilbaaGreatDoorKPS4
import Derived.Test.YtagnkcdhenilbaaGreatDoorKVRaw
import Derived.Test.YtagnkcdhenilbaaGreatDoorKVDoes
set_option linter.unusedVariables false
set_option linter.unusedSectionVars false
set_option linter.unusedSimpArgs false
namespace Go.Proofs.YtagnkcdhenilbaaGreatDoor
open Go V
theorem run_slice3 (w : World) (A : Option Addr) (n c : Nat) (lo hi mx : Int) (h0 : 0 ≤ lo) (h1 : lo ≤ hi) (h2 : hi ≤ mx) (h3 : mx ≤ c) :
    (Instr.slice 22 (.slice A n c) (some (.int .i64 lo)) (some (.int .i64 hi)) (some (.int .i64 mx))).run Tryz.prog w = .ok (.slice (if mx.toNat = lo.toNat then A else A.map (·.add (lo.toNat * 33))) (hi.toNat - lo.toNat) (mx.toNat - lo.toNat)) w := by
  have hu : (underlying 22).run Tryz.prog w = .ok (.slice 44) w := run_underlying (tb_ok.und rfl) w
  have hsz : (sizeOf 44).run Tryz.prog w = .ok 33 w := run_tsize tb_ok (i := Tryz.t44) rfl
  have h4 : max mx 0 = mx := by omega
  have h5 : max hi 0 = hi := by omega
  simp [Instr.slice, Instr.sliceBounds, Instr.sliceBound, hu, hsz, asIntOf, h0, h1, h2, h3, h4, h5, show (0 : Int) ≤ hi by omega, show (0 : Int) ≤ mx by omega]

theorem putC_take {X : Array Value} {o : Nat} {cs : List Value} (h : o ≤ X.size) : (putC X o cs).toList.take o = X.toList.take o := by
  have hl : (X.toList.take o).length = o := by rw [List.length_take, Array.length_toList]; omega
  show ((X.toList.take o ++ cs) ++ X.toList.drop (o + cs.length)).take o = _
  rw [List.append_assoc, List.take_left' hl]

theorem putC_take2 {X : Array Value} {o : Nat} {cs : List Value} (h : o ≤ X.size) : (putC X o cs).toList.take (o + cs.length) = X.toList.take o ++ cs := by
  have hl : (X.toList.take o).length = o := by rw [List.length_take, Array.length_toList]; omega
  show ((X.toList.take o ++ cs) ++ X.toList.drop (o + cs.length)).take _ = _
  rw [List.take_left' (by rw [List.length_append, hl])]

theorem Delete_spec (A : Option Addr) (c : Nat) (l : List Entry) (i : Nat) (hi : i < l.length) (hn : l.length ≤ 1000000) :
    Does Tryz.prog tb 162 [.slice A l.length c, intV i, intV ((i : Int) + 1)] [(0, rowE kEntry A c l)] (fun _ => True) (fun _ : Unit => .slice A (l.eraseIdx i).length c) (fun _ => [(0, rowE kEntry A c (l.eraseIdx i))]) (fun _ _ _ => True) := by
  have hl : lim = 140737488351232 := rfl
  refine Does.enter tb_ok [(0, rowS 0 A l.length c), (1, intE i), (2, intE ((i : Int) + 1))] Tryz.func162 rfl Tryz.ntmps162 rfl rfl 1 ?_
  intro B0 m0 K
  refine RunH.raw (id := 0) rfl (by omega) ?_
  intro g cap cur hv hc hmx hcs ht
  injection hv with h1 h2 h3
  subst h1; subst h3
  refine RunH.adv tb_ok [] rfl rfl (by simp <;> omega) ?_
  refine RunH.read (.av (.val (.slice (if (l.length : Int).toNat = (i : Int).toNat then some ⟨g, 0, none⟩ else (some (⟨g, 0, none⟩ : Addr)).map (·.add ((i : Int).toNat * 33))) (((i : Int) + 1).toNat - (i : Int).toNat) ((l.length : Int).toNat - (i : Int).toNat)))) rfl rfl rfl rfl (fun w a _ ha => ?_) ?_
  · have e8 : a.eval (.tmp 8) = .slice (some ⟨g, 0, none⟩) l.length c := ev_run (e := rowS 0 (some ⟨g, 0, none⟩) l.length c) ha rfl
    have e9 : a.eval (.tmp 9) = .int .i64 i := ev_run (e := intE i) ha rfl
    have e10 : a.eval (.tmp 10) = .int .i64 ((i : Int) + 1) := ev_run (e := intE ((i : Int) + 1)) ha rfl
    have e12 : a.eval (.tmp 12) = .int .i64 l.length := ev_run (e := intE l.length) ha rfl
    have hu : (underlying 22).run Tryz.prog w = .ok (.slice 44) w := run_underlying (tb_ok.und rfl) w
    have := run_slice3 w (some ⟨g, 0, none⟩) l.length c i ((i : Int) + 1) l.length (by omega) (by omega) (by omega) (by omega)
    simp only [execOp, Instr.sliceAt, Option.map_some, e8, e9, e10, e12, hu, this, Sem.run_bind, Result.andThen_ok, Sem.run_pure, EV.v, AV.v]
  refine RunH.adv tb_ok [false] rfl rfl (by simp <;> omega) ?_
  refine RunH.draw rfl [] rfl 8 rfl rfl ?_
  refine RunD.adv tb_ok (by kernel_rfl) [] rfl rfl (by simp <;> omega) ?_
  have hi1 : ((i : Int) + 1).toNat = i + 1 := by omega
  have hi0 : (i : Int).toNat = i := by omega
  obtain ⟨ad, hsub, had⟩ : ∃ ad, subA (some ⟨g, 0, none⟩) ((i : Int) + 1).toNat c 33 = some ad ∧ (i + 1 < l.length → ad = ⟨g, (i + 1) * 33, none⟩) := by
    unfold subA
    rw [hi1]
    by_cases hcc : c = i + 1
    · rw [if_pos hcc]; exact ⟨_, rfl, fun h => by omega⟩
    · rw [if_neg hcc]; exact ⟨_, rfl, fun _ => by simp [Addr.add]⟩
  have hlen := kEntry.flat_len l
  have hsz : kEntry.sz = 33 := rfl
  have hcs0 : ((l.drop (i + 1)).flatMap kEntry.cs).length = (l.length - (i + 1)) * 33 := by rw [kEntry.flat_len, List.length_drop, hsz]
  have hdrop : (l.flatMap kEntry.cs).drop ((i + 1) * 33) = (l.drop (i + 1)).flatMap kEntry.cs := by
    have e : l.flatMap kEntry.cs = (l.take (i + 1)).flatMap kEntry.cs ++ (l.drop (i + 1)).flatMap kEntry.cs := by rw [← List.flatMap_append, List.take_append_drop]
    rw [e, List.drop_left' (by rw [kEntry.flat_len, List.length_take, hsz, Nat.min_eq_left (by omega)])]
  have hseg : (cur.toList.drop ((i + 1) * 33)).take (l.length * 33 - (i + 1) * 33) = (l.drop (i + 1)).flatMap kEntry.cs := by
    rw [← hdrop, ← ht, hsz, List.drop_take]
  refine RunD.go (i := 6) rfl (by kernel_rfl) rfl (OpGo.appendRaw (id := 0) (cur := cur) (cs := (l.drop (i + 1)).flatMap kEntry.cs) (ad := ad) (q := l.length - ((i : Int) + 1).toNat) (c := c - ((i : Int) + 1).toNat) (sl := i) (cap := c) (i := Tryz.t44) (g := g) tb_ok rfl rfl rfl rfl (by rw [hi0]; rfl) rfl (by rw [← hsub]; rfl) rfl ?_ (kEntry.one _) ?_ ?_ ?_ ?_) 1 (fun _ => rfl) (fun _ _ h => h) ?_
  · rw [hcs0, hi1]; rfl
  · intro w hst
    by_cases hlast : i + 1 < l.length
    · rw [had hlast]
      exact range_take (hst.holds 0 _ rfl).2 hseg
    · rw [List.drop_eq_nil_of_le (by omega)]
      intro j v hj; simp at hj
  · intro hne
    have hlast : i + 1 < l.length := by
      rcases Nat.lt_or_ge (i + 1) l.length with h | h
      · exact h
      · rw [List.drop_eq_nil_of_le (by omega)] at hne; exact absurd rfl hne
    rw [had hlast]; rfl
  · omega
  · show i * 33 + _ ≤ _
    rw [hcs0, hcs, hsz]; omega
  rintro ⟨⟩ m1 hm1
  have e1 : i + (l.length - ((i : Int) + 1).toNat) = l.length - 1 := by omega
  rw [e1]
  refine RunD.adv tb_ok (by kernel_rfl) [] rfl rfl (by simp <;> omega) ?_
  refine RunD.done (.inl rfl) (by kernel_rfl) ?_
  refine RunH.adv tb_ok [] rfl rfl (by simp <;> omega) ?_
  refine RunH.go rfl rfl (OpGo.clearRaw (id := 0) (g := g) (q := 0) (off := (l.length - 1) * 33) (i := Tryz.t44) (c := c - ((l.length - 1 : Nat) : Int).toNat) tb_ok rfl rfl rfl rfl ?_ rfl ?_ ?_) 1 ?_
  · show Value.slice (subA (some ⟨g, 0, none⟩) ((l.length - 1 : Nat) : Int).toNat c 33) ((l.length : Int).toNat - ((l.length - 1 : Nat) : Int).toNat) (c - ((l.length - 1 : Nat) : Int).toNat) = _
    have h1 : l.length - (l.length - 1) = 1 := by omega
    simp [subA, Addr.add, h1, show ¬ c = l.length - 1 by omega]
    try omega
  · refine List.all_eq_true.1 ?_
    kernel_rfl
  · rw [putC_size (by rw [hcs0, hcs, hsz]; show i * 33 + _ ≤ _; omega), hcs, hsz]
    have : (Builtin.zeroCells (Value.cells ((Tryz.t44).zero.getD undef)) (0 + 1)).toList.length = 33 := by kernel_rfl
    have h2 : (l.length - 1) * 33 + 33 ≤ c * 33 := by omega
    exact Nat.le_trans (Nat.add_le_add_left (Nat.le_of_eq this) _) h2
  rintro ⟨⟩ m2 hm2
  generalize hzc : (Builtin.zeroCells _ (0 + 1)).toList = zc
  have hs1 : (putC cur (i * 33) ((l.drop (i + 1)).flatMap kEntry.cs)).size = c * 33 := by rw [putC_size (by rw [hcs0, hcs, hsz]; omega), hcs, hsz]
  have hz33 : zc.length = 33 := by rw [← hzc]; kernel_rfl
  have hs2 : (putC (putC cur (i * 33) ((l.drop (i + 1)).flatMap kEntry.cs)) ((l.length - 1) * 33) zc).size = c * 33 := by rw [putC_size (by rw [hs1, hz33]; omega), hs1]
  have hfin : (putC (putC cur (i * 33) ((l.drop (i + 1)).flatMap kEntry.cs)) ((l.length - 1) * 33) zc).toList.take ((l.length - 1) * 33) = (l.eraseIdx i).flatMap kEntry.cs := by
    have hti : cur.toList.take (i * 33) = (l.take i).flatMap kEntry.cs := by
      have e : l.flatMap kEntry.cs = (l.take i).flatMap kEntry.cs ++ (l.drop i).flatMap kEntry.cs := by rw [← List.flatMap_append, List.take_append_drop]
      have h1 : (l.flatMap kEntry.cs).take (i * 33) = (l.take i).flatMap kEntry.cs := by
        rw [e, List.take_left' (by rw [kEntry.flat_len, List.length_take, hsz, Nat.min_eq_left (by omega)])]
      rw [← h1, ← ht, hsz, List.take_take, Nat.min_eq_left (by omega)]
    rw [putC_take (by rw [hs1]; omega)]
    have e3 : (l.length - 1) * 33 = i * 33 + ((l.drop (i + 1)).flatMap kEntry.cs).length := by rw [hcs0]; omega
    rw [e3, putC_take2 (by rw [hcs, hsz]; omega), hti, ← List.flatMap_append, List.eraseIdx_eq_take_drop_succ]
  have hel : (l.eraseIdx i).length = l.length - 1 := by rw [List.length_eraseIdx]; simp [hi]
  refine RunH.cook (id := 0) (g := g) (sz := 33) (l.length - 1) c rfl (by omega) hmx hs2 ?_
  have hrow : (HE.row (.slice (some ⟨g, 0, none⟩) (l.length - 1) c) kEntry.T 33 (l.length - 1) ((putC (putC cur (i * 33) ((l.drop (i + 1)).flatMap kEntry.cs)) ((l.length - 1) * 33) zc).toList.take ((l.length - 1) * 33))) =
      HE.row (.slice (some ⟨g, 0, none⟩) (l.eraseIdx i).length c) kEntry.T kEntry.sz (l.eraseIdx i).length ((l.eraseIdx i).flatMap kEntry.cs) := by rw [hfin, hel, hsz]
  refine RunH.adv tb_ok [] rfl rfl (by simp <;> omega) ?_
  refine RunH.ret1 Tryz.func162 rfl rfl fun w hst => ⟨(), by rw [hel]; rfl, ?_⟩
  refine St.mono (J := fun u => K u ∧ True) ?_ (fun u _ h => h)
  have := hst.sel (Sel.of (G := [(0, some (HE.row (.slice (some ⟨g, 0, none⟩) (l.length - 1) c) kEntry.T 33 (l.length - 1) ((putC (putC cur (i * 33) ((l.drop (i + 1)).flatMap kEntry.cs)) ((l.length - 1) * 33) zc).toList.take ((l.length - 1) * 33))))]) [] rfl rfl)
  rw [hrow] at this
  exact this
end Go.Proofs.YtagnkcdhenilbaaGreatDoor

namespace Go.Proofs.YtagnkcdhenilbaaGreatDoor
open Go V
abbrev dropV (l : List Entry) (p : Str) : Value := .tuple #[sumV (l.getD (posOf l p) zeroE).sum, .bool true]

/-- A list at work is written. -/
theorem store_wk {w : World} {B0 : Nat} {H : Heap} {I : World → Prop} {id b : Nat} {v1 v2 v : Value} (hst : St tb B0 H I w) (hH : lookH H id = wkE b v1 v2) (k : Int) (hv : VOk tb 22 v) (h1 : v1.oneCell' = true) (h2 : v2.oneCell' = true) :
    ∃ w', (storeVar 22 ⟨b, kOff k, none⟩ v).run Tryz.prog w = .ok () w' ∧ w.heap.size ≤ w'.heap.size ∧ St tb B0 ((id, if k = 1 then wkE b v v2 else wkE b v1 v) :: H) I w' := by
  have hH' : lookH H id = some (.obj b (.cells #[v1, v2] 140)) := hH
  have ho := hst.holds id _ hH'
  have hc : v.cells = #[v] := by
    have h3 : v.oneCell' = true := hv.1
    cases v <;> first | rfl | cases h3
  obtain ⟨w', q1, q2, q3, q4⟩ := run_storeAt (P := Tryz.prog) tb_ok hv (o := kOff k) ho.2 (by rw [hc]; unfold kOff; split <;> simp)
  refine ⟨w', q1, by rw [q4]; exact Nat.le_refl _, ?_⟩
  have e : (#[v1, v2].toList.take (kOff k) ++ v.cells.toList ++ #[v1, v2].toList.drop (kOff k + v.cells.size)).toArray = if k = 1 then #[v, v2] else #[v1, v] := by
    rw [hc]; unfold kOff; split <;> rfl
  rw [e] at q2
  have ht := hst.turn (w' := w') id (.obj b (.cells #[v1, v2] 140)) (.obj b (.cells (if k = 1 then #[v, v2] else #[v1, v]) 140)) hH' (q3.mono fun j _ hj => by rw [hj]; rfl) ⟨ho.1, q2⟩ fun j hj => .inl hj
  have e2 : (if k = 1 then wkE b v v2 else wkE b v1 v) = some (HE.obj b (.cells (if k = 1 then #[v, v2] else #[v1, v]) 140)) := by split <;> rfl
  rw [e2]
  exact ht

theorem drop_none (w : World) (b : Nat) (A B : Option Addr) (c c2 : Nat) (t y : List Entry) (hb : w.heap[b]? = some (.cells #[.slice A t.length c, .slice B y.length c2] 140))
    (ht : Sl kEntry w A c t) (hy : Sl kEntry w B c2 y) (k : Int) (hr : rises (kList k t y) = true) (p : Str) (ha : isAt (kList k t y) p = false) :
    Gives Tryz.prog 121 [.pointer (some ⟨b, 0, none⟩), intV k, strV p] w (.av (.val (.tuple #[sumV Sum.zero, .bool false]))) := by
  refine enterH tb_ok [(0, .av (.val (.pointer (some ⟨b, 0, none⟩)))), (1, intE k), (2, strE p)] Tryz.func121 rfl Tryz.ntmps121 rfl rfl ?_
  refine RunH.adv tb_ok [] rfl rfl (by simp <;> omega) ?_
  refine RunH.gives (.av (.val (.pointer (some ⟨b, kOff k, none⟩)))) rfl rfl rfl rfl rfl Tryz.call94 (fun w' _ => list_spec w' b k) ?_
  intro m1 h1
  refine RunH.adv tb_ok [] rfl rfl (by simp <;> omega) ?_
  have hlt : b < w.heap.size := (Array.getElem?_eq_some_iff.1 hb).1
  have hS : ∀ w', Ext w w' → ∃ A' c', (if k = 1 then Value.slice A t.length c else .slice B y.length c2) = .slice A' (kList k t y).length c' ∧ Sl kEntry w' A' c' (kList k t y) := by
    intro w' h
    unfold kList
    split
    · exact ⟨A, c, rfl, ht.ext h⟩
    · exact ⟨B, c2, rfl, hy.ext h⟩
  obtain ⟨A', c', hv, hsl⟩ := hS w (Ext.rfl' w)
  refine RunH.load (slE A' (kList k t y).length c') rfl rfl rfl rfl (fun w' h' => ?_) ?_
  · have := load_wk (w := w') (b := b) (by rw [h'.block b hlt]; exact hb) k
    rw [hv] at this; exact this
  refine RunH.adv tb_ok [] rfl rfl (by simp <;> omega) ?_
  refine RunH.gives (atV (kList k t y) p) rfl rfl rfl rfl rfl Tryz.call149 (fun w' hst => at_spec w' A' c' _ (hsl.ext hst.fact) hr p) ?_
  intro m2 h2
  refine RunH.adv tb_ok [true] rfl rfl (by simp [AllOb, Ob.P, ha]) ?_
  refine RunH.read (sumE Sum.zero) rfl rfl rfl rfl (fun w' a _ hag => ?_) ?_
  · simp only [execOp, List.map_toArray, List.map_nil, build_zero, Sem.run_bind, Result.andThen_ok, Sem.run_pure]
    rfl
  refine RunH.adv tb_ok [] rfl rfl (by simp <;> omega) ?_
  exact RunH.retBoxT tb_ok (sumE Sum.zero) Tryz.func121 rfl rfl rfl rfl rfl fun w' hst => ⟨rfl, hst.fact⟩
end Go.Proofs.YtagnkcdhenilbaaGreatDoor

namespace Go.Proofs.YtagnkcdhenilbaaGreatDoor
open Go V
theorem kindE_rises {t y : List Entry} {k : Int} (h : kindE t y k = 0) : rises t = true ∧ rises y = true ∧ (k = 1 ∨ k = 2) ∧ t.length ≤ 300 ∧ y.length ≤ 300 := by
  have hc : checkE t y = 0 := by
    unfold kindE at h
    split at h
    · assumption
    · exact h
  have hk : k = 1 ∨ k = 2 := by
    unfold kindE at h
    rw [if_pos hc] at h
    split at h
    · assumption
    · cases h
  have hl : ∀ l, listE l = 0 → rises l = true ∧ l.length ≤ 300 := by
    intro l hl
    unfold listE at hl
    split at hl
    · cases hl
    · split at hl
      · split at hl
        · rename_i h1 _ h2; exact ⟨h2, by omega⟩
        · cases hl
      · cases hl
  unfold checkE at hc
  split at hc
  · rename_i h1
    exact ⟨(hl t h1).1, (hl y hc).1, hk, (hl t h1).2, (hl y hc).2⟩
  · rename_i h1; exact absurd hc h1

/-- A namespace at work, loaded whole. -/
theorem load_space {w : World} {b : Nat} {A B : Option Addr} {n c n2 c2 : Nat} (h : w.heap[b]? = some (.cells #[.slice A n c, .slice B n2 c2] 140)) :
    (loadVar 24 ⟨b, 0, none⟩).run Tryz.prog w = .ok (EV.st [.val (.slice A n c), .val (.slice B n2 c2)]).v w := by
  refine V.run_load tb_ok ⟨_, Tryz.t24, rfl, rfl, rfl, ?_⟩ (range_take h (n := 2) rfl)
  intro u hu
  have : u = .slice A n c ∨ u = .slice B n2 c2 := by simpa [flat, Value.cells, AV.v] using hu
  rcases this with rfl | rfl <;> rfl

abbrev nilSp : EV := .st [.val (.slice none 0 0), .val (.slice none 0 0)]

end Go.Proofs.YtagnkcdhenilbaaGreatDoor

namespace Go.Proofs.YtagnkcdhenilbaaGreatDoor
open Go V

theorem V.Sl.drop {α : Type} {κ : Kd α} {w : World} {A : Option Addr} {c : Nat} {l : List α} (h : Sl κ w A c l) (i : Nat) (hi : i ≤ l.length) : Sl κ w (subA A i c κ.sz) (c - i) (l.drop i) := by
  have hcap := h.cap
  have hsm := h.small
  refine ⟨by rw [List.length_drop]; omega, by rw [List.length_drop]; omega, fun hn => ?_, ?_, fun e => ?_⟩
  · have hlt : i < l.length := by
      rcases Nat.lt_or_ge i l.length with h1 | h1
      · exact h1
      · exact absurd (List.drop_eq_nil_of_le h1) hn
    have hp := h.ptr hlt
    unfold Ptr at hp
    obtain ⟨bk, o, hA⟩ : ∃ bk o, A = some ⟨bk, o, none⟩ := ⟨_, _, hp⟩
    subst hA
    unfold subA
    rw [if_neg (by omega), Option.map_some, Addr.add_lit]; rfl
  · by_cases hc : c = i
    · have : l.drop i = [] := List.drop_eq_nil_of_le (by omega)
      rw [this]
      intro j v hj
      simp at hj
    · unfold subA
      rw [if_neg hc]
      intro j v hj
      have hne : l ≠ [] := by rintro rfl; simp at hj
      have hp := h.addr hne
      unfold Ptr at hp
      obtain ⟨bk, o, hA⟩ : ∃ bk o, A = some ⟨bk, o, none⟩ := ⟨_, _, hp⟩
      subst hA
      rw [Option.map_some, Addr.add_lit]
      show w.cell? ⟨bk, o + i * κ.sz + j, none⟩ = some v
      rw [Nat.add_assoc]
      refine h.cells _ v ?_
      have e : l.flatMap κ.cs = (l.take i).flatMap κ.cs ++ (l.drop i).flatMap κ.cs := by rw [← List.flatMap_append, List.take_append_drop]
      have hl : ((l.take i).flatMap κ.cs).length = i * κ.sz := by rw [κ.flat_len, List.length_take]; congr 1; omega
      rw [e, List.getElem?_append_right (by omega), hl, Nat.add_sub_cancel_left]
      exact hj
  · unfold subA at e
    split at e
    · obtain ⟨rfl, h2⟩ := h.nil e
      exact ⟨List.drop_nil, by omega⟩
    · have : A = none := by cases A with
        | none => rfl
        | some a => cases e
      obtain ⟨rfl, h2⟩ := h.nil this
      exact ⟨List.drop_nil, by omega⟩

/-- Words, joined by dots. -/
def joinD : List Str → Str
  | [] => []
  | [x] => x
  | x :: y :: r => x ++ 46 :: joinD (y :: r)

theorem joinD_lib : ∀ l : List Str, Lib.join l [46] = joinD l
  | [] => rfl
  | [x] => by simp [Lib.join, joinD]
  | x :: y :: r => by
    have ih := joinD_lib (y :: r)
    unfold Lib.join at ih ⊢
    rw [List.intercalate_cons_cons, ih]
    simp [joinD]

theorem joined_spec (w : World) (A : Option Addr) (c : Nat) (l : List Str) (h : Sl kStr w A c l) (hl : (joinD l).length ≤ 1000000) : Gives Tryz.prog 104 [.slice A l.length c] w (strE (joinD l)) := by
  refine enterH tb_ok [(0, slE A l.length c)] Tryz.func104 rfl Tryz.ntmps104 rfl rfl ?_
  refine RunH.adv tb_ok [] rfl rfl (by simp <;> omega) ?_
  refine RunH.gives (strE (joinD l)) rfl rfl rfl rfl rfl Tryz.call117 (fun w' hst => ?_) ?_
  · have hs := h.ext hst.fact
    cases l with
    | nil =>
      refine (Tryz.strings_Join_none A c ⟨⟨[46]⟩⟩ w').mono ?_
      rintro e w'' ⟨rfl, rfl⟩
      exact ⟨rfl, Ext.rfl' _⟩
    | cons x r =>
      have hp := hs.addr (by simp)
      have hsm := hs.small
      have hlim : lim = 140737488351232 := rfl
      unfold Ptr at hp
      obtain ⟨bk, o, hA⟩ : ∃ bk o, A = some ⟨bk, o, none⟩ := ⟨_, _, hp⟩
      subst hA
      have hcells : ∀ (j : Nat) (y : ByteArray), ((x :: r).map fun s => (⟨⟨s⟩⟩ : ByteArray))[j]? = some y → w'.cell? ⟨bk, o + j, none⟩ = some (.string y) := by
        intro j y hj
        rw [List.getElem?_map, Option.map_eq_some_iff] at hj
        obtain ⟨s, hs1, rfl⟩ := hj
        refine hs.cells j _ ?_
        have hfl : (x :: r).flatMap kStr.cs = (x :: r).map strV := by
          generalize x :: r = q
          induction q with
          | nil => rfl
          | cons z q ih => rw [List.flatMap_cons, List.map_cons, ih]; rfl
        rw [hfl, List.getElem?_map, hs1]; rfl
      have hlen : (Lib.join (((x :: r).map fun s => (⟨⟨s⟩⟩ : ByteArray)).map (·.data.toList)) ((⟨⟨[46]⟩⟩ : ByteArray)).data.toList) = joinD (x :: r) := by
        rw [List.map_map, show ((fun x : ByteArray => x.data.toList) ∘ fun s : Str => (⟨⟨s⟩⟩ : ByteArray)) = id from rfl, List.map_id]
        exact joinD_lib _
      have := Tryz.strings_Join bk o c ((x :: r).map fun s => (⟨⟨s⟩⟩ : ByteArray)) ⟨⟨[46]⟩⟩ w' hcells (World.block_lt_of_cell? w' ⟨bk, o + 0, none⟩ (hcells 0 ⟨⟨x⟩⟩ rfl)) (by rw [List.length_map]; omega) (by rw [List.length_map]; exact hs.cap) (by rw [hlen]; omega)
      rw [hlen, List.length_map] at this
      exact this.mono fun e w'' hh => ⟨hh.1, hh.2⟩
  intro m1 h1
  refine RunH.adv tb_ok [] rfl rfl (by simp <;> omega) ?_
  refine RunH.ret1 Tryz.func104 rfl rfl fun w' hst => ⟨rfl, hst.fact⟩

/-- The ends of a path, the last word first. -/
def endsOf (p : Str) : List Str := (List.range (words p).length).map fun j => joinD ((words p).drop ((words p).length - 1 - j))

theorem endsOf_len (p : Str) : (endsOf p).length = (words p).length := by simp [endsOf]
theorem endsOf_get (p : Str) (j : Nat) (h : j < (endsOf p).length) : (endsOf p)[j] = joinD ((words p).drop ((words p).length - 1 - j)) := by simp [endsOf]

theorem joinD_words : ∀ t : Str, joinD (words t) = t
  | [] => rfl
  | b :: r => by
    have ih := joinD_words r
    have hne := words_ne r
    unfold words
    by_cases hb : b = 46
    · rw [if_pos hb]
      cases hw : words r with
      | nil => exact absurd hw hne
      | cons w ws =>
        rw [hw] at ih
        rw [joinD, ih, hb]; rfl
    · rw [if_neg hb]
      cases hw : words r with
      | nil => exact absurd hw hne
      | cons w ws =>
        rw [hw] at ih
        cases ws with
        | nil => rw [joinD] at ih ⊢; rw [ih]
        | cons x ys => rw [joinD] at ih ⊢; rw [List.cons_append, ih]

theorem joinD_drop_len : ∀ (l : List Str) (i : Nat), (joinD (l.drop i)).length ≤ (joinD l).length
  | l, 0 => by simp
  | [], _ + 1 => by simp
  | [x], i + 1 => by simp [joinD]
  | x :: y :: r, i + 1 => by
    have ih := joinD_drop_len (y :: r) i
    rw [List.drop_succ_cons]
    simp only [joinD, List.length_append, List.length_cons]
    omega

theorem ends1_spec (b : Nat) (p : Str) (hp : p.length ≤ 1000000) : Iter Tryz.prog tb 151 (fun Y => [Y, .pointer (some ⟨b, 0, none⟩)]) [(0, some (.box b [.val (strV p)] 9))] MaxLen (endsOf p) (fun x => [strE x].map EV.v) [(0, some (.box b [.val (strV p)] 9))] := by
  have hwl := words_len p
  have hlim : lim = 140737488351232 := rfl
  refine Iter.enter (n := 21) (enc := fun x => [strE x]) (fun l => [(0, .av (.val (.func (.yield l) #[] #[]))), (1, .av (.box 0 b 0))]) Tryz.func151 rfl Tryz.ntmps151 (fun _ => rfl) (fun _ => rfl) 1 ?_
  intro α σ B0 l m Z Zs hZ hY x
  refine RunH.adv tb_ok [] rfl rfl (by simp <;> omega) ?_
  refine RunH.doesB [] 2 (hc := Tryz.call81) (ho := rfl) (hw := rfl) (hd := rfl) (hf := rfl) (hes := rfl) (hσ := rfl) (hn := rfl) (hV := fun _ => rfl) (hG := fun _ => rfl) (e := fun y : Option Addr × Nat => rowS 1 y.1 (words p).length y.2) (hC := split_dot p hp) (hp := fun u hu => hZ _ _ _ hu.fact) ?_
  rintro ⟨A, c⟩ m1 hm1
  refine RunH.drop ?_
  refine RunH.adv tb_ok [] rfl rfl (by simp <;> omega) ?_
  refine RunH.loop (α := Nat × α) (fun y => [(0, .av (.val (.func (.yield l) #[] #[]))), (3, rowS 1 A (words p).length c), (4, intE (((words p).length : Int) - 1 - y.1))]) (fun _ => [(1, rowE kStr A c (words p)), (0, some (.box b [.val (strV p)] 9))])
    (fun y u => y.1 ≤ (words p).length ∧ Z y.1 y.2 u) (fun y => (words p).length - y.1) (0, x) (by
      show V.Sub [(0, .av (.val (.func (.yield l) #[] #[]))), (3, rowS 1 A (words p).length c), (4, intE (((words p).length : Int) - 1 - ((0 : Nat) : Int)))] _
      rw [show (((words p).length : Int) - 1 - ((0 : Nat) : Int)) = (words p).length - 1 by omega]; rfl) rfl (fun w hw => ⟨Nat.zero_le _, hw⟩) ?_
  rintro ⟨j, x⟩ m2
  refine RunH.pure (fun w h => h.1) fun (hj : j ≤ (words p).length) => ?_
  by_cases hlt : j < (words p).length
  · have e : (((words p).length : Int) - 1 - j) = (((words p).length - 1 - j : Nat) : Int) := by omega
    simp only [e]
    refine RunH.pureS (fun w hst => hst.ptr (κ := kStr) (id := 1) (l := words p) rfl (words_ne p)) fun hptr => ?_
    refine RunH.pureS (fun w hst => own_cap (hst.row (κ := kStr) (id := 1) (l := words p) rfl)) fun hcap => ?_
    refine RunH.adv tb_ok [true] rfl rfl (by simp [hptr] <;> omega) ?_
    have hdl : ((words p).drop ((words p).length - 1 - j)).length = (words p).length - ((words p).length - 1 - j) := by rw [List.length_drop]
    refine RunH.gives (ho := rfl) (hw := rfl) (hd := rfl) (hf := rfl) (hes := rfl) (hc := Tryz.call104) (e := strE (joinD ((words p).drop ((words p).length - 1 - j)))) (hC := fun w hst => by
      have hs := (Sl.own (κ := kStr) (l := words p) (hst.row (κ := kStr) (id := 1) (l := words p) rfl) (by omega)).drop ((words p).length - 1 - j) (by omega)
      have h1 := joinD_drop_len (words p) ((words p).length - 1 - j)
      rw [joinD_words] at h1
      have := joined_spec w _ _ _ hs (by omega)
      rw [hdl] at this
      exact this) ?_
    intro m3 hm3
    have hget : (endsOf p).length = (words p).length := endsOf_len p
    refine RunH.yield (It := fun y u => j < (words p).length ∧ Z (j + 1) y u) (If := fun y u => Zs j y u) rfl rfl rfl rfl rfl (fun w hst => ?_) ?_ ?_
    · refine (hY j (by omega) x _ w (hst.mono fun u _ hu => hu.2)).mono ?_ |> fun h => by rw [endsOf_get] at h; exact h
      rintro b w' ⟨h1, h2⟩
      refine ⟨h1, ?_⟩
      rcases h2 with ⟨rfl, y, hy⟩ | h2
      · exact .inl ⟨rfl, y, hy.mono fun u _ hu => ⟨hlt, hu⟩⟩
      · exact .inr h2
    · intro y m4 hm4
      refine RunH.adv tb_ok [] rfl rfl (by simp <;> omega) ?_
      refine RunH.again (j + 1, y) (.head _) (by
        show V.Sub [(0, .av (.val (.func (.yield l) #[] #[]))), (3, rowS 1 A (words p).length c), (4, intE (((words p).length : Int) - 1 - ((j + 1 : Nat) : Int)))] _
        rw [show (((words p).length : Int) - 1 - ((j + 1 : Nat) : Int)) = (((words p).length - 1 - j : Nat) : Int) - 1 by omega]; rfl) rfl (by show (words p).length - (j + 1) < (words p).length - j; omega) fun w h => ⟨h.1, h.2⟩
    · intro y m4 hm4
      refine RunH.adv tb_ok [] rfl rfl (by simp <;> omega) ?_
      refine RunH.ret0 Tryz.func151 rfl fun w hst => ⟨⟨_, rfl⟩, .inr ⟨j, _, y, by omega, hst⟩⟩
  · refine RunH.adv tb_ok [false] rfl rfl (by simp <;> omega) ?_
    have hjn : j = (endsOf p).length := by rw [endsOf_len]; omega
    refine RunH.fin0 Tryz.func151 rfl fun w hst => ⟨⟨_, rfl⟩, .inl ⟨x, ?_⟩⟩
    rw [← hjn]
    exact (hst.mono fun u _ hu => hu.2).out [(0, 0)] rfl rfl fun u h => h

theorem ends_spec (p : Str) : Does Tryz.prog tb 96 [strV p] [] (fun _ => True) (fun b : Nat => .func (.func 151) #[] #[.pointer (some ⟨b, 0, none⟩)]) (fun b => [(0, some (.box b [.val (strV p)] 9))]) (fun _ _ _ => True) := by
  refine Does.enter tb_ok [(0, strE p)] Tryz.func96 rfl Tryz.ntmps96 rfl rfl 0 ?_
  intro B0 m0 K
  refine RunH.adv tb_ok [] rfl rfl (by simp <;> omega) ?_
  refine RunH.ret1 Tryz.func96 rfl rfl fun w hst => ⟨m0, rfl, hst.out [] rfl rfl fun u h => ⟨h.1, trivial⟩⟩
end Go.Proofs.YtagnkcdhenilbaaGreatDoor

namespace Go.Proofs.YtagnkcdhenilbaaGreatDoor
open Go V

/-- A namespace at work that may be read. -/
structure Wk (w : World) (b : Nat) (A : Option Addr) (c : Nat) (B : Option Addr) (c2 : Nat) (t y : List Entry) : Prop where
  hb : w.heap[b]? = some (.cells #[.slice A t.length c, .slice B y.length c2] 140)
  ht : Sl kEntry w A c t
  hy : Sl kEntry w B c2 y

theorem V.St.wk {B0 : Nat} {H : Heap} {I : World → Prop} {w : World} {b c c2 i j q : Nat} {A B : Option Addr} {t y : List Entry} (h : St tb B0 H I w) (h1 : lookH H i = wkE b (slV A t.length c) (slV B y.length c2)) (h2 : lookH H j = rowE kEntry A c t) (h3 : lookH H q = rowE kEntry B c2 y)
    (ht : t.length ≤ 1000000) (hy : y.length ≤ 1000000) : Wk w b A c B c2 t y :=
  ⟨(h.holds i _ h1).2, Sl.own (h.row h2) (by have hl : lim = 140737488351232 := rfl; omega), Sl.own (h.row h3) (by have hl : lim = 140737488351232 := rfl; omega)⟩

def kA {α : Type} (k : Int) (a b : α) : α := if k = 1 then a else b

theorem kV (k : Int) (A B : Option Addr) (c c2 : Nat) (t y : List Entry) : (if k = 1 then Value.slice A t.length c else .slice B y.length c2) = .slice (kA k A B) (kList k t y).length (kA k c c2) := by
  unfold kA kList; split <;> rfl

theorem Wk.sl {w : World} {b c c2 : Nat} {A B : Option Addr} {t y : List Entry} (h : Wk w b A c B c2 t y) (k : Int) : Sl kEntry w (kA k A B) (kA k c c2) (kList k t y) := by
  unfold kA kList; split
  · exact h.ht
  · exact h.hy

theorem Wk.ext {w w' : World} {b c c2 : Nat} {A B : Option Addr} {t y : List Entry} (h : Wk w b A c B c2 t y) (he : Ext w w') : Wk w' b A c B c2 t y :=
  ⟨by rw [he.block b (Array.getElem?_eq_some_iff.1 h.hb).1]; exact h.hb, h.ht.ext he, h.hy.ext he⟩

theorem Wk.load {w : World} {b c c2 : Nat} {A B : Option Addr} {t y : List Entry} (h : Wk w b A c B c2 t y) (k : Int) :
    (loadVar 22 ⟨b, kOff k, none⟩).run Tryz.prog w = .ok (slE (kA k A B) (kList k t y).length (kA k c c2)).v w := by
  have := load_wk h.hb k
  rw [kV] at this; exact this

/-- The entries that a text means. -/
def found1 (text : Str) (x : Entry) : List Entry := ((endsOf x.path).filter fun e => decide (e = text)).map fun _ => x
def foundL (l : List Entry) (text : Str) : List Entry := if isAt l text = true then [l.getD (posOf l text) zeroE] else l.flatMap (found1 text)

theorem found1_take (text : Str) (x : Entry) (j : Nat) (h : j < (endsOf x.path).length) :
    (((endsOf x.path).take (j + 1)).filter fun e => decide (e = text)).map (fun _ => x) = (((endsOf x.path).take j).filter fun e => decide (e = text)).map (fun _ => x) ++ (if (endsOf x.path)[j] = text then [x] else []) := by
  rw [List.take_succ_eq_append_getElem h, List.filter_append, List.map_append]
  congr 1
  by_cases e : (endsOf x.path)[j] = text <;> simp [e]

theorem found1_len (text : Str) (x : Entry) : (found1 text x).length ≤ x.path.length + 1 := by
  unfold found1
  rw [List.length_map]
  refine Nat.le_trans (List.length_filter_le _ _) ?_
  rw [endsOf_len]
  exact words_len x.path

theorem flat_len {α β : Type} (f : α → List β) (q : Nat) : ∀ (l : List α), (∀ x ∈ l, (f x).length ≤ q) → (l.flatMap f).length ≤ l.length * q
  | [], _ => by simp
  | x :: r, h => by
    have ih := flat_len f q r fun y hy => h y (List.mem_cons_of_mem _ hy)
    have := h x (by simp)
    rw [List.flatMap_cons, List.length_append, List.length_cons, Nat.succ_mul]
    omega

theorem found_spec (b c c2 : Nat) (A B : Option Addr) (t y : List Entry) (k : Int) (text : Str) (hn : (kList k t y).length ≤ 1000) (hr : rises (kList k t y) = true) (hp : ∀ x ∈ kList k t y, x.path.length ≤ 1000) :
    Does Tryz.prog tb 89 [.pointer (some ⟨b, 0, none⟩), intV k, strV text] [] (fun u => MaxLen u ∧ Wk u b A c B c2 t y) (fun z : Option Addr × Nat => .slice z.1 (foundL (kList k t y) text).length z.2) (fun z => [(0, rowE kEntry z.1 z.2 (foundL (kList k t y) text))]) (fun _ _ _ => True) := by
  have hl : lim = 140737488351232 := rfl
  refine Does.enter tb_ok [(0, .av (.val (.pointer (some ⟨b, 0, none⟩)))), (1, intE k), (2, strE text)] Tryz.func89 rfl Tryz.ntmps89 rfl rfl 0 ?_
  intro B0 m0 K
  refine RunH.adv tb_ok [] rfl rfl (by simp <;> omega) ?_
  refine RunH.gives (ho := rfl) (hw := rfl) (hd := rfl) (hf := rfl) (hes := rfl) (hc := Tryz.call94) (e := .av (.val (.pointer (some ⟨b, kOff k, none⟩)))) (hC := fun w' _ => list_spec w' b k) ?_
  intro m1 hm1
  refine RunH.adv tb_ok [] rfl rfl (by simp <;> omega) ?_
  refine RunH.loadS (slE (kA k A B) (kList k t y).length (kA k c c2)) rfl rfl rfl rfl (fun w hst => hst.fact.2.2.load k) ?_
  generalize hL : kList k t y = L at *
  refine RunH.adv tb_ok [] rfl rfl (by simp <;> omega) ?_
  refine RunH.gives (ho := rfl) (hw := rfl) (hd := rfl) (hf := rfl) (hes := rfl) (hc := Tryz.call149) (e := atV L text) (hC := fun w' hst => at_spec w' _ _ L (hL ▸ hst.fact.2.2.sl k) hr text) ?_
  intro m2 hm2
  by_cases ha : isAt L text = true
  · have hpos : posOf L text < L.length := by
      unfold isAt at ha
      simp only [Bool.and_eq_true, decide_eq_true_eq] at ha
      exact ha.1
    have hfl : foundL L text = [L[posOf L text]] := by
      unfold foundL
      rw [if_pos ha, List.getD_eq_getElem?_getD, List.getElem?_eq_getElem hpos]; rfl
    refine RunH.pure (fun w h => (hL ▸ h.2.2.sl k : Sl kEntry w (kA k A B) (kA k c c2) L).cap) fun hcap => ?_
    refine RunH.pure (fun w h => (hL ▸ h.2.2.sl k : Sl kEntry w (kA k A B) (kA k c c2) L).small) fun hsm => ?_
    refine RunH.adv tb_ok [true] rfl rfl (by simp [ha] <;> omega) ?_
    have e1 : (((posOf L text : Nat) : Int) + 1).toNat - ((posOf L text : Nat) : Int).toNat = 1 := by omega
    refine RunH.doesB [] 3 (hc := Tryz.call103) (ho := rfl) (hw := rfl) (hd := rfl) (hf := rfl) (hes := rfl) (hσ := rfl) (hn := rfl) (hV := fun _ => rfl) (hG := fun _ => rfl) (Gi := []) (e := fun z : Option Addr × Nat => rowS 1 z.1 1 z.2) (pre := fun u => Wk u b A c B c2 t y) (G' := fun z => [(0, rowE kEntry z.1 z.2 [L[posOf L text]])]) (J := fun _ _ _ => True) (V := fun z => .slice z.1 1 z.2) (hC := by
      show Does _ _ _ [.slice _ ((((posOf L text : Nat) : Int) + 1).toNat - ((posOf L text : Nat) : Int).toNat) _] _ _ _ _ _
      rw [e1]
      refine (cloneE _ _ [L[posOf L text]] (by simp)).weak fun u hu => ?_
      have := Go.Proofs.YtagnkcdhenilbaaGreatDoor.Sl.take ((hL ▸ hu.sl k : Sl kEntry u (kA k A B) (kA k c c2) L).drop (posOf L text) (by omega)) 1 (by rw [List.length_drop]; omega)
      have h1 : (L.drop (posOf L text)).take 1 = [L[posOf L text]] := by rw [List.drop_eq_getElem_cons hpos]; rfl
      rw [h1] at this
      exact this) (hp := fun u hu => hu.fact.2.2) ?_
    rintro ⟨A', c'⟩ m3 hm3
    refine RunH.drop ?_
    refine RunH.adv tb_ok [] rfl rfl (by simp <;> omega) ?_
    refine RunH.ret1 Tryz.func89 rfl rfl fun w hst => ⟨(A', c'), by rw [hfl]; rfl, by rw [hfl]; exact hst.out [(0, 1)] rfl rfl fun u h => ⟨h.1, trivial⟩⟩
  · have hfl : foundL L text = L.flatMap (found1 text) := if_neg ha
    have hfb : ∀ q, (foundL L text).length ≤ 1001000 ∧ ((L.take q).flatMap (found1 text)).length ≤ 1001000 := fun q => by
      have h2 : ∀ l : List Entry, (∀ x ∈ l, x ∈ L) → l.length ≤ 1000 → (l.flatMap (found1 text)).length ≤ 1001000 := fun l hx hl => by
        have := flat_len (found1 text) 1001 l fun x hm => by have := found1_len text x; have := hp x (hx x hm); omega
        omega
      exact ⟨by rw [hfl]; exact h2 L (fun _ h => h) hn, h2 _ (fun _ h => List.mem_of_mem_take h) (by rw [List.length_take]; omega)⟩
    refine RunH.adv tb_ok [false] rfl rfl (by simp [ha] <;> omega) ?_
    refine RunH.nilrow 2 kEntry.T kEntry.sz 3 ?_
    refine RunH.tell [(5, .av (.box 0 m0 0)), (10, .av (.box 1 m2 0)), (32, slE (kA k A B) L.length (kA k c c2)), (33, intE L.length), (34, intE 0)]
      [(0, some (.box m0 [.val (strV text)] 9)), (1, some (.box m2 [.row 2 (.slice none 0 0)] 22)), (2, rowE kEntry none 0 [])] [] rfl rfl rfl 3 ?_
    refine RunH.defs0 ?_
    refine RunH.loopD (α := Nat × (Option Addr × Nat) × List Nat) (fun x => x.2.2) (fun x => [(5, .av (.box 0 m0 0)), (10, .av (.box 1 m2 0)), (32, slE (kA k A B) L.length (kA k c c2)), (33, intE L.length), (34, intE x.1)])
      (fun x => [(0, some (.box m0 [.val (strV text)] 9)), (1, some (.box m2 [.row 2 (.slice x.2.1.1 ((L.take x.1).flatMap (found1 text)).length x.2.1.2)] 22)), (2, rowE kEntry x.2.1.1 x.2.1.2 ((L.take x.1).flatMap (found1 text)))])
      (fun x u => Def tb B0 x.2.2 (fun u => K u ∧ MaxLen u ∧ Wk u b A c B c2 t y) u ∧ x.1 ≤ L.length) (fun x => L.length - x.1) (0, (none, 0), []) rfl rfl rfl (fun u h => ⟨h, Nat.zero_le _⟩) ?_
    rintro ⟨i, ⟨A1, c1⟩, ds⟩ m3
    refine RunH.pure (fun w' h => h.2) fun (hi : i ≤ L.length) => ?_
    by_cases hlt : i < L.length
    · have hts : L.take (i + 1) = L.take i ++ [L[i]] := List.take_succ_eq_append_getElem hlt
      refine RunH.pure (fun w' h => (hL ▸ h.1.fact.2.2.sl k : Sl kEntry w' (kA k A B) (kA k c c2) L).ptr hlt) fun hptr => ?_
      refine RunH.adv tb_ok [true] rfl rfl (by simp [hptr] <;> omega) ?_
      refine RunH.loadS (.st (entryF L[i])) rfl rfl rfl rfl (fun w hst => (hL ▸ hst.fact.1.fact.2.2.sl k : Sl kEntry w (kA k A B) (kA k c c2) L).load hlt) ?_
      refine RunH.adv tb_ok [] rfl rfl (by simp <;> omega) ?_
      refine RunH.doesB [] 5 (hc := Tryz.call96) (ho := rfl) (hw := rfl) (hd := rfl) (hf := rfl) (hes := rfl) (hσ := rfl) (hn := rfl) (hV := fun _ => rfl) (hG := fun _ => rfl) (e := fun b : Nat => .av (.val (.func (.func 151) #[] #[.pointer (some ⟨b, 0, none⟩)]))) (hC := ends_spec L[i].path) (hp := fun _ _ => trivial) ?_
      rintro b2 m4 hm4
      refine RunH.drop ?_
      refine RunH.adv tb_ok [] rfl rfl (by simp <;> omega) ?_
      obtain ⟨o, ho⟩ : ∃ o : Nat → List Entry, o = fun j => (L.take i).flatMap (found1 text) ++ (((endsOf L[i].path).take j).filter fun e => decide (e = text)).map fun _ => L[i] := ⟨_, rfl⟩
      have ho0 : o 0 = (L.take i).flatMap (found1 text) := by rw [ho]; simp
      have hon : o (endsOf L[i].path).length = (L.take (i + 1)).flatMap (found1 text) := by rw [ho, hts, List.flatMap_append]; simp [found1]
      have hos : ∀ j (h : j < (endsOf L[i].path).length), o (j + 1) = o j ++ (if (endsOf L[i].path)[j] = text then [L[i]] else []) := fun j h => by rw [ho]; simp only []; rw [found1_take text L[i] j h, List.append_assoc]
      have hol : ∀ j, (o j).length ≤ 1002001 := fun j => by
        rw [ho]
        simp only [List.length_append, List.length_map]
        have h1 := (hfb i).2
        have h2 := List.length_filter_le (fun e => decide (e = text)) ((endsOf L[i].path).take j)
        have h3 := words_len L[i].path
        have h4 := hp L[i] (List.getElem_mem hlt)
        rw [List.length_take, endsOf_len] at h2
        omega
      clear ho
      refine RunH.rangeFunc (σ := Empty) (nx := 5) (enc := fun x => [strE x]) rfl rfl (fun xs w => Tryz.call151 xs w) (ends1_spec b2 L[i].path (by have := hp L[i] (List.getElem_mem hlt); omega)) (fun _ => rfl) rfl [(0, 4)] (fun _ _ _ => rfl) rfl
        [(5, .av (.box 0 m0 0)), (10, .av (.box 1 m2 0)), (12, .av (.box 3 m3 0))] rfl (fun u => K u ∧ MaxLen u ∧ Wk u b A c B c2 t y) (fun u h => h.1) (fun u h => h.2.1)
        (fun j (z : Option Addr × Nat) => [(0, some (.box m0 [.val (strV text)] 9)), (1, some (.box m2 [.row 2 (.slice z.1 (o j).length z.2)] 22)), (2, rowE kEntry z.1 z.2 (o j)), (3, some (.box m3 (entryF L[i]) 44))])
        (fun _ _ => True) (A1, c1) trivial (fun _ _ _ => by simp only [ho0]; rfl) (fun _ x => x.elim) (fun _ x => x.elim) .ret ?_ 7 ?_ (fun _ _ x => x.elim)
      · intro j hj z _ l D tt Kg m5 hKg
        refine RunH.adv tb_ok [] rfl rfl (by simp <;> omega) ?_
        refine RunH.beginRound (id := 5) rfl rfl ?_
        by_cases he : (endsOf L[i].path)[j] = text
        · have hj1 : o (j + 1) = o j ++ [L[i]] := by rw [hos j hj, if_pos he]
          have h1 := hol j
          refine RunH.adv tb_ok [true] rfl rfl (by simp [he] <;> omega) ?_
          refine RunH.appendK (κ := kEntry) (id := 2) (r := [L[i]]) rfl rfl rfl rfl rfl rfl elt_entry rfl rfl (fun w hst => hst.liesRow (κ := kEntry) (l := [L[i]]) (id := 7) rfl (by simp [hl])) (by simp; omega) (by simp; omega) ?_
          intro A' c' m' hm'
          refine RunH.adv tb_ok [] rfl rfl (by simp <;> omega) ?_
          refine RunH.leave .fin fun w hst => ⟨(A', c'), trivial, ?_⟩
          rw [hj1]
          exact hst.out [] rfl rfl fun u h => h
        · have hj1 : o (j + 1) = o j := by rw [hos j hj, if_neg he, List.append_nil]
          refine RunH.adv tb_ok [false] rfl rfl (by simp [he] <;> omega) ?_
          refine RunH.leave .fin fun w hst => ⟨z, trivial, ?_⟩
          rw [hj1]
          exact hst.out [] rfl rfl fun u h => h
      · intro z D m5 _
        refine RunH.adv tb_ok [] rfl rfl (by simp <;> omega) ?_
        refine RunH.againD (i + 1, z, D :: ds) (.head _) rfl rfl ?_ (by show L.length - (i + 1) < L.length - i; omega) fun u h => ⟨h, by show i + 1 ≤ L.length; omega⟩
        simp only [hon]; rfl
    · have hti : L.take i = L := List.take_of_length_le (by omega)
      refine RunH.adv tb_ok [false] rfl rfl (by simp <;> omega) ?_
      rw [hti]
      refine RunH.facts (Def tb B0 ds (fun u => K u ∧ MaxLen u ∧ Wk u b A c B c2 t y)) (fun u h => h.1) ?_
      refine RunH.retD1 Tryz.func89 rfl rfl fun w hst => ⟨(A1, c1), by rw [hfl]; rfl, by rw [hfl]; exact hst.out [(0, 2)] rfl rfl fun u h => ⟨h.1, trivial⟩⟩
end Go.Proofs.YtagnkcdhenilbaaGreatDoor
