/-
Lemmas. No condition.
-/
import Derived.Test.YtbfjmimiigjenaaGreatDoorKQ3
set_option maxRecDepth 10000
set_option linter.unusedVariables false
set_option linter.unusedSectionVars false
set_option linter.unusedSimpArgs false
namespace Go.Proofs.YtbfjmimiigjenaaGreatDoor
open Go V RowKit
def hitB (z : Plot × Tree × Str) : Bool := match z.2.1 with
 | .node s v _ => decide (s = z.2.2) && v.isSome
def valO (z : Plot × Tree × Str) : Option Sum := match z.2.1 with
 | .node _ v _ => v
theorem get_way {u : World} : ∀ (n : Nat) {t : Tree} {L : Plot} {name : Str}, t.wf → IT u L t → (t.way L name).length ≤ n → t.get name = ((t.way L name).find? hitB).bind valO
 | 0, .node s v k, L, name, _, _, h => by simp [Tree.way] at h
 | n + 1, .node s v k, L, name, hw, hu, h => by
  have hp := YtbfjmimiigjenaaGreatDoor.IT.part hu
  have hkw : k.wf := by unfold Tree.wf at hw; exact hw.1
  have off : (∀ r, name ≠ s ++ r) → (Tree.node s v k).get name = (((Tree.node s v k).way L name).find? hitB).bind valO := by
   intro hno
   have hne : ¬ s = name := fun e => hno [] (by rw [List.append_nil]; exact e.symm)
   rw [way_off v k L hno, get_off v k hno]
   simp [hitB, hne]
  rcases paC s name with rfl | ⟨c, r, rfl⟩ | ⟨p, b, q, rfl, rfl⟩ | ⟨p, b, q, c, r, rfl, rfl, hne⟩
  ·rw [way_end, get_here]
   cases v <;> simp [hitB, valO]
  ·rw [way_kid] at h ⊢
   rw [get_kid]
   have hno : hitB (L, Tree.node s v k, s ++ c :: r) = false := by simp [hitB]
   rw [List.find?_cons_of_neg (by rw [hno]; decide)]
   have hpl := hp.kids.len
   rw [k.len] at hpl
   have hkg := kget_pos (k := k) (c := c) (n := r) hkw
   cases hB : isB k.bytes c with
   | false => rw [kway_not r hkw hB, (hkg.2 hB).1]; rfl
   | true =>
    obtain ⟨h1, h2, h3⟩ := kway_is (ps := L.ps) r hkw hpl hB
    obtain ⟨_, h4⟩ := hkg.1 hB
    rw [h3] at h ⊢
    rw [h4]
    exact get_way n (kid_at hkw _ h1 (by rw [k.len]; exact h1)).1 (hp.kids.at _ h2 h1) (by simpa using h)
  ·exact off fun r h => by have := congrArg List.length h; simp at this
  ·exact off fun r' h => by
    rw [List.append_assoc] at h
    have := List.append_cancel_left h
    simp at this
    exact hne this.1.symm
theorem way_spec (po : Option Plot) (name : Str) : Does Tryz.prog tb 123 [ptrO po, strV name] [] (fun _ => True) (fun b : Nat × Nat => .func (.func 197) #[] #[ptrV b.1, ptrV b.2]) (fun b => [(0, some (.box b.1 [.val (ptrO po)] 29)), (1, some (.box b.2 [.val (strV name)] 9))]) (fun _ _ _ => True) := by
 refine Does.enter tk [(0, .av (.val (ptrO po))), (1, strE name)] Tryz.func123 rfl Tryz.ntmps123 rfl rfl 0 ?_
 intro B0 m0 K
 refine RH.adv tk [] rfl rfl (by simp <;> omega) ?_
 refine RH.ret1 Tryz.func123 rfl rfl fun w hst => ⟨(m0, m0 + 1), rfl, hst.out [] rfl rfl fun u h => ⟨h.1, trivial⟩⟩
abbrev nilG (bn br : Nat) (name : Str) : Heap := [(0, some (.box bn [.val (.pointer none)] 29)), (1, some (.box br [.val (strV name)] 9))]
theorem way1_nil (bn br : Nat) (name : Str) (xs : List (Plot × Tree × Str)) (hxs0 : xs = []) : Iter Tryz.prog tb 197 (fun Y => [Y, ptrV bn, ptrV br]) (nilG bn br name) (fun _ => True) xs (fun z => [ptrAt z.1.b, strE z.2.2].map EV.v) (nilG bn br name) := by
 have hN := Tryz.ntmps197
 refine V.Iter.enter (tb := tb) (n := 48) (args := fun Y => [Y, ptrV bn, ptrV br]) (Gi := (nilG bn br name)) (pre := fun _ => True) (β := Plot × Tree × Str) (xs := xs) (G' := (nilG bn br name)) (enc := fun z => [ptrAt z.1.b, strE z.2.2]) (fun l => [(0, .av (.val (.func (.yield l) #[] #[]))), (1, .av (.box 0 bn 0)), (2, .av (.box 1 br 0))]) Tryz.func197 rfl hN (fun _ => rfl) (fun _ => rfl) 2 ?_
 intro α σ B0 l m Z Zs hZ hY x
 subst hxs0
 refine RH.adv tk [] rfl rfl trivial ?_
 refine RH.loop (α := Unit) (fun z => [(0, .av (.val (.func (.yield l) #[] #[]))), (1, .av (.box 0 bn 0)), (2, .av (.box 1 br 0))]) (fun z => (nilG bn br name))
  (fun z u => Z 0 x u) (fun z => 0) () rfl rfl (fun u hu => hu) ?_
 rintro ⟨⟩ m2
 refine RH.adv tk [] rfl rfl (by simp <;> omega) ?_
 refine RH.read (.av (.val (.bool (!(none : Option Addr).isNone)))) rfl rfl rfl rfl (fun u q _ ha => op_neqPtr ha rfl rfl rfl rfl) ?_
 refine RH.adv tk [false] rfl rfl (by simp <;> omega) ?_
 refine RH.fin0 Tryz.func197 rfl fun w hst => ⟨⟨_, rfl⟩, .inl ⟨x, hst.out [] rfl rfl fun u h => h⟩⟩
section
variable {P : Program} {n : Nat} {S : Stops} {R : Ending → World → Prop} {tb : TT} {B0 : Nat} {H : Heap} {nx m : Nat} {env : SEnv} {k : List Item}
theorem V.RH.retDBox {g : FuncId} {ds : List Nat} {fn : Func} {t : Tmp} {T : TypeId} {id b : Nat} {fs : List AV} {K : World → Prop} (hk : tb.Ok P) (e : EV) (hf : P.funcs[g]? = some fn) (hr : fn.results = #[.cell t T]) (hl : lookE env t = some (.av (.box id b 0))) (hH : loH H id = some (.box b fs T)) (he : fieldsE tb T e = some fs)
  (hR : ∀ w, St tb B0 H K w → R (.returned e.v) w) : RH P { fn := g, ds := ds } n tb B0 S R (.code .ret :: k) env H nx m (Def tb B0 ds K) := by
 refine RH.retD e.v hf (fun w a hst ha => ?_) hR
 refine resultsC hr (by rw [kn_look hl ha]; rfl) ?_
 have hh := hst.holds id _ hH
 obtain ⟨h1, h2⟩ := Fit.vok hk hh.2.2 he
 exact load_whole hk hh h1 h2
end
def getL (xs : List (Plot × Tree × Str)) : Option Plot := (xs.find? hitB).map fun z => z.1
theorem get_some (w : World) (L : Plot) (t : Tree) (name : Str) (hu : IT w L t) (hw : t.wf) (hn : name.length ≤ 1000) (xs : List (Plot × Tree × Str)) (hxs0 : xs = t.way L name) :
  Gives Tryz.prog 93 [ptrV L.b, strV name] w (.av (.val (ptrO (getL xs)))) := by
 have hfx : ∀ u, Ext w u → ∀ z ∈ xs, IT u z.1 z.2.1 := fun u he z hz => by
  rw [hxs0] at hz
  exact (way_facts _ hw (YtbfjmimiigjenaaGreatDoor.IT.ext he hu) (Nat.le_refl _) z hz).1
 refine enterH tk [(0, ptrAt L.b), (1, strE name)] Tryz.func93 rfl Tryz.ntmps93 rfl rfl ?_
 refine RH.adv tk [] rfl rfl (by simp <;> omega) ?_
 refine RH.doB [] 3 (hc := Tryz.call123) (ho := rfl) (hw := rfl) (hd := rfl) (hf := rfl) (hes := rfl) (hσ := rfl) (hn := rfl) (hV := fun _ => rfl) (hG := fun _ => rfl) (e := fun b : Nat × Nat => .av (.val (.func (.func 197) #[] #[ptrV b.1, ptrV b.2]))) (hC := way_spec (some L) name) (hp := fun _ _ => trivial) ?_
 rintro ⟨bn, br⟩ m1 hm1
 refine RH.drop ?_
 refine RH.adv tk [] rfl rfl (by simp <;> omega) ?_
 dsimp only
 refine RH.tell [(4, .av (.box 0 w.heap.size 0)), (9, .av (.val (.func (.func 197) #[] #[ptrV bn, ptrV br])))] [(0, some (.box w.heap.size [.val (.pointer none)] 29)), (1, some (.box bn [.val (ptrV L.b)] 29)), (2, some (.box br [.val (strV name)] 9))] [] rfl rfl rfl 12 ?_
 refine RH.defs0 ?_
 refine RH.rangeFunc (β := Plot × Tree × Str) (α := Unit) (σ := Unit) (xs := xs) (Gi := wayG bn br L name) (G' := lastG bn br L name xs) (pre := fun u => IT u L t) (nx := 12) (enc := fun z => [ptrAt z.1.b, strE z.2.2]) rfl rfl (fun xs w => Tryz.call197 xs w) (way1_spec bn br L t name hw hn xs hxs0) (fun _ => rfl) rfl [(0, 1), (1, 2)] (fun _ _ _ => rfl) rfl
  [(4, .av (.box 0 w.heap.size 0))] rfl (fun u => Ext w u) (fun u h => h) (fun u h => YtbfjmimiigjenaaGreatDoor.IT.ext h hu)
  (fun j (_ : Unit) => [(0, some (.box w.heap.size [.val (.pointer none)] 29))])
  (fun j _ => ∀ j' (h : j' < xs.length), j' < j → hitB xs[j'] = false) () (fun _ _ h => by cases h) (fun _ _ _ => rfl)
  (fun j _ => [(0, some (.box w.heap.size [.val (ptrO (getL xs))] 29))])
  (fun j _ => True) .ret ?_ 15 ?_ ?_
 ·rintro j hj ⟨⟩ hp l D tt Kg m5 hKg
  refine RH.adv tk [] rfl rfl (by simp <;> omega) ?_
  refine RH.beginRound (id := 12) rfl rfl ?_
  refine RH.adv tk [] rfl rfl (by simp <;> omega) ?_
  have hfz : ∀ u, Kg u → IT u xs[j].1 xs[j].2.1 := fun u h => hfx u (hKg u h) _ (List.getElem_mem hj)
  have hnext : hitB xs[j] = false → ∀ j' (h : j' < xs.length), j' < j + 1 → hitB xs[j'] = false := fun h j' h1 h2 => by
   rcases Nat.lt_or_eq_of_le (Nat.le_of_lt_succ h2) with h3 | h3
   ·exact hp j' h1 h3
   ·subst h3; exact h
  have hfound : hitB xs[j] = true → getL xs = some xs[j].1 := fun h => by
   have : xs.find? hitB = some xs[j] := by
    rw [List.find?_eq_some_iff_getElem]
    exact ⟨h, j, hj, rfl, fun j' h' => by rw [hp j' (by omega) h']; rfl⟩
   unfold getL
   rw [this]; rfl
  generalize xs[j] = z at *
  obtain ⟨Lz, tz, rz⟩ := z
  cases tz with
  | node s v k =>
  dsimp only at hfz hfound
  refine RH.loadS (strE s) rfl rfl rfl rfl (fun u hu => (YtbfjmimiigjenaaGreatDoor.IT.part (hfz u hu.fact)).stem) ?_
  by_cases hs : s = rz
  ·refine RH.adv tk [true] rfl rfl (by simp [hs] <;> omega) ?_
   refine RH.loadS (boE v.isSome) rfl rfl rfl rfl (fun u hu => (YtbfjmimiigjenaaGreatDoor.IT.part (hfz u hu.fact)).has) ?_
   cases hv : v.isSome with
   | true =>
    have hg := hfound (by simp [hitB, hs, hv])
    refine RH.adv tk [true] rfl rfl (by simp <;> omega) ?_
    rw [hg]
    refine RH.leave (.ret _) fun u hst => ⟨rfl, (), trivial, hst.out [] rfl rfl fun u h => h⟩
   | false =>
    have hh := hnext (by simp [hitB, hv])
    refine RH.adv tk [false] rfl rfl (by simp <;> omega) ?_
    refine RH.leave .fin fun u hst => ⟨(), hh, hst.out [] rfl rfl fun u h => h⟩
  ·have hh := hnext (by simp [hitB, hs])
   refine RH.adv tk [false] rfl rfl (by simp [hs] <;> omega) ?_
   refine RH.leave .fin fun u hst => ⟨(), hh, hst.out [] rfl rfl fun u h => h⟩
 ·rintro ⟨⟩ D m2 hp
  have hnone : getL xs = none := by
   have : xs.find? hitB = none := List.find?_eq_none.2 fun z hz => by
    obtain ⟨i, hi, rfl⟩ := List.getElem_of_mem hz
    rw [hp i hi hi]; decide
   unfold getL
   rw [this]; rfl
  rw [hnone]
  refine RH.adv tk [] rfl rfl (by simp <;> omega) ?_
  refine V.RH.retDBox tk (.av (.val (ptrO none))) Tryz.func93 rfl rfl rfl rfl fun u hst => ⟨rfl, hst.fact⟩
 ·rintro i hi ⟨⟩ D m2 _
  refine V.RH.retDBox tk (.av (.val (ptrO (getL xs)))) Tryz.func93 rfl rfl rfl rfl fun u hst => ⟨rfl, hst.fact⟩
theorem get_none (w : World) (name : Str) (xs : List (Plot × Tree × Str)) (hxs0 : xs = []) : Gives Tryz.prog 93 [.pointer none, strV name] w (.av (.val (.pointer none))) := by
 refine enterH tk [(0, .av (.val (.pointer none))), (1, strE name)] Tryz.func93 rfl Tryz.ntmps93 rfl rfl ?_
 refine RH.adv tk [] rfl rfl (by simp <;> omega) ?_
 refine RH.doB [] 3 (hc := Tryz.call123) (ho := rfl) (hw := rfl) (hd := rfl) (hf := rfl) (hes := rfl) (hσ := rfl) (hn := rfl) (hV := fun _ => rfl) (hG := fun _ => rfl) (e := fun b : Nat × Nat => .av (.val (.func (.func 197) #[] #[ptrV b.1, ptrV b.2]))) (hC := way_spec none name) (hp := fun _ _ => trivial) ?_
 rintro ⟨bn, br⟩ m1 hm1
 refine RH.drop ?_
 refine RH.adv tk [] rfl rfl (by simp <;> omega) ?_
 dsimp only
 refine RH.tell [(4, .av (.box 0 w.heap.size 0)), (9, .av (.val (.func (.func 197) #[] #[ptrV bn, ptrV br])))] [(0, some (.box w.heap.size [.val (.pointer none)] 29)), (1, some (.box bn [.val (.pointer none)] 29)), (2, some (.box br [.val (strV name)] 9))] [] rfl rfl rfl 12 ?_
 refine RH.defs0 ?_
 refine RH.rangeFunc (β := Plot × Tree × Str) (α := Unit) (σ := Unit) (xs := xs) (Gi := nilG bn br name) (G' := nilG bn br name) (pre := fun _ => True) (nx := 12) (enc := fun z => [ptrAt z.1.b, strE z.2.2]) rfl rfl (fun xs w => Tryz.call197 xs w) (way1_nil bn br name xs hxs0) (fun _ => rfl) rfl [(0, 1), (1, 2)] (fun _ _ _ => rfl) rfl
  [(4, .av (.box 0 w.heap.size 0))] rfl (fun u => Ext w u) (fun u h => h) (fun u h => trivial)
  (fun j (_ : Unit) => [(0, some (.box w.heap.size [.val (.pointer none)] 29))])
  (fun j _ => True) () trivial (fun _ _ _ => rfl)
  (fun j _ => [(0, some (.box w.heap.size [.val (.pointer none)] 29))])
  (fun j _ => True) .ret ?_ 15 ?_ ?_
 ·rintro j hj ⟨⟩ hp l D tt Kg m5 hKg
  rw [hxs0] at hj; cases hj
 ·rintro ⟨⟩ D m2 hp
  refine RH.adv tk [] rfl rfl (by simp <;> omega) ?_
  refine V.RH.retDBox tk (.av (.val (.pointer none))) Tryz.func93 rfl rfl rfl rfl fun u hst => ⟨rfl, hst.fact⟩
 ·rintro i hi ⟨⟩ D m2 _
  refine V.RH.retDBox tk (.av (.val (.pointer none))) Tryz.func93 rfl rfl rfl rfl fun u hst => ⟨rfl, hst.fact⟩
def findO : Option Plot → Option Tree → Str → Option Plot
 | some L, some t, name => getL (t.way L name)
 | _, _, _ => none
theorem get_ok (w : World) (po : Option Plot) (t : Option Tree) (h : IsO w po t) (ht : okO t) (name : Str) (hn : name.length ≤ 1000) : Gives Tryz.prog 93 [ptrO po, strV name] w (.av (.val (ptrO (findO po t name)))) := by
 cases po with
 | none =>
  cases t with
  | none => exact get_none w name [] rfl
  | some t => exact h.elim
 | some L =>
  cases t with
  | none => exact h.elim
  | some t => exact get_some w L t name h ht.1 hn _ rfl
theorem findO_spec {w : World} {po : Option Plot} {t : Option Tree} (h : IsO w po t) (ht : okO t) (name : Str) :
  match findO po t name with
  | none => getO t name = none
  | some L => ∃ s v k, IT w L (.node s (some v) k) ∧ getO t name = some v := by
 cases po with
 | none =>
  cases t with
  | none => rfl
  | some t => exact h.elim
 | some L =>
  cases t with
  | none => exact h.elim
  | some t =>
   have hu : IT w L t := h
   have h1 := get_way _ ht.1 hu (Nat.le_refl (t.way L name).length)
   have h2 := way_facts _ ht.1 hu (Nat.le_refl (t.way L name).length)
   show match getL (t.way L name) with
    | none => t.get name = none
    | some L => ∃ s v k, IT w L (.node s (some v) k) ∧ t.get name = some v
   unfold getL
   cases hf : (t.way L name).find? hitB with
   | none => rw [hf] at h1; exact h1
   | some z =>
    rw [hf] at h1
    have hz := h2 z (List.mem_of_find?_eq_some hf)
    have hb := List.find?_some hf
    obtain ⟨Lz, tz, rz⟩ := z
    cases tz with
    | node s v k =>
     cases v with
     | none => simp [hitB] at hb
     | some v => exact ⟨s, v, k, hz.1, h1⟩
theorem Put_ok (po : Option Plot) (t : Option Tree) (ht : okO t) (name : Str) (x : Sum) (hn : name.length ≤ 60) (hok : (findO po t name).isSome = true ∨ maO t ≠ 600) :
  Does Tryz.prog tb 20 [(mapE po).v, strV name, sumV x] [] (fun u => Glob u ∧ IsO u po t) (fun L' : Plot => .tuple #[.agg #[ptrV L'.b], intV 0]) (fun _ => []) (fun L' => Late (fun u => IsO u po t) (fun u => IT u L' (putO t name x))) := by
 refine V.Does.enter0 [(0, mapE po), (1, strE name), (2, sumE x)] Tryz.func20 rfl Tryz.ntmps20 rfl rfl 0 ?_
 intro m0 K
 refine RH.adv tk [false] rfl rfl (by simp <;> omega) ?_
 refine RH.gives (ho := rfl) (hw := rfl) (hd := rfl) (hf := rfl) (hes := rfl) (hc := Tryz.call93) (e := .av (.val (ptrO (findO po t name)))) (hC := fun u hu => get_ok u po t hu.fact.2.2 ht name (by omega)) ?_
 intro m1 hm1
 apply RH.joinK (α := Unit) (fun _ => [(1, strE name), (5, .av (.box 1 (m0 + 1) 0)), (6, .av (.box 2 (m0 + 2) 0)), (26, mapE po)]) (fun _ => [(1, some (.box (m0 + 1) [.val (sumV x)] 40)), (2, some (.box (m0 + 2) [.val (.pointer none)] 31))]) (fun _ u => K u ∧ Glob u ∧ IsO u po t)
 ·cases hf : findO po t name with
  | none =>
   have hm : ¬ maO t = 600 := by
    rcases hok with h | h
    ·rw [hf] at h; cases h
    ·exact h
   refine RH.read (.av (.val (.bool (none : Option Addr).isNone))) rfl rfl rfl rfl (fun u q _ ha => opP ha rfl rfl rfl rfl) ?_
   refine RH.adv tk [true] rfl rfl (by simp <;> omega) ?_
   refine RH.gives (ho := rfl) (hw := rfl) (hd := rfl) (hf := rfl) (hes := rfl) (hc := Tryz.call25) (e := intE (maO t)) (hC := fun u hu => Many_spec u po t hu.fact.2.2) ?_
   intro m2 hm2
   refine RH.adv tk [false] rfl rfl (by simp [hm] <;> omega) ?_
   exact RH.mtS () [] (.head _) rfl rfl rfl fun u h => h
  | some L =>
   refine RH.read (.av (.val (.bool (some (⟨L.b, 0, none⟩ : Addr)).isNone))) rfl rfl rfl rfl (fun u q _ ha => opP ha rfl rfl rfl rfl) ?_
   refine RH.adv tk [false] rfl rfl (by simp <;> omega) ?_
   exact RH.mtS () [] (.head _) rfl rfl rfl fun u h => h
 rintro ⟨⟩ m2
 refine RH.toNx 3 ?_
 refine RH.above (id := 2) rfl rfl fun hz1 hz2 => ?_
 refine RH.read (.st [.val (.agg #[ptrO po])]) rfl rfl rfl rfl (fun u q _ ha => ?_) ?_
 ·have h1 : q.eval (.tmp 26) = (mapE po).v := ev_run (e := mapE po) ha rfl
  have hb : (Instr.build 159 #[(0, (mapE po).v)]).run Tryz.prog u = .ok (EV.st [.val (.agg #[ptrO po])]).v u := by
   refine run_build u _ _ _ ?_
   kernel_rfl
  simp only [execOp, List.map_toArray, List.map_cons, List.map_nil, h1, hb, Sem.run_bind, Result.andThen_ok, Sem.run_pure]
 have hz31 : (Tryz.t31).size = 1 := by kernel_rfl
 refine RH.adv tk [] rfl rfl (by simp [hz31, Value.oneCell'] <;> omega) ?_
 refine RH.boxObj (id := 3) #[ptrO po] rfl rfl ?_
 refine RH.doB [(0, 3)] 5 (hc := Tryz.call94) (ho := rfl) (hw := rfl) (hd := rfl) (hf := rfl) (hes := rfl) (hσ := rfl) (hn := rfl) (hV := fun _ => rfl) (hG := fun _ => rfl) (e := fun _ : Plot => .av (.val (.tuple #[]))) (hC := wput_spec m2 po t ht name x (by omega)) (hp := fun u hu => hu.fact.2) ?_
 rintro b' m3 hm3
 refine RH.adv tk [] rfl rfl (by simp <;> omega) ?_
 refine RH.loadS (mapE (some b')) rfl rfl rfl rfl (fun u hu => ?_) ?_
 ·refine V.run_load tk ⟨_, Tryz.t31, rfl, rfl, rfl, ?_⟩ (range_of_blk (hu.holds 3 _ rfl).2 (o := 0) (l := [ptrO (some b')]) fun j v hv => ?_)
  ·intro z hz; cases hz with
   | head => rfl
   | tail _ h => cases h
  ·rw [Nat.zero_add]; exact hv
 refine RH.adv tk [] rfl rfl (by simp) ?_
 exact RH.retBoxT tk (mapE (some b')) Tryz.func20 rfl rfl rfl rfl rfl fun w' hst => ⟨b', rfl, hst.out [] rfl rfl fun u h => ⟨h.1.1, fun v hv hp => h.2.up (by omega) hv hp⟩⟩
theorem entries_nil (beg : Str) : Does Tryz.prog tb 97 [.pointer none, strV beg] [] (fun _ => True) (fun _ : Unit => .slice none 0 0) (fun _ => []) (fun _ _ _ => True) := by
 refine Does.enter tk [(0, .av (.val (.pointer none))), (1, strE beg)] Tryz.func97 rfl Tryz.ntmps97 rfl rfl 0 ?_
 intro B0 m0 K
 refine RH.adv tk [] rfl rfl (by simp <;> omega) ?_
 refine RH.read (.av (.val (.bool (none : Option Addr).isNone))) rfl rfl rfl rfl (fun u q _ ha => opP ha rfl rfl rfl rfl) ?_
 refine RH.adv tk [true] rfl rfl (by simp <;> omega) ?_
 refine RH.ret1 Tryz.func97 rfl rfl fun w hst => ⟨(), rfl, hst.out [] rfl rfl fun u h => ⟨h.1, trivial⟩⟩
theorem entries_O (po : Option Plot) (t : Option Tree) (N : Nat) (ht : okO t) (hl : lowO N t) (hN : N ≤ 1000) :
  Does Tryz.prog tb 97 [ptrO po, strV []] [] (fun u => IsO u po t) (fun y : Option Addr × Nat => .slice y.1 (enO t).length y.2) (fun y => [(0, rowE kEnt y.1 y.2 (enO t))]) (fun _ _ _ => True) := by
 cases po with
 | none =>
  cases t with
  | none =>
   intro B0 w K hst hp
   refine (entries_nil [] B0 w K hst fun _ _ => trivial).mono ?_
   rintro r w' ⟨⟨⟩, hr, h2⟩
   exact ⟨(none, 0), hr, h2.nilrow 0 kEnt⟩
  | some t =>
   intro B0 w K hst hp
   exact ((hp w hst.fact)).elim
 | some L =>
  cases t with
  | none =>
   intro B0 w K hst hp
   exact ((hp w hst.fact)).elim
  | some t => exact entries_ok t L [] N ht.1 hl (by simpa using hN) (by rw [many_ents]; exact ht.2.2)
theorem TNames_spec (po : Option Plot) (t : Option Tree) (N : Nat) (ht : okO t) (hl : lowO N t) (hN : N ≤ 1000) :
  Does Tryz.prog tb 29 [(mapE po).v] [] (fun u => IsO u po t) (fun y : Option Addr × Nat => .slice y.1 ((enO t).map Prod.fst).length y.2) (fun y => [(0, rowE kStr y.1 y.2 ((enO t).map Prod.fst))]) (fun _ _ _ => True) := by
 have hlim : lim = 140737488351232 := rfl
 have hml : (enO t).length ≤ 900000000 := by
  cases t with
  | none => simp [enO]
  | some t => show (t.ents []).length ≤ _; rw [many_ents]; exact ht.2.2
 refine Does.enter tk [(0, mapE po)] Tryz.func29 rfl Tryz.ntmps29 rfl rfl 0 ?_
 intro B0 m0 K
 refine RH.adv tk [] rfl rfl (by simp <;> omega) ?_
 refine RH.doB [] 10 (hc := Tryz.call97) (ho := rfl) (hw := rfl) (hd := rfl) (hf := rfl) (hes := rfl) (hσ := rfl) (hn := rfl) (hV := fun _ => rfl) (hG := fun _ => rfl) (e := fun y : Option Addr × Nat => rowS 1 y.1 (enO t).length y.2) (hC := entries_O po t N ht hl hN) (hp := fun u hu => hu.fact.2) ?_
 rintro ⟨A1, c1⟩ m1 hm1
 refine RH.drop ?_
 refine RH.adv tk [] rfl rfl (by simp <;> omega) ?_
 dsimp only
 generalize enO t = l at *
 refine RH.nilrow 50 kStr.T kStr.sz 51 ?_
 refine RH.loop (α := Nat × (Option Addr × Nat)) (fun y => [(8, rowS 1 A1 l.length c1), (9, intE l.length), (10, intE y.1), (3, rowS 50 y.2.1 ((l.take y.1).map Prod.fst).length y.2.2)]) (fun y => [(1, rowE kEnt A1 c1 l), (50, rowE kStr y.2.1 y.2.2 ((l.take y.1).map Prod.fst))]) (fun y u => K u ∧ y.1 ≤ l.length) (fun y => l.length - y.1) (0, (none, 0)) rfl rfl (fun u hu => ⟨hu.1, Nat.zero_le _⟩) ?_
 rintro ⟨i, A2, c2⟩ m2
 refine RH.pure (fun u hu => hu.2) fun hi => ?_
 dsimp only at hi ⊢
 by_cases hlt : i < l.length
 ·have hts : (l.take (i + 1)).map Prod.fst = (l.take i).map Prod.fst ++ [l[i].1] := by rw [List.take_succ_eq_append_getElem hlt, List.map_append]; rfl
  refine RH.pureS (fun u hu => hu.ptr (id := 1) (κ := kEnt) (l := l) rfl (by intro e; rw [e] at hlt; cases hlt)) fun hptr => ?_
  refine RH.adv tk [true] rfl rfl (by simp [hptr] <;> omega) ?_
  refine RH.loadS (.st [.val (strV l[i].1), .val (sumV l[i].2)]) rfl rfl rfl rfl (fun u hu => (Sl.own (B := B0) (hu.row (κ := kEnt) (l := l) (id := 1) rfl) (by omega)).load hlt) ?_
  refine RH.adv tk [] rfl rfl (by simp) ?_
  refine RH.apK (κ := kStr) (id := 50) (l := (l.take i).map Prod.fst) (r := [l[i].1]) rfl rfl rfl rfl rfl rfl elt_str rfl rfl (fun u hu => hu.liR (κ := kStr) (l := [l[i].1]) (id := 52) rfl (by simp [hlim])) (by simp; omega) (by simp [hlim]; omega) ?_
  intro A3 c3 m3 hm3
  rw [← hts]
  refine RH.adv tk [] rfl rfl (by simp <;> omega) ?_
  exact RH.again (i + 1, (A3, c3)) (.head _) rfl rfl (by show l.length - (i + 1) < l.length - i; omega) fun u hu => ⟨hu.1, hlt⟩
 ·have hi' : i = l.length := by omega
  subst hi'
  rw [List.take_length]
  refine RH.adv tk [false] rfl rfl (by simp <;> omega) ?_
  refine RH.ret1 Tryz.func29 rfl rfl fun w hst => ⟨(A2, c2), rfl, hst.out [(0, 50)] rfl rfl fun u h => ⟨h.1, trivial⟩⟩
def fromO (l : List (Str × Sum)) : Option Tree := l.foldl (fun t e => some (putO t e.1 e.2)) none
theorem fromO_succ (l : List (Str × Sum)) (e : Str × Sum) : fromO (l ++ [e]) = some (putO (fromO l) e.1 e.2) := by
 unfold fromO; rw [List.foldl_append]; rfl
theorem from_spec (A : Option Addr) (c : Nat) (l : List (Str × Sum)) (hn : ∀ e ∈ l, e.1.length ≤ 1000) (hok : ∀ i, okO (fromO (l.take i))) :
  Does Tryz.prog tb 92 [.slice A l.length c] [] (fun u => Glob u ∧ Sl kEnt u A c l) (fun po : Option Plot => .agg #[ptrO po]) (fun _ => []) (fun po => Late (fun _ => True) (fun u => IsO u po (fromO l))) := by
 have hlim : lim = 140737488351232 := rfl
 refine V.Does.enter0 [(0, slE A l.length c)] Tryz.func92 rfl Tryz.ntmps92 rfl rfl 0 ?_
 intro m0 K
 have hz31 : (Tryz.t31).size = 1 := by kernel_rfl
 refine RH.adv tk [] rfl rfl (by simp [hz31, Value.oneCell'] <;> omega) ?_
 refine RH.pure (fun u hu => hu.2.2.small) fun hsm => ?_
 refine RH.boxObj (id := 1) #[ptrO none] rfl rfl ?_
 refine RH.loop (α := Nat × Option Plot) (fun y => [(2, .av (.box 0 m0 0)), (3, ptrAt (m0 + 1)), (4, .av (.val (.func (.func 94) #[ptrV (m0 + 1)] #[]))), (8, slE A l.length c), (9, intE l.length), (10, intE y.1)]) (fun y => [(0, some (.box m0 [.val (.pointer none)] 31)), (1, wkB (m0 + 1) y.2)])
  (fun y u => (K u ∧ Glob u ∧ Sl kEnt u A c l) ∧ y.1 ≤ l.length ∧ Late (fun _ => True) (fun u => IsO u y.2 (fromO (l.take y.1))) m0 u) (fun y => l.length - y.1) (0, none) rfl rfl (fun u hu => ⟨hu, Nat.zero_le _, fun v _ _ => trivial⟩) ?_
 rintro ⟨i, po⟩ m2
 refine RH.pure (fun u hu => hu.2.1) fun hi => ?_
 dsimp only at hi ⊢
 refine RH.above (id := 0) rfl rfl fun hz1 hz2 => ?_
 by_cases hlt : i < l.length
 ·have hts : l.take (i + 1) = l.take i ++ [l[i]] := List.take_succ_eq_append_getElem hlt
  refine RH.pure (fun u hu => hu.1.2.2.ptr hlt) fun hptr => ?_
  refine RH.adv tk [true] rfl rfl (by simp [hptr] <;> omega) ?_
  refine RH.loadS (.st [.val (strV l[i].1), .val (sumV l[i].2)]) rfl rfl rfl rfl (fun u hu => hu.fact.1.2.2.load hlt) ?_
  refine RH.adv tk [] rfl rfl (by simp) ?_
  refine RH.doB [(0, 1)] 20 (hc := Tryz.call94) (ho := rfl) (hw := rfl) (hd := rfl) (hf := rfl) (hes := rfl) (hσ := rfl) (hn := rfl) (hV := fun _ => rfl) (hG := fun _ => rfl) (e := fun _ : Plot => .av (.val (.tuple #[]))) (hC := wput_spec (m0 + 1) po _ (hok i) l[i].1 l[i].2 (hn _ (List.getElem_mem hlt))) (hp := fun u hu => ⟨hu.fact.1.2.1, hu.fact.2.2.now trivial⟩) ?_
  rintro b' m3 hm3
  refine RH.adv tk [] rfl rfl (by simp <;> omega) ?_
  refine RH.again (i + 1, some b') (.head _) rfl rfl (by show l.length - (i + 1) < l.length - i; omega) fun u hu => ⟨hu.1.1, hlt, ?_⟩
  dsimp only
  rw [hts, fromO_succ]
  exact fun v hv _ => hu.2.up (by omega) hv (hu.1.2.2 v hv trivial)
 ·have hi' : i = l.length := by omega
  subst hi'
  rw [List.take_length]
  refine RH.adv tk [false] rfl rfl (by simp <;> omega) ?_
  refine RH.loadS (mapE po) rfl rfl rfl rfl (fun u hu => ?_) ?_
  ·refine V.run_load tk ⟨_, Tryz.t31, rfl, rfl, rfl, ?_⟩ (range_of_blk (hu.holds 1 _ rfl).2 (o := 0) (l := [ptrO po]) fun j v hv => ?_)
   ·intro z hz; cases hz with
    | head => rfl
    | tail _ h => cases h
   ·rw [Nat.zero_add]; exact hv
  refine RH.adv tk [] rfl rfl (by simp <;> omega) ?_
  exact RH.retBox tk (mapE po) Tryz.func92 rfl rfl rfl rfl fun w' hst => ⟨po, rfl, hst.out [] rfl rfl fun u h => ⟨h.1.1, h.2.2⟩⟩
mutual
theorem thin_low : ∀ (t : Tree) (N : Nat), t.wf → t.low N → t.thin N
 | .node s v k, N, hw, hl => by
  have hk : k.wf := by unfold Tree.wf at hw; exact hw.1
  unfold Tree.thin
  exact ⟨low_stem hw hl, kids_thin_low k N hk fun i h => low_kid hw hl i h⟩
theorem kids_thin_low : ∀ (k : Kids) (N : Nat), k.wf → (∀ i (h : i < k.trees.length), (k.trees[i]).low N) → k.thin N
 | .nil, _, _, _ => by unfold Kids.thin; trivial
 | .cons b t r, N, hw, h => by
  unfold Kids.wf at hw
  unfold Kids.thin
  exact ⟨thin_low t N hw.1 (h 0 (by simp [Kids.trees])), kids_thin_low r N hw.2.1 fun i hi => h (i + 1) (by simpa [Kids.trees] using hi)⟩
end
theorem thin_up : ∀ (t : Tree) (N : Nat), t.wf → t.low N → N ≤ 1000 → t.thin 1000 := fun t N hw hl hN => thin_low t 1000 hw fun n x hx => Nat.le_trans (hl n x hx) hN
theorem okO_of {t : Option Tree} {N : Nat} (hw : wfO t) (hl : lowO N t) (hN : N ≤ 1000) (hm : maO t ≤ 900000000) : okO t := by
 cases t with
 | none => trivial
 | some t => exact ⟨hw, thin_up t N hw hl hN, hm⟩
theorem from_step {N : Nat} : ∀ (l : List (Str × Sum)) (t : Option Tree), wfO t → lowO N t → (∀ e ∈ l, e.1.length ≤ N) → wfO (l.foldl (fun t e => some (putO t e.1 e.2)) t) ∧ lowO N (l.foldl (fun t e => some (putO t e.1 e.2)) t) ∧ maO (l.foldl (fun t e => some (putO t e.1 e.2)) t) ≤ maO t + l.length
 | [], t, hw, hl, _ => ⟨hw, hl, Nat.le_refl _⟩
 | e :: l, t, hw, hl, h => by
  rw [List.foldl_cons]
  have h1 := from_step l (some (putO t e.1 e.2)) (putO_wf hw e.1 e.2) (putO_low hw hl (h e (.head _)) e.2) fun z hz => h z (.tail _ hz)
  refine ⟨h1.1, h1.2.1, ?_⟩
  have h2 := putO_many hw e.1 e.2
  have h3 := h1.2.2
  rw [List.length_cons]
  split at h2 <;> omega
theorem from_okO {N : Nat} (l : List (Str × Sum)) (hN : N ≤ 1000) (h : ∀ e ∈ l, e.1.length ≤ N) (hm : l.length ≤ 900000000) (i : Nat) : okO (fromO (l.take i)) := by
 have h1 := from_step (N := N) (l.take i) none trivial (fun n x hx => by cases hx) fun e he => h e (List.mem_of_mem_take he)
 refine okO_of h1.1 h1.2.1 hN ?_
 have : (l.take i).length ≤ l.length := by rw [List.length_take]; omega
 have h2 : maO (fromO (l.take i)) ≤ maO none + (l.take i).length := h1.2.2
 have h3 : maO none = 0 := rfl
 omega
end Go.Proofs.YtbfjmimiigjenaaGreatDoor
namespace Go.Proofs.YtbfjmimiigjenaaGreatDoor
open Go V
theorem run_slice3B (w : World) (A : Option Addr) (n c : Nat) (lo hi mx : Int) (h0 : 0 ≤ lo) (h1 : lo ≤ hi) (h2 : hi ≤ mx) (h3 : mx ≤ c) :
  (Instr.slice 22 (.slice A n c) (some (.int .i64 lo)) (some (.int .i64 hi)) (some (.int .i64 mx))).run Tryz.prog w = .ok (.slice (if mx.toNat = lo.toNat then A else A.map (·.add (lo.toNat * 1))) (hi.toNat - lo.toNat) (mx.toNat - lo.toNat)) w := by
 have hu : (underlying 22).run Tryz.prog w = .ok (.slice 5) w := run_underlying (tk.und rfl) w
 have hsz : (sizeOf 5).run Tryz.prog w = .ok 1 w := run_tsize tk (i := Tryz.t5) rfl
 have h4 : max mx 0 = mx := by omega
 have h5 : max hi 0 = hi := by omega
 simp [Instr.slice, Instr.sliceBounds, Instr.sliceBound, hu, hsz, asIntOf, h0, h1, h2, h3, h4, h5, show (0 : Int) ≤ hi by omega, show (0 : Int) ≤ mx by omega]
theorem DeleteB_spec (A : Option Addr) (c : Nat) (l : List UInt8) (i : Nat) (hi : i < l.length) (hn : l.length ≤ 1000000) :
  Does Tryz.prog tb 170 [.slice A l.length c, intV i, intV ((i : Int) + 1)] [(0, rowE kBy A c l)] (fun _ => True) (fun _ : Unit => .slice A (l.eraseIdx i).length c) (fun _ => [(0, rowE kBy A c (l.eraseIdx i))]) (fun _ _ _ => True) := by
 have hl : lim = 140737488351232 := rfl
 refine Does.enter tk [(0, rowS 0 A l.length c), (1, intE i), (2, intE ((i : Int) + 1))] Tryz.func170 rfl Tryz.ntmps170 rfl rfl 1 ?_
 intro B0 m0 K
 refine RH.raw (id := 0) rfl (by omega) ?_
 intro g cap cur hv hc hmx hcs ht
 injection hv with h1 h2 h3
 subst h1; subst h3
 refine RH.adv tk [] rfl rfl (by simp <;> omega) ?_
 refine RH.read (.av (.val (.slice (if (l.length : Int).toNat = (i : Int).toNat then some ⟨g, 0, none⟩ else (some (⟨g, 0, none⟩ : Addr)).map (·.add ((i : Int).toNat * 1))) (((i : Int) + 1).toNat - (i : Int).toNat) ((l.length : Int).toNat - (i : Int).toNat)))) rfl rfl rfl rfl (fun w a _ ha => ?_) ?_
 ·have e8 : a.eval (.tmp 8) = .slice (some ⟨g, 0, none⟩) l.length c := ev_run (e := rowS 0 (some ⟨g, 0, none⟩) l.length c) ha rfl
  have e9 : a.eval (.tmp 9) = .int .i64 i := ev_run (e := intE i) ha rfl
  have e10 : a.eval (.tmp 10) = .int .i64 ((i : Int) + 1) := ev_run (e := intE ((i : Int) + 1)) ha rfl
  have e12 : a.eval (.tmp 12) = .int .i64 l.length := ev_run (e := intE l.length) ha rfl
  have hu : (underlying 22).run Tryz.prog w = .ok (.slice 5) w := run_underlying (tk.und rfl) w
  have := run_slice3B w (some ⟨g, 0, none⟩) l.length c i ((i : Int) + 1) l.length (by omega) (by omega) (by omega) (by omega)
  simp only [execOp, Instr.sliceAt, Option.map_some, e8, e9, e10, e12, hu, this, Sem.run_bind, Result.andThen_ok, Sem.run_pure, EV.v, AV.v]
 refine RH.adv tk [false] rfl rfl (by simp <;> omega) ?_
 refine RH.draw rfl [] rfl 8 rfl rfl ?_
 refine RD.adv tk (by kernel_rfl) [] rfl rfl (by simp <;> omega) ?_
 have hi1 : ((i : Int) + 1).toNat = i + 1 := by omega
 have hi0 : (i : Int).toNat = i := by omega
 obtain ⟨ad, hsub, had⟩ : ∃ ad, subA (some ⟨g, 0, none⟩) ((i : Int) + 1).toNat c 1 = some ad ∧ (i + 1 < l.length → ad = ⟨g, (i + 1) * 1, none⟩) := by
  unfold subA
  rw [hi1]
  by_cases hcc : c = i + 1
  ·rw [if_pos hcc]; exact ⟨_, rfl, fun h => by omega⟩
  ·rw [if_neg hcc]; exact ⟨_, rfl, fun _ => by simp [Addr.add]⟩
 have hlen := kBy.flL l
 have hsz : kBy.sz = 1 := rfl
 have hcs0 : ((l.drop (i + 1)).flatMap kBy.cs).length = (l.length - (i + 1)) * 1 := by rw [kBy.flL, List.length_drop, hsz]
 have hdrop : (l.flatMap kBy.cs).drop ((i + 1) * 1) = (l.drop (i + 1)).flatMap kBy.cs := by
  have e : l.flatMap kBy.cs = (l.take (i + 1)).flatMap kBy.cs ++ (l.drop (i + 1)).flatMap kBy.cs := by rw [← List.flatMap_append, List.take_append_drop]
  rw [e, List.drop_left' (by rw [kBy.flL, List.length_take, hsz, Nat.min_eq_left (by omega)])]
 have hseg : (cur.toList.drop ((i + 1) * 1)).take (l.length * 1 - (i + 1) * 1) = (l.drop (i + 1)).flatMap kBy.cs := by
  rw [← hdrop, ← ht, hsz, List.drop_take]
 refine RD.go (i := 6) rfl (by kernel_rfl) rfl (OpGo.appendRaw (id := 0) (cur := cur) (cs := (l.drop (i + 1)).flatMap kBy.cs) (ad := ad) (q := l.length - ((i : Int) + 1).toNat) (c := c - ((i : Int) + 1).toNat) (sl := i) (cap := c) (i := Tryz.t5) (g := g) tk rfl rfl rfl rfl (by rw [hi0]; rfl) rfl (by rw [← hsub]; rfl) rfl ?_ (kBy.one _) ?_ ?_ ?_ ?_) 1 (fun _ => rfl) (fun _ _ h => h) ?_
 ·rw [hcs0, hi1]; rfl
 ·intro w hst
  by_cases hlast : i + 1 < l.length
  ·rw [had hlast]
   exact range_take (hst.holds 0 _ rfl).2 hseg
  ·rw [List.drop_eq_nil_of_le (by omega)]
   intro j v hj; simp at hj
 ·intro hne
  have hlast : i + 1 < l.length := by
   rcases Nat.lt_or_ge (i + 1) l.length with h | h
   ·exact h
   ·rw [List.drop_eq_nil_of_le (by omega)] at hne; exact absurd rfl hne
  rw [had hlast]; rfl
 ·omega
 ·show i * 1 + _ ≤ _
  rw [hcs0, hcs, hsz]; omega
 rintro ⟨⟩ m1 hm1
 have e1 : i + (l.length - ((i : Int) + 1).toNat) = l.length - 1 := by omega
 rw [e1]
 refine RD.adv tk (by kernel_rfl) [] rfl rfl (by simp <;> omega) ?_
 refine RD.done (.inl rfl) (by kernel_rfl) ?_
 refine RH.adv tk [] rfl rfl (by simp <;> omega) ?_
 refine RH.go rfl rfl (OpGo.clearRaw (id := 0) (g := g) (q := 0) (off := (l.length - 1) * 1) (i := Tryz.t5) (c := c - ((l.length - 1 : Nat) : Int).toNat) tk rfl rfl rfl rfl ?_ rfl ?_ ?_) 1 ?_
 ·show Value.slice (subA (some ⟨g, 0, none⟩) ((l.length - 1 : Nat) : Int).toNat c 1) ((l.length : Int).toNat - ((l.length - 1 : Nat) : Int).toNat) (c - ((l.length - 1 : Nat) : Int).toNat) = _
  have h1 : l.length - (l.length - 1) = 1 := by omega
  simp [subA, Addr.add, h1, show ¬ c = l.length - 1 by omega]
  try omega
 ·refine List.all_eq_true.1 ?_
  kernel_rfl
 ·rw [putC_size (by rw [hcs0, hcs, hsz]; show i * 1 + _ ≤ _; omega), hcs, hsz]
  have : (Builtin.zeroCells (Value.cells ((Tryz.t5).zero.getD undef)) (0 + 1)).toList.length = 1 := by kernel_rfl
  have h2 : (l.length - 1) * 1 + 1 ≤ c * 1 := by omega
  exact Nat.le_trans (Nat.add_le_add_left (Nat.le_of_eq this) _) h2
 rintro ⟨⟩ m2 hm2
 generalize hzc : (Builtin.zeroCells _ (0 + 1)).toList = zc
 have hs1 : (putC cur (i * 1) ((l.drop (i + 1)).flatMap kBy.cs)).size = c * 1 := by rw [putC_size (by rw [hcs0, hcs, hsz]; omega), hcs, hsz]
 have hz1 : zc.length = 1 := by rw [← hzc]; kernel_rfl
 have hs2 : (putC (putC cur (i * 1) ((l.drop (i + 1)).flatMap kBy.cs)) ((l.length - 1) * 1) zc).size = c * 1 := by rw [putC_size (by rw [hs1, hz1]; omega), hs1]
 have hfin : (putC (putC cur (i * 1) ((l.drop (i + 1)).flatMap kBy.cs)) ((l.length - 1) * 1) zc).toList.take ((l.length - 1) * 1) = (l.eraseIdx i).flatMap kBy.cs := by
  have hti : cur.toList.take (i * 1) = (l.take i).flatMap kBy.cs := by
   have e : l.flatMap kBy.cs = (l.take i).flatMap kBy.cs ++ (l.drop i).flatMap kBy.cs := by rw [← List.flatMap_append, List.take_append_drop]
   have h1 : (l.flatMap kBy.cs).take (i * 1) = (l.take i).flatMap kBy.cs := by
    rw [e, List.take_left' (by rw [kBy.flL, List.length_take, hsz, Nat.min_eq_left (by omega)])]
   rw [← h1, ← ht, hsz, List.take_take, Nat.min_eq_left (by omega)]
  rw [putC_take (by rw [hs1]; omega)]
  have e3 : (l.length - 1) * 1 = i * 1 + ((l.drop (i + 1)).flatMap kBy.cs).length := by rw [hcs0]; omega
  rw [e3, putC_take2 (by rw [hcs, hsz]; omega), hti, ← List.flatMap_append, List.eraseIdx_eq_take_drop_succ]
 have hel : (l.eraseIdx i).length = l.length - 1 := by rw [List.length_eraseIdx]; simp [hi]
 refine RH.cook (id := 0) (g := g) (sz := 1) (l.length - 1) c rfl (by omega) hmx hs2 ?_
 have hrow : (HE.row (.slice (some ⟨g, 0, none⟩) (l.length - 1) c) kBy.T 1 (l.length - 1) ((putC (putC cur (i * 1) ((l.drop (i + 1)).flatMap kBy.cs)) ((l.length - 1) * 1) zc).toList.take ((l.length - 1) * 1))) =
   HE.row (.slice (some ⟨g, 0, none⟩) (l.eraseIdx i).length c) kBy.T kBy.sz (l.eraseIdx i).length ((l.eraseIdx i).flatMap kBy.cs) := by rw [hfin, hel, hsz]
 refine RH.adv tk [] rfl rfl (by simp <;> omega) ?_
 refine RH.ret1 Tryz.func170 rfl rfl fun w hst => ⟨(), by rw [hel]; rfl, ?_⟩
 refine St.mono (J := fun u => K u ∧ True) ?_ (fun u _ h => h)
 have := hst.sel (Sel.of (G := [(0, some (HE.row (.slice (some ⟨g, 0, none⟩) (l.length - 1) c) kBy.T 1 (l.length - 1) ((putC (putC cur (i * 1) ((l.drop (i + 1)).flatMap kBy.cs)) ((l.length - 1) * 1) zc).toList.take ((l.length - 1) * 1))))]) [] rfl rfl)
 rw [hrow] at this
 exact this
theorem run_slice3P (w : World) (A : Option Addr) (n c : Nat) (lo hi mx : Int) (h0 : 0 ≤ lo) (h1 : lo ≤ hi) (h2 : hi ≤ mx) (h3 : mx ≤ c) :
  (Instr.slice 163 (.slice A n c) (some (.int .i64 lo)) (some (.int .i64 hi)) (some (.int .i64 mx))).run Tryz.prog w = .ok (.slice (if mx.toNat = lo.toNat then A else A.map (·.add (lo.toNat * 1))) (hi.toNat - lo.toNat) (mx.toNat - lo.toNat)) w := by
 have hu : (underlying 163).run Tryz.prog w = .ok (.slice 29) w := run_underlying (tk.und rfl) w
 have hsz : (sizeOf 29).run Tryz.prog w = .ok 1 w := run_tsize tk (i := Tryz.t29) rfl
 have h4 : max mx 0 = mx := by omega
 have h5 : max hi 0 = hi := by omega
 simp [Instr.slice, Instr.sliceBounds, Instr.sliceBound, hu, hsz, asIntOf, h0, h1, h2, h3, h4, h5, show (0 : Int) ≤ hi by omega, show (0 : Int) ≤ mx by omega]
theorem DeleteP_spec (A : Option Addr) (c : Nat) (l : List Plot) (i : Nat) (hi : i < l.length) (hn : l.length ≤ 1000000) :
  Does Tryz.prog tb 171 [.slice A l.length c, intV i, intV ((i : Int) + 1)] [(0, rowE kP A c l)] (fun _ => True) (fun _ : Unit => .slice A (l.eraseIdx i).length c) (fun _ => [(0, rowE kP A c (l.eraseIdx i))]) (fun _ _ _ => True) := by
 have hl : lim = 140737488351232 := rfl
 refine Does.enter tk [(0, rowS 0 A l.length c), (1, intE i), (2, intE ((i : Int) + 1))] Tryz.func171 rfl Tryz.ntmps171 rfl rfl 1 ?_
 intro B0 m0 K
 refine RH.raw (id := 0) rfl (by omega) ?_
 intro g cap cur hv hc hmx hcs ht
 injection hv with h1 h2 h3
 subst h1; subst h3
 refine RH.adv tk [] rfl rfl (by simp <;> omega) ?_
 refine RH.read (.av (.val (.slice (if (l.length : Int).toNat = (i : Int).toNat then some ⟨g, 0, none⟩ else (some (⟨g, 0, none⟩ : Addr)).map (·.add ((i : Int).toNat * 1))) (((i : Int) + 1).toNat - (i : Int).toNat) ((l.length : Int).toNat - (i : Int).toNat)))) rfl rfl rfl rfl (fun w a _ ha => ?_) ?_
 ·have e8 : a.eval (.tmp 8) = .slice (some ⟨g, 0, none⟩) l.length c := ev_run (e := rowS 0 (some ⟨g, 0, none⟩) l.length c) ha rfl
  have e9 : a.eval (.tmp 9) = .int .i64 i := ev_run (e := intE i) ha rfl
  have e10 : a.eval (.tmp 10) = .int .i64 ((i : Int) + 1) := ev_run (e := intE ((i : Int) + 1)) ha rfl
  have e12 : a.eval (.tmp 12) = .int .i64 l.length := ev_run (e := intE l.length) ha rfl
  have hu : (underlying 163).run Tryz.prog w = .ok (.slice 29) w := run_underlying (tk.und rfl) w
  have := run_slice3P w (some ⟨g, 0, none⟩) l.length c i ((i : Int) + 1) l.length (by omega) (by omega) (by omega) (by omega)
  simp only [execOp, Instr.sliceAt, Option.map_some, e8, e9, e10, e12, hu, this, Sem.run_bind, Result.andThen_ok, Sem.run_pure, EV.v, AV.v]
 refine RH.adv tk [false] rfl rfl (by simp <;> omega) ?_
 refine RH.draw rfl [] rfl 8 rfl rfl ?_
 refine RD.adv tk (by kernel_rfl) [] rfl rfl (by simp <;> omega) ?_
 have hi1 : ((i : Int) + 1).toNat = i + 1 := by omega
 have hi0 : (i : Int).toNat = i := by omega
 obtain ⟨ad, hsub, had⟩ : ∃ ad, subA (some ⟨g, 0, none⟩) ((i : Int) + 1).toNat c 1 = some ad ∧ (i + 1 < l.length → ad = ⟨g, (i + 1) * 1, none⟩) := by
  unfold subA
  rw [hi1]
  by_cases hcc : c = i + 1
  ·rw [if_pos hcc]; exact ⟨_, rfl, fun h => by omega⟩
  ·rw [if_neg hcc]; exact ⟨_, rfl, fun _ => by simp [Addr.add]⟩
 have hlen := kP.flL l
 have hsz : kP.sz = 1 := rfl
 have hcs0 : ((l.drop (i + 1)).flatMap kP.cs).length = (l.length - (i + 1)) * 1 := by rw [kP.flL, List.length_drop, hsz]
 have hdrop : (l.flatMap kP.cs).drop ((i + 1) * 1) = (l.drop (i + 1)).flatMap kP.cs := by
  have e : l.flatMap kP.cs = (l.take (i + 1)).flatMap kP.cs ++ (l.drop (i + 1)).flatMap kP.cs := by rw [← List.flatMap_append, List.take_append_drop]
  rw [e, List.drop_left' (by rw [kP.flL, List.length_take, hsz, Nat.min_eq_left (by omega)])]
 have hseg : (cur.toList.drop ((i + 1) * 1)).take (l.length * 1 - (i + 1) * 1) = (l.drop (i + 1)).flatMap kP.cs := by
  rw [← hdrop, ← ht, hsz, List.drop_take]
 refine RD.go (i := 6) rfl (by kernel_rfl) rfl (OpGo.appendRaw (id := 0) (cur := cur) (cs := (l.drop (i + 1)).flatMap kP.cs) (ad := ad) (q := l.length - ((i : Int) + 1).toNat) (c := c - ((i : Int) + 1).toNat) (sl := i) (cap := c) (i := Tryz.t29) (g := g) tk rfl rfl rfl rfl (by rw [hi0]; rfl) rfl (by rw [← hsub]; rfl) rfl ?_ (kP.one _) ?_ ?_ ?_ ?_) 1 (fun _ => rfl) (fun _ _ h => h) ?_
 ·rw [hcs0, hi1]; rfl
 ·intro w hst
  by_cases hlast : i + 1 < l.length
  ·rw [had hlast]
   exact range_take (hst.holds 0 _ rfl).2 hseg
  ·rw [List.drop_eq_nil_of_le (by omega)]
   intro j v hj; simp at hj
 ·intro hne
  have hlast : i + 1 < l.length := by
   rcases Nat.lt_or_ge (i + 1) l.length with h | h
   ·exact h
   ·rw [List.drop_eq_nil_of_le (by omega)] at hne; exact absurd rfl hne
  rw [had hlast]; rfl
 ·omega
 ·show i * 1 + _ ≤ _
  rw [hcs0, hcs, hsz]; omega
 rintro ⟨⟩ m1 hm1
 have e1 : i + (l.length - ((i : Int) + 1).toNat) = l.length - 1 := by omega
 rw [e1]
 refine RD.adv tk (by kernel_rfl) [] rfl rfl (by simp <;> omega) ?_
 refine RD.done (.inl rfl) (by kernel_rfl) ?_
 refine RH.adv tk [] rfl rfl (by simp <;> omega) ?_
 refine RH.go rfl rfl (OpGo.clearRaw (id := 0) (g := g) (q := 0) (off := (l.length - 1) * 1) (i := Tryz.t29) (c := c - ((l.length - 1 : Nat) : Int).toNat) tk rfl rfl rfl rfl ?_ rfl ?_ ?_) 1 ?_
 ·show Value.slice (subA (some ⟨g, 0, none⟩) ((l.length - 1 : Nat) : Int).toNat c 1) ((l.length : Int).toNat - ((l.length - 1 : Nat) : Int).toNat) (c - ((l.length - 1 : Nat) : Int).toNat) = _
  have h1 : l.length - (l.length - 1) = 1 := by omega
  simp [subA, Addr.add, h1, show ¬ c = l.length - 1 by omega]
  try omega
 ·refine List.all_eq_true.1 ?_
  kernel_rfl
 ·rw [putC_size (by rw [hcs0, hcs, hsz]; show i * 1 + _ ≤ _; omega), hcs, hsz]
  have : (Builtin.zeroCells (Value.cells ((Tryz.t29).zero.getD undef)) (0 + 1)).toList.length = 1 := by kernel_rfl
  have h2 : (l.length - 1) * 1 + 1 ≤ c * 1 := by omega
  exact Nat.le_trans (Nat.add_le_add_left (Nat.le_of_eq this) _) h2
 rintro ⟨⟩ m2 hm2
 generalize hzc : (Builtin.zeroCells _ (0 + 1)).toList = zc
 have hs1 : (putC cur (i * 1) ((l.drop (i + 1)).flatMap kP.cs)).size = c * 1 := by rw [putC_size (by rw [hcs0, hcs, hsz]; omega), hcs, hsz]
 have hz1 : zc.length = 1 := by rw [← hzc]; kernel_rfl
 have hs2 : (putC (putC cur (i * 1) ((l.drop (i + 1)).flatMap kP.cs)) ((l.length - 1) * 1) zc).size = c * 1 := by rw [putC_size (by rw [hs1, hz1]; omega), hs1]
 have hfin : (putC (putC cur (i * 1) ((l.drop (i + 1)).flatMap kP.cs)) ((l.length - 1) * 1) zc).toList.take ((l.length - 1) * 1) = (l.eraseIdx i).flatMap kP.cs := by
  have hti : cur.toList.take (i * 1) = (l.take i).flatMap kP.cs := by
   have e : l.flatMap kP.cs = (l.take i).flatMap kP.cs ++ (l.drop i).flatMap kP.cs := by rw [← List.flatMap_append, List.take_append_drop]
   have h1 : (l.flatMap kP.cs).take (i * 1) = (l.take i).flatMap kP.cs := by
    rw [e, List.take_left' (by rw [kP.flL, List.length_take, hsz, Nat.min_eq_left (by omega)])]
   rw [← h1, ← ht, hsz, List.take_take, Nat.min_eq_left (by omega)]
  rw [putC_take (by rw [hs1]; omega)]
  have e3 : (l.length - 1) * 1 = i * 1 + ((l.drop (i + 1)).flatMap kP.cs).length := by rw [hcs0]; omega
  rw [e3, putC_take2 (by rw [hcs, hsz]; omega), hti, ← List.flatMap_append, List.eraseIdx_eq_take_drop_succ]
 have hel : (l.eraseIdx i).length = l.length - 1 := by rw [List.length_eraseIdx]; simp [hi]
 refine RH.cook (id := 0) (g := g) (sz := 1) (l.length - 1) c rfl (by omega) hmx hs2 ?_
 have hrow : (HE.row (.slice (some ⟨g, 0, none⟩) (l.length - 1) c) kP.T 1 (l.length - 1) ((putC (putC cur (i * 1) ((l.drop (i + 1)).flatMap kP.cs)) ((l.length - 1) * 1) zc).toList.take ((l.length - 1) * 1))) =
   HE.row (.slice (some ⟨g, 0, none⟩) (l.eraseIdx i).length c) kP.T kP.sz (l.eraseIdx i).length ((l.eraseIdx i).flatMap kP.cs) := by rw [hfin, hel, hsz]
 refine RH.adv tk [] rfl rfl (by simp <;> omega) ?_
 refine RH.ret1 Tryz.func171 rfl rfl fun w hst => ⟨(), by rw [hel]; rfl, ?_⟩
 refine St.mono (J := fun u => K u ∧ True) ?_ (fun u _ h => h)
 have := hst.sel (Sel.of (G := [(0, some (HE.row (.slice (some ⟨g, 0, none⟩) (l.length - 1) c) kP.T 1 (l.length - 1) ((putC (putC cur (i * 1) ((l.drop (i + 1)).flatMap kP.cs)) ((l.length - 1) * 1) zc).toList.take ((l.length - 1) * 1))))]) [] rfl rfl)
 rw [hrow] at this
 exact this
open Go V RowKit
theorem V.RH.advN {P : Program} {f : Fr} {n : Nat} {S : Stops} {R : Ending → World → Prop} {tb : TT} {B0 : Nat} {I : World → Prop} {H : Heap} {nx m : Nat} {env : SEnv} {todo : List Item} {env' : SEnv} {H' : Heap} {nx' m' : Nat} {todo' : List Item} {ob : List Ob} {eq : List Eqn} (F : Nat) (hk : tb.Ok P) (ds : List Bool) (h : V.adv tb n F ds env H nx m todo [] [] = (env', H', nx', m', todo', ob, eq)) (heq : AllEqn eq) (hob : AllOb ob) (hr : RH P f n tb B0 S R todo' env' H' nx' m' I) :
  RH P f n tb B0 S R todo env H nx m I := fun w hm hst cs a ha => adv_ok hk F ds env H nx m todo [] [] h hob heq hr w cs a hm hst ha
theorem IK.del {u : World} {k k' : Kids} {ps : List Plot} {p : Nat} (h : IK u ps k) (hp : p < k.trees.length) (ht : k'.trees = k.trees.eraseIdx p) : IK u (ps.eraseIdx p) k' := by
 have hpl := h.len
 rw [k.len] at hpl
 refine IK.of (by rw [ht, List.length_eraseIdx, List.length_eraseIdx, hpl]) fun i h1 h2 => ?_
 have h3 : k'.trees[i] = (k.trees.eraseIdx p)[i]'(by rw [← ht]; exact h2) := by simp only [ht]
 rw [h3, List.getElem_eraseIdx, List.getElem_eraseIdx]
 split
 ·exact h.at i _ _
 ·exact h.at (i + 1) _ _
theorem IK.set {u : World} {k k' : Kids} {ps : List Plot} {p : Nat} {b : Plot} {t : Tree} (h : IK u ps k) (ht : k'.trees = k.trees.set p t) (hb : IT u b t) : IK u (ps.set p b) k' := by
 have hpl := h.len
 rw [k.len] at hpl
 refine IK.of (by rw [ht, List.length_set, List.length_set, hpl]) fun i h1 h2 => ?_
 have h3 : k'.trees[i] = (k.trees.set p t)[i]'(by rw [← ht]; exact h2) := by simp only [ht]
 rw [h3, List.getElem_set, List.getElem_set]
 split
 ·exact hb
 ·exact h.at i _ _
def DropOk (t : Tree) (name : Str) : Prop := ∀ L : Plot, Does Tryz.prog tb 95 [ptrV L.b, strV name] [] (fun u => Glob u ∧ IT u L t) (fun o : Option Plot => ptrO o) (fun _ => []) (fun o => Late (fun u => IT u L t) (fun u => IsO u o (t.drop name)))
abbrev dropZ (u : World) (k' : Kids) (z : (Option Addr × Nat) × (Option Addr × Nat) × List Plot) : Prop := Sl kBy u z.1.1 z.1.2 k'.bytes ∧ Sl kP u z.2.1.1 z.2.1.2 z.2.2 ∧ IK u z.2.2 k'
set_option maxHeartbeats 600000 in
theorem drop_go (s r : Str) (v : Option Sum) (k : Kids) (hw : (Tree.node s v k).wf) (hl0 : (Tree.node s v k).low 1000) {M : Nat} (hM : M ≤ 900000000) (hm : (Tree.node s v k).many ≤ M) (hg : ((Tree.node s v k).get (s ++ r)).isSome = true)
  (ih : ∀ t : Tree, t.wf → t.low 1000 → t.many ≤ M → ∀ c r', r = c :: r' → (t.get r').isSome = true → DropOk t r')
  (v' : Option Sum) (k' : Kids) (hvk : (r = [] ∧ v' = none ∧ k' = k) ∨ ∃ c r', r = c :: r' ∧ v' = v ∧ k' = k.drop c r') (L : Plot) :
  Does Tryz.prog tb 95 [ptrV L.b, strV (s ++ r)] [] (fun u => Glob u ∧ IT u L (.node s v k)) (fun o : Option Plot => ptrO o) (fun _ => []) (fun o => Late (fun u => IT u L (.node s v k)) (fun u => IsO u o ((Tree.node s v k).drop (s ++ r)))) := by
 have hl : lim = 140737488351232 := rfl
 have hkw : k.wf := by unfold Tree.wf at hw; exact hw.1
 have hlen := kbL hkw
 have hk2 : ∀ (c : UInt8) (r' : Str), (s ++ c :: r').getD s.length 0 = c ∧ (s ++ c :: r').drop (s.length + 1) = r' := fun c r' => ⟨by simp, by rw [← List.drop_drop, List.drop_left]; rfl⟩
 have hdrop : (Tree.node s v k).drop (s ++ r) = joinT s v' k' := by
  unfold Tree.drop
  rcases hvk with ⟨rfl, rfl, rfl⟩ | ⟨c, r', rfl, rfl, rfl⟩
  ·rw [if_pos (by simp)]
  ·rw [if_neg (by simp), (hk2 c r').1, (hk2 c r').2]
 have hall := drop_all hw hg
 rw [hdrop] at hall
 have hlowJ : lowO 1000 (joinT s v' k') := fun n x hx => by
  rw [hall.2] at hx
  split at hx
  ·cases hx
  ·exact hl0 n x hx
 have hmanyJ : maO (joinT s v' k') ≤ 900000000 := by
  have h1 := many_drop hw hg
  rw [hdrop] at h1
  omega
 have hk'w : k'.wf := by
  rcases hvk with ⟨rfl, rfl, rfl⟩ | ⟨c, r', rfl, rfl, rfl⟩
  ·exact hkw
  ·rw [get_kid] at hg
   exact (kdrop_all hkw hg).1
 have hlen' := kbL hk'w
 have hsl : s.length ≤ 1000 := low_stem hw hl0
 have hnl : (s ++ r).length ≤ 1000 := by
  obtain ⟨x, hx⟩ := Option.isSome_iff_exists.1 hg
  exact hl0 _ x hx
 rw [hdrop]
 refine V.Does.enter0 [(0, ptrAt L.b), (1, strE (s ++ r))] Tryz.func95 rfl Tryz.ntmps95 rfl rfl 0 ?_
 intro m0 K
 refine RH.pure (fun u h => (⟨(YtbfjmimiigjenaaGreatDoor.IT.part h.2.2).kids.len, (YtbfjmimiigjenaaGreatDoor.IT.part h.2.2).to_.ptr0⟩ : L.ps.length = k.bytes.length ∧ (L.ps ≠ [] → Ptr L.B))) fun ⟨hpl, hpB⟩ => ?_
 have hkl := k.len
 refine RH.adv tk [] rfl rfl (by simp <;> omega) ?_
 refine RH.loadS (nodE s v L.A k.bytes.length L.c L.B L.ps.length L.d (Tree.node s v k).many (Tree.node s v k).own) rfl rfl rfl rfl (fun u hu => (YtbfjmimiigjenaaGreatDoor.IT.part hu.fact.2.2).all) ?_
 refine RH.adv tk [] rfl rfl (by simp <;> omega) ?_
 refine RH.loadS (strE s) rfl rfl rfl rfl (fun u hu => (YtbfjmimiigjenaaGreatDoor.IT.part hu.fact.2.2).stem) ?_
 apply RH.joinK (α := (Option Addr × Nat) × (Option Addr × Nat) × List Plot) (fun z => [(5, .av (.box 0 m0 0))]) (fun z => [(0, some (.box m0 (nodF s v' z.1.1 k'.bytes.length z.1.2 z.2.1.1 z.2.2.length z.2.1.2 (Tree.node s v k).many (Tree.node s v k).own) 165))])
  (fun z u => (K u ∧ Glob u ∧ IT u L (.node s v k)) ∧ Late (fun u => IT u L (.node s v k)) (fun u => dropZ u k' z) m0 u)
 ·rcases hvk with ⟨rfl, rfl, rfl⟩ | ⟨c, r', rfl, rfl, rfl⟩
  ·refine RH.adv tk [true] rfl rfl (by simp <;> omega) ?_
   refine RH.read (sumE Sum.zero) rfl rfl rfl rfl (fun w' a _ hag => ?_) ?_
   ·simp only [execOp, List.map_toArray, List.map_nil, buZ, Sem.run_bind, Result.andThen_ok, Sem.run_pure]
    rfl
   refine V.RH.advN 5 tk [] rfl rfl (by simp <;> omega) ?_
   exact RH.mtS ((L.A, L.c), (L.B, L.d), L.ps) [] (.head _) rfl rfl rfl fun u h => ⟨h, fun w' hw' hp => ⟨(YtbfjmimiigjenaaGreatDoor.IT.part hp).by_, (YtbfjmimiigjenaaGreatDoor.IT.part hp).to_, (YtbfjmimiigjenaaGreatDoor.IT.part hp).kids⟩⟩
  ·rw [get_kid] at hg
   have g1 : List.getD (s ++ c :: r') ((s.length : Int)).toNat 0 = c := by rw [Int.toNat_natCast]; exact (hk2 c r').1
   have hd0 : (s ++ c :: r').drop ((s.length : Int)).toNat = c :: r' := by rw [Int.toNat_natCast, List.drop_left]
   refine RH.adv tk [false] rfl rfl (by simp <;> omega) ?_
   refine RH.loadS (strE s) rfl rfl rfl rfl (fun u hu => (YtbfjmimiigjenaaGreatDoor.IT.part hu.fact.2.2).stem) ?_
   refine RH.adv tk [] rfl rfl (by simp <;> omega) ?_
   rw [hd0]
   have g0 : List.getD (c :: r') (Int.toNat 0) 0 = c := rfl
   rw [g0]
   have hB : isB k.bytes c = true := by
    cases hb : isB k.bytes c with
    | true => rfl
    | false =>
     have := ((kget_pos (n := r') hkw).2 hb).1
     rw [this] at hg; cases hg
   obtain ⟨hpos, hget⟩ := (kget_pos (n := r') hkw).1 hB
   have hpos' : posB k.bytes c < L.ps.length := by omega
   rw [hget] at hg
   obtain ⟨_, hdS, hdN⟩ := kdrop_is r' hkw hB
   have hkd := (kid_at hkw (posB k.bytes c) hpos (by omega)).1
   have hkm := many_kid (k := k) (posB k.bytes c) hpos
   have hkm2 : k.many ≤ M := by
    have : (if v'.isSome = true then 1 else 0) + k.many ≤ M := hm
    omega
   refine RH.gives (ho := rfl) (hw := rfl) (hd := rfl) (hf := rfl) (hes := rfl) (hc := Tryz.call168) (e := .av (.val (.tuple #[intV (posB k.bytes c), .bool (isB k.bytes c)]))) (hC := fun u hu => branch_spec L.b c s v' k L.A L.c L.B L.d L.ps _ _ u (YtbfjmimiigjenaaGreatDoor.IT.part hu.fact.2.2) hlen) ?_
   intro m2 hm2
   refine RH.adv tk [] rfl rfl (by simp <;> omega) ?_
   refine RH.tell [(0, ptrAt L.b), (5, .av (.box 0 m0 0)), (6, strE (c :: r')), (7, intE (posB k.bytes c))] [(0, some (.box m0 (nodF s v' L.A k.bytes.length L.c L.B L.ps.length L.d (Tree.node s v' k).many (Tree.node s v' k).own) 165))] [] rfl rfl rfl 1 ?_
   refine RH.draw rfl [] rfl 11 rfl rfl ?_
   refine RD.adv tk (by kernel_rfl) [] rfl rfl (by simp <;> omega) ?_
   refine RD.load (by kernel_rfl) (i := 3) (slE L.B L.ps.length L.d) rfl rfl rfl rfl rfl rfl (fun w' h => (YtbfjmimiigjenaaGreatDoor.IT.part h.2.2).lto) ?_
   refine RD.adv tk (by kernel_rfl) [] rfl rfl (by simp [hpB (fun e => by rw [e] at hpos'; cases hpos')] <;> omega) ?_
   refine RD.load (by kernel_rfl) (i := 6) (ptrAt L.ps[posB k.bytes c].b) rfl rfl rfl rfl rfl rfl (fun w' h => (YtbfjmimiigjenaaGreatDoor.IT.part h.2.2).to_.load hpos') ?_
   refine RD.adv tk (by kernel_rfl) [] rfl rfl (by simp <;> omega) ?_
   have hd1 : (c :: r').drop (Int.toNat 1) = r' := rfl
   rw [hd1]
   refine RD.doB (i := 9) [] 2 (fun o : Option Plot => .av (.val (ptrO o))) rfl (by kernel_rfl) rfl rfl rfl rfl Tryz.call95 (ih _ hkd (low_kid hw hl0 _ hpos) (by omega) c r' rfl hg L.ps[posB k.bytes c]) rfl rfl (fun _ => rfl) (fun _ => rfl) (fun u hu => ⟨hu.fact.2.1, (YtbfjmimiigjenaaGreatDoor.IT.part hu.fact.2.2).kids.at _ hpos' hpos⟩) (fun _ => rfl) (fun _ h => h) ?_
   rintro o m3 hm3
   refine RD.adv tk (by kernel_rfl) [] rfl rfl (by simp <;> omega) ?_
   refine RD.done (.inl rfl) (by kernel_rfl) ?_
   have hkid : ∀ u, IT u L (.node s v' k) → IT u (L.ps[posB k.bytes c]'hpos') (k.trees[posB k.bytes c]'hpos) := fun u h => (YtbfjmimiigjenaaGreatDoor.IT.part h).kids.at _ hpos' hpos
   refine RH.pure (fun u hu => (⟨u, hu.2.now (hkid u hu.1.2.2)⟩ : ∃ u, IsO u o ((k.trees[posB k.bytes c]'hpos).drop r'))) ?_
   rintro ⟨u0, hso⟩
   refine RH.adv tk [] rfl rfl (by simp <;> omega) ?_
   refine RH.read (.av (.val (.bool (!(o.map fun L => (⟨L.b, 0, none⟩ : Addr)).isNone)))) rfl rfl rfl rfl (fun u q _ ha => op_neqPtr ha rfl rfl rfl rfl) ?_
   cases htd : (k.trees[posB k.bytes c]).drop r' with
   | some t' =>
    rw [htd] at hso
    obtain ⟨he1, he2⟩ := hdS t' htd
    cases o with
    | none => exact hso.elim
    | some L2 =>
     refine RH.adv tk [true] rfl rfl (by simp <;> omega) ?_
     refine RH.loadS (slE L.B L.ps.length L.d) rfl rfl rfl rfl (fun u hu => (YtbfjmimiigjenaaGreatDoor.IT.part hu.fact.1.2.2).lto) ?_
     refine RH.adv tk [] rfl rfl (by simp <;> omega) ?_
     refine RH.doB [] 4 (hc := Tryz.call169) (ho := rfl) (hw := rfl) (hd := rfl) (hf := rfl) (hes := rfl) (hσ := rfl) (hn := rfl) (hV := fun _ => rfl) (hG := fun _ => rfl) (e := fun y : Option Addr × Nat => rowS 2 y.1 L.ps.length y.2) (hC := replaced_spec L.B L.d L.ps (posB k.bytes c) L2 hpos' (by omega)) (hp := fun u hu => (YtbfjmimiigjenaaGreatDoor.IT.part hu.fact.1.2.2).to_) ?_
     rintro ⟨B1, d1⟩ m4 hm4
     refine RH.drop ?_
     refine V.RH.advN 3 tk [] rfl rfl (by simp <;> omega) ?_
     refine RH.free (i := 2) rfl ?_
     refine RH.mtS ((L.A, L.c), (B1, d1), L.ps.set (posB k.bytes c) L2) [] (.head _) rfl (by rw [he1, List.length_set]; rfl) rfl fun u h => ⟨h.1.1, fun w' hw' hp => ⟨?_, ?_, ?_⟩⟩
     ·rw [he1]; exact (YtbfjmimiigjenaaGreatDoor.IT.part hp).by_
     ·exact Sl.own (hoL h.2 hw') (by rw [List.length_set]; omega)
     ·exact YtbfjmimiigjenaaGreatDoor.IK.set (YtbfjmimiigjenaaGreatDoor.IT.part hp).kids he2 (h.1.2.up (m := m0) (by omega) hw' (hkid w' hp))
   | none =>
    rw [htd] at hso
    obtain ⟨he1, he2⟩ := hdN htd
    cases o with
    | some L2 => exact hso.elim
    | none =>
     refine RH.adv tk [false] rfl rfl (by simp <;> omega) ?_
     have hel : (k.bytes.eraseIdx (posB k.bytes c)).length ≤ lim := by rw [List.length_eraseIdx]; split <;> omega
     have help : (L.ps.eraseIdx (posB k.bytes c)).length ≤ lim := by rw [List.length_eraseIdx]; split <;> omega
     refine RH.draw rfl [] rfl 22 rfl rfl ?_
     refine RD.adv tk (by kernel_rfl) [] rfl rfl (by simp <;> omega) ?_
     refine RD.load (by kernel_rfl) (i := 3) (slE L.A k.bytes.length L.c) rfl rfl rfl rfl rfl rfl (fun w' h => (YtbfjmimiigjenaaGreatDoor.IT.part h.1.2.2).lby) ?_
     refine RD.load (by kernel_rfl) (i := 12) (slE L.B L.ps.length L.d) rfl rfl rfl rfl rfl rfl (fun w' h => (YtbfjmimiigjenaaGreatDoor.IT.part h.1.2.2).lto) ?_
     refine RD.adv tk (by kernel_rfl) [] rfl rfl (by simp <;> omega) ?_
     refine RD.doB (i := 4) [] 4 (fun y : Option Addr × Nat => rowS 2 y.1 k.bytes.length y.2) rfl (by kernel_rfl) rfl rfl rfl rfl Tryz.call90 (cloneB L.A L.c k.bytes (by omega)) rfl rfl (fun _ => rfl) (fun _ => rfl) (fun u hu => (YtbfjmimiigjenaaGreatDoor.IT.part hu.fact.1.2.2).by_) (fun _ => rfl) (fun _ h => h) ?_
     rintro ⟨A1, c1⟩ m4 hm4
     refine RD.adv tk (by kernel_rfl) [] rfl rfl (by simp <;> omega) ?_
     refine RD.doB (i := 8) [(0, 2)] 6 (fun _ : Unit => rowS 2 A1 (k.bytes.eraseIdx (posB k.bytes c)).length c1) rfl (by kernel_rfl) rfl rfl rfl rfl Tryz.call170 (DeleteB_spec A1 c1 k.bytes (posB k.bytes c) (by omega) (by omega)) rfl rfl (fun _ => rfl) (fun _ => rfl) (fun u hu => trivial) (fun _ => rfl) (fun _ h => h.1) ?_
     rintro ⟨⟩ m5 hm5
     refine RD.adv tk (by kernel_rfl) [] rfl rfl (by simp <;> omega) ?_
     refine RD.doB (i := 13) [] 8 (fun y : Option Addr × Nat => rowS 6 y.1 L.ps.length y.2) rfl (by kernel_rfl) rfl rfl rfl rfl Tryz.call172 (cloneP L.B L.d L.ps (by omega)) rfl rfl (fun _ => rfl) (fun _ => rfl) (fun u hu => (YtbfjmimiigjenaaGreatDoor.IT.part hu.fact.1.1.1.2.2).to_) (fun _ => rfl) (fun _ h => h.1.1) ?_
     rintro ⟨B1, d1⟩ m6 hm6
     refine RD.adv tk (by kernel_rfl) [] rfl rfl (by simp <;> omega) ?_
     refine RD.doB (i := 17) [(0, 6)] 10 (fun _ : Unit => rowS 6 B1 (L.ps.eraseIdx (posB k.bytes c)).length d1) rfl (by kernel_rfl) rfl rfl rfl rfl Tryz.call171 (DeleteP_spec B1 d1 L.ps (posB k.bytes c) (by omega) (by omega)) rfl rfl (fun _ => rfl) (fun _ => rfl) (fun u hu => trivial) (fun _ => rfl) (fun _ h => h.1.1.1) ?_
     rintro ⟨⟩ m7 hm7
     refine RD.adv tk (by kernel_rfl) [] rfl rfl (by simp <;> omega) ?_
     refine RD.step tk (nx := 10) (i := 19) rfl (by kernel_rfl) rfl rfl rfl ?_ rfl (fun _ h => h.1.1.1.1) rfl ?_
     ·first | trivial | (simp; done)
     refine RD.adv tk (by kernel_rfl) [] rfl rfl (by simp <;> omega) ?_
     refine RD.lastOp (i := 21) tk rfl (by kernel_rfl) rfl (by kernel_rfl) (by kernel_rfl) rfl rfl ?_ (Nat.le_refl _) rfl ?_
     ·first | trivial | (simp; done)
     intro m8 hm8
     refine RH.free (i := 2) rfl ?_
     refine RH.free (i := 6) rfl ?_
     refine RH.mtS ((A1, c1), (B1, d1), L.ps.eraseIdx (posB k.bytes c)) [] (.head _) rfl (by rw [he1]; rfl) rfl fun u h => ⟨h.1.1.1.1.1.1.1, fun w' hw' hp => ⟨?_, ?_, ?_⟩⟩
     ·rw [he1]; exact Sl.own (hoL h.1.2 hw') hel
     ·exact Sl.own (hoL h.2 hw') help
     ·exact YtbfjmimiigjenaaGreatDoor.IK.del (YtbfjmimiigjenaaGreatDoor.IT.part hp).kids hpos he2
 rintro ⟨⟨A1, c1⟩, ⟨B1, d1⟩, ps1⟩ m1
 refine RH.toNx 1 ?_
 refine RH.pure (fun u h => (⟨(h.2.now h.1.2.2).2.2.len, (h.2.now h.1.2.2).2.1.ptr0⟩ : ps1.length = k'.bytes.length ∧ (ps1 ≠ [] → Ptr B1))) fun ⟨hpl1, hpB1⟩ => ?_
 have hz : ∀ u, (K u ∧ Glob u ∧ IT u L (.node s v k)) ∧ Late (fun u => IT u L (.node s v k)) (fun u => dropZ u k' ((A1, c1), (B1, d1), ps1)) m0 u → dropZ u k' ((A1, c1), (B1, d1), ps1) := fun u h => h.2.now h.1.2.2
 cases v' with
 | some x =>
  refine RH.adv tk [true] rfl rfl (by simp <;> omega) ?_
  have hmy : (Tree.node s (some x) k').many ≤ 1000000000 := by
   have h1 : maO (joinT s (some x) k') = (Tree.node s (some x) k').many := rfl
   omega
  refine RH.doB [] 5 (hc := Tryz.call173) (ho := rfl) (hw := rfl) (hd := rfl) (hf := rfl) (hes := rfl) (hσ := rfl) (hn := rfl) (hV := fun _ => rfl) (hG := fun _ => rfl) (e := fun b' : Nat => ptrAt b') (hC := made_spec s (some x) k' A1 c1 B1 d1 ps1 (Tree.node s v k).many (Tree.node s v k).own hlen' hsl hmy) (hp := fun u hu => ⟨hu.fact.1.2.1, hz u hu.fact⟩) ?_
  rintro b' m3 hm3
  refine RH.drop ?_
  dsimp only
  refine RH.free (i := 1) rfl ?_
  refine RH.adv tk [] rfl rfl (by simp <;> omega) ?_
  refine RH.ret1 Tryz.func95 rfl rfl fun w hst => ⟨some (.node b' A1 c1 B1 d1 ps1), rfl, hst.out [] rfl rfl fun u h => ⟨h.1.1.1, fun v' hv hp => ?_⟩⟩
  have h3 := h.1.2.up (Nat.le_refl _) hv hp
  exact YtbfjmimiigjenaaGreatDoor.Part.tree (A := A1) (c := c1) (B := B1) (d := d1) (ps := ps1) ⟨box_node (hoL h.2 hv), h3.1, h3.2.1, h3.2.2⟩
 | none =>
  cases k' with
  | nil =>
   refine RH.adv tk [false, false, true] rfl rfl (by simp [Kids.bytes] <;> omega) ?_
   refine RH.ret1 Tryz.func95 rfl rfl fun w hst => ⟨none, rfl, hst.out [] rfl rfl fun u h => ⟨h.1.1, fun v' hv hp => trivial⟩⟩
  | cons e t1 r1 =>
   cases r1 with
   | cons e2 t2 r2 =>
    have hn2 : (1 : Int) < ((Kids.cons e t1 (.cons e2 t2 r2)).bytes.length : Nat) := by simp only [Kids.bytes, List.length_cons]; omega
    refine RH.adv tk [false, true] rfl rfl (by simp [hn2]) ?_
    have hmy : (Tree.node s none (.cons e t1 (.cons e2 t2 r2))).many ≤ 1000000000 := by
     rw [joinT_many] at hmanyJ
     omega
    refine RH.doB [] 5 (hc := Tryz.call173) (ho := rfl) (hw := rfl) (hd := rfl) (hf := rfl) (hes := rfl) (hσ := rfl) (hn := rfl) (hV := fun _ => rfl) (hG := fun _ => rfl) (e := fun b' : Nat => ptrAt b') (hC := made_spec s none (.cons e t1 (.cons e2 t2 r2)) A1 c1 B1 d1 ps1 (Tree.node s v k).many (Tree.node s v k).own hlen' hsl hmy) (hp := fun u hu => ⟨hu.fact.1.2.1, hz u hu.fact⟩) ?_
    rintro b' m3 hm3
    refine RH.drop ?_
    dsimp only
    refine RH.free (i := 1) rfl ?_
    refine RH.adv tk [] rfl rfl (by simp <;> omega) ?_
    refine RH.ret1 Tryz.func95 rfl rfl fun w hst => ⟨some (.node b' A1 c1 B1 d1 ps1), rfl, hst.out [] rfl rfl fun u h => ⟨h.1.1.1, fun v' hv hp => ?_⟩⟩
    have h3 := h.1.2.up (Nat.le_refl _) hv hp
    have hj2 : joinT s none (.cons e t1 (.cons e2 t2 r2)) = some (.node s none (.cons e t1 (.cons e2 t2 r2))) := by cases t1; rfl
    rw [hj2]
    exact YtbfjmimiigjenaaGreatDoor.Part.tree (A := A1) (c := c1) (B := B1) (d := d1) (ps := ps1) ⟨box_node (hoL h.2 hv), h3.1, h3.2.1, h3.2.2⟩
   | nil =>
    have hps : ps1 ≠ [] := fun e => by rw [e] at hpl1; simp [Kids.bytes] at hpl1
    refine RH.adv tk [false, false, false] rfl rfl (by simp [Kids.bytes, hpB1 hps, hpl1] <;> omega) ?_
    cases t1 with
    | node s2 v2 k2 =>
    have h0 : 0 < ps1.length := by rw [hpl1]; simp [Kids.bytes]
    have h0t : 0 < (Kids.cons e (.node s2 v2 k2) .nil).trees.length := by simp [Kids.trees]
    have hnod : ∀ u, dropZ u (.cons e (.node s2 v2 k2) .nil) ((A1, c1), (B1, d1), ps1) → IT u ps1[0] (.node s2 v2 k2) := fun u h => h.2.2.at 0 h0 h0t
    have hj : joinT s none (.cons e (.node s2 v2 k2) .nil) = some (.node (s ++ e :: s2) v2 k2) := rfl
    refine RH.loadS (ptrAt ps1[0].b) rfl rfl rfl rfl (fun u hu => (hz u hu.fact).2.1.load h0) ?_
    refine RH.adv tk [] rfl rfl (by simp <;> omega) ?_
    refine RH.loadS (nodE s2 v2 ps1[0].A k2.bytes.length ps1[0].c ps1[0].B ps1[0].ps.length ps1[0].d (Tree.node s2 v2 k2).many (Tree.node s2 v2 k2).own) rfl rfl rfl rfl (fun u hu => (YtbfjmimiigjenaaGreatDoor.IT.part (hnod u (hz u hu.fact))).all) ?_
    refine RH.adv tk [] rfl rfl (by simp <;> omega) ?_
    rw [hj] at hall hlowJ hmanyJ
    have hst := low_stem hall.1 hlowJ
    have hk2w : k2.wf := by have := hall.1; unfold wfO Tree.wf at this; exact this.1
    have hsa : s ++ [e] ++ s2 = s ++ e :: s2 := by simp
    have hmy : (Tree.node (s ++ e :: s2) v2 k2).many ≤ 1000000000 := by
     have : (Tree.node (s ++ e :: s2) v2 k2).many ≤ 900000000 := hmanyJ
     omega
    have hst2 : s.length + (s2.length + 1) ≤ 1000 := by rw [List.length_append, List.length_cons] at hst; exact hst
    refine RH.go rfl rfl (OpGo.byteStr (l := [e]) rfl rfl rfl (by simp) fun u hu => (hz u hu.fact).1) 5 ?_
    rintro ⟨⟩ m3 hm3
    refine RH.adv tk [] rfl rfl (by simp <;> omega) ?_
    rw [hsa, hj]
    refine RH.doB [] 9 (hc := Tryz.call173) (ho := rfl) (hw := rfl) (hd := rfl) (hf := rfl) (hes := rfl) (hσ := rfl) (hn := rfl) (hV := fun _ => rfl) (hG := fun _ => rfl) (e := fun b' : Nat => ptrAt b') (hC := made_spec (s ++ e :: s2) v2 k2 ps1[0].A ps1[0].c ps1[0].B ps1[0].d ps1[0].ps (Tree.node s2 v2 k2).many (Tree.node s2 v2 k2).own (kbL hk2w) hst hmy) (hp := fun u hu => ⟨hu.fact.1.2.1, (YtbfjmimiigjenaaGreatDoor.IT.part (hnod u (hz u hu.fact))).by_, (YtbfjmimiigjenaaGreatDoor.IT.part (hnod u (hz u hu.fact))).to_, (YtbfjmimiigjenaaGreatDoor.IT.part (hnod u (hz u hu.fact))).kids⟩) ?_
    rintro b' m4 hm4
    refine RH.drop ?_
    dsimp only
    refine RH.free (i := 5) rfl ?_
    refine RH.adv tk [] rfl rfl (by simp <;> omega) ?_
    refine RH.ret1 Tryz.func95 rfl rfl fun w hst => ⟨some (.node b' ps1[0].A ps1[0].c ps1[0].B ps1[0].d ps1[0].ps), rfl, hst.out [] rfl rfl fun u h => ⟨h.1.1.1, fun v' hv hp => ?_⟩⟩
    have h3 := YtbfjmimiigjenaaGreatDoor.IT.part (hnod v' (h.1.2.up (Nat.le_refl _) hv hp))
    exact YtbfjmimiigjenaaGreatDoor.Part.tree (A := ps1[0].A) (c := ps1[0].c) (B := ps1[0].B) (d := ps1[0].d) (ps := ps1[0].ps) ⟨box_node (hoL h.2 hv), h3.by_, h3.to_, h3.kids⟩
theorem DropOk.all {M : Nat} (hM : M ≤ 900000000) : ∀ (n : Nat) (name : Str), name.length ≤ n → ∀ t : Tree, t.wf → t.low 1000 → t.many ≤ M → (t.get name).isSome = true → DropOk t name := by
 intro n
 induction n with
 | zero =>
  intro name h0 t hw hl hm hg L
  have : name = [] := List.length_eq_zero_iff.1 (by omega)
  subst this
  cases t with
  | node s v k =>
   obtain ⟨x, hx⟩ := Option.isSome_iff_exists.1 hg
   obtain ⟨r, hr⟩ := get_pre hx
   have hs : s = [] := (List.append_eq_nil_iff.1 hr.symm).1
   subst hs
   have := drop_go [] [] v k hw hl hM hm hg (fun t' _ _ _ c r' h => by cases h) none k (.inl ⟨rfl, rfl, rfl⟩) L
   exact this
 | succ n ih =>
  intro name h0 t hw hl hm hg L
  cases t with
  | node s v k =>
   obtain ⟨x, hx⟩ := Option.isSome_iff_exists.1 hg
   obtain ⟨r, rfl⟩ := get_pre hx
   cases r with
   | nil => exact drop_go s [] v k hw hl hM hm hg (fun t' _ _ _ c r' h => by cases h) none k (.inl ⟨rfl, rfl, rfl⟩) L
   | cons c r =>
    refine drop_go s (c :: r) v k hw hl hM hm hg (fun t' h1 h2 h3 c' r' h h4 => ?_) v (k.drop c r) (.inr ⟨c, r, rfl, rfl, rfl⟩) L
    injection h with e1 e2
    subst e2
    exact ih r (by simp at h0; omega) t' h1 h2 h3 h4
theorem drop_ok (po : Option Plot) (t : Option Tree) (ht : okO t) (hl : lowO 1000 t) (name : Str) (hg : (getO t name).isSome = true) :
  Does Tryz.prog tb 95 [ptrO po, strV name] [] (fun u => Glob u ∧ IsO u po t) (fun o : Option Plot => ptrO o) (fun _ => []) (fun o => Late (fun u => IsO u po t) (fun u => IsO u o (dropO t name))) := by
 cases t with
 | none => cases hg
 | some t =>
  cases po with
  | none =>
   intro B0 w K hst hp
   exact ((hp w hst.fact).2).elim
  | some L => exact DropOk.all (M := 900000000) (Nat.le_refl _) name.length name (Nat.le_refl _) t ht.1 hl ht.2.2 hg L
theorem find_isSome {w : World} {po : Option Plot} {t : Option Tree} (h : IsO w po t) (ht : okO t) (name : Str) : (findO po t name).isSome = (getO t name).isSome := by
 have hs := findO_spec h ht name
 cases hf : findO po t name with
 | none =>
  rw [hf] at hs
  have hs : getO t name = none := hs
  rw [hs]; rfl
 | some L => rw [hf] at hs; obtain ⟨_, v, _, _, hg⟩ := hs; rw [hg]; rfl
theorem Drop_none (w : World) (po : Option Plot) (t : Option Tree) (h : IsO w po t) (ht : okO t) (name : Str) (hn : name.length ≤ 1000) (hg : getO t name = none) : Gives Tryz.prog 22 [(mapE po).v, strV name] w (.av (.val (.tuple #[.agg #[.pointer none], intV 6]))) := by
 have hs := findO_spec h ht name
 refine enterH tk [(0, mapE po), (1, strE name)] Tryz.func22 rfl Tryz.ntmps22 rfl rfl ?_
 refine RH.adv tk [] rfl rfl (by simp <;> omega) ?_
 refine RH.gives (ho := rfl) (hw := rfl) (hd := rfl) (hf := rfl) (hes := rfl) (hc := Tryz.call93) (e := .av (.val (ptrO (findO po t name)))) (hC := fun u hu => get_ok u po t (h.ext hu.fact) ht name hn) ?_
 intro m1 hm1
 cases hf : findO po t name with
 | some L =>
  rw [hf] at hs
  obtain ⟨s, v, k, hL, hg2⟩ := hs
  rw [hg] at hg2; cases hg2
 | none =>
  refine RH.read (.av (.val (.bool (none : Option Addr).isNone))) rfl rfl rfl rfl (fun u q _ ha => opP ha rfl rfl rfl rfl) ?_
  refine RH.adv tk [true] rfl rfl (by simp <;> omega) ?_
  exact RH.retBoxT tk (.st [.val (.pointer none)]) Tryz.func22 rfl rfl rfl rfl rfl fun w' hst => ⟨rfl, hst.fact⟩
theorem Drop_ok (po : Option Plot) (t : Option Tree) (ht : okO t) (hl : lowO 1000 t) (name : Str) (hn : name.length ≤ 1000) (hg : (getO t name).isSome = true) :
  Does Tryz.prog tb 22 [(mapE po).v, strV name] [] (fun u => Glob u ∧ IsO u po t) (fun o : Option Plot => .tuple #[.agg #[ptrO o], intV 0]) (fun _ => []) (fun o => Late (fun u => IsO u po t) (fun u => IsO u o (dropO t name))) := by
 refine V.Does.enter0 [(0, mapE po), (1, strE name)] Tryz.func22 rfl Tryz.ntmps22 rfl rfl 0 ?_
 intro m0 K
 refine RH.pure (fun u hu => (find_isSome hu.2.2 ht name : (findO po t name).isSome = (getO t name).isSome)) fun hs => ?_
 rw [hg] at hs
 have hz31 : (Tryz.t31).size = 1 := by kernel_rfl
 refine RH.adv tk [] rfl rfl (by simp <;> omega) ?_
 refine RH.gives (ho := rfl) (hw := rfl) (hd := rfl) (hf := rfl) (hes := rfl) (hc := Tryz.call93) (e := .av (.val (ptrO (findO po t name)))) (hC := fun u hu => get_ok u po t hu.fact.2.2 ht name hn) ?_
 intro m1 hm1
 cases hf : findO po t name with
 | none =>
  rw [hf] at hs; cases hs
 | some L =>
  refine RH.read (.av (.val (.bool (some (⟨L.b, 0, none⟩ : Addr)).isNone))) rfl rfl rfl rfl (fun u q _ ha => opP ha rfl rfl rfl rfl) ?_
  refine RH.adv tk [false] rfl rfl (by simp <;> omega) ?_
  refine RH.doB [] 5 (hc := Tryz.call95) (ho := rfl) (hw := rfl) (hd := rfl) (hf := rfl) (hes := rfl) (hσ := rfl) (hn := rfl) (hV := fun _ => rfl) (hG := fun _ => rfl) (e := fun o : Option Plot => .av (.val (ptrO o))) (hC := drop_ok po t ht hl name hg) (hp := fun u hu => hu.fact.2) ?_
  rintro o m2 hm2
  refine RH.adv tk [] rfl rfl (by simp [hz31, Value.oneCell'] <;> omega) ?_
  exact RH.retBoxT tk (mapE o) Tryz.func22 rfl rfl rfl rfl rfl fun w' hst => ⟨o, rfl, hst.out [] rfl rfl fun u h => ⟨h.1.1, fun v hv hp => h.2.up (by omega) hv hp⟩⟩
abbrev entF (e : Str × Sum) : List AV := [.val (strV e.1), .val (sumV e.2)]
def below1 (p : Str) (e : Str × Sum) : List (Str × Sum) := if hasPre e.1 p = true then [(cutS e.1 p, e.2)] else []
def belowL (p : Str) (l : List (Str × Sum)) : List (Str × Sum) := l.flatMap (below1 p)
theorem below_len (p : Str) : ∀ l, (belowL p l).length ≤ l.length
 | [] => Nat.le_refl _
 | x :: r => by
  have := below_len p r
  unfold belowL at this ⊢
  rw [List.flatMap_cons, List.length_append, List.length_cons]
  have : (below1 p x).length ≤ 1 := by unfold below1; split <;> simp
  omega
theorem cutS_len (s p : Str) : (cutS s p).length ≤ s.length := by
 unfold cutS
 split
 ·rw [List.length_drop]; omega
 ·exact Nat.le_refl _
theorem below_short {N : Nat} {p : Str} {l : List (Str × Sum)} (h : ∀ e ∈ l, e.1.length ≤ N) : ∀ e ∈ belowL p l, e.1.length ≤ N := by
 intro e he
 unfold belowL at he
 rw [List.mem_flatMap] at he
 obtain ⟨x, hx, hm⟩ := he
 unfold below1 at hm
 split at hm
 ·rw [List.mem_singleton] at hm
  subst hm
  exact Nat.le_trans (cutS_len _ _) (h x hx)
 ·cases hm
theorem ents_short {t : Option Tree} {N : Nat} (ht : okO t) (hl : lowO N t) : ∀ e ∈ enO t, e.1.length ≤ N := by
 intro e he
 have hw : wfO t := by
  cases t with
  | none => trivial
  | some t => exact ht.1
 exact hl e.1 e.2 ((meO hw e.1 e.2).1 he)
theorem ents_many {t : Option Tree} (ht : okO t) : (enO t).length ≤ 900000000 := by
 cases t with
 | none => simp [enO]
 | some t => show (t.ents []).length ≤ _; rw [many_ents]; exact ht.2.2
theorem Below_spec (po : Option Plot) (t : Option Tree) (ht : okO t) (hl : lowO 1000 t) (beg : Str) (hb : beg.length ≤ 1000) :
  Does Tryz.prog tb 31 [(mapE po).v, strV beg] [] (fun u => Glob u ∧ IsO u po t) (fun o : Option Plot => .tuple #[.agg #[ptrO o], intV (if belowL beg (enO t) = [] then 6 else 0)]) (fun _ => []) (fun o => Late (fun _ => True) (fun u => IsO u o (fromO (belowL beg (enO t))))) := by
 have hlim : lim = 140737488351232 := rfl
 have hml := ents_many ht
 have hsh := below_short (p := beg) (ents_short ht hl)
 have hent := entries_O
 refine V.Does.enter0 [(0, mapE po), (1, strE beg)] Tryz.func31 rfl Tryz.ntmps31 rfl rfl 0 ?_
 intro m0 K
 refine RH.adv tk [] rfl rfl (by simp <;> omega) ?_
 refine RH.doB [] 10 (hc := Tryz.call97) (ho := rfl) (hw := rfl) (hd := rfl) (hf := rfl) (hes := rfl) (hσ := rfl) (hn := rfl) (hV := fun _ => rfl) (hG := fun _ => rfl) (e := fun y : Option Addr × Nat => rowS 2 y.1 (enO t).length y.2) (hC := entries_O po t 1000 ht hl (by omega)) (hp := fun u hu => hu.fact.2.2) ?_
 rintro ⟨A1, c1⟩ m1 hm1
 refine RH.drop ?_
 refine RH.adv tk [] rfl rfl (by simp <;> omega) ?_
 dsimp only
 generalize enO t = l at *
 have hlen := below_len beg l
 refine RH.nilrow 50 kEnt.T kEnt.sz 51 ?_
 refine RH.loop (α := Nat × (Option Addr × Nat)) (fun y => [(1, strE beg), (4, .av (.box 1 (m0 + 1) 0)), (13, rowS 2 A1 l.length c1), (14, intE l.length), (15, intE y.1), (6, rowS 50 y.2.1 (belowL beg (l.take y.1)).length y.2.2)]) (fun y => [(1, some (.box (m0 + 1) [.val (.pointer none)] 31)), (2, rowE kEnt A1 c1 l), (50, rowE kEnt y.2.1 y.2.2 (belowL beg (l.take y.1)))]) (fun y u => (K u ∧ Glob u) ∧ y.1 ≤ l.length) (fun y => l.length - y.1) (0, (none, 0)) rfl rfl (fun u hu => ⟨⟨hu.1, hu.2.1⟩, Nat.zero_le _⟩) ?_
 rintro ⟨i, A2, c2⟩ m2
 refine RH.pure (fun u hu => hu.2) fun hi => ?_
 dsimp only at hi ⊢
 by_cases hlt : i < l.length
 ·have hts : belowL beg (l.take (i + 1)) = belowL beg (l.take i) ++ below1 beg l[i] := by
   rw [List.take_succ_eq_append_getElem hlt]; unfold belowL; rw [List.flatMap_append, List.flatMap_cons, List.flatMap_nil, List.append_nil]
  have hlt2 := below_len beg (l.take i)
  rw [List.length_take] at hlt2
  refine RH.pureS (fun u hu => hu.ptr (id := 2) (κ := kEnt) (l := l) rfl (by intro e; rw [e] at hlt; cases hlt)) fun hptr => ?_
  refine RH.adv tk [true] rfl rfl (by simp [hptr] <;> omega) ?_
  refine RH.loadS (.st [.val (strV l[i].1), .val (sumV l[i].2)]) rfl rfl rfl rfl (fun u hu => (Sl.own (B := m0) (hu.row (κ := kEnt) (l := l) (id := 2) rfl) (by omega)).load hlt) ?_
  refine RH.adv tk [] rfl rfl (by simp) ?_
  refine RH.gives (ho := rfl) (hw := rfl) (hd := rfl) (hf := rfl) (hes := rfl) (hc := Tryz.call32) (e := cutV l[i].1 beg) (hC := fun u _ => CutPre_spec u _ _) ?_
  intro m3 hm3
  by_cases hp : hasPre l[i].1 beg = true
  ·have hb1 : below1 beg l[i] = [(cutS l[i].1 beg, l[i].2)] := by unfold below1; rw [if_pos hp]
   rw [hb1] at hts
   refine RH.adv tk [true] rfl rfl (by simp [hp]) ?_
   refine RH.apK (κ := kEnt) (id := 50) (l := belowL beg (l.take i)) (r := [(cutS l[i].1 beg, l[i].2)]) rfl rfl rfl rfl rfl rfl elt_ent rfl rfl (fun u hu => hu.liR (κ := kEnt) (l := [(cutS l[i].1 beg, l[i].2)]) (id := 52) rfl (by simp [hlim])) (by simp; omega) (by simp [hlim]; omega) ?_
   intro A3 c3 m4 hm4
   rw [← hts]
   refine RH.adv tk [] rfl rfl (by simp <;> omega) ?_
   exact RH.again (i + 1, (A3, c3)) (.head _) rfl rfl (by show l.length - (i + 1) < l.length - i; omega) fun u hu => ⟨hu.1, hlt⟩
  ·have hb1 : below1 beg l[i] = [] := by unfold below1; rw [if_neg hp]
   rw [hb1, List.append_nil] at hts
   refine RH.adv tk [false] rfl rfl (by simp [hp] <;> omega) ?_
   rw [← hts]
   exact RH.again (i + 1, (A2, c2)) (.head _) rfl rfl (by show l.length - (i + 1) < l.length - i; omega) fun u hu => ⟨hu.1, hlt⟩
 ·have hi' : i = l.length := by omega
  subst hi'
  rw [List.take_length]
  cases hbl : belowL beg l with
  | nil =>
   refine RH.adv tk [false, true] rfl rfl (by simp) ?_
   exact RH.retBoxT tk (.st [.val (.pointer none)]) Tryz.func31 rfl rfl rfl rfl rfl fun w' hst => ⟨none, rfl, hst.out [] rfl rfl fun u h => ⟨h.1.1, fun v _ _ => trivial⟩⟩
  | cons e0 r0 =>
   have hne : ¬ (e0 :: r0 = []) := by simp
   rw [← hbl]
   have hnl : 0 < (belowL beg l).length := by rw [hbl]; simp
   have hne2 : ¬ belowL beg l = [] := by rw [hbl]; exact hne
   refine RH.above (id := 1) rfl rfl fun hz1 hz2 => ?_
   refine RH.adv tk [false, false] rfl rfl (by simp [hne2] <;> omega) ?_
   refine RH.doB [] 60 (hc := Tryz.call92) (ho := rfl) (hw := rfl) (hd := rfl) (hf := rfl) (hes := rfl) (hσ := rfl) (hn := rfl) (hV := fun _ => rfl) (hG := fun _ => rfl) (e := fun o : Option Plot => mapE o) (hC := from_spec A2 c2 (belowL beg l) hsh (from_okO _ (Nat.le_refl 1000) hsh (by omega))) (hp := fun u hu => ⟨hu.fact.1.2, Sl.own (B := m0) (hu.row (κ := kEnt) (l := belowL beg l) (id := 50) rfl) (by omega)⟩) ?_
   rintro o m5 hm5
   refine RH.adv tk [] rfl rfl (by simp) ?_
   exact RH.retBoxT tk (mapE o) Tryz.func31 rfl rfl rfl rfl rfl fun w' hst => ⟨o, by rw [if_neg (by rw [hbl]; exact hne)]; rfl, hst.out [] rfl rfl fun u h => ⟨h.1.1.1, fun v hv hp => h.2.up (by omega) hv hp⟩⟩
def isN (is : List Str) : List (Str × Value) := is.map fun s => (s, Value.bool true)
def hasN (is : List Str) (x : Str) : Bool := is.any fun s => decide (s = x)
theorem findI_isN (x : Str) : ∀ (is : List Str) (n : Nat), (findI x (isN is) n).isSome = hasN is x ∧ (∀ p, findI x (isN is) n = some p → p.2 = .bool true)
 | [], n => ⟨rfl, fun _ h => by cases h⟩
 | s :: r, n => by
  have ih := findI_isN x r (n + 1)
  unfold isN hasN at *
  rw [List.map_cons, List.any_cons]
  unfold findI
  by_cases h : s = x
  ·simp [h]
  ·have h2 : ¬ x = s := fun e => h e.symm
   simp only [h, h2, decide_false, Bool.false_or, if_false]
   exact ih
theorem getM_isN (is : List Str) (x : Str) : (getM (isN is) x).getD (.bool false) = .bool (hasN is x) := by
 have h := findI_isN x is 0
 unfold getM
 cases hf : findI x (isN is) 0 with
 | none => rw [hf] at h; simp at h; simp [h]
 | some p => rw [hf] at h; simp at h; simp [h]
theorem setM_isN (is : List Str) (x : Str) (hx : hasN is x = false) : setM (isN is) x (.bool true) = isN (is ++ [x]) := by
 have h := (findI_isN x is 0).1
 rw [hx] at h
 unfold setM
 cases hf : findI x (isN is) 0 with
 | none => simp [isN]
 | some p => rw [hf] at h; cases h
theorem und_isN : Tryz.prog.underlying 152 = some (.map 9 4) := tk.und (by kernel_rfl)
theorem zero_boolN : ∀ w, (zeroValue 4).run Tryz.prog w = .ok (.bool false) w := fun w => by
 have hi : Tryz.prog.info? 4 = some Tryz.t4 := tk.get (by kernel_rfl)
 have hz : (Tryz.t4).zero = some (.bool false) := by kernel_rfl
 simp [zeroValue, typeInfo, hi, hz]
def scanN : List Str → List Str → Int
 | _, [] => 0
 | met, n :: r => if 60 < n.length then 11 else if hasN met n = true then 5 else scanN (met ++ [n]) r
def fromE (names : List Str) (sums : List Sum) : Int := if names.length ≠ sums.length then 7 else if 600 < names.length then 12 else scanN [] names
theorem scan_long {met r : List Str} {n : Str} (h : 60 < n.length) : scanN met (n :: r) = 11 := if_pos h
theorem scan_twice {met r : List Str} {n : Str} (h : ¬ 60 < n.length) (h2 : hasN met n = true) : scanN met (n :: r) = 5 := by
 unfold scanN; rw [if_neg h, if_pos h2]
theorem scan_next {met r : List Str} {n : Str} (h : ¬ 60 < n.length) (h2 : ¬ hasN met n = true) : scanN met (n :: r) = scanN (met ++ [n]) r := by
 conv => lhs; unfold scanN
 rw [if_neg h, if_neg h2]
theorem scan_ok : ∀ (r met : List Str), scanN met r = 0 → ∀ n ∈ r, n.length ≤ 60
 | [], _, _, n, h => by cases h
 | a :: r, met, hs, n, h => by
  by_cases h1 : 60 < a.length
  ·rw [scan_long h1] at hs; cases hs
  ·by_cases h2 : hasN met a = true
   ·rw [scan_twice h1 h2] at hs; cases hs
   ·rw [scan_next h1 h2] at hs
    rcases List.mem_cons.1 h with rfl | h
    ·omega
    ·exact scan_ok r _ hs n h
theorem From_spec (A : Option Addr) (c : Nat) (names : List Str) (B : Option Addr) (d : Nat) (sums : List Sum) :
  Does Tryz.prog tb 17 [.slice A names.length c, .slice B sums.length d] [] (fun u => Glob u ∧ Sl kStr u A c names ∧ Sl kSum u B d sums) (fun o : Option Plot => .tuple #[.agg #[ptrO o], intV (fromE names sums)]) (fun _ => [])
   (fun o => Late (fun _ => True) (fun u => IsO u o (if fromE names sums = 0 then fromO (names.zip sums) else none))) := by
 have hlim : lim = 140737488351232 := rfl
 have hz31 : (Tryz.t31).size = 1 := by kernel_rfl
 refine V.Does.enter0 [(0, slE A names.length c), (1, slE B sums.length d)] Tryz.func17 rfl Tryz.ntmps17 rfl rfl 0 ?_
 intro m0 K
 refine RH.pure (fun u h => (⟨h.2.2.1.small, h.2.2.2.small⟩ : names.length ≤ lim ∧ sums.length ≤ lim)) fun ⟨hsn, hss⟩ => ?_
 by_cases h1 : names.length = sums.length
 ·by_cases h2 : 600 < names.length
  ·have he : fromE names sums = 12 := by unfold fromE; rw [if_neg (by simpa using h1), if_pos h2]
   rw [he]
   refine RH.adv tk [false, true] rfl rfl (by simp [hz31, h1] <;> omega) ?_
   exact RH.retBoxT tk (.st [.val (.pointer none)]) Tryz.func17 rfl rfl rfl rfl rfl fun w' hst => ⟨none, rfl, hst.out [] rfl rfl fun u h => ⟨h.1, fun v _ _ => trivial⟩⟩
  ·have he : fromE names sums = scanN [] names := by unfold fromE; rw [if_neg (by simpa using h1), if_neg h2]
   rw [he]
   refine RH.adv tk [false, false] rfl rfl (by simp [hz31, h1] <;> omega) ?_
   refine RH.go rfl rfl (OpGo.makeMap 3 strV rfl) 4 ?_
   rintro ⟨⟩ m1 hm1
   refine RH.adv tk [] rfl rfl (by simp <;> omega) ?_
   refine RH.nilrow 50 kEnt.T kEnt.sz 51 ?_
   refine RH.loop (α := Nat × (Option Addr × Nat)) (fun y => [(1, slE B sums.length d), (4, .av (.box 0 m0 0)), (6, .av (.val (.map (some (m0 + 1))))), (23, slE A names.length c), (24, intE names.length), (25, intE y.1), (7, rowS 50 y.2.1 ((names.zip sums).take y.1).length y.2.2)])
    (fun y => [(0, some (.box m0 [.val (.pointer none)] 31)), (3, V.mapE (m0 + 1) strV (isN (names.take y.1))), (50, rowE kEnt y.2.1 y.2.2 ((names.zip sums).take y.1))])
    (fun y u => (K u ∧ Glob u ∧ Sl kStr u A c names ∧ Sl kSum u B d sums) ∧ y.1 ≤ names.length ∧ scanN [] names = scanN (names.take y.1) (names.drop y.1)) (fun y => names.length - y.1) (0, (none, 0)) rfl rfl (fun u hu => ⟨hu, Nat.zero_le _, rfl⟩) ?_
   rintro ⟨i, A2, c2⟩ m2
   refine RH.pure (fun u hu => hu.2) fun ⟨hi, hsc⟩ => ?_
   dsimp only at hi hsc ⊢
   have hzl : (names.zip sums).length = names.length := by rw [List.length_zip]; omega
   by_cases hlt : i < names.length
   ·have hlts : i < sums.length := by omega
    have hts : names.take (i + 1) = names.take i ++ [names[i]] := List.take_succ_eq_append_getElem hlt
    have hdr : names.drop i = names[i] :: names.drop (i + 1) := List.drop_eq_getElem_cons hlt
    have hzi : (names.zip sums)[i]'(by omega) = (names[i], sums[i]) := by rw [List.getElem_zip]
    have htz : (names.zip sums).take (i + 1) = (names.zip sums).take i ++ [(names[i], sums[i])] := by rw [List.take_succ_eq_append_getElem (by omega), hzi]
    rw [hdr] at hsc
    refine RH.pure (fun u hu => (⟨hu.1.2.2.1.ptr hlt, hu.1.2.2.2.ptr hlts⟩ : Ptr A ∧ Ptr B)) fun ⟨hptr, hptrB⟩ => ?_
    refine RH.adv tk [true] rfl rfl (by simp [hptr] <;> omega) ?_
    refine RH.loadS (strE names[i]) rfl rfl rfl rfl (fun u hu => hu.fact.1.2.2.1.load hlt) ?_
    by_cases hlong : 60 < names[i].length
    ·rw [hsc, scan_long hlong]
     refine RH.adv tk [true] rfl rfl (by simp [hz31] <;> omega) ?_
     exact RH.retBoxT tk (.st [.val (.pointer none)]) Tryz.func17 rfl rfl rfl rfl rfl fun w' hst => ⟨none, rfl, hst.out [] rfl rfl fun u h => ⟨h.1.1, fun v _ _ => trivial⟩⟩
    ·refine RH.adv tk [false] rfl rfl (by simp <;> omega) ?_
     refine RH.go rfl rfl (OpGo.lookupV (es := isN (names.take i)) (k := names[i]) (.bool (hasN (names.take i) names[i])) key_str und_isN zero_boolN rfl rfl rfl rfl rfl (fun u hu => (hu.holds 3 _ rfl).2) (getM_isN _ _)) 52 ?_
     rintro ⟨⟩ m3 hm3
     by_cases hin : hasN (names.take i) names[i] = true
     ·rw [hsc, scan_twice hlong hin]
      refine RH.adv tk [true] rfl rfl (by simp [hz31, hin] <;> omega) ?_
      exact RH.retBoxT tk (.st [.val (.pointer none)]) Tryz.func17 rfl rfl rfl rfl rfl fun w' hst => ⟨none, rfl, hst.out [] rfl rfl fun u h => ⟨h.1.1, fun v _ _ => trivial⟩⟩
     ·refine RH.adv tk [false] rfl rfl (by simp [hin] <;> omega) ?_
      refine RH.go rfl rfl (OpGo.mapUpdate (id := 3) (k := names[i]) key_str und_isN rfl rfl rfl rfl rfl rfl) 53 ?_
      rintro ⟨⟩ m4 hm4
      have hset : setM (isN (names.take i)) names[i] EV.tt.v = isN (names.take i ++ [names[i]]) := setM_isN _ _ (by simpa using hin)
      rw [hset, ← hts]
      refine RH.adv tk [] rfl rfl (by simp [hptrB] <;> omega) ?_
      refine RH.loadS (sumE sums[i]) rfl rfl rfl rfl (fun u hu => hu.fact.1.2.2.2.load hlts) ?_
      refine RH.adv tk [] rfl rfl (by simp <;> omega) ?_
      refine RH.apK (κ := kEnt) (id := 50) (l := (names.zip sums).take i) (r := [(names[i], sums[i])]) rfl rfl rfl rfl rfl rfl elt_ent rfl rfl (fun u hu => hu.liR (κ := kEnt) (l := [(names[i], sums[i])]) (id := 53) rfl (by simp [hlim])) (by simp; omega) (by simp [hlim]; omega) ?_
      intro A3 c3 m5 hm5
      rw [← htz]
      refine RH.adv tk [] rfl rfl (by simp <;> omega) ?_
      exact RH.again (i + 1, (A3, c3)) (.head _) rfl rfl (by show names.length - (i + 1) < names.length - i; omega) fun u hu => ⟨hu.1, hlt, by rw [hsc, scan_next hlong hin, ← hts]⟩
   ·have hi' : i = names.length := by omega
    have hsc0 : scanN [] names = 0 := by rw [hsc, hi', List.drop_length]; rfl
    have htk : (names.zip sums).take i = names.zip sums := by rw [hi', ← hzl, List.take_length]
    rw [htk]
    have hsh : ∀ e ∈ names.zip sums, e.1.length ≤ 60 := fun e he => scan_ok names [] hsc0 e.1 (List.of_mem_zip he).1
    refine RH.above (id := 0) rfl rfl fun hz1 hz2 => ?_
    refine RH.adv tk [false] rfl rfl (by simp <;> omega) ?_
    refine RH.doB [] 60 (hc := Tryz.call92) (ho := rfl) (hw := rfl) (hd := rfl) (hf := rfl) (hes := rfl) (hσ := rfl) (hn := rfl) (hV := fun _ => rfl) (hG := fun _ => rfl) (e := fun o : Option Plot => mapE o) (hC := from_spec A2 c2 (names.zip sums) (fun e he => Nat.le_trans (hsh e he) (by decide)) (from_okO _ (by decide : 60 ≤ 1000) hsh (by omega))) (hp := fun u hu => ⟨hu.fact.1.2.1, Sl.own (B := m0) (hu.row (κ := kEnt) (l := names.zip sums) (id := 50) rfl) (by omega)⟩) ?_
    rintro o m5 hm5
    refine RH.adv tk [] rfl rfl (by simp) ?_
    rw [hsc0]
    exact RH.retBoxT tk (mapE o) Tryz.func17 rfl rfl rfl rfl rfl fun w' hst => ⟨o, rfl, hst.out [] rfl rfl fun u h => ⟨h.1.1.1, fun v hv hp => h.2.up (by omega) hv hp⟩⟩
 ·have he : fromE names sums = 7 := by unfold fromE; rw [if_pos h1]
  rw [he]
  refine RH.adv tk [true] rfl rfl (by simp [hz31, h1] <;> omega) ?_
  exact RH.retBoxT tk (.st [.val (.pointer none)]) Tryz.func17 rfl rfl rfl rfl rfl fun w' hst => ⟨none, rfl, hst.out [] rfl rfl fun u h => ⟨h.1, fun v _ _ => trivial⟩⟩
end Go.Proofs.YtbfjmimiigjenaaGreatDoor
