/-
Lemmas. No condition.
-/
import Derived.OrdersHeld
import Derived.Test.YtbfjmimiigjenaaGreatDoorKVRun
set_option linter.unusedVariables false
set_option linter.unusedSectionVars false
set_option linter.unusedSimpArgs false
namespace Go.Proofs.YtbfjmimiigjenaaGreatDoor.V
open Go Go.RowKit
def binds' (e:Edge):Bool :=
  match e.ground with
  | .textOnly _=>false
  | .gcOnly _=>false
  | _=>true
theorem binds'_eq (e:Edge):binds' e=Region.binds .any e:=by
  unfold binds' Region.binds
  cases e.ground<;>rfl
def pairOk (ops:Array Oper):Bool :=
  Region.noSelect ops && (List.range ops.size).all λj=>(List.range j).all λi =>
    match ops[i]?,ops[j]? with
    | some x,some y=>(x.apart ops y && y.apart ops x) || y.after.any λe=>Region.binds .any e && e.on == i
    | _,_=>false
theorem pairOk_spec {ops:Array Oper} (h:pairOk ops=true) {i j:Nat} {x y:Oper} (hij:i < j) (hx:ops[i]? = some x) (hy:ops[j]? = some y) :
    (x.apart ops y=true/\y.apart ops x=true) ∨ ∃ e ∈ y.after,Region.binds .any e=true/\e.on=i:=by
  unfold pairOk at h
  rw [Bool.and_eq_true] at h
  have hj:j < ops.size:=(Array.getElem?_eq_some_iff.1 hy).1
  have h1:=List.all_eq_true.1 h.2 j (List.mem_range.2 hj)
  have h2:=List.all_eq_true.1 h1 i (List.mem_range.2 hij)
  rw [hx,hy] at h2
  simp only [Bool.or_eq_true,Bool.and_eq_true] at h2
  rcases h2 with h2|h2
  · exact .inl h2
  · rw [Array.any_eq_true] at h2
    obtain ⟨k,hk,h3⟩:=h2
    rw [Bool.and_eq_true] at h3
    exact .inr ⟨_,Array.getElem_mem hk,h3.1,by simpa using h3.2⟩
theorem free_of {ops:Array Oper} (h:pairOk ops=true) {listed:Array Bool} {i:Nat} {oi:Oper} (hi:ops[i]? = some oi) (hr:i ∈ Region.ready .any ops listed) :
    ∀ j oj,ops[j]? = some oj->j ≠ i->listed.getD j true=false->(∀ e ∈ oj.after,Region.binds .any e=true->e.on ≠ i)->oi.apart ops oj=true:=by
  intro j oj hj hji hun hno
  rcases Nat.lt_or_gt_of_ne hji with hlt|hgt
  · rcases pairOk_spec h hlt hj hi with h1|⟨e,he,hb,hon⟩
    · exact h1.2
    · obtain ⟨_,o,ho,hall⟩:=mem_ready.1 hr
      rw [hi] at ho;injection ho with ho;subst ho
      have h2:=hall e he hb
      rw [hon] at h2
      rcases Nat.lt_or_ge j listed.size with h'|h'
      · simp [h'] at h2 hun;rw [hun] at h2;cases h2
      · simp [Array.getElem?_eq_none h'] at h2
  · rcases pairOk_spec h hgt hi hj with h1|⟨e,he,hb,hon⟩
    · exact h1.1
    · exact absurd hon (hno e he hb)
def Closed (md:Region.Mode) (ops:Array Oper) (L:Array Bool):Prop:=∀ k o,ops[k]? = some o->L.getD k false=true->∀ e ∈ o.after,Region.binds md e=true->L.getD e.on false=true
def mvB (ops:Array Oper) (i:Nat):Bool:=match ops[i]? with
  | some o=>match o.op with
    | .move _=>true
    | _=>false
  | none=>false
def Fin (md:Region.Mode) (ops:Array Oper) (j:Nat):Prop:=∀ L,Closed md ops L->j ∈ Region.ready md ops L->∀ i ∈ Region.ready md ops L,i=j ∨ mvB ops i=true
theorem closed_set {md:Region.Mode} {ops:Array Oper} {L:Array Bool} {i:Nat} (h:Closed md ops L) (hi:i ∈ Region.ready md ops L):Closed md ops (L.setIfInBounds i true):=by
  intro k o ho hk e he hb
  by_cases hik:i=k
  · subst hik
    obtain ⟨_,o',ho',hall⟩:=mem_ready.1 hi
    rw [ho] at ho';injection ho' with ho';subst ho'
    exact getD_set_true (hall e he hb)
  · rw [getD_set_ne false hik] at hk
    exact getD_set_true (h k o ho hk e he hb)
theorem closed_none (md:Region.Mode) (ops:Array Oper) (n:Nat):Closed md ops (Array.replicate n false):=by
  intro k o _ hk
  exfalso
  rcases Nat.lt_or_ge k n with h|h
  · simp [h] at hk
  · simp [Array.getElem?_eq_none (xs:=Array.replicate n false) (i:=k) (by simpa using h)] at hk
def finB (ops:Array Oper) (j:Nat):Bool :=
  decide (j+1=ops.size) && (List.range j).all λi=>(List.range ops.size).any λk=>decide (i < k) && match ops[k]? with
    | some o=>o.after.any λe=>Region.binds .any e && e.on == i
    | none=>false
theorem finB_ok {ops:Array Oper} {j:Nat} (h:finB ops j=true):Fin .any ops j:=by
  unfold finB at h
  rw [Bool.and_eq_true] at h
  have hj:=of_decide_eq_true h.1
  intro L hL hjr i hir
  refine .inl ?_
  obtain ⟨_,oj,hoj,hall⟩:=mem_ready.1 hjr
  obtain ⟨hun,oi,hoi,_⟩:=mem_ready.1 hir
  have hlt:i < ops.size:=(Array.getElem?_eq_some_iff.1 hoi).1
  rcases Nat.lt_or_ge i j with hij|hij
  · exfalso
    have key:∀ d i,j - i=d->i < j->L.getD i false=true:=by
      intro d
      induction d using Nat.strongRecOn with
      | _ d ih =>
        intro i hd hij
        have h1:=List.all_eq_true.1 h.2 i (List.mem_range.2 hij)
        obtain ⟨k,hk,h2⟩:=List.any_eq_true.1 h1
        rw [Bool.and_eq_true] at h2
        have hik:=of_decide_eq_true h2.1
        have hks:=List.mem_range.1 hk
        cases hok:ops[k]? with
        | none=>rw [hok] at h2;cases h2.2
        | some ok =>
          have h3:(ok.after.any λe=>Region.binds .any e && e.on == i)=true:=by have:=h2.2;rw [hok] at this;exact this
          rw [Array.any_eq_true] at h3
          obtain ⟨q,hq,h4⟩:=h3
          rw [Bool.and_eq_true] at h4
          have hon:ok.after[q].on=i:=by simpa using h4.2
          rcases Nat.lt_or_ge k j with hkj|hkj
          · have h5:=ih (j - k) (by omega) k rfl hkj
            have:=hL k ok hok h5 _ (Array.getElem_mem hq) h4.1
            rw [hon] at this;exact this
          · have:k=j:=by omega
            subst this
            rw [hoj] at hok;injection hok with hok;subst hok
            have:=hall _ (Array.getElem_mem hq) h4.1
            rw [hon] at this;exact this
    have:=key _ i rfl hij
    rcases Nat.lt_or_ge i L.size with h'|h'
    · simp [h'] at hun this;rw [hun] at this;cases this
    · simp [Array.getElem?_eq_none h'] at this
  · omega
def markB (m:List Bool) (o:Oper):List Bool:=o.after.toList.foldl (λm e=>if binds' e then m.set e.on true else m) m
def ancB (ops:Array Oper):Nat->List Bool->List Bool
  | 0,m=>m
  | k+1,m=>ancB ops k (if m.getD k false then (match ops[k]? with|some o=>markB m o|none=>m) else m)
def leadB (ops:Array Oper) (j:Nat):List Bool:=ancB ops j (match ops[j]? with|some o=>markB (List.replicate ops.size false) o|none=>[])
def finC (ops:Array Oper) (j:Nat):Bool:=(List.range ops.size).all λi=>i == j || mvB ops i || (leadB ops j).getD i false || (leadB ops i).getD j false
theorem markB_ok {D:Nat->Prop} {o:Oper} (ho:∀ e ∈ o.after,Region.binds .any e=true->D e.on) {m:List Bool} (hm:∀ i,m.getD i false=true->D i):∀ i,(markB m o).getD i false=true->D i:=by
  have:∀ (es:List Edge) (m:List Bool),(∀ e ∈ es,Region.binds .any e=true->D e.on)->(∀ i,m.getD i false=true->D i)->∀ i,(es.foldl (λm e=>if binds' e then m.set e.on true else m) m).getD i false=true->D i:=by
    intro es
    induction es with
    | nil=>exact λm _ h=>h
    | cons e r ih =>
      intro m h1 h2
      refine ih _ (λe he=>h1 e (List.mem_cons_of_mem _ he)) λi hi=>?_
      dsimp only at hi
      by_cases hb:binds' e=true
      · rw [if_pos hb,List.getD_eq_getElem?_getD,List.getElem?_set] at hi
        by_cases hei:e.on=i
        · rw [← hei];exact h1 e (List.mem_cons_self ..) (by rw [← binds'_eq];exact hb)
        · rw [if_neg hei,← List.getD_eq_getElem?_getD] at hi;exact h2 i hi
      · rw [if_neg hb] at hi;exact h2 i hi
  exact this o.after.toList m (λe he=>ho e (by simpa using he)) hm
theorem ancB_ok {ops:Array Oper} {L:Array Bool} (hL:Closed .any ops L):∀ (k:Nat) (m:List Bool),(∀ i,m.getD i false=true->L.getD i false=true)->∀ i,(ancB ops k m).getD i false=true->L.getD i false=true
  | 0,_,h=>h
  | k+1,m,h=>by
    refine ancB_ok hL k _ λi hi=>?_
    split at hi
    · rename_i hk
      split at hi
      · rename_i o ho
        exact markB_ok (D:=λi=>L.getD i false=true) (λe he hb=>hL k o ho (h k hk) e he hb) h i hi
      · exact h i hi
    · exact h i hi
theorem leadB_ok {ops:Array Oper} {L:Array Bool} (hL:Closed .any ops L) {j:Nat} {o:Oper} (ho:ops[j]? = some o) (hj:∀ e ∈ o.after,Region.binds .any e=true->L.getD e.on false=true):∀ i,(leadB ops j).getD i false=true->L.getD i false=true:=by
  intro i hi
  unfold leadB at hi
  rw [ho] at hi
  refine ancB_ok hL j _ (markB_ok (D:=λi=>L.getD i false=true) hj λi hi=>?_) i hi
  rw [List.getD_eq_getElem?_getD,List.getElem?_replicate] at hi
  split at hi<;>cases hi
theorem finC_ok {ops:Array Oper} {j:Nat} (h:finC ops j=true):Fin .any ops j:=by
  intro L hL hjr i hir
  obtain ⟨hju,oj,hoj,hja⟩:=mem_ready.1 hjr
  obtain ⟨hiu,oi,hoi,hia⟩:=mem_ready.1 hir
  have hun:∀ k,L.getD k true=false->L.getD k false=true->False:=λk h1 h2=>by
    rcases Nat.lt_or_ge k L.size with h'|h'
    · simp [h'] at h1 h2;rw [h1] at h2;cases h2
    · simp [Array.getElem?_eq_none h'] at h2
  have h1:=List.all_eq_true.1 h i (List.mem_range.2 (Array.getElem?_eq_some_iff.1 hoi).1)
  simp only [Bool.or_eq_true,beq_iff_eq] at h1
  rcases h1 with ((h1|h1)|h1)|h1
  · exact .inl h1
  · exact .inr h1
  · exact absurd (leadB_ok hL hoj hja i h1) λe=>hun i hiu e
  · exact absurd (leadB_ok hL hoi hia j h1) λe=>hun j hju e
def wpAnyH (P:Program) (md:Region.Mode) (ops:Array Oper) (Q:Exit->Act->World->Prop) (X:World->Prop):Nat->Array Bool->Act->World->Prop
  | 0,listed,a,w=>Closed md ops listed->Region.ready md ops listed=[]/\Q .normal a w
  | fuel+1,listed,a,w=>Closed md ops listed →
    (Region.ready md ops listed=[]->Q .normal a w) ∧
    ∀ i ∈ Region.ready md ops listed,wpOp P ops Q i (λa' w'=>(X w' ∨ Fin md ops i ∨ (mvB ops i=true/\w'=w))/\wpAnyH P md ops Q X fuel (listed.setIfInBounds i true) a' w') a w
section
variable {P:Program} {md:Region.Mode} {ops:Array Oper} {Q:Exit->Act->World->Prop} {X:World->Prop}
theorem wpAny_of_held:∀ (fuel:Nat) (listed:Array Bool) (a:Act) (w:World),Closed md ops listed->wpAnyH P md ops Q X fuel listed a w->wpAny P md ops Q fuel listed a w
  | 0,_,_,_,hc,h=>h hc
  | fuel+1,_,_,_,hc,h=>⟨(h hc).1,λi hi=>wpOp_mono (λa' w' h'=>wpAny_of_held fuel _ a' w' (closed_set hc hi) h'.2) ((h hc).2 i hi)⟩
theorem wpAnyH_first {i:Nat} {oi:Oper} {v:Value} {Y:World->Prop} (hi:ops[i]? = some oi) (hsel:∀ (j:Nat) (o:Oper) cs b,ops[j]? = some o->o.op ≠ .select cs b)
    (hQ:∀ c a w,Q (.panic c) (a.put oi.dst v) w->Q (.panic c) a w) (hXY:∀ w,X w->Y w) (hmv:mvB ops i=false ∨ ∀ w,Y w) :
    ∀ (fuel:Nat) (listed:Array Bool) (a:Act) (w:World),
      (∀ j oj,ops[j]? = some oj->j ≠ i->listed.getD j true=false->(∀ e ∈ oj.after,Region.binds md e=true->e.on ≠ i)->oi.apart ops oj=true) →
      i ∈ Region.ready md ops listed->YieldsIf P ops Y oi v a->Y w->(X w ∨ mvB ops i=true) →
      wpAnyH P md ops Q X fuel (listed.setIfInBounds i true) (a.put oi.dst v) w->wpAnyH P md ops Q X (fuel+1) listed a w:=by
  intro fuel
  induction fuel with
  | zero =>
    intro listed a w _ hr hy hS hXm H hc
    have H':=H (closed_set hc hr)
    refine ⟨λh=>(by rw [h] at hr;cases hr),λj hj=>?_⟩
    by_cases hji:j=i
    · subst hji;exact hy.wpOp hi hS ⟨hXm.imp id λh=>.inr ⟨h,rfl⟩,H⟩
    · have:=ready_mono hj hji
      rw [H'.1] at this
      cases this
  | succ fuel ih =>
    intro listed a w hfree hr hy hS hXm H hc
    have H':=H (closed_set hc hr)
    refine ⟨λh=>(by rw [h] at hr;cases hr),λj hj=>?_⟩
    by_cases hji:j=i
    · subst hji;exact hy.wpOp hi hS ⟨hXm.imp id λh=>.inr ⟨h,rfl⟩,H⟩
    · have h1:=H'.2 j (ready_mono hj hji)
      obtain ⟨hjun,oj,hoj,hall⟩:=mem_ready.1 hj
      have hnot:∀ e ∈ oj.after,Region.binds md e=true->e.on ≠ i:=λe he hb heq=>by
        have h1:=hall e he hb
        have h0:=(mem_ready.1 hr).1
        rw [heq] at h1
        rcases Nat.lt_or_ge i listed.size with h'|h'
        · simp [h'] at h0 h1;rw [h0] at h1;cases h1
        · simp [Array.getElem?_eq_none h'] at h1
      have h2:=wpOp_putIf hoj (hfree j oj hoj hji hjun hnot) (λcs b=>hsel i oi cs b hi) (λcs b=>hsel j oj cs b hoj) hQ hy h1
      have hfree':∀ k ok,ops[k]? = some ok->k ≠ i->(listed.setIfInBounds j true).getD k true=false →
          (∀ e ∈ ok.after,Region.binds md e=true->e.on ≠ i)->oi.apart ops ok=true:=λk ok hk hki hun hno=>by
        refine hfree k ok hk hki ?_ hno
        by_cases hjk:j=k
        · subst hjk;exact hjun
        · rw [getD_set_ne true hjk] at hun;exact hun
      have hri:=ready_mono hr (Ne.symm hji)
      refine wpOp_mono (λa' w' h3=>?_) h2
      have hX:Y w'/\(X w' ∨ mvB ops i=true):=by
        rcases h3.2.1 with hx|hx|⟨_,rfl⟩
        · exact ⟨hXY _ hx,.inl hx⟩
        · rcases hx listed hc hj i hr with e|e
          · exact absurd e.symm hji
          · exact ⟨hmv.elim (λh=>by rw [h] at e;cases e) λh=>h _,.inr e⟩
        · exact ⟨hS,hXm⟩
      refine ⟨h3.2.1,ih (listed.setIfInBounds j true) a' w' hfree' hri h3.1 hX.1 hX.2 ?_⟩
      rw [Array.setIfInBounds_comm _ _ hji]
      exact h3.2.2
theorem wpAnyH_all {rs:List Nat} {fuel:Nat} {listed:Array Bool} {a:Act} {w:World} (hr:Region.ready md ops listed=rs) (hne:rs ≠ [])
    (h:∀ i ∈ rs,wpOp P ops Q i (λa' w'=>X w'/\wpAnyH P md ops Q X fuel (listed.setIfInBounds i true) a' w') a w):wpAnyH P md ops Q X (fuel+1) listed a w :=
  λ_=>⟨λh0=>absurd (hr ▸ h0) hne,λi hi=>wpOp_mono (λ_ _ h'=>⟨.inl h'.1,h'.2⟩) (h i (hr ▸ hi))⟩
end
section
variable {P:Program} {f:Fr} {n:Nat} {S:Stops} {R:Ending->World->Prop} {tb:TT} {B0:Nat}
def QD (P:Program) (f:Fr) (n:Nat) (S:Stops) (R:Ending->World->Prop) (k:List Item):Exit->Act->World->Prop
  | .normal,a,w=>∀ cs,Goes P f n S R cs (lone (f.cfg a k) cs w)
  | _,_,_=>False
def RD (P:Program) (f:Fr) (n:Nat) (tb:TT) (B0:Nat) (S:Stops) (R:Ending->World->Prop) (k:List Item) (ops:Array Oper) (G:Heap) (I0:World->Prop) (fuel:Nat) (l:List Bool) (env:SEnv) (H:Heap) (nx m:Nat) (I:World->Prop):Prop :=
  ∀ w a,w.heap.size=m->St tb B0 H I w->St tb B0 G I0 w->Agree n a (kn env)->wpAnyH P .any ops (QD P f n S R k) (St tb B0 G I0) fuel l.toArray a w
variable {k:List Item} {ops:Array Oper} {G:Heap} {I0:World->Prop} {fuel:Nat} {l:List Bool} {env:SEnv} {H:Heap} {nx m:Nat} {I:World->Prop}
theorem Agree.weak {K K':Env} {a:Act} (h:Agree n a K) (hle:K'.le K):Agree n a K':=h.le hle
theorem drew_ext (w:World):Ext w { w with drawn:=w.drawn+1 }:=⟨rfl,rfl,rfl,Nat.le_refl _,λ_ _=>rfl⟩
theorem wp_no' {o:Oper} {a:Act} {w:World} {K K':Act->World->Prop} (h:∀ a w,K a w->K' a w) (hh:o.wp P a w K (QD P f n S R k)) (hne:True:=trivial):o.wp P a w K' (λ_ _ _=>False):=by
  unfold Oper.wp at *
  generalize (execOp a.eval o).run P w=r at *
  cases r with
  | ok n w' =>
    cases n<;>simp only [Oper.upon] at hh ⊢ <;>
      first
        | exact h _ _ hh
        | exact hh.elim
        | exact Calls.mono hh (λe w'' he=>by
            cases e with
            | returned v=>exact h _ _ he
            | panicked c=>exact False.elim he
            | outgrown=>obtain ⟨_,_,hq⟩:=he;exact hq.elim)
        | exact Rows.mono hh (λ_ _ he=>h _ _ he)
  | halt x w'=>cases x<;>simp only [Oper.upon] at hh ⊢<;>exact hh.elim
def noDefer (ops:Array Oper):Bool:=ops.toList.all λo=>match o.op with|.defer _=>false|_=>true
theorem goes_ops (hnd:noDefer ops=true):∀ (l:List Nat) (a:Act) (w:World),wpOps P ops (QD P f n S R k) l a w->∀ cs,Goes P f n S R cs (lone (f.cfg a (.inRegion ops l :: k)) cs w)
  | [],a,w,h,cs=>Goes.of_step (stepR_region_end (b:=base f) (a:=f.act a)) (h cs)
  | i :: rest,a,w,h,cs=>by
    rw [wpOps_cons] at h
    unfold wpOp at h
    split at h
    · rename_i ho
      have hs:=stepF_skip (P:=P) (f:=f) (a:=a) (k:=k) (cs:=cs) (w:=w) (ops:=ops) (i:=i) (rest:=rest) (by simp [ho])
      simp only [ho,Option.bind_none,Act.put] at hs
      exact Goes.of_step hs (goes_ops hnd rest a w h cs)
    · rename_i o ho
      split at h
      · rename_i hw
        rcases h with h|⟨_,_,_,hq⟩
        · refine Goes.op ho hw ?_ (wp_no' (λ_ _ h=>h) h) λa' w' h'=>goes_ops hnd rest a' w' h' cs
          intro c hc
          have hm:o ∈ ops.toList:=by rw [Array.mem_toList_iff];exact Array.mem_of_getElem? ho
          have:=List.all_eq_true.1 hnd o hm
          rw [hc] at this;cases this
        · exact hq.elim
      · rename_i hw
        have hs:=stepF_skip (P:=P) (f:=f) (a:=a) (k:=k) (cs:=cs) (w:=w) (ops:=ops) (i:=i) (rest:=rest) (by simp [ho];simpa using hw)
        simp only [ho,Option.bind_some] at hs
        exact Goes.of_step hs (goes_ops hnd rest _ w h cs)
theorem RH.draw {id:Nat} (hm:P.follows .mixedOrders=true) (G:Heap) (hG:SubH G H) (nops:Nat) (hn:ops.size=nops) (hnd:noDefer ops=true)
    (h:RD P f n tb B0 S R k ops G I nops (List.replicate nops false) env H nx m I):RH P f n tb B0 S R (.code (.region id ops true) :: k) env H nx m I:=by
  intro w hmw hst cs a ha
  have hst':=hst.ext (drew_ext w)
  have h1:=h { w with drawn:=w.drawn+1 } a hmw hst' (hst'.sub hG) ha
  have h2:=wpAny_sound ops.size (w.tape w.drawn (.order f.fn id)) _ _ _ (wpAny_of_held _ _ _ _ (closed_none _ _ _) (by rw [hn];simpa using h1))
  have h3:=goes_ops hnd _ _ _ h2 cs
  refine Goes.of_step (stepR_region_draw (b:=base f) (a:=f.act a)) ?_
  simp only [Region.schedule,hm,Bool.true_or,if_true]
  rw [← hn] at h3
  exact h3
def readyE (l:List Bool) (o:Oper):Bool:=o.after.toList.all λe=>!binds' e || l.getD e.on false
theorem ready_of {i:Nat} {o:Oper} (ho:ops[i]? = some o) (hl:l[i]? = some false) (hr:readyE l o=true):i ∈ Region.ready .any ops l.toArray:=by
  rw [mem_ready]
  refine ⟨by simp [hl],o,ho,λe he hb=>?_⟩
  have:=List.all_eq_true.1 hr e (by simpa using he)
  rw [binds'_eq,hb] at this
  simpa using this
theorem RD.take {i d:Nat} {o:Oper} {e:EV} (hp:pairOk ops=true) (ho:ops[i]? = some o) (hd:o.dst=some d) (hdn:d < n) (hl:l[i]? = some false) (hr:readyE l o=true)
    (hv:∀ a,Agree n a (kn env)->(Region.wanted o (yielded ops a.tmps)=true/\∀ w,St tb B0 G I0 w->(execOp a.eval o).run P w = .ok (.value e.v) w) ∨ (Region.wanted o (yielded ops a.tmps)=false/\e.v=undef))
    (h:RD P f n tb B0 S R k ops G I0 fuel (l.set i true) ((d,e) :: env) H nx m I):RD P f n tb B0 S R k ops G I0 (fuel+1) l env H nx m I:=by
  intro w a hm hst hst0 ha
  have hrd:=ready_of ho hl hr
  have hns:Region.noSelect ops=true:=by unfold pairOk at hp;rw [Bool.and_eq_true] at hp;exact hp.1
  have hgo:=h w (a.put o.dst e.v) hm hst hst0 (by rw [kn_cons,hd];exact ha.put hdn _)
  cases hmv:mvB ops i with
  | false=>exact wpAnyH_first (v:=e.v) ho (Region.noSelect_spec hns) (λ_ _ _ hq=>hq) (λ_ h=>h) (.inl hmv) fuel l.toArray a w (free_of hp ho hrd) hrd (hv a ha) hst0 (.inl hst0) (by simpa using hgo)
  | true =>
    refine wpAnyH_first (v:=e.v) (Y:=λ_=>True) ho (Region.noSelect_spec hns) (λ_ _ _ hq=>hq) (λ_ _=>trivial) (.inr λ_=>trivial) fuel l.toArray a w (free_of hp ho hrd) hrd ?_ trivial (.inl hst0) (by simpa using hgo)
    rcases hv a ha with ⟨h1,h2⟩|h1
    · refine .inl ⟨h1,λw' _=>?_⟩
      have h3:=h2 w hst0
      unfold mvB at hmv
      rw [ho] at hmv
      obtain ⟨d',op',T',p',af',g'⟩:=o
      cases op'<;>first|(cases hmv;done)|skip
      simp only [execOp,Sem.run_pure] at h3 ⊢
      injection h3 with h3 _
      rw [h3]
    · exact .inr h1
theorem RD.only {i:Nat} {o:Oper} (ho:ops[i]? = some o) (hr:Region.ready .any ops l.toArray=[i])
    (h:∀ w a,w.heap.size=m->St tb B0 H I w->Agree n a (kn env)->wpOp P ops (QD P f n S R k) i (λa' w'=>St tb B0 G I0 w'/\wpAnyH P .any ops (QD P f n S R k) (St tb B0 G I0) fuel (l.set i true).toArray a' w') a w) :
    RD P f n tb B0 S R k ops G I0 (fuel+1) l env H nx m I:=by
  intro w a hm hst hst0 ha
  refine wpAnyH_all hr (by simp) λj hj=>?_
  have hj:j=i:=by simpa using hj
  subst hj
  have:=h w a hm hst ha
  simpa using this
theorem RD.two {i j:Nat} (hr:Region.ready .any ops l.toArray=[i,j])
    (h1:∀ w a,w.heap.size=m->St tb B0 H I w->Agree n a (kn env)->wpOp P ops (QD P f n S R k) i (λa' w'=>St tb B0 G I0 w'/\wpAnyH P .any ops (QD P f n S R k) (St tb B0 G I0) fuel (l.set i true).toArray a' w') a w)
    (h2:∀ w a,w.heap.size=m->St tb B0 H I w->Agree n a (kn env)->wpOp P ops (QD P f n S R k) j (λa' w'=>St tb B0 G I0 w'/\wpAnyH P .any ops (QD P f n S R k) (St tb B0 G I0) fuel (l.set j true).toArray a' w') a w) :
    RD P f n tb B0 S R k ops G I0 (fuel+1) l env H nx m I:=by
  intro w a hm hst hst0 ha
  refine wpAnyH_all hr (by simp) λq hq=>?_
  have hq:q=i ∨ q=j:=by simpa using hq
  rcases hq with rfl|rfl
  · have:=h1 w a hm hst ha;simpa using this
  · have:=h2 w a hm hst ha;simpa using this
def OutOk (n:Nat) (v:Option EV) (dst:Option Nat) (env env':SEnv):Prop :=
  match v,dst with
  | some e,some d=>Nat.blt d n=true/\env'=(d,e) :: env
  | none,none=>env'=env
  | _,_=>False
theorem opD_step (hk:tb.Ok P) {i:Nat} {o:Oper} {v:Option EV} {H':Heap} {nx' m':Nat} {ob:List Ob} {eq:List Eqn} (ho:ops.toList[i]? = some o) (hw:wantE env ops o.guard = .yes)
    (hs:stepOp tb env H nx m [] [] o.op=some (v,H',nx',m',ob,eq)) (heq:AllEqn eq) (hob:AllOb ob) (hG:SubH G H') (hI:∀ w,I w->I0 w) {env':SEnv}
    (hv:OutOk n v o.dst env env')
    (h:RD P f n tb B0 S R k ops G I0 fuel (l.set i true) env' H' nx' m' I) :
    ∀ w a,w.heap.size=m->St tb B0 H I w->Agree n a (kn env)->wpOp P ops (QD P f n S R k) i (λa' w'=>St tb B0 G I0 w'/\wpAnyH P .any ops (QD P f n S R k) (St tb B0 G I0) fuel (l.set i true).toArray a' w') a w:=by
  unfold OutOk at hv
  intro w a hm hst ha
  rw [Array.getElem?_toList] at ho
  obtain ⟨w',q1,q2,q3,_⟩:=stepOp_ok hk ha hst hm hs hob heq
  unfold wpOp
  simp only [ho,wantE_yes hw ha,if_true]
  refine .inl ?_
  unfold Oper.wp
  rw [q1]
  have hst0:St tb B0 G I0 w':=(q2.sub hG).mono λw'' _=>hI w''
  cases v with
  | none =>
    cases hd:o.dst with
    | none =>
      rw [hd] at hv
      have hv:env'=env:=hv
      subst hv
      exact ⟨hst0,h w' _ q3 q2 hst0 (by rw [hd];exact ha)⟩
    | some d=>rw [hd] at hv;exact hv.elim
  | some e =>
    cases hd:o.dst with
    | none=>rw [hd] at hv;exact hv.elim
    | some d =>
      rw [hd] at hv
      obtain ⟨hdn,hv⟩:=hv
      subst hv
      have hdn':d < n:=Nat.lt_of_lt_of_le (Nat.lt_succ_self d) (Nat.le_of_ble_eq_true hdn)
      exact ⟨hst0,h w' _ q3 q2 hst0 (by rw [kn_cons,hd];exact ha.put hdn' _)⟩
theorem RD.done (hr:fuel=0 ∨ Region.ready .any ops l.toArray=[]) (hall:Region.ready .any ops l.toArray=[]) (h:RH P f n tb B0 S R k env H nx m I):RD P f n tb B0 S R k ops G I0 fuel l env H nx m I:=by
  intro w a hm hst hst0 ha
  have hq:QD P f n S R k .normal a w:=λcs=>h w hm hst cs a ha
  cases fuel with
  | zero=>exact λ_=>⟨hall,hq⟩
  | succ fuel=>exact λ_=>⟨λ_=>hq,λi hi=>by rw [hall] at hi;cases hi⟩
abbrev StD:=Nat × List Bool × SEnv × List Ob × List Eqn
def quietE (tb:TT) (env:SEnv) (G:Heap) (ob:List Ob) (eq:List Eqn) (o:Op):Option (EV × List Ob × List Eqn) :=
  match loud o with
  | true=>none
  | false=>match stepOp tb env G 0 0 ob eq o with
    | some (some v,_,_,_,ob',eq')=>some (v,ob',eq')
    | _=>none
def advD (tb:TT) (n:Nat) (ops:Array Oper) (G:Heap):List Oper->Nat->List Bool->Nat->List Bool->SEnv->List Ob->List Eqn->StD
  | [],_,_,fuel,l,env,ob,eq=>(fuel,l,env,ob,eq)
  | o :: r,i,ds,fuel,l,env,ob,eq=>match l[i]? with
    | some false=>match readyE l o with
      | true=>match fuel with
        | 0=>(0,l,env,ob,eq)
        | fuel+1=>match o.dst with
          | some d=>match Nat.blt d n with
            | true=>match wantE env ops o.guard with
              | .yes=>match quietE tb env G ob eq o.op with
                | some (v,ob',eq')=>advD tb n ops G r (i+1) ds fuel (l.set i true) ((d,v) :: env) ob' eq'
                | none=>advD tb n ops G r (i+1) ds (fuel+1) l env ob eq
              | .no=>advD tb n ops G r (i+1) ds fuel (l.set i true) ((d,.av (.val undef)) :: env) ob eq
              | .open q t=>match ds with
                | true :: ds=>match wantE ((q,.tt) :: env) ops o.guard with
                  | .yes=>match quietE tb ((q,.tt) :: env) G (.dec t true :: ob) eq o.op with
                    | some (v,ob',eq')=>advD tb n ops G r (i+1) ds fuel (l.set i true) ((d,v) :: (q,.tt) :: env) ob' eq'
                    | none=>advD tb n ops G r (i+1) ds (fuel+1) l ((q,.tt) :: env) (.dec t true :: ob) eq
                  | .no=>advD tb n ops G r (i+1) ds fuel (l.set i true) ((d,.av (.val undef)) :: (q,.tt) :: env) (.dec t true :: ob) eq
                  | _=>(fuel+1,l,env,ob,eq)
                | false :: ds=>match wantE ((q,.ff) :: env) ops o.guard with
                  | .yes=>match quietE tb ((q,.ff) :: env) G (.dec t false :: ob) eq o.op with
                    | some (v,ob',eq')=>advD tb n ops G r (i+1) ds fuel (l.set i true) ((d,v) :: (q,.ff) :: env) ob' eq'
                    | none=>advD tb n ops G r (i+1) ds (fuel+1) l ((q,.ff) :: env) (.dec t false :: ob) eq
                  | .no=>advD tb n ops G r (i+1) ds fuel (l.set i true) ((d,.av (.val undef)) :: (q,.ff) :: env) (.dec t false :: ob) eq
                  | _=>(fuel+1,l,env,ob,eq)
                | []=>(fuel+1,l,env,ob,eq)
              | .lost=>advD tb n ops G r (i+1) ds (fuel+1) l env ob eq
            | false=>(fuel+1,l,env,ob,eq)
          | none=>advD tb n ops G r (i+1) ds (fuel+1) l env ob eq
      | false=>advD tb n ops G r (i+1) ds fuel l env ob eq
    | _=>advD tb n ops G r (i+1) ds fuel l env ob eq
theorem quietE_suf {o:Op} {v:EV} {ob ob':List Ob} {eq eq':List Eqn} (h:quietE tb env G ob eq o=some (v,ob',eq')):ob <:+ ob'/\eq <:+ eq':=by
  unfold quietE at h
  split at h
  · cases h
  · split at h
    · rename_i hs
      obtain ⟨g1,g2⟩:=stepOp_suf hs
      injection h with h;injection h with h1 h2;injection h2 with h2 h3;subst h2;subst h3
      exact ⟨g1,g2⟩
    · cases h
theorem quiet_any {o:Op} (hl:loud o=false) {v:EV} {H':Heap} {nx' m':Nat} {ob ob':List Ob} {eq eq':List Eqn} (h:stepOp tb env G 0 0 ob eq o=some (some v,H',nx',m',ob',eq')) (m2:Nat) :
    ∃ H2 nx2,stepOp tb env G 0 m2 ob eq o=some (some v,H2,nx2,m2,ob',eq'):=by
  unfold stepOp at h ⊢
  split at h
  case h_2=>cases hl
  case h_3=>cases hl
  case h_4=>cases hl
  case h_7=>cases hl
  all_goals
    repeat' (split at h)
    all_goals first
      | cases h;done
      | (injection h with h;injection h with h1 h2;injection h2 with h2 h3;injection h3 with h3 h4;injection h4 with h4 h5;injection h5 with h5 h6
         subst h5;subst h6
         injection h1 with h1;subst h1
         simp [*])
theorem quietE_ok (hk:tb.Ok P) {a:Act} (ha:Agree n a (kn env)) {o:Oper} {v:EV} {ob ob':List Ob} {eq eq':List Eqn} (h:quietE tb env G ob eq o.op=some (v,ob',eq')) (hob:AllOb ob') (heq:AllEqn eq') :
    ∀ w,St tb B0 G I0 w->(execOp a.eval o).run P w = .ok (.value v.v) w:=by
  intro w hst
  unfold quietE at h
  split at h
  · cases h
  · rename_i hl
    split at h
    · rename_i u H' nx' m' ob1 eq1 hs
      injection h with h;injection h with h1 h2;injection h2 with h2 h3;subst h1;subst h2;subst h3
      obtain ⟨H2,nx2,hs2⟩:=quiet_any hl hs w.heap.size
      obtain ⟨w',q1,_,_,_,_,q⟩:=stepOp_ok hk ha hst rfl hs2 hob heq
      rw [q hl] at q1
      exact q1
    · cases h
theorem advD_suf:∀ (r:List Oper) (i:Nat) (ds:List Bool) (fuel:Nat) (l:List Bool) (env:SEnv) (ob:List Ob) (eq:List Eqn) {s:StD},advD tb n ops G r i ds fuel l env ob eq=s->ob <:+ s.2.2.2.1/\eq <:+ s.2.2.2.2:=by
  intro r
  induction r with
  | nil=>intro i ds fuel l env ob eq s hs;subst hs;exact ⟨List.suffix_refl _,List.suffix_refl _⟩
  | cons o r ih =>
    intro i ds fuel l env ob eq s hs
    unfold advD at hs
    have stay:∀ {env':SEnv} {f':Nat},(f',l,env',ob,eq)=s->ob <:+ s.2.2.2.1/\eq <:+ s.2.2.2.2:=λhs=>by subst hs;exact ⟨List.suffix_refl _,List.suffix_refl _⟩
    have more:∀ {x:Ob},x :: ob <:+ s.2.2.2.1/\eq <:+ s.2.2.2.2->ob <:+ s.2.2.2.1/\eq <:+ s.2.2.2.2:=λh=>⟨(List.suffix_cons _ _).trans h.1,h.2⟩
    repeat' (split at hs)
    all_goals first
      | exact ih _ _ _ _ _ _ _ hs
      | exact stay hs
      | exact more (ih _ _ _ _ _ _ _ hs)
      | (have hq:=quietE_suf (by assumption)
         have:=ih _ _ _ _ _ _ _ hs
         first
           | exact ⟨hq.1.trans this.1,hq.2.trans this.2⟩
           | exact ⟨((List.suffix_cons _ _).trans hq.1).trans this.1,hq.2.trans this.2⟩)
theorem agree_dec {q:Nat} {t b:Bool} {a:Act} (ha:Agree n a (kn env)) (hq:lookE env q=some (.av (.val (.bool t)))) (e:EV) (he:e.v = .bool b) (h:t=b):Agree n a (kn ((q,e) :: env)):=by
  subst h
  rw [kn_cons,he]
  refine ⟨ha.1,ha.2.1,λu v hv=>?_⟩
  unfold Env.upd at hv
  by_cases e':q=u
  · subst e';rw [if_pos rfl] at hv;injection hv with hv;subst hv;exact ha.2.2 _ _ (kn_some hq)
  · rw [if_neg e'] at hv;exact ha.2.2 _ _ hv
theorem RD.dec {q:Nat} {t b:Bool} (hq:lookE env q=some (.av (.val (.bool t)))) (e:EV) (he:e.v = .bool b) (ht:t=b) (h:RD P f n tb B0 S R k ops G I0 fuel l ((q,e) :: env) H nx m I) :
    RD P f n tb B0 S R k ops G I0 fuel l env H nx m I:=λw a hm hst hst0 ha=>h w a hm hst hst0 (agree_dec ha hq e he ht)
theorem advD_ok (hk:tb.Ok P) (hp:pairOk ops=true):∀ (r:List Oper) (i:Nat) (ds:List Bool) (fuel:Nat) (l:List Bool) (env:SEnv) (ob:List Ob) (eq:List Eqn) {s:StD},(∀ j,r[j]? = ops[i+j]?)->advD tb n ops G r i ds fuel l env ob eq=s →
    AllOb s.2.2.2.1->AllEqn s.2.2.2.2->RD P f n tb B0 S R k ops G I0 s.1 s.2.1 s.2.2.1 H nx m I->RD P f n tb B0 S R k ops G I0 fuel l env H nx m I:=by
  intro r
  induction r with
  | nil=>intro i ds fuel l env ob eq s _ hs _ _ h;subst hs;exact h
  | cons o r ih =>
    intro i ds fuel l env ob eq s hr hs h1 h2 h
    have ho:ops[i]? = some o:=by simpa using (hr 0).symm
    have hr':∀ j,r[j]? = ops[i+1+j]?:=λj=>by have:=hr (j+1);simpa [Nat.add_assoc,Nat.add_comm 1 j] using this
    unfold advD at hs
    split at hs
    · rename_i hl
      split at hs
      · rename_i hrd
        split at hs
        · subst hs;exact h
        · split at hs
          · rename_i d hd
            split at hs
            · rename_i hdn
              have hdn':d < n:=Nat.lt_of_lt_of_le (Nat.lt_succ_self d) (Nat.le_of_ble_eq_true hdn)
              split at hs
              · rename_i hw
                split at hs
                · rename_i v ob' eq' hq
                  obtain ⟨g1,g2⟩:=advD_suf _ _ _ _ _ _ _ _ hs
                  exact RD.take hp ho hd hdn' hl hrd (λa ha=>.inl ⟨wantE_yes hw ha,quietE_ok hk ha hq (h1.suf g1) (h2.suf g2)⟩) (ih _ _ _ _ _ _ _ hr' hs h1 h2 h)
                · exact ih _ _ _ _ _ _ _ hr' hs h1 h2 h
              · rename_i hw
                exact RD.take hp ho hd hdn' hl hrd (λa ha=>.inr ⟨wantE_no hw ha,rfl⟩) (ih _ _ _ _ _ _ _ hr' hs h1 h2 h)
              · rename_i q t hw
                have hq:=wantE_open hw
                split at hs
                · split at hs
                  · rename_i hw2
                    split at hs
                    · rename_i v ob' eq' hqq
                      obtain ⟨g1,g2⟩:=advD_suf _ _ _ _ _ _ _ _ hs
                      have g3:=(AllOb.suf (quietE_suf hqq).1 (h1.suf g1)).1
                      exact RD.dec hq .tt rfl g3 (RD.take hp ho hd hdn' hl hrd (λa ha=>.inl ⟨wantE_yes hw2 ha,quietE_ok hk ha hqq (h1.suf g1) (h2.suf g2)⟩) (ih _ _ _ _ _ _ _ hr' hs h1 h2 h))
                    · obtain ⟨g1,g2⟩:=advD_suf _ _ _ _ _ _ _ _ hs
                      exact RD.dec hq .tt rfl (h1.suf g1).1 (ih _ _ _ _ _ _ _ hr' hs h1 h2 h)
                  · rename_i hw2
                    obtain ⟨g1,g2⟩:=advD_suf _ _ _ _ _ _ _ _ hs
                    exact RD.dec hq .tt rfl (h1.suf g1).1 (RD.take hp ho hd hdn' hl hrd (λa ha=>.inr ⟨wantE_no hw2 ha,rfl⟩) (ih _ _ _ _ _ _ _ hr' hs h1 h2 h))
                  · subst hs;exact h
                · split at hs
                  · rename_i hw2
                    split at hs
                    · rename_i v ob' eq' hqq
                      obtain ⟨g1,g2⟩:=advD_suf _ _ _ _ _ _ _ _ hs
                      have g3:=(AllOb.suf (quietE_suf hqq).1 (h1.suf g1)).1
                      exact RD.dec hq .ff rfl g3 (RD.take hp ho hd hdn' hl hrd (λa ha=>.inl ⟨wantE_yes hw2 ha,quietE_ok hk ha hqq (h1.suf g1) (h2.suf g2)⟩) (ih _ _ _ _ _ _ _ hr' hs h1 h2 h))
                    · obtain ⟨g1,g2⟩:=advD_suf _ _ _ _ _ _ _ _ hs
                      exact RD.dec hq .ff rfl (h1.suf g1).1 (ih _ _ _ _ _ _ _ hr' hs h1 h2 h)
                  · rename_i hw2
                    obtain ⟨g1,g2⟩:=advD_suf _ _ _ _ _ _ _ _ hs
                    exact RD.dec hq .ff rfl (h1.suf g1).1 (RD.take hp ho hd hdn' hl hrd (λa ha=>.inr ⟨wantE_no hw2 ha,rfl⟩) (ih _ _ _ _ _ _ _ hr' hs h1 h2 h))
                  · subst hs;exact h
                · subst hs;exact h
              · exact ih _ _ _ _ _ _ _ hr' hs h1 h2 h
            · subst hs;exact h
          · exact ih _ _ _ _ _ _ _ hr' hs h1 h2 h
      · exact ih _ _ _ _ _ _ _ hr' hs h1 h2 h
    · exact ih _ _ _ _ _ _ _ hr' hs h1 h2 h
variable {fuel':Nat} {l':List Bool} {env':SEnv} {ob:List Ob} {eq:List Eqn}
theorem RD.adv (hk:tb.Ok P) (hp:pairOk ops=true) (ds:List Bool) (h:advD tb n ops G ops.toList 0 ds fuel l env [] []=(fuel',l',env',ob,eq)) (heq:AllEqn eq) (hob:AllOb ob)
    (hr:RD P f n tb B0 S R k ops G I0 fuel' l' env' H nx m I):RD P f n tb B0 S R k ops G I0 fuel l env H nx m I :=
  advD_ok hk hp _ 0 ds fuel l env [] [] (λj=>by simp) h (by rw [← show _=_ from congrArg (λs=>s.2.2.2.1) h];simpa [h] using hob) (by simpa [h] using heq) (by simpa [h] using hr)
theorem RD.read (hp:pairOk ops=true) {i d:Nat} {o:Oper} (e:EV) (ho:ops.toList[i]? = some o) (hd:o.dst=some d) (hdn:Nat.blt d n=true) (hw:wantE env ops o.guard = .yes) (hl:l[i]? = some false) (hr:readyE l o=true)
    (hv:∀ w a,I0 w->Agree n a (kn env)->(execOp a.eval o).run P w = .ok (.value e.v) w)
    (h:RD P f n tb B0 S R k ops G I0 fuel (l.set i true) ((d,e) :: env) H nx m I):RD P f n tb B0 S R k ops G I0 (fuel+1) l env H nx m I:=by
  rw [Array.getElem?_toList] at ho
  exact RD.take hp ho hd (Nat.lt_of_lt_of_le (Nat.lt_succ_self d) (Nat.le_of_ble_eq_true hdn)) hl hr (λa ha=>.inl ⟨wantE_yes hw ha,λw hst=>hv w a hst.fact ha⟩) h
theorem RD.load (hp:pairOk ops=true) {i d:Nat} {T:TypeId} {x:Operand} {ty:TypeId} {ps:String} {af:Array Edge} {gd:Option (Nat × Bool)} {p:Addr} (e:EV) (ho:ops.toList[i]? = some ⟨some d,.load T x,ty,ps,af,gd⟩) (hdn:Nat.blt d n=true) (hw:wantE env ops gd = .yes)
    (hl:l[i]? = some false) (hr:readyE l ⟨some d,.load T x,ty,ps,af,gd⟩=true) (hx:evE env x=some (.av (.val (.pointer (some p))))) (hv:∀ w,I0 w->(loadVar T p).run P w = .ok e.v w)
    (h:RD P f n tb B0 S R k ops G I0 fuel (l.set i true) ((d,e) :: env) H nx m I):RD P f n tb B0 S R k ops G I0 (fuel+1) l env H nx m I :=
  RD.read hp e ho rfl hdn hw hl hr (λw a hI ha=>by simp [execOp,Instr.loadAt,ev_run ha hx,EV.v,AV.v,Instr.sureAddr,hv w hI]) h
end
end Go.Proofs.YtbfjmimiigjenaaGreatDoor.V
