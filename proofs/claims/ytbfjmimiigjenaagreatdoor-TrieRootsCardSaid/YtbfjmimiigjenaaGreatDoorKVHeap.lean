/-
Lemmas. No condition.
-/
import Derived.Deep.MidRow
import Derived.Test.YtbfjmimiigjenaaGreatDoorKVBase
set_option linter.unusedVariables false
set_option linter.unusedSectionVars false
set_option linter.unusedSimpArgs false
namespace Go.Proofs.YtbfjmimiigjenaaGreatDoor.V
open Go Go.RowKit
inductive TT where
 | nil
 | node (k:Nat) (i:TypeInfo) (l r:TT)
def TT.get:TT->Nat->Option TypeInfo
 | .nil,_=>none
 | .node k i l r,t=>bif Nat.beq t k then some i else bif Nat.blt t k then l.get t else r.get t
def TT.Ok (P:Program):TT->Prop
 | .nil=>True
 | .node k i l r=>P.info? k=some i/\l.Ok P/\r.Ok P
theorem TT.Ok.nil {P:Program}:TT.Ok P .nil:=trivial
theorem TT.Ok.node {P:Program} {k:Nat} {i:TypeInfo} {l r:TT} (h:P.info? k=some i) (hl:TT.Ok P l) (hr:TT.Ok P r):TT.Ok P (.node k i l r):=⟨h,hl,hr⟩
theorem TT.Ok.get {P:Program} {t:Nat} {i:TypeInfo}:∀ {tb:TT},tb.Ok P->tb.get t=some i->P.info? t=some i
 | .nil,_,h=>by cases h
 | .node k j l r,hk,h=>by
  simp only [TT.get] at h
  cases hb:Nat.beq t k
  ·simp only [hb,cond_false] at h
   cases hc:Nat.blt t k
   ·simp only [hc,cond_false] at h;exact TT.Ok.get hk.2.2 h
   ·simp only [hc,cond_true] at h;exact TT.Ok.get hk.2.1 h
  ·simp only [hb,cond_true] at h
   injection h with h;subst h
   rw [Nat.eq_of_beq_eq_true hb];exact hk.1
def TT.und (tb:TT) (t:Nat):Option TypeDesc :=
 match tb.get t with
 | some i=>match i.desc with
  | .named _ u=>match tb.get u with
   | some j=>some j.desc
   | none=>none
  | d=>some d
 | none=>none
theorem TT.Ok.und {P:Program} {t:Nat} {d:TypeDesc} {tb:TT} (hk:tb.Ok P) (h:tb.und t=some d):P.underlying t=some d:=by
 unfold TT.und at h
 unfold Program.underlying
 split at h
 ·rename_i i hi
  have h1:=hk.get hi
  obtain ⟨desc⟩:=i
  dsimp only at h
  cases desc with
  | named s u =>
   simp only [] at h
   split at h
   ·rename_i j hj
    have h2:=hk.get hj
    simp only [h1,h2,Option.map_some];exact h
   ·cases h
  | _=>simp only [h1];exact h
 ·cases h
inductive CV where
 | val (v:Value)
 | box (id b:Nat)
def CV.v:CV->Value
 | .val v=>v
 | .box _ b=>.pointer (some ⟨b,0,none⟩)
inductive AV where
 | val (v:Value)
 | box (id b off:Nat)
 | row (id:Nat) (v:Value)
 | fn (f:Fn) (first cap:List CV)
def AV.v:AV->Value
 | .val v=>v
 | .box _ b off=>.pointer (some ⟨b,off,none⟩)
 | .row _ v=>v
 | .fn f x y=>.func f (x.map CV.v).toArray (y.map CV.v).toArray
def flat (l:List Value):List Value:=l.flatMap λv=>v.cells.toList
inductive EV where
 | av (a:AV)
 | tt
 | ff
 | st (fs:List AV)
def EV.v:EV->Value
 | .av a=>a.v
 | .tt=>.bool true
 | .ff=>.bool false
 | .st fs=>.agg (flat (fs.map AV.v)).toArray
abbrev SEnv:=List (Nat × EV)
def lookE:SEnv->Nat->Option EV
 | [],_=>none
 | (d,v) :: r,t=>bif Nat.beq d t then some v else lookE r t
def kn (env:SEnv):Env:=λt=>match lookE env t with
 | some e=>some e.v
 | none=>none
theorem kn_some {env:SEnv} {t:Nat} {e:EV} (h:lookE env t=some e):kn env t=some e.v:=by unfold kn;rw [h]
theorem kn_cons (d:Nat) (e:EV) (env:SEnv):kn ((d,e) :: env)=(kn env).upd d e.v:=by
 funext t
 unfold kn Env.upd
 simp only [lookE]
 by_cases h:d=t
 ·subst h;simp
 ·have:Nat.beq d t=false:=by
   cases hb:Nat.beq d t
   ·rfl
   ·exact absurd (Nat.eq_of_beq_eq_true hb) h
  rw [this,if_neg h];rfl
def Sub (E:SEnv) (K:Env):Prop:=E.map (λp=>K p.1)=E.map (λp=>some p.2.v)
theorem Sub.le {E:SEnv} {K:Env} (h:Sub E K):(kn E).le K:=by
 induction E with
 | nil=>intro t v hv;simp [kn,lookE] at hv
 | cons p r ih =>
  obtain ⟨d,e⟩:=p
  unfold Sub at h ih
  simp only [List.map_cons,List.cons.injEq] at h
  intro t v hv
  rw [kn_cons] at hv
  unfold Env.upd at hv
  by_cases hdt:d=t
  ·subst hdt
   rw [if_pos rfl] at hv
   rw [← hv];exact h.1
  ·rw [if_neg hdt] at hv
   exact ih h.2 t v hv
inductive HE where
 | box (b:Nat) (fs:List AV) (T:TypeId)
 | row (v:Value) (e:TypeId) (sz n:Nat) (xs:List Value)
 | obj (b:Nat) (o:Obj)
abbrev Heap:=List (Nat × Option HE)
def loH:Heap->Nat->Option HE
 | [],_=>none
 | (i,x) :: r,t=>bif Nat.beq i t then x else loH r t
theorem lookH_cons (i:Nat) (x:Option HE) (H:Heap) (t:Nat):loH ((i,x) :: H) t=if i=t then x else loH H t:=by
 simp only [loH]
 by_cases h:i=t
 ·subst h;simp
 ·have:Nat.beq i t=false:=by
   cases hb:Nat.beq i t
   ·rfl
   ·exact absurd (Nat.eq_of_beq_eq_true hb) h
  rw [this,if_neg h];rfl
def HE.blk:HE->Option Nat
 | .box b _ _=>some b
 | .row v _ _ _ _=>v.ownBlock
 | .obj b _=>some b
def VOk (tb:TT) (T:TypeId) (v:Value):Prop :=
 match tb.und T with
 | some (.struct _)|some (.array _ _)=>∃ cs i,v = .agg cs/\tb.get T=some i/\cs.size=i.size/\∀ u ∈ cs.toList,u.oneCell'=true
 | some _=>v.oneCell'=true/\∃ i,tb.get T=some i/\i.size=1
 | none=>False
theorem VOk.size {tb:TT} {T:TypeId} {v:Value} (h:VOk tb T v):∃ i,tb.get T=some i/\v.cells.size=i.size:=by
 unfold VOk at h
 split at h
 ·obtain ⟨cs,i,rfl,hi,hs,_⟩:=h;exact ⟨i,hi,hs⟩
 ·obtain ⟨cs,i,rfl,hi,hs,_⟩:=h;exact ⟨i,hi,hs⟩
 ·obtain ⟨h1,i,hi,hs⟩:=h;exact ⟨i,hi,by rw [hs];cases v<;>first|rfl|cases h1⟩
 ·exact h.elim
theorem VOk.one {tb:TT} {T:TypeId} {v:Value} (h:VOk tb T v):∀ u ∈ v.cells.toList,u.oneCell'=true:=by
 unfold VOk at h
 split at h
 ·obtain ⟨cs,i,rfl,hi,hs,h1⟩:=h;exact h1
 ·obtain ⟨cs,i,rfl,hi,hs,h1⟩:=h;exact h1
 ·obtain ⟨h1,_⟩:=h
  intro u hu
  have:v.cells = #[v]:=by cases v<;>first|rfl|cases h1
  rw [this] at hu
  simp at hu
  rw [hu];exact h1
 ·exact h.elim
def Lay (tb:TT):List Field->List AV->Nat->Prop
 | [],[],_=>True
 | fd :: r,a :: s,off=>fd.offset=off/\VOk tb fd.type a.v/\Lay tb r s (off+a.v.cells.size)
 | _,_,_=>False
def Fit (tb:TT) (T:TypeId) (fs:List AV):Prop :=
 match tb.und T with
 | some (.struct fds)=>Lay tb fds.toList fs 0/\∃ i,tb.get T=some i/\(flat (fs.map AV.v)).length=i.size
 | some _=>∃ a,fs=[a]/\VOk tb T a.v
 | none=>False
def boxCells (fs:List AV):Array Value:=(flat (fs.map AV.v)).toArray
def HE.holds (tb:TT) (B0:Nat) (w:World):HE->Prop
 | .box b fs T=>B0 ≤ b/\w.heap[b]? = some (.cells (boxCells fs) T (0,0))/\Fit tb T fs
 | .row v e sz n xs=>w.ownsRow B0 e sz v n xs
 | .obj b o=>B0 ≤ b/\w.heap[b]? = some o
structure Agr (X:Nat->Prop) (w w':World):Prop where
 os:w'.os=w.os
 tape:w'.tape=w.tape
 output:w'.output=w.output
 size:w.heap.size ≤ w'.heap.size
 block:∀ k,k < w.heap.size->¬ X k->w'.heap[k]? = w.heap[k]?
theorem Agr.refl (X:Nat->Prop) (w:World):Agr X w w:=⟨rfl,rfl,rfl,Nat.le_refl _,λ_ _ _=>rfl⟩
theorem Agr.trans {X:Nat->Prop} {a b c:World} (h:Agr X a b) (k:Agr X b c):Agr X a c :=
 ⟨k.os.trans h.os,k.tape.trans h.tape,k.output.trans h.output,Nat.le_trans h.size k.size,λi hi hx=>(k.block i (Nat.lt_of_lt_of_le hi h.size) hx).trans (h.block i hi hx)⟩
theorem Agr.mono {X Y:Nat->Prop} {w w':World} (h:Agr X w w') (hxy:∀ k,k < w.heap.size->X k->Y k):Agr Y w w' :=
 ⟨h.os,h.tape,h.output,h.size,λk hk hy=>h.block k hk λhx=>hy (hxy k hk hx)⟩
abbrev Ext (w w':World):Prop:=Below w.heap.size w w'
theorem Ext.agr {w w':World} (h:Ext w w') (X:Nat->Prop):Agr X w w':=⟨h.os,h.tape,h.output,h.size,λk hk _=>h.block k hk⟩
theorem Ext.trans' {a b c:World} (h:Ext a b) (k:Ext b c):Ext a c:=Below.trans h (k.mono h.size)
theorem Ext.rfl' (w:World):Ext w w:=Below.refl _ _
def own (H:Heap) (k:Nat):Prop:=∃ id x,loH H id=some x/\x.blk=some k
structure St (tb:TT) (B0:Nat) (H:Heap) (I:World->Prop) (w:World):Prop where
 base:B0 ≤ w.heap.size
 holds:∀ id x,loH H id=some x->x.holds tb B0 w
 apart:∀ i j x y,i ≠ j->loH H i=some x->loH H j=some y->∀ b,x.blk=some b->y.blk ≠ some b
 keeps:∀ w',Agr (own H) w w'->I w'
theorem St.fact {tb:TT} {B0:Nat} {H:Heap} {I:World->Prop} {w:World} (h:St tb B0 H I w):I w:=h.keeps w (Agr.refl _ _)
theorem HE.lt {tb:TT} {B0:Nat} {w:World} {x:HE} (h:x.holds tb B0 w) {k:Nat} (hk:x.blk=some k):B0 ≤ k/\k < w.heap.size:=by
 cases x with
 | box b fs T =>
  injection hk with hk;subst hk
  exact ⟨h.1,(Array.getElem?_eq_some_iff.1 h.2.1).1⟩
 | row v e sz n xs=>exact World.ownsRow.lt h k hk
 | obj b o =>
  injection hk with hk;subst hk
  exact ⟨h.1,(Array.getElem?_eq_some_iff.1 h.2).1⟩
theorem HE.kept {tb:TT} {B0:Nat} {w w':World} {x:HE} (h:x.holds tb B0 w) (hb:∀ k,x.blk=some k->w'.heap[k]? = w.heap[k]?):x.holds tb B0 w':=by
 cases x with
 | box b fs T=>exact ⟨h.1,by rw [hb b rfl];exact h.2.1,h.2.2⟩
 | row v e sz n xs =>
  refine ⟨h.1,?_⟩
  rcases h.2 with h2|⟨g,cap,cur,hv,hg,hh,r⟩
  ·exact .inl h2
  ·exact .inr ⟨g,cap,cur,hv,hg,by rw [hb g (by rw [HE.blk,hv];rfl)];exact hh,r⟩
 | obj b o=>exact ⟨h.1,by rw [hb b rfl];exact h.2⟩
section
variable {tb:TT} {B0:Nat} {H:Heap} {I:World->Prop} {w w':World}
theorem St.ext (h:St tb B0 H I w) (he:Ext w w'):St tb B0 H I w' where
 base:=Nat.le_trans h.base he.size
 holds id x hx:=HE.kept (h.holds id x hx) λk hk=>he.block k (HE.lt (h.holds id x hx) hk).2
 apart:=h.apart
 keeps w'' ha:=h.keeps w'' ((he.agr _).trans ha)
theorem St.push (h:St tb B0 H I w) (he:Ext w w') (id:Nat) (x:HE) (hx:x.holds tb B0 w') (hn:∀ k,x.blk=some k->w.heap.size ≤ k):St tb B0 ((id,some x) :: H) I w' where
 base:=Nat.le_trans h.base he.size
 holds i y hy:=by
  rw [lookH_cons] at hy
  by_cases e:id=i
  ·rw [if_pos e] at hy;injection hy with hy;subst hy;exact hx
  ·rw [if_neg e] at hy
   exact HE.kept (h.holds i y hy) λk hk=>he.block k (HE.lt (h.holds i y hy) hk).2
 apart i j y z hij hy hz b hb hc:=by
  rw [lookH_cons] at hy hz
  by_cases e1:id=i
  ·rw [if_pos e1] at hy
   have e2:id ≠ j:=λe=>hij (e1.symm.trans e)
   rw [if_neg e2] at hz
   injection hy with hy;subst hy
   have:=hn b hb
   have:=(HE.lt (h.holds j z hz) hc).2
   omega
  ·rw [if_neg e1] at hy
   by_cases e2:id=j
   ·rw [if_pos e2] at hz
    injection hz with hz;subst hz
    have:=hn b hc
    have:=(HE.lt (h.holds i y hy) hb).2
    omega
   ·rw [if_neg e2] at hz
    exact h.apart i j y z hij hy hz b hb hc
 keeps w'' ha:=by
  refine h.keeps w'' ?_
  refine ⟨ha.os.trans he.os,ha.tape.trans he.tape,ha.output.trans he.output,Nat.le_trans he.size ha.size,λk hk hno=>?_⟩
  rw [ha.block k (Nat.lt_of_lt_of_le hk he.size) ?_,he.block k hk]
  rintro ⟨i,y,hy,hb⟩
  rw [lookH_cons] at hy
  by_cases e:id=i
  ·rw [if_pos e] at hy;injection hy with hy;subst hy
   have:=hn k hb
   omega
  ·rw [if_neg e] at hy
   exact hno ⟨i,y,hy,hb⟩
theorem St.turn (h:St tb B0 H I w) (id:Nat) (x y:HE) (hl:loH H id=some x) (ha:Agr (λk=>x.blk=some k) w w') (hy:y.holds tb B0 w')
  (hb:∀ k,y.blk=some k->x.blk=some k ∨ w.heap.size ≤ k):St tb B0 ((id,some y) :: H) I w' where
 base:=Nat.le_trans h.base ha.size
 holds i z hz:=by
  rw [lookH_cons] at hz
  by_cases e:id=i
  ·rw [if_pos e] at hz;injection hz with hz;subst hz;exact hy
  ·rw [if_neg e] at hz
   exact HE.kept (h.holds i z hz) λk hk=>ha.block k (HE.lt (h.holds i z hz) hk).2 λhx=>h.apart id i x z e hl hz k hx hk
 apart i j u z hij hu hz b hub hzb:=by
  rw [lookH_cons] at hu hz
  by_cases e1:id=i
  ·rw [if_pos e1] at hu
   have e2:id ≠ j:=λe=>hij (e1.symm.trans e)
   rw [if_neg e2] at hz
   injection hu with hu;subst hu
   rcases hb b hub with h1|h1
   ·exact h.apart id j x z e2 hl hz b h1 hzb
   ·have:=(HE.lt (h.holds j z hz) hzb).2
    omega
  ·rw [if_neg e1] at hu
   by_cases e2:id=j
   ·rw [if_pos e2] at hz
    injection hz with hz;subst hz
    rcases hb b hzb with h1|h1
    ·exact h.apart id i x u e1 hl hu b h1 hub
    ·have:=(HE.lt (h.holds i u hu) hub).2
     omega
   ·rw [if_neg e2] at hz
    exact h.apart i j u z hij hu hz b hub hzb
 keeps w'' hw'':=by
  refine h.keeps w'' ?_
  have h1:Agr (own H) w w':=ha.mono λk _ hk=>⟨id,x,hl,hk⟩
  refine ⟨hw''.os.trans ha.os,hw''.tape.trans ha.tape,hw''.output.trans ha.output,Nat.le_trans ha.size hw''.size,λk hk hno=>?_⟩
  rw [hw''.block k (Nat.lt_of_lt_of_le hk ha.size) ?_,h1.block k hk hno]
  rintro ⟨i,z,hz,hzb⟩
  rw [lookH_cons] at hz
  by_cases e:id=i
  ·rw [if_pos e] at hz;injection hz with hz;subst hz
   rcases hb k hzb with h2|h2
   ·exact hno ⟨id,x,hl,h2⟩
   ·omega
  ·rw [if_neg e] at hz
   exact hno ⟨i,z,hz,hzb⟩
theorem St.mono {J:World->Prop} (h:St tb B0 H I w) (hj:∀ w',Agr (own H) w w'->I w'->J w'):St tb B0 H J w :=
 ⟨h.base,h.holds,h.apart,λw' ha=>hj w' ha (h.keeps w' ha)⟩
theorem St.give (h:St tb B0 H I w) (id:Nat):St tb B0 ((id,none) :: H) I w where
 base:=h.base
 holds i z hz:=by
  rw [lookH_cons] at hz
  by_cases e:id=i
  ·rw [if_pos e] at hz;cases hz
  ·rw [if_neg e] at hz;exact h.holds i z hz
 apart i j u z hij hu hz:=by
  rw [lookH_cons] at hu hz
  by_cases e1:id=i
  ·rw [if_pos e1] at hu;cases hu
  ·by_cases e2:id=j
   ·rw [if_pos e2] at hz;cases hz
   ·rw [if_neg e1] at hu;rw [if_neg e2] at hz;exact h.apart i j u z hij hu hz
 keeps w' ha:=h.keeps w' (ha.mono λk _=>by
  rintro ⟨i,z,hz,hb⟩
  rw [lookH_cons] at hz
  by_cases e:id=i
  ·rw [if_pos e] at hz;cases hz
  ·rw [if_neg e] at hz;exact ⟨i,z,hz,hb⟩)
end
end Go.Proofs.YtbfjmimiigjenaaGreatDoor.V
