/-
Lemmas. No condition.
-/
import Derived.Test.YtbfjmimiigjenaaGreatDoorKVEq
set_option linter.unusedVariables false
set_option linter.unusedSectionVars false
set_option linter.unusedSimpArgs false
namespace Go.Proofs.YtbfjmimiigjenaaGreatDoor.V
open Go Go.RowKit
def rowE {α:Type} (κ:Kd α) (A:Option Addr) (c:Nat) (l:List α):Option HE:=some (.row (.slice A l.length c) κ.T κ.sz l.length (l.flatMap κ.cs))
abbrev rowS (id:Nat) (A:Option Addr) (n c:Nat):EV:=.av (.row id (.slice A n c))
section
variable {α:Type} {κ:Kd α} {w:World} {A:Option Addr} {c:Nat} {l:List α} {B:Nat}
theorem Sl.lies (h:Sl κ w A c l):Lies w A c (l.flatMap κ.cs) :=
 ⟨λe=>by obtain ⟨rfl,h2⟩:=h.nil e;exact ⟨rfl,h2⟩,λhn=>h.addr (by rintro rfl;exact hn rfl),h.cells⟩
theorem Sl.own (h:w.ownsRow B κ.T κ.sz (.slice A l.length c) l.length (l.flatMap κ.cs)) (hs:l.length ≤ lim):Sl κ w A c l:=by
 rcases h.2 with ⟨h1,h2⟩|⟨g,cap,cur,hv,hg,hh,hc,_,hcs,ht⟩
 ·injection h1 with h3 h4 h5
  have:l=[]:=List.length_eq_zero_iff.1 h2
  subst this;subst h3;subst h5
  exact Sl.void w
 ·injection hv with h3 h4 h5
  subst h3;subst h5
  refine ⟨hc,hs,λ_=>rfl,?_,λh=>by cases h⟩
  intro j v hj
  have hlt:=(List.getElem?_eq_some_iff.1 hj).1
  rw [κ.flL] at hlt
  rw [← ht,List.getElem?_take,if_pos hlt] at hj
  show w.cell? ⟨g,0+j,none⟩=some v
  rw [Nat.zero_add]
  simp only [World.cell?,hh]
  simpa using hj
theorem own_ptr (h:w.ownsRow B κ.T κ.sz (.slice A l.length c) l.length (l.flatMap κ.cs)) (hn:l ≠ []):∃ g,A=some ⟨g,0,none⟩:=by
 rcases h.2 with ⟨_,h2⟩|⟨g,cap,cur,hv,_⟩
 ·exact absurd (List.length_eq_zero_iff.1 h2) hn
 ·injection hv with h3;exact ⟨g,h3⟩
theorem own_cap (h:w.ownsRow B κ.T κ.sz (.slice A l.length c) l.length (l.flatMap κ.cs)):l.length ≤ c:=by
 rcases h.2 with ⟨h1,h2⟩|⟨g,cap,cur,hv,_,_,hc,_⟩
 ·omega
 ·injection hv with _ _ h3;omega
theorem flat_setK:∀ (l:List α) (i:Nat) (x:α),i < l.length->((l.flatMap κ.cs).take (i*κ.sz)) ++ κ.cs x ++ (l.flatMap κ.cs).drop (i*κ.sz+κ.sz)=(l.set i x).flatMap κ.cs
 | [],_,_,h=>by cases h
 | y :: r,0,x,_=>by
  simp only [Nat.zero_mul,List.take_zero,List.nil_append,List.set_cons_zero,List.flatMap_cons,Nat.zero_add]
  rw [List.drop_left' (κ.cs_len y)]
 | y :: r,i+1,x,h=>by
  have ih:=flat_setK r i x (by simpa using h)
  simp only [List.flatMap_cons,List.set_cons_succ]
  rw [← ih,Nat.succ_mul,Nat.add_comm (i*κ.sz) κ.sz,← κ.cs_len y,List.take_length_add_append,Nat.add_assoc,List.drop_length_add_append]
  simp only [List.append_assoc,κ.cs_len]
  rw [Nat.add_comm κ.sz (i*κ.sz)]
theorem Kd.v_cells (κ:Kd α) (x:α):(κ.ev x).v.cells.toList=κ.cs x:=rfl
theorem run_storeRow {T:TypeId} (hT:T=κ.T) (h:w.ownsRow B κ.T κ.sz (.slice A l.length c) l.length (l.flatMap κ.cs)) {i:Nat} (hi:i < l.length) (x:α) :
  ∃ w',(storeVar T ⟨blkA A,offA A+i*κ.sz,none⟩ (κ.ev x).v).run Tryz.prog w = .ok () w'/\w'.ownsRow B κ.T κ.sz (.slice A (l.set i x).length c) (l.set i x).length ((l.set i x).flatMap κ.cs)/\Agr (λk=>k=blkA A) w w'/\w'.heap.size=w.heap.size:=by
 subst hT
 rcases h.2 with ⟨_,h2⟩|⟨g,cap,cur,hv,hg,hh,hc,hm,hcs,ht⟩
 ·omega
 ·injection hv with h3 h4 h5
  subst h3;subst h5
  have hlen:=κ.flL l
  have hmul:i*κ.sz+κ.sz ≤ l.length*κ.sz:=by rw [← Nat.succ_mul];exact Nat.mul_le_mul_right _ hi
  have hmul2:l.length*κ.sz ≤ c*κ.sz:=Nat.mul_le_mul_right _ hc
  have hsz:(κ.ev x).v.cells.size=κ.sz:=κ.size x
  obtain ⟨w',h1,h2,h3,h4⟩:=run_storeAt (P:=Tryz.prog) tk (κ.ok x) (o:=i*κ.sz) hh (by rw [hsz,hcs];omega)
  have hb:blkA (some (⟨g,0,none⟩:Addr))=g:=rfl
  have ho:offA (some (⟨g,0,none⟩:Addr))=0:=rfl
  rw [hb,ho,Nat.zero_add]
  refine ⟨w',h1,⟨?_,.inr ⟨g,c,_,rfl,hg,h2,?_,hm,?_,?_⟩⟩,h3,h4⟩
  ·rw [κ.flL]
  ·simpa using hc
  ·rw [κ.v_cells,hsz]
   simp only [List.size_toArray,List.length_append,List.length_take,List.length_drop,Array.length_toList,κ.cs_len]
   omega
  ·rw [κ.v_cells,hsz,← flat_setK l i x hi,← ht,List.length_set]
   simp only [List.take_take,List.drop_take]
   rw [Nat.min_eq_left (by omega)]
   have e1:(cur.toList.take (i*κ.sz) ++ κ.cs x).length=i*κ.sz+κ.sz:=by
    rw [List.length_append,List.length_take,κ.cs_len,Array.length_toList];omega
   have e2:l.length*κ.sz=(cur.toList.take (i*κ.sz) ++ κ.cs x).length+(l.length*κ.sz - (i*κ.sz+κ.sz)):=by rw [e1];omega
   rw [e2,List.take_length_add_append,← e2]
end
section
variable {f:Fr} {n:Nat} {S:Stops} {R:Ending->World->Prop} {B0:Nat} {I:World->Prop} {H:Heap} {nx m:Nat} {env:SEnv} {todo k:List Item}
variable {α:Type} {κ:Kd α} {A:Option Addr} {c:Nat} {l:List α} {id:Nat}
theorem RH.pureS {P:Program} {tb:TT} {p:Prop} (h:∀ w,St tb B0 H I w->p) (hr:p->RH P f n tb B0 S R todo env H nx m I):RH P f n tb B0 S R todo env H nx m I :=
 λw hm hst=>hr (h w hst) w hm hst
theorem St.row {w:World} (h:St tb B0 H I w) (hH:loH H id=rowE κ A c l):w.ownsRow B0 κ.T κ.sz (.slice A l.length c) l.length (l.flatMap κ.cs):=h.holds id _ hH
theorem St.ptr {w:World} (h:St tb B0 H I w) (hH:loH H id=rowE κ A c l) (hn:l ≠ []):Ptr A:=by
 obtain ⟨g,rfl⟩:=own_ptr (h.row hH) hn
 rfl
theorem St.loadRow {w:World} (h:St tb B0 H I w) (hH:loH H id=rowE κ A c l) (hs:l.length ≤ lim) {i:Nat} (hi:i < l.length) :
  (loadVar κ.T ⟨blkA A,offA A+i*κ.sz,none⟩).run Tryz.prog w = .ok (κ.ev l[i]).v w:=(Sl.own (h.row hH) hs).load hi
theorem St.storeRow {w:World} (h:St tb B0 H I w) {T:TypeId} (hT:T=κ.T) (hH:loH H id=rowE κ A c l) {i:Nat} (hi:i < l.length) (x:α) :
  ∃ w',(storeVar T ⟨blkA A,offA A+i*κ.sz,none⟩ (κ.ev x).v).run Tryz.prog w = .ok () w'/\w.heap.size ≤ w'.heap.size/\St tb B0 ((id,rowE κ A c (l.set i x)) :: H) I w':=by
 obtain ⟨w',h1,h2,h3,h4⟩:=run_storeRow hT (h.row hH) hi x
 obtain ⟨g,rfl⟩:=own_ptr (h.row hH) (by rintro rfl;cases hi)
 have hH':loH H id=some (HE.row (.slice (some ⟨g,0,none⟩) l.length c) κ.T κ.sz l.length (l.flatMap κ.cs)):=hH
 have ht:St tb B0 ((id,some (HE.row (.slice (some ⟨g,0,none⟩) (l.set i x).length c) κ.T κ.sz (l.set i x).length ((l.set i x).flatMap κ.cs))) :: H) I w':=by
  refine h.turn id _ _ hH' (h3.mono λk _ e=>?_) h2 λk hk=>.inl hk
  subst e;rfl
 exact ⟨w',h1,by rw [h4];exact Nat.le_refl _,ht⟩
theorem St.liR {w:World} (h:St tb B0 H I w) (hH:loH H id=rowE κ A c l) (hs:l.length ≤ lim):Lies w A c (l.flatMap κ.cs):=(Sl.own (h.row hH) hs).lies
theorem St.out {w:World} {G:Heap} {J:World->Prop} (h:St tb B0 H I w) (σ:List (Nat × Nat)) (hG:SelEq G H σ) (hn:nodupN (G.map λp=>ren σ p.1)=true) (hJ:∀ u,I u->J u):St tb B0 G J w :=
 (h.sel (Sel.of σ hG hn)).mono λu _=>hJ u
theorem St.nilrow {w:World} (h:St tb B0 H I w) (id:Nat) (κ:Kd α):St tb B0 ((id,rowE κ none 0 []) :: H) I w:=h.push (Ext.rfl' w) id _ (World.ownsRow_nil w B0 κ.T κ.sz) λ_ h=>by cases h
variable {i:Nat} {rs:List Nat} {ops:Array Oper} {d:Nat} {ty:TypeId} {ps:String} {af:Array Edge} {gd:Option (Nat × Bool)}
theorem RH.apK {s x:Operand} {T:TypeId} {r:List α} {A2:Option Addr} {c2 by_ q:Nat}
  (ho:ops.toList[i]? = some ⟨some d,.call ⟨.builtin .append,#[s,x],#[T,T]⟩,ty,ps,af,gd⟩) (hw:wantE env ops gd = .yes)
  (hd:Nat.blt d n=true) (hs:evE env s=some (rowS id A q c)) (hq:q=l.length) (hT:tb.und T=some (.slice κ.T)) (hel:ElT tb κ.T κ.sz by_)
  (hH:loH H id=rowE κ A c l) (hx:sliE (evE env x)=some (A2,r.length,c2))
  (hn:∀ w,St tb B0 H I w->Lies w A2 c2 (r.flatMap κ.cs)) (hb:(l.length+r.length)*by_ ≤ 140737488355328) (h63:l.length+r.length ≤ lim)
  (hk:∀ A' c' m',m ≤ m'->RH Tryz.prog f n tb B0 S R (.inRegion ops rs :: k) ((d,rowS id A' (l ++ r).length c') :: env) ((id,rowE κ A' c' (l ++ r)) :: H) nx m' I) :
  RH Tryz.prog f n tb B0 S R (.inRegion ops (i :: rs) :: k) env H nx m I:=by
 subst hq
 refine RH.append tk ho hw hd hT hel hs hH hx (κ.flL r) (κ.one r) hn hb (Nat.le_trans h63 (by decide)) λA' c' m' hm=>?_
 have:=hk A' c' m' hm
 unfold rowE at this
 rw [List.flatMap_append,List.length_append] at this
 exact this
theorem RD.apK {s x:Operand} {T:TypeId} {r:List α} {A2:Option Addr} {c2 by_ q:Nat} {G0:Heap} {I0:World->Prop} {fuel:Nat} {bs:List Bool}
  (ho:ops.toList[i]? = some ⟨some d,.call ⟨.builtin .append,#[s,x],#[T,T]⟩,ty,ps,af,gd⟩) (hr:Region.ready .any ops bs.toArray=[i]) (hw:wantE env ops gd = .yes)
  (hd:Nat.blt d n=true) (hs:evE env s=some (rowS id A q c)) (hq:q=l.length) (hT:tb.und T=some (.slice κ.T)) (hel:ElT tb κ.T κ.sz by_)
  (hH:loH H id=rowE κ A c l) (hx:sliE (evE env x)=some (A2,r.length,c2))
  (hn:∀ w,St tb B0 H I w->Lies w A2 c2 (r.flatMap κ.cs)) (hb:(l.length+r.length)*by_ ≤ 140737488355328) (h63:l.length+r.length ≤ lim)
  (hG:∀ A' c',SubH G0 ((id,rowE κ A' c' (l ++ r)) :: H)) (hI:∀ w,I w->I0 w)
  (hk:∀ A' c' m',m ≤ m'->RD Tryz.prog f n tb B0 S R k ops G0 I0 fuel (bs.set i true) ((d,rowS id A' (l ++ r).length c') :: env) ((id,rowE κ A' c' (l ++ r)) :: H) nx m' I) :
  RD Tryz.prog f n tb B0 S R k ops G0 I0 (fuel+1) bs env H nx m I:=by
 subst hq
 obtain ⟨_,h1',h2'⟩:=sliE_ok hx
 refine RD.go ho hr hw (OpGo.append tk hd hT hel hs hH h1' h2' (κ.flL r) (κ.one r) hn hb (Nat.le_trans h63 (by decide))) nx ?_ (λ_=>hI) λy m' hm=>?_
 ·intro y
  have:=hG y.1 y.2
  unfold rowE at this
  rw [List.flatMap_append,List.length_append] at this
  exact this
 ·have:=hk y.1 y.2 m' hm
  unfold rowE at this
  rw [List.flatMap_append,List.length_append] at this
  exact this
theorem opD_appendK {s x:Operand} {T:TypeId} {r:List α} {A2:Option Addr} {c2 by_ q:Nat} {G0:Heap} {I0:World->Prop} {fuel:Nat} {bs:List Bool}
  (ho:ops.toList[i]? = some ⟨some d,.call ⟨.builtin .append,#[s,x],#[T,T]⟩,ty,ps,af,gd⟩) (hw:wantE env ops gd = .yes)
  (hd:Nat.blt d n=true) (hs:evE env s=some (rowS id A q c)) (hq:q=l.length) (hT:tb.und T=some (.slice κ.T)) (hel:ElT tb κ.T κ.sz by_)
  (hH:loH H id=rowE κ A c l) (hx:sliE (evE env x)=some (A2,r.length,c2))
  (hn:∀ w,St tb B0 H I w->Lies w A2 c2 (r.flatMap κ.cs)) (hb:(l.length+r.length)*by_ ≤ 140737488355328) (h63:l.length+r.length ≤ lim)
  (hG:∀ A' c',SubH G0 ((id,rowE κ A' c' (l ++ r)) :: H)) (hI:∀ w,I w->I0 w)
  (hk:∀ A' c' m',m ≤ m'->RD Tryz.prog f n tb B0 S R k ops G0 I0 fuel (bs.set i true) ((d,rowS id A' (l ++ r).length c') :: env) ((id,rowE κ A' c' (l ++ r)) :: H) nx m' I) :
  ∀ w a,w.heap.size=m->St tb B0 H I w->Agree n a (kn env)->wpOp Tryz.prog ops (QD Tryz.prog f n S R k) i (λa' w'=>St tb B0 G0 I0 w'/\wpAnyH Tryz.prog .any ops (QD Tryz.prog f n S R k) (St tb B0 G0 I0) fuel (bs.set i true).toArray a' w') a w:=by
 subst hq
 obtain ⟨_,h1',h2'⟩:=sliE_ok hx
 refine opD_go ho hw (OpGo.append tk hd hT hel hs hH h1' h2' (κ.flL r) (κ.one r) hn hb (Nat.le_trans h63 (by decide))) nx ?_ (λ_=>hI) λy m' hm=>?_
 ·intro y
  have:=hG y.1 y.2
  unfold rowE at this
  rw [List.flatMap_append,List.length_append] at this
  exact this
 ·have:=hk y.1 y.2 m' hm
  unfold rowE at this
  rw [List.flatMap_append,List.length_append] at this
  exact this
theorem RH.storeK {T:TypeId} {px y:Operand} {p:Addr} {ey:EV} (j:Nat) (x:α) (ho:ops.toList[i]? = some ⟨none,.store T px y,ty,ps,af,gd⟩) (hw:wantE env ops gd = .yes) (hx:ptrE (evE env px)=some p) (hy:evE env y=some ey)
  (hT:T=κ.T) (hH:loH H id=rowE κ A c l) (hj:j < l.length) (hp:p=⟨blkA A,offA A+j*κ.sz,none⟩) (hv:ey.v=(κ.ev x).v)
  (hk:∀ m',m ≤ m'->RH Tryz.prog f n tb B0 S R (.inRegion ops rs :: k) env ((id,rowE κ A c (l.set j x)) :: H) nx m' I):RH Tryz.prog f n tb B0 S R (.inRegion ops (i :: rs) :: k) env H nx m I :=
 RH.storeS _ ho hw hx hy (λw _ hst=>by rw [hv,hp];exact hst.storeRow hT hH hj x) hk
end
theorem sum_len (s:Sum):s.l.length=32:=s.h
theorem sz_sum:(Tryz.t40).size=32:=rfl
theorem one_int (k:IntKind) (n:Int):(Value.int k n).oneCell'=true:=rfl
theorem u8V_one (b:UInt8):(u8V b).oneCell'=true:=rfl
attribute [simp] AllOb Ob.P sum_len sz_sum one_int u8V_one
structure Row (α:Type) where
 A:Option Addr
 c:Nat
 l:List α
abbrev Row.ok {α:Type} (κ:Kd α) (w:World) (r:Row α):Prop:=Sl κ w r.A r.c r.l
abbrev Row.av {α:Type} (r:Row α):AV:=.val (.slice r.A r.l.length r.c)
structure Spc where
 t:Row Entry
 y:Row Entry
abbrev Spc.ev (s:Spc):EV:=.st [s.t.av,s.y.av]
structure Spc.ok (w:World) (s:Spc):Prop where
 t:s.t.ok kEntry w
 y:s.y.ok kEntry w
theorem Row.ok.ext {α:Type} {κ:Kd α} {w w':World} {r:Row α} (h:r.ok κ w) (he:Ext w w'):r.ok κ w':=Sl.ext h he
theorem Spc.ok.ext {w w':World} {s:Spc} (h:s.ok w) (he:Ext w w'):s.ok w':=⟨Sl.ext h.t he,Sl.ext h.y he⟩
theorem Sl.path {w:World} {A:Option Addr} {c:Nat} {l:List Entry} (h:Sl kEntry w A c l) {i:Nat} (hi:i < l.length) :
  (loadVar 9 ⟨blkA A,offA A+i*33,none⟩).run Tryz.prog w = .ok (strV l[i].path) w:=by
 refine run_load tk (vok_str _) λj v hv=>?_
 have hg:=kEntry.get l i hi
 have hj:j=0/\v=strV l[i].path:=by
  cases j with
  | zero =>
   have e:some (strV l[i].path)=some v:=hv
   injection e with e
   exact ⟨rfl,e.symm⟩
  | succ j=>simp [Value.cells] at hv
 obtain ⟨rfl,rfl⟩:=hj
 have h1:(((l.flatMap kEntry.cs).drop (i*kEntry.sz)).take kEntry.sz)[0]? = some (strV l[i].path):=by rw [hg];rfl
 rw [List.getElem?_take,if_pos (by decide),List.getElem?_drop] at h1
 have:=h.cells _ _ h1
 rw [← Nat.add_assoc] at this
 exact this
theorem Sl.sum {w:World} {A:Option Addr} {c:Nat} {l:List Entry} (h:Sl kEntry w A c l) {i:Nat} (hi:i < l.length) :
  (loadVar 40 ⟨blkA A,offA A+i*33+1,none⟩).run Tryz.prog w = .ok (sumV l[i].sum) w:=by
 refine run_load tk (vok_sum _) λj v hv=>?_
 have hg:=kEntry.get l i hi
 have hlt:j < 32:=by
  have:=(List.getElem?_eq_some_iff.1 hv).1
  rw [Array.length_toList] at this
  have h2:(sumV l[i].sum).cells.size=32:=(sumV_ok l[i].sum).1
  omega
 have h1:(((l.flatMap kEntry.cs).drop (i*kEntry.sz)).take kEntry.sz)[1+j]? = some v:=by
  rw [hg]
  have:kEntry.cs l[i]=strV l[i].path :: (sumV l[i].sum).cells.toList:=by
   show (EV.st (entryF l[i])).v.cells.toList=_
   rw [entry_cells];rfl
  rw [this,Nat.add_comm,List.getElem?_cons_succ]
  exact hv
 have hsz:kEntry.sz=33:=rfl
 rw [List.getElem?_take,if_pos (by omega),List.getElem?_drop] at h1
 have:=h.cells _ _ h1
 rw [← Nat.add_assoc,← Nat.add_assoc] at this
 exact this
def kBy:Kd UInt8 where
 T:=5
 sz:=1
 ev b:=.av (.val (u8V b))
 ok b:=⟨rfl,Tryz.t5,rfl,rfl⟩
 size b:=rfl
theorem elt_byte:ElT tb kBy.T 1 1:=⟨⟨Tryz.t5,(Tryz.t5).zero.getD undef,by kernel_rfl,by kernel_rfl,by kernel_rfl,by kernel_rfl,by kernel_rfl⟩,by decide⟩
theorem getD_at (t:Str) (i:Nat) (h:i < t.length):t.getD (i:Int).toNat 0=t[i]:=by simp [h]
theorem elt_str:ElT tb kStr.T 1 16:=⟨⟨Tryz.t9,(Tryz.t9).zero.getD undef,by kernel_rfl,by kernel_rfl,by kernel_rfl,by kernel_rfl,by kernel_rfl⟩,by decide⟩
theorem elt_sum:ElT tb kSum.T 32 32:=⟨⟨Tryz.t40,(Tryz.t40).zero.getD undef,by kernel_rfl,by kernel_rfl,by kernel_rfl,by kernel_rfl,by kernel_rfl⟩,by decide⟩
end Go.Proofs.YtbfjmimiigjenaaGreatDoor.V
