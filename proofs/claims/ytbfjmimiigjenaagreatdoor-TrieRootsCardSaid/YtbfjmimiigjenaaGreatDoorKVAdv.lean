/-
Lemmas. No condition.
-/
import Derived.Test.YtbfjmimiigjenaaGreatDoorKVPure
set_option linter.unusedVariables false
set_option linter.unusedSectionVars false
set_option linter.unusedSimpArgs false
namespace Go.Proofs.YtbfjmimiigjenaaGreatDoor.V
open Go Go.RowKit
def oneE:Value->Bool
 | .agg _|.tuple _=>false
 | _=>true
def vokE (tb:TT) (T:TypeId) (a:AV) (ob:List Ob):Option (List Ob) :=
 match tb.und T with
 | some (.struct _)|some (.array _ _)=>match a with
  | .val (.agg cs)=>match tb.get T with
   | some i=>some (.agg cs i.size :: ob)
   | none=>none
  | _=>none
 | some _=>match tb.get T with
  | some i=>bif Nat.beq i.size 1 then bif oneE a.v then some ob else none else none
  | none=>none
 | none=>none
def voksE (tb:TT):List Field->List AV->Nat->List Ob->Option (List Ob × Nat)
 | [],[],off,ob=>some (ob,off)
 | fd :: r,a :: s,off,ob=>bif Nat.beq fd.offset off then match vokE tb fd.type a ob with
   | some ob'=>match tb.get fd.type with
    | some i=>voksE tb r s (off+i.size) ob'
    | none=>none
   | none=>none
  else none
 | _,_,_,_=>none
def fitE (tb:TT) (T:TypeId) (fs:List AV) (ob:List Ob):Option (List Ob) :=
 match tb.und T with
 | some (.struct fds)=>match voksE tb fds.toList fs 0 ob with
  | some (ob',len)=>match tb.get T with
   | some i=>bif Nat.beq len i.size then some ob' else none
   | none=>none
  | none=>none
 | some _=>match fs with
  | [a]=>vokE tb T a ob
  | _=>none
 | none=>none
def fieldsE (tb:TT) (T:TypeId) (e:EV):Option (List AV) :=
 match tb.und T with
 | some (.struct _)=>match e with
  | .st fs=>some fs
  | _=>none
 | some _=>match atomE e with
  | some a=>some [a]
  | none=>none
 | none=>none
def fieldAtE:List Field->Nat->TypeId->Nat->Option (Nat × Field)
 | [],_,_,_=>none
 | fd :: r,off,T,i=>bif Nat.beq fd.offset off && Nat.beq fd.type T then some (i,fd) else fieldAtE r off T (i+1)
def zerosE (tb:TT):List Field->Option (List AV)
 | []=>some []
 | fd :: r=>match tb.get fd.type with
  | some i=>match i.zero with
   | some z=>match zerosE tb r with
    | some zs=>some (.val z :: zs)
    | none=>none
   | none=>none
  | none=>none
def partsE (env:SEnv) (tb:TT) (fds:List Field):List (Nat × Operand)->List AV->List Ob->Option (List AV × List Ob)
 | [],fs,ob=>some (fs,ob)
 | (i,x) :: r,fs,ob=>match fds[i]? with
  | some fd=>match evE env x with
   | some e=>match atomE e with
    | some a=>match vokE tb fd.type a ob with
     | some ob'=>partsE env tb fds r (fs.set i a) ob'
     | none=>none
    | none=>none
   | none=>none
  | none=>none
def elemsE (env:SEnv) (tb:TT) (T:TypeId):List (Nat × Operand)->Nat->List Ob->Option (List Value × List Ob)
 | [],_,ob=>some ([],ob)
 | (i,x) :: r,k,ob=>bif Nat.beq i k then match evE env x with
   | some e=>match fieldsE tb T e with
    | some fs=>match fitE tb T fs ob with
     | some ob'=>match elemsE env tb T r (k+1) ob' with
      | some (vs,ob'')=>some (e.v :: vs,ob'')
      | none=>none
     | none=>none
    | none=>none
   | none=>none
  else none
abbrev Out:=Option EV × Heap × Nat × Nat × List Ob × List Eqn
def stepOp (tb:TT) (env:SEnv) (H:Heap) (nx m:Nat) (ob:List Ob) (eq:List Eqn) (o:Op):Option Out :=
 match o with
 | .load T x=>match evE env x with
  | some (.av (.box id b off))=>match loH H id with
   | some (.box b' fs T0)=>match tb.und T0 with
    | some (.struct fds)=>match (Nat.beq T T0 && Nat.beq off 0) with
     | true=>some (some (.st fs),H,nx,m,ob,.nat b b' :: eq)
     | false=>match fieldAtE fds.toList off T 0 with
      | some (i,_)=>match fs[i]? with
       | some a=>some (some (.av a),H,nx,m,ob,.nat b b' :: eq)
       | none=>none
      | none=>none
    | some _=>match (Nat.beq T T0 && Nat.beq off 0) with
     | true=>match fs with
      | [a]=>some (some (.av a),H,nx,m,ob,.nat b b' :: eq)
      | _=>none
     | false=>none
    | none=>none
   | _=>none
  | _=>none
 | .store T x y=>match evE env x with
  | some (.av (.box id b off))=>match loH H id with
   | some (.box b' fs T0)=>match evE env y with
    | some e=>match (Nat.beq T T0 && Nat.beq off 0) with
     | true=>match fieldsE tb T e with
      | some fs'=>match fitE tb T fs' ob with
       | some ob'=>some (none,(id,some (.box b' fs' T0)) :: H,nx,m,ob',.nat b b' :: eq)
       | none=>none
      | none=>none
     | false=>match tb.und T0 with
      | some (.struct fds)=>match fieldAtE fds.toList off T 0 with
       | some (i,_)=>match atomE e with
        | some a=>match vokE tb T a ob with
         | some ob'=>some (none,(id,some (.box b' (fs.set i a) T0)) :: H,nx,m,ob',.nat b b' :: eq)
         | none=>none
        | none=>none
       | none=>none
      | _=>none
    | none=>none
   | _=>none
  | _=>none
 | .box T x=>match evE env x with
  | some e=>match fieldsE tb T e with
   | some fs=>match fitE tb T fs ob with
    | some ob'=>some (some (.av (.box nx m 0)),(nx,some (.box m fs T)) :: H,nx+1,m+1,ob',eq)
    | none=>none
   | none=>none
  | none=>none
 | .alloc T=>match tb.get T with
  | some i=>match i.zero with
   | some z=>match tb.und T with
    | some (.struct fds)=>match zerosE tb fds.toList with
     | some fs=>match fitE tb T fs ob with
      | some ob'=>some (some (.av (.box nx m 0)),(nx,some (.box m fs T)) :: H,nx+1,m+1,ob',.val z (.agg (boxCells fs)) :: eq)
      | none=>none
     | none=>none
    | some _=>match fitE tb T [.val z] ob with
     | some ob'=>some (some (.av (.box nx m 0)),(nx,some (.box m [.val z] T)) :: H,nx+1,m+1,ob',eq)
     | none=>none
    | none=>none
   | none=>none
  | none=>none
 | .field s x f=>match tb.und s with
  | some (.struct fds)=>match evE env x with
   | some (.st fs)=>match voksE tb fds.toList fs 0 ob with
    | some (ob',_)=>match fs[f]? with
     | some a=>some (some (.av a),H,nx,m,ob',eq)
     | none=>none
    | none=>none
   | _=>none
  | _=>none
 | .build T parts=>match tb.und T with
  | some (.struct fds)=>match tb.get T with
   | some i=>match i.zero with
    | some z=>match zerosE tb fds.toList with
     | some zs=>match fitE tb T zs ob with
      | some ob'=>match partsE env tb fds.toList parts.toList zs ob' with
       | some (fs,ob'')=>some (some (.st fs),H,nx,m,ob'',.val z (.agg (boxCells zs)) :: eq)
       | none=>none
      | none=>none
     | none=>none
    | none=>none
   | none=>none
  | _=>none
 | .buildSlice T len parts=>match tb.und T with
  | some (.slice e)=>match tb.get e with
   | some ei=>match elemsE env tb e parts.toList 0 ob with
    | some (vs,ob')=>match (Nat.beq vs.length len && (Nat.ble (len*ei.size) 16777216 && (Nat.ble 1 ei.size && ei.zero.isSome))) with
     | true=>some (some (.av (.row nx (.slice (some ⟨m,0,none⟩) len len))),(nx,some (.row (.slice (some ⟨m,0,none⟩) len len) e ei.size len (flat vs))) :: H,nx+1,m+1,ob',eq)
     | false=>none
    | none=>none
   | none=>none
  | _=>none
 | o=>match pureOp tb env H ob eq o with
  | some (e,ob',eq')=>some (some e,H,nx,m,ob',eq')
  | none=>none
section
variable {P:Program} {n:Nat} {a:Act} {env:SEnv} {w:World} {tb:TT} {H:Heap} {B0:Nat} {I:World->Prop}
theorem oneE_eq {v:Value} (h:oneE v=true):v.oneCell'=true:=by cases v<;>first|rfl|cases h
theorem vokE_ok {T:TypeId} {a:AV} {ob ob':List Ob} (h:vokE tb T a ob=some ob') (ho:AllOb ob'):VOk tb T a.v/\AllOb ob:=by
 unfold vokE at h
 unfold VOk
 split at h
 ·rename_i hu
  rw [hu]
  split at h
  ·split at h
   ·rename_i i hi
    injection h with h;subst h
    exact ⟨⟨_,i,rfl,hi,ho.1.1,ho.1.2⟩,ho.2⟩
   ·cases h
  ·cases h
 ·rename_i hu
  rw [hu]
  split at h
  ·split at h
   ·rename_i i hi
    injection h with h;subst h
    exact ⟨⟨_,i,rfl,hi,ho.1.1,ho.1.2⟩,ho.2⟩
   ·cases h
  ·cases h
 ·rename_i d h1 h2 hu
  rw [hu]
  split at h
  ·rename_i i hi
   cases hb:Nat.beq i.size 1
   ·rw [hb] at h;cases h
   ·rw [hb] at h
    simp only [cond_true] at h
    cases hc:oneE a.v
    ·rw [hc] at h;cases h
    ·rw [hc] at h
     simp only [cond_true] at h
     injection h with h;subst h
     refine ⟨?_,ho⟩
     cases d<;>first|exact absurd rfl (h1 _)|exact absurd rfl (h2 _ _)|exact ⟨oneE_eq hc,i,hi,Nat.eq_of_beq_eq_true hb⟩
  ·cases h
 ·cases h
theorem voksE_ok:∀ {fds:List Field} {fs:List AV} {off:Nat} {ob ob':List Ob} {len:Nat},voksE tb fds fs off ob=some (ob',len)->AllOb ob'->Lay tb fds fs off/\off+(flat (fs.map AV.v)).length=len/\AllOb ob
 | [],[],off,ob,ob',len,h,ho=>by
  simp only [voksE] at h
  injection h with h;injection h with h1 h2;subst h1;subst h2
  exact ⟨trivial,by simp [flat],ho⟩
 | [],_ :: _,_,_,_,_,h,_=>by cases h
 | _ :: _,[],_,_,_,_,h,_=>by cases h
 | fd :: r,a :: s,off,ob,ob',len,h,ho=>by
  simp only [voksE] at h
  cases hb:Nat.beq fd.offset off
  ·rw [hb] at h;cases h
  ·rw [hb] at h
   simp only [cond_true] at h
   split at h
   ·rename_i ob1 h1
    split at h
    ·rename_i i hi
     obtain ⟨h2,h3,h4⟩:=voksE_ok h ho
     obtain ⟨h5,h6⟩:=vokE_ok h1 h4
     obtain ⟨j,hj,hs⟩:=h5.size
     rw [hi] at hj;injection hj with hj;subst hj
     refine ⟨⟨Nat.eq_of_beq_eq_true hb,h5,by rw [hs];exact h2⟩,?_,h6⟩
     simp only [List.map_cons,flat_cons,List.length_append,Array.length_toList]
     rw [hs];omega
    ·cases h
   ·cases h
theorem fitE_ok {T:TypeId} {fs:List AV} {ob ob':List Ob} (h:fitE tb T fs ob=some ob') (ho:AllOb ob'):Fit tb T fs/\AllOb ob:=by
 unfold fitE at h
 unfold Fit
 split at h
 ·rename_i fds hu
  rw [hu]
  split at h
  ·rename_i ob1 len h1
   split at h
   ·rename_i i hi
    cases hb:Nat.beq len i.size
    ·rw [hb] at h;cases h
    ·rw [hb] at h
     simp only [cond_true] at h
     injection h with h;subst h
     obtain ⟨h2,h3,h4⟩:=voksE_ok h1 ho
     exact ⟨⟨h2,i,hi,by have:=Nat.eq_of_beq_eq_true hb;omega⟩,h4⟩
   ·cases h
  ·cases h
 ·rename_i d hd hu
  rw [hu]
  split at h
  ·rename_i a
   obtain ⟨h1,h2⟩:=vokE_ok h ho
   refine ⟨?_,h2⟩
   cases d<;>first|exact absurd rfl (hd _)|exact ⟨a,rfl,h1⟩
  ·cases h
 ·cases h
theorem Fit.vok (hk:tb.Ok P) {T:TypeId} {fs:List AV} {e:EV} (hf:Fit tb T fs) (he:fieldsE tb T e=some fs):VOk tb T e.v/\boxCells fs=e.v.cells:=by
 unfold fieldsE at he
 unfold Fit at hf
 split at he
 ·rename_i fds hu
  rw [hu] at hf
  split at he
  ·rename_i fs'
   injection he with he;subst he
   obtain ⟨hl,i,hi,hs⟩:=hf
   refine ⟨?_,rfl⟩
   unfold VOk
   rw [hu]
   exact ⟨_,i,rfl,hi,by simpa using hs,λu hu=>hl.all_one u (by simpa using hu)⟩
  ·cases he
 ·rename_i d hd hu
  rw [hu] at hf
  split at he
  ·rename_i a ha
   injection he with he;subst he
   obtain ⟨b,hb,hv⟩:∃ b,[a]=[b]/\VOk tb T b.v:=by cases d<;>first|exact absurd rfl (hd _)|exact hf
   injection hb with hb;subst hb
   rw [← atomE_eq ha]
   exact ⟨hv,by simp [boxCells,flat]⟩
  ·cases he
 ·cases he
theorem fieldAtE_ok:∀ {fds:List Field} {off:Nat} {T:TypeId} {k i:Nat} {fd:Field},fieldAtE fds off T k=some (i,fd)->k ≤ i/\fds[i - k]? = some fd/\fd.offset=off/\fd.type=T
 | [],_,_,_,_,_,h=>by cases h
 | f :: r,off,T,k,i,fd,h=>by
  simp only [fieldAtE] at h
  cases hb:Nat.beq f.offset off && Nat.beq f.type T
  ·rw [hb] at h
   simp only [cond_false] at h
   obtain ⟨h1,h2,h3,h4⟩:=fieldAtE_ok h
   refine ⟨by omega,?_,h3,h4⟩
   rw [show i - k=(i - (k+1))+1 by omega,List.getElem?_cons_succ]
   exact h2
  ·rw [hb] at h
   simp only [cond_true] at h
   injection h with h;injection h with h1 h2;subst h1;subst h2
   rw [Bool.and_eq_true] at hb
   exact ⟨Nat.le_refl _,by simp,Nat.eq_of_beq_eq_true hb.1,Nat.eq_of_beq_eq_true hb.2⟩
theorem fold_set:∀ (vs:List Value) (k:Nat) (off:Nat) (cs:Array Value),off+k+vs.length ≤ cs.size →
  (vs.zipIdx k).foldl (λcs (p:Value × Nat)=>cs.setIfInBounds (off+p.2) p.1) cs=(cs.toList.take (off+k) ++ vs ++ cs.toList.drop (off+k+vs.length)).toArray
 | [],k,off,cs,_=>by simp
 | v :: r,k,off,cs,h=>by
  simp only [List.length_cons] at h
  rw [List.zipIdx_cons,List.foldl_cons,fold_set r (k+1) off _ (by simp;omega)]
  congr 1
  have hlt:off+k < cs.toList.length:=by simp;omega
  have e1:(cs.setIfInBounds (off+k) v).toList=cs.toList.take (off+k) ++ v :: cs.toList.drop (off+k+1):=by
   rw [Array.toList_setIfInBounds,List.set_eq_take_append_cons_drop,if_pos hlt]
  rw [e1]
  obtain ⟨A,hA⟩:∃ A,A=cs.toList.take (off+k):=⟨_,rfl⟩
  obtain ⟨B,hB⟩:∃ B,B=cs.toList.drop (off+k+1):=⟨_,rfl⟩
  have lA:A.length=off+k:=by rw [hA,List.length_take];omega
  have t1:(A ++ v :: B).take (off+(k+1))=A ++ [v]:=by
   rw [show off+(k+1)=A.length+1 by omega,List.take_length_add_append];rfl
  have t2:(A ++ v :: B).drop (off+(k+1)+r.length)=B.drop r.length:=by
   rw [show off+(k+1)+r.length=A.length+(r.length+1) by omega,List.drop_length_add_append];rfl
  have t3:cs.toList.drop (off+k+(v :: r).length)=B.drop r.length:=by
   rw [hB,List.drop_drop];congr 1;simp;omega
  rw [t3,← hA,← hB,t1,t2]
  simp
theorem fill_one {place:Nat->Option (Nat × Nat)} {cells:Array Value} {i off size:Nat} {v:Value} {rest:List (Nat × Value)} (hp:place i=some (off,size)) (hs:v.cells.size=size) (hfit:off+v.cells.size ≤ cells.size) :
  Instr.fill place cells ((i,v) :: rest)=Instr.fill place (cells.toList.take off ++ v.cells.toList ++ cells.toList.drop (off+v.cells.size)).toArray rest:=by
 simp only [Instr.fill,hp]
 rw [if_neg (by simp [hs];omega)]
 congr 1
 have h1:=fold_set v.cells.toList 0 off cells (by simpa using hfit)
 simp only [Nat.add_zero,Array.length_toList] at h1
 rw [← h1,← Array.foldl_toList]
 congr 1
 rw [Array.toList_zipIdx]
theorem partsE_ok (ha:Agree n a (kn env)) {fds:List Field} {place:Nat->Option (Nat × Nat)} (hpl:∀ i fd,fds[i]? = some fd->∃ ti,tb.get fd.type=some ti/\place i=some (fd.offset,ti.size)) :
  ∀ {parts:List (Nat × Operand)} {fs fs':List AV} {ob ob':List Ob},partsE env tb fds parts fs ob=some (fs',ob')->AllOb ob'->(AllOb ob->Lay tb fds fs 0) →
   Instr.fill place (boxCells fs) (parts.map λp=>(p.1,a.eval p.2))=some (boxCells fs')/\AllOb ob
 | [],fs,fs',ob,ob',h,ho,_=>by
  simp only [partsE] at h
  injection h with h;injection h with h1 h2;subst h1;subst h2
  exact ⟨rfl,ho⟩
 | (i,x) :: r,fs,fs',ob,ob',h,ho,hl=>by
  simp only [partsE] at h
  split at h
  ·rename_i fd hfd
   split at h
   ·rename_i e he
    split at h
    ·rename_i b hb
     split at h
     ·rename_i ob1 h1
      have hl':AllOb ob1->Lay tb fds (fs.set i b) 0:=λho1=>by
       obtain ⟨h5,h6⟩:=vokE_ok h1 ho1
       exact (hl h6).set hfd h5
      obtain ⟨h2,h3⟩:=partsE_ok ha hpl h ho hl'
      obtain ⟨h5,h6⟩:=vokE_ok h1 h3
      refine ⟨?_,h6⟩
      obtain ⟨u,hu,hvu,hoff⟩:=(hl h6).get hfd
      obtain ⟨ti,hti,hpi⟩:=hpl i fd hfd
      obtain ⟨j,hj,hs⟩:=h5.size
      obtain ⟨j',hj',hs'⟩:=hvu.size
      rw [hti] at hj hj'
      injection hj with hj;subst hj
      injection hj' with hj';subst hj'
      have hu':(fs.map AV.v)[i]? = some u.v:=by rw [List.getElem?_map,hu];rfl
      have hfits:=flat_fits _ i u.v hu'
      have hev:a.eval x=b.v:=by rw [ev_run ha he,atomE_eq hb]
      have hset:=flat_set (fs.map AV.v) i u.v b.v hu' (by rw [hs,hs'])
      simp only [List.map_cons,hev]
      rw [fill_one hpi hs (by simp only [boxCells,List.size_toArray];rw [hoff,hs];rw [hs'] at hfits;omega)]
      rw [← h2]
      congr 1
      simp only [boxCells,hoff,Nat.zero_add]
      rw [hset,List.map_set]
     ·cases h
    ·cases h
   ·cases h
  ·cases h
theorem fill_elems (ha:Agree n a (kn env)) (hk:tb.Ok P) {T:TypeId} {sz:Nat} (hsz:∃ i,tb.get T=some i/\i.size=sz) :
  ∀ {parts:List (Nat × Operand)} {k:Nat} {vs:List Value} {ob ob':List Ob},elemsE env tb T parts k ob=some (vs,ob')->AllOb ob'->AllOb ob/\(flat vs).length=vs.length*sz/\(∀ u ∈ flat vs,u.oneCell'=true) ∧
   ∀ (cells:Array Value),(k+vs.length)*sz ≤ cells.size->Instr.fill (λi=>some (i*sz,sz)) cells (parts.map λp=>(p.1,a.eval p.2))=some (cells.toList.take (k*sz) ++ flat vs ++ cells.toList.drop ((k+vs.length)*sz)).toArray
 | [],k,vs,ob,ob',h,ho=>by
  simp only [elemsE] at h
  injection h with h;injection h with h1 h2;subst h1;subst h2
  exact ⟨ho,by simp [flat],by simp [flat],λcells _=>by simp [Instr.fill,flat]⟩
 | (i,x) :: r,k,vs,ob,ob',h,ho=>by
  simp only [elemsE] at h
  cases hb:Nat.beq i k
  ·rw [hb] at h;cases h
  ·rw [hb] at h
   simp only [cond_true] at h
   split at h
   ·rename_i e he
    split at h
    ·rename_i fs hfs
     split at h
     ·rename_i ob1 h1
      split at h
      ·rename_i vs1 ob2 h2
       injection h with h;injection h with h3 h4;subst h3;subst h4
       obtain ⟨g1,g2,g3,g4⟩:=fill_elems ha hk hsz h2 ho
       obtain ⟨g5,g6⟩:=fitE_ok h1 g1
       obtain ⟨g7,g8⟩:=g5.vok hk hfs
       obtain ⟨ti,hti,hs⟩:=g7.size
       obtain ⟨ti',hti',hs'⟩:=hsz
       rw [hti'] at hti;injection hti with hti;subst hti
       rw [hs'] at hs
       have hik:=Nat.eq_of_beq_eq_true hb
       subst hik
       refine ⟨g6,?_,?_,λcells hc=>?_⟩
       ·simp only [flat_cons,List.length_append,Array.length_toList,List.length_cons,g2,hs,Nat.succ_mul];omega
       ·intro u hu
        rw [flat_cons,List.mem_append] at hu
        rcases hu with hu|hu
        ·exact g7.one u hu
        ·exact g3 u hu
       ·simp only [List.length_cons] at hc ⊢
        have hc1:i*sz+sz ≤ cells.size:=Nat.le_trans (by rw [← Nat.succ_mul];exact Nat.mul_le_mul_right _ (by omega)) hc
        simp only [List.map_cons,ev_run ha he]
        rw [fill_one rfl hs (by rw [hs];exact hc1),g4 _ (by
         simp only [List.size_toArray,List.length_append,List.length_take,List.length_drop,Array.length_toList,hs]
         have:(i+1+vs1.length)*sz ≤ cells.size:=by rw [show i+1+vs1.length=i+(vs1.length+1) by omega];exact hc
         omega)]
        congr 2
        have hl1:(cells.toList.take (i*sz)).length=i*sz:=by rw [List.length_take,Array.length_toList];omega
        have e1:(i+1)*sz=(cells.toList.take (i*sz) ++ e.v.cells.toList).length:=by
         rw [List.length_append,hl1,Array.length_toList,hs,Nat.succ_mul]
        have e2:(cells.toList.take (i*sz) ++ e.v.cells.toList ++ cells.toList.drop (i*sz+e.v.cells.size)).take ((i+1)*sz)=cells.toList.take (i*sz) ++ e.v.cells.toList:=by
         rw [e1];exact List.take_left
        have e3:(cells.toList.take (i*sz) ++ e.v.cells.toList ++ cells.toList.drop (i*sz+e.v.cells.size)).drop ((i+1+vs1.length)*sz)=cells.toList.drop ((i+(vs1.length+1))*sz):=by
         rw [show (i+1+vs1.length)*sz=(cells.toList.take (i*sz) ++ e.v.cells.toList).length+vs1.length*sz by rw [← e1,← Nat.add_mul],List.drop_length_add_append,List.drop_drop,hs]
         congr 1
         rw [show i+(vs1.length+1)=i+1+vs1.length by omega,Nat.add_mul,Nat.add_mul,Nat.one_mul]
        rw [e2,e3,flat_cons]
        simp only [List.append_assoc]
      ·cases h
     ·cases h
    ·cases h
   ·cases h
end
end Go.Proofs.YtbfjmimiigjenaaGreatDoor.V
