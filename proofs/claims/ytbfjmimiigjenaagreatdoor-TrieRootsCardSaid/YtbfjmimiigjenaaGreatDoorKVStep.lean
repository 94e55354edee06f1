/-
Lemmas. No condition.
-/
import Derived.Test.YtbfjmimiigjenaaGreatDoorKVAdv
set_option linter.unusedVariables false
set_option linter.unusedSectionVars false
set_option linter.unusedSimpArgs false
namespace Go.Proofs.YtbfjmimiigjenaaGreatDoor.V
open Go Go.RowKit
def outN:Option EV->Next
 | some e=>.value e.v
 | none=>.skip
section
variable {P:Program} {n:Nat} {a:Act} {env:SEnv} {w:World} {tb:TT} {H:Heap} {B0:Nat} {I:World->Prop}
theorem Fit.struct {T:TypeId} {fs:List AV} {fds:Array Field} (hf:Fit tb T fs) (hu:tb.und T=some (.struct fds)):Lay tb fds.toList fs 0/\∃ i,tb.get T=some i/\(flat (fs.map AV.v)).length=i.size:=by
 unfold Fit at hf
 rw [hu] at hf
 exact hf
theorem Fit.single {T:TypeId} {fs:List AV} {d:TypeDesc} (hf:Fit tb T fs) (hu:tb.und T=some d) (hd:∀ f,d ≠ .struct f):∃ a,fs=[a]/\VOk tb T a.v:=by
 unfold Fit at hf
 rw [hu] at hf
 cases d<;>first|exact absurd rfl (hd _)|exact hf
theorem Fit.vst {T:TypeId} {fs:List AV} {fds:Array Field} (hf:Fit tb T fs) (hu:tb.und T=some (.struct fds)):VOk tb T (EV.st fs).v:=by
 obtain ⟨hl,i,hi,hs⟩:=hf.struct hu
 unfold VOk
 rw [hu]
 exact ⟨_,i,rfl,hi,by simpa using hs,λu hu=>hl.all_one u (by simpa using hu)⟩
theorem load_field (hk:tb.Ok P) {b:Nat} {fs:List AV} {T0 T off i:Nat} {fds:Array Field} {fd:Field} {u:AV} (hh:(HE.box b fs T0).holds tb B0 w) (hu:tb.und T0=some (.struct fds)) (hf:fieldAtE fds.toList off T 0=some (i,fd)) (hi:fs[i]? = some u) :
  (loadVar T ⟨b,off,none⟩).run P w = .ok u.v w:=by
 obtain ⟨_,hb,hfit⟩:=hh
 obtain ⟨hl,_⟩:=hfit.struct hu
 obtain ⟨_,hfd,ho,ht⟩:=fieldAtE_ok hf
 rw [Nat.sub_zero] at hfd
 obtain ⟨x,hx,hv,hoff⟩:=hl.get hfd
 rw [hx] at hi;injection hi with hi;subst hi
 subst ht
 refine run_load hk hv (range_take hb (n:=x.v.cells.size) ?_)
 rw [← ho,hoff,Nat.zero_add]
 simp only [boxCells]
 exact flat_get _ i x.v (by rw [List.getElem?_map,hx];rfl)
theorem load_whole (hk:tb.Ok P) {b:Nat} {fs:List AV} {T0:Nat} {v:Value} (hh:(HE.box b fs T0).holds tb B0 w) (hv:VOk tb T0 v) (hc:boxCells fs=v.cells) :
  (loadVar T0 ⟨b,0,none⟩).run P w = .ok v w:=by
 refine run_load hk hv (range_take hh.2.1 (n:=v.cells.toList.length) ?_)
 rw [hc,List.drop_zero,List.take_length]
theorem step_load (hk:tb.Ok P) {T:TypeId} {x:Operand} {b off:Nat} {v:Value} {o:Oper} (hop:o.op = .load T x) (hx:a.eval x = .pointer (some ⟨b,off,none⟩)) (hl:(loadVar T ⟨b,off,none⟩).run P w = .ok v w) :
  (execOp a.eval o).run P w = .ok (.value v) w:=by
 simp [execOp,hop,Instr.loadAt,hx,Instr.sureAddr,hl]
theorem step_store {T:TypeId} {x y:Operand} {b off:Nat} {v:Value} {w':World} {o:Oper} (hop:o.op = .store T x y) (hx:a.eval x = .pointer (some ⟨b,off,none⟩)) (hy:a.eval y=v) (hl:(storeVar T ⟨b,off,none⟩ v).run P w = .ok () w') :
  (execOp a.eval o).run P w = .ok .skip w':=by
 simp [execOp,hop,Instr.storeAt,hx,hy,Instr.sureAddr,hl]
theorem box_new (hst:St tb B0 H I w) (nx:Nat) {fs:List AV} {T:TypeId} {cs:Array Value} (hf:Fit tb T fs) (hc:boxCells fs=cs) :
  St tb B0 ((nx,some (.box w.heap.size fs T)) :: H) I (w.alloc (.cells cs T)):=by
 subst hc
 refine hst.push (ext_alloc w _) nx _ ⟨hst.base,?_,hf⟩ (λk hk=>?_)
 ·exact heap_alloc_new w _
 ·injection hk with hk;omega
theorem box_turn (hst:St tb B0 H I w) {id:Nat} {b:Nat} {fs fs':List AV} {T:TypeId} {w':World} (hl:loH H id=some (.box b fs T)) (hb:w'.heap[b]? = some (.cells (boxCells fs') T (0,0))) (hag:Agr (λk=>k=b) w w') (hf:Fit tb T fs') :
  St tb B0 ((id,some (.box b fs' T)) :: H) I w':=by
 refine hst.turn id (.box b fs T) (.box b fs' T) hl (hag.mono λk _ hk=>by subst hk;rfl) ⟨(hst.holds _ _ hl).1,hb,hf⟩ (λk hk=>.inl hk)
theorem build_places (hk:tb.Ok P):∀ {fds:List Field} {zs:List AV},zerosE tb fds=some zs->∃ pl:List (Nat × Nat),
  (fds.mapM λ(f:Field)=>(do pure (f.offset,← sizeOf f.type):Sem (Nat × Nat))).run P w = .ok pl w/\∀ (i:Nat) (fd:Field),fds[i]? = some fd->∃ ti,tb.get fd.type=some ti/\pl[i]? = some (fd.offset,ti.size)
 | [],zs,_=>⟨[],rfl,λi fd h=>by cases h⟩
 | f :: r,zs,h=>by
  simp only [zerosE] at h
  split at h
  ·rename_i ti hti
   split at h
   ·split at h
    ·rename_i zs' hz
     obtain ⟨pl,h1,h2⟩:=build_places hk hz
     refine ⟨(f.offset,ti.size) :: pl,?_,λi fd hi=>?_⟩
     ·rw [List.mapM_cons,Sem.run_bind,Sem.run_bind,run_tsize hk hti,Result.andThen_ok,Sem.run_pure,Result.andThen_ok,Sem.run_bind,h1]
      rfl
     ·cases i with
      | zero=>simp only [List.getElem?_cons_zero,Option.some.injEq] at hi;subst hi;exact ⟨ti,hti,rfl⟩
      | succ i=>rw [List.getElem?_cons_succ] at hi;exact h2 i fd hi
    ·cases h
   ·cases h
  ·cases h
def loud:Op->Bool
 | .store ..|.box ..|.alloc ..|.buildSlice ..=>true
 | _=>false
theorem stepOp_ok (hk:tb.Ok P) (ha:Agree n a (kn env)) (hst:St tb B0 H I w) {m:Nat} (hm:w.heap.size=m) {o:Oper} {nx:Nat} {v:Option EV} {H':Heap} {nx' m':Nat} {ob ob':List Ob} {eq eq':List Eqn}
  (h:stepOp tb env H nx m ob eq o.op=some (v,H',nx',m',ob',eq')) (hob:AllOb ob') (heq:AllEqn eq') :
  ∃ w',(execOp a.eval o).run P w = .ok (outN v) w'/\St tb B0 H' I w'/\w'.heap.size=m'/\AllOb ob/\AllEqn eq/\(loud o.op=false->w'=w):=by
 obtain ⟨op,hop⟩:∃ op,o.op=op:=⟨_,rfl⟩
 rw [hop] at h
 unfold stepOp at h
 split at h
 ·-- load
  split at h
  ·rename_i id b off hx
   split at h
   ·rename_i b' fs T0 hl
    have hh:=hst.holds _ _ hl
    split at h
    ·rename_i fds hu
     split at h
     ·rename_i hc
      rw [Bool.and_eq_true] at hc
      injection h with h;cases h
      obtain ⟨hq,heq2⟩:=heq.cons
      have hq:=Eqn.nat_eq hq
      subst hq
      have e1:=Nat.eq_of_beq_eq_true hc.1
      have e2:=Nat.eq_of_beq_eq_true hc.2
      subst e1;subst e2
      exact ⟨w,step_load hk hop (ev_run ha hx) (load_whole hk hh (hh.2.2.vst hu) rfl),hst,hm,hob,heq2,λ_=>rfl⟩
     ·split at h
      ·rename_i i fd hf
       split at h
       ·rename_i u hi
        injection h with h;cases h
        obtain ⟨hq,heq2⟩:=heq.cons
        have hq:=Eqn.nat_eq hq
        subst hq
        exact ⟨w,step_load hk hop (ev_run ha hx) (load_field hk hh hu hf hi),hst,hm,hob,heq2,λ_=>rfl⟩
       ·cases h
      ·cases h
    ·rename_i d hd hu
     split at h
     ·rename_i hc
      rw [Bool.and_eq_true] at hc
      have e1:=Nat.eq_of_beq_eq_true hc.1
      have e2:=Nat.eq_of_beq_eq_true hc.2
      subst e1;subst e2
      split at h
      ·rename_i u
       injection h with h;cases h
       obtain ⟨hq,heq2⟩:=heq.cons
       have hq:=Eqn.nat_eq hq
       subst hq
       obtain ⟨u',he,hv⟩:=hh.2.2.single hu (λf e=>hd f e)
       injection he with he;subst he
       exact ⟨w,step_load hk hop (ev_run ha hx) (load_whole hk hh hv (by simp [boxCells,flat,EV.v])),hst,hm,hob,heq2,λ_=>rfl⟩
      ·cases h
     ·cases h
    ·cases h
   ·cases h
  ·cases h
 ·-- store
  split at h
  ·rename_i id b off hx
   split at h
   ·rename_i b' fs T0 hl
    have hh:=hst.holds _ _ hl
    split at h
    ·rename_i e hy
     split at h
     ·rename_i hc
      rw [Bool.and_eq_true] at hc
      have e1:=Nat.eq_of_beq_eq_true hc.1
      have e2:=Nat.eq_of_beq_eq_true hc.2
      subst e1;subst e2
      split at h
      ·rename_i fs' hfs
       split at h
       ·rename_i ob1 hfit
        injection h with h;cases h
        obtain ⟨hq,heq2⟩:=heq.cons
        have hq:=Eqn.nat_eq hq
        subst hq
        obtain ⟨hf,hob'⟩:=fitE_ok hfit hob
        obtain ⟨hv,hcells⟩:=hf.vok hk hfs
        obtain ⟨ti,hti,hs⟩:=hv.size
        have hsz:(boxCells fs).size=e.v.cells.size:=by
         have hff:=hh.2.2
         unfold Fit at hff hf
         split at hff
         ·rename_i fds hu
          rw [hu] at hf
          obtain ⟨_,i,hi,h1⟩:=hff
          rw [hti] at hi;injection hi with hi;subst hi
          rw [hs,← h1];simp [boxCells]
         ·obtain ⟨u,he,hvu⟩:=hff
          obtain ⟨i,hi,h1⟩:=hvu.size
          rw [hti] at hi;injection hi with hi;subst hi
          rw [hs,← h1,he];simp [boxCells,flat]
         ·exact hff.elim
        obtain ⟨w',h1,h2,h3,h4⟩:=run_storeAt hk hv hh.2.1 (o:=0) (by omega)
        refine ⟨w',step_store hop (ev_run ha hx) (ev_run ha hy) h1,box_turn hst hl ?_ h3 hf,by rw [h4,hm],hob',heq2,λhl=>by rw [hop] at hl;cases hl⟩
        rw [h2,hcells]
        congr 2
        rw [List.take_zero,List.nil_append,Nat.zero_add,List.drop_eq_nil_of_le (by rw [Array.length_toList,hsz];exact Nat.le_refl _),List.append_nil]
       ·cases h
      ·cases h
     ·split at h
      ·rename_i fds hu
       split at h
       ·rename_i i fd hf
        split at h
        ·rename_i u hu'
         split at h
         ·rename_i ob1 hvo
          injection h with h;cases h
          obtain ⟨hq,heq2⟩:=heq.cons
          have hq:=Eqn.nat_eq hq
          subst hq
          obtain ⟨hv,hob'⟩:=vokE_ok hvo hob
          obtain ⟨hl0,ti,hti,hlen⟩:=hh.2.2.struct hu
          obtain ⟨_,hfd,ho,ht⟩:=fieldAtE_ok hf
          obtain ⟨x0,hx0,hvx,hoff⟩:=hl0.get (i:=i) (by simpa using hfd)
          have hm0:(fs.map AV.v)[i]? = some x0.v:=by rw [List.getElem?_map,hx0];rfl
          have hfits:=flat_fits _ i x0.v hm0
          rw [ht] at hvx
          obtain ⟨t1,ht1,hs1⟩:=hv.size
          obtain ⟨t2,ht2,hs2⟩:=hvx.size
          rw [ht1] at ht2;injection ht2 with ht2;subst ht2
          obtain ⟨w',h1,h2,h3,h4⟩:=run_storeAt hk hv hh.2.1 (o:=off) (by simp only [boxCells,List.size_toArray];rw [← ho,hoff];omega)
          refine ⟨w',step_store hop (ev_run ha hx) (by rw [ev_run ha hy,atomE_eq hu']) h1,box_turn hst hl ?_ h3 ?_,by rw [h4,hm],hob',heq2,λhl=>by rw [hop] at hl;cases hl⟩
          ·rw [h2]
           congr 2
           have hset:=flat_set (fs.map AV.v) i x0.v u.v hm0 (by omega)
           simp only [boxCells]
           rw [← ho,hoff,Nat.zero_add,List.map_set,← hset]
          ·unfold Fit
           rw [hu]
           refine ⟨hl0.set (by simpa using hfd) (by rw [ht];exact hv),ti,hti,?_⟩
           rw [List.map_set,← flat_set (fs.map AV.v) i x0.v u.v hm0 (by omega),← hlen]
           simp only [List.length_append,List.length_take,List.length_drop,Array.length_toList]
           omega
         ·cases h
        ·cases h
       ·cases h
      ·cases h
    ·cases h
   ·cases h
  ·cases h
 ·-- box
  split at h
  ·rename_i e he
   split at h
   ·rename_i fs hfs
    split at h
    ·rename_i ob1 hfit
     injection h with h;cases h
     obtain ⟨hf,hob'⟩:=fitE_ok hfit hob
     obtain ⟨hv,hcells⟩:=hf.vok hk hfs
     subst hm
     refine ⟨_,?_,box_new hst nx hf hcells,by simp,hob',heq,λhl=>by rw [hop] at hl;cases hl⟩
     simp [execOp,hop,Instr.box,ev_run ha he,run_newVar',outN,EV.v,AV.v]
    ·cases h
   ·cases h
  ·cases h
 ·-- alloc
  split at h
  ·rename_i ti hti
   split at h
   ·rename_i z hz
    have hzero:(zeroValue ‹TypeId›).run P w = .ok z w:=by
     simp [zeroValue,run_ti (hk.get hti),hz]
    split at h
    ·split at h
     ·rename_i fs hfs
      split at h
      ·rename_i ob1 hfit
       injection h with h;cases h
       obtain ⟨hq,heq2⟩:=heq.cons
       have hq:z = .agg (boxCells fs):=hq
       obtain ⟨hf,hob'⟩:=fitE_ok hfit hob
       subst hm
       refine ⟨_,?_,box_new hst nx hf rfl,by simp,hob',heq2,λhl=>by rw [hop] at hl;cases hl⟩
       simp [execOp,hop,Instr.alloc,hzero,run_newVar',outN,EV.v,AV.v,hq,Value.cells]
      ·cases h
     ·cases h
    ·split at h
     ·rename_i ob1 hfit
      injection h with h;cases h
      obtain ⟨hf,hob'⟩:=fitE_ok hfit hob
      subst hm
      refine ⟨_,?_,box_new hst nx hf (cs:=z.cells) (by simp [boxCells,flat,AV.v]),by simp,hob',heq,λhl=>by rw [hop] at hl;cases hl⟩
      simp [execOp,hop,Instr.alloc,hzero,run_newVar',outN,EV.v,AV.v]
     ·cases h
    ·cases h
   ·cases h
  ·cases h
 ·-- field
  rename_i s x f
  split at h
  ·rename_i fds hu
   split at h
   ·rename_i fs hx
    split at h
    ·rename_i ob1 len hvs
     split at h
     ·rename_i u hi
      injection h with h;cases h
      obtain ⟨hl,_,hob'⟩:=voksE_ok hvs hob
      refine ⟨w,?_,hst,hm,hob',heq,λ_=>rfl⟩
      have hlen:∀ {fds:List Field} {fs:List AV} {off:Nat},Lay tb fds fs off->fds.length=fs.length:=by
       intro fds
       induction fds with
       | nil=>intro fs off h;cases fs with
        | nil=>rfl
        | cons _ _=>exact h.elim
       | cons f r ih=>intro fs off h;cases fs with
        | nil=>exact h.elim
        | cons _ _=>simp [ih h.2.2]
      have hlt:∃ fd,fds.toList[f]? = some fd:=by
       have h1:=(List.getElem?_eq_some_iff.1 hi).1
       exact ⟨_,List.getElem?_eq_getElem (by rw [hlen hl];exact h1)⟩
      obtain ⟨fd,hfd⟩:=hlt
      obtain ⟨x0,hx0,hv,hoff⟩:=hl.get hfd
      rw [hx0] at hi;injection hi with hi;subst hi
      have hget:=flat_get (fs.map AV.v) _ x0.v (by rw [List.getElem?_map,hx0];rfl)
      rw [Nat.zero_add] at hoff
      rw [← hoff] at hget
      have hfd':=hfd
      rw [Array.getElem?_toList] at hfd'
      have hun:=run_und (w:=w) (hk.und hu)
      have hpart:(part fd.type (flat (fs.map AV.v)).toArray fd.offset).run P w = .ok x0.v w:=by
       cases hd:tb.und fd.type with
       | none=>unfold VOk at hv;rw [hd] at hv;exact hv.elim
       | some d =>
        unfold part
        rw [Sem.run_bind,run_isAgg hk hd,Result.andThen_ok]
        by_cases hr:d.isRow=true
        ·obtain ⟨cs,i,hcs,hi,hs,_⟩:∃ cs i,x0.v = .agg cs/\tb.get fd.type=some i/\cs.size=i.size/\∀ u ∈ cs.toList,u.oneCell'=true:=by
          unfold VOk at hv;rw [hd] at hv
          cases d<;>first|exact hv|cases hr
         rw [if_pos hr,Sem.run_bind,run_tsize hk hi,Result.andThen_ok]
         rw [hcs] at hget ⊢
         simp only [Value.cells] at hget
         show Result.ok (Value.agg _) w=_
         congr 2
         apply Array.ext'
         rw [Array.toList_extract,← hs,← hget]
         simp [List.extract,Nat.add_sub_cancel_left]
        ·have h1:x0.v.oneCell'=true:=by
          unfold VOk at hv;rw [hd] at hv
          cases d<;>first|exact hv.1|exact absurd rfl hr
         have hc1:x0.v.cells = #[x0.v]:=by cases hq:x0.v<;>rw [hq] at h1<;>first|rfl|cases h1
         rw [if_neg hr]
         rw [hc1] at hget
         have:(flat (fs.map AV.v))[fd.offset]? = some x0.v:=by
          have h2:=congrArg (λl=>l[0]?) hget
          simp only [List.getElem?_take,List.getElem?_drop] at h2
          simpa using h2
         simp [this]
      simp [execOp,hop,Instr.field,ev_run ha hx,EV.v,asAgg,hun,hfd',hpart,outN]
     ·cases h
    ·cases h
   ·cases h
  ·cases h
 ·-- build
  split at h
  ·rename_i fds hu
   split at h
   ·rename_i ti hti
    split at h
    ·rename_i z hz
     have hzero:(zeroValue ‹TypeId›).run P w = .ok z w:=by
      simp [zeroValue,run_ti (hk.get hti),hz]
     split at h
     ·rename_i zs hzs
      split at h
      ·rename_i ob1 hfit
       split at h
       ·rename_i fs ob2 hparts
        injection h with h;cases h
        obtain ⟨hq,heq2⟩:=heq.cons
        have hq:z = .agg (boxCells zs):=hq
        obtain ⟨pl,hp1,hp2⟩:=build_places (P:=P) (w:=w) hk hzs
        obtain ⟨hfill,hob1⟩:=partsE_ok ha (place:=λi=>pl[i]?) hp2 hparts hob (λho=>((fitE_ok hfit ho).1.struct hu).1)
        obtain ⟨_,hob'⟩:=fitE_ok hfit hob1
        refine ⟨w,?_,hst,hm,hob',heq2,λ_=>rfl⟩
        have hun:=run_und (w:=w) (hk.und hu)
        have hp1':(fds.mapM λ(f:Field)=>(do pure (f.offset,← sizeOf f.type):Sem (Nat × Nat))).run P w = .ok pl.toArray w:=by
         rw [Array.mapM_eq_mapM_toList,Sem.run_map,hp1]
         rfl
        simp only [execOp,hop,Instr.build,Sem.run_bind,hzero,Result.andThen_ok,hun,hp1',hq,Value.cells]
        have e1:(λi:Nat=>pl.toArray[i]?)=λi:Nat=>pl[i]?:=by funext i;simp
        rw [e1,Array.toList_map,hfill]
        simp [outN,EV.v,boxCells]
       ·cases h
      ·cases h
     ·cases h
    ·cases h
   ·cases h
  ·cases h
 ·-- buildSlice
  split at h
  ·rename_i e hu
   split at h
   ·rename_i ei hei
    split at h
    ·rename_i vs ob1 hel
     split at h
     ·rename_i hc
      injection h with h;cases h
      rw [Bool.and_eq_true,Bool.and_eq_true,Bool.and_eq_true] at hc
      have hlen:=Nat.eq_of_beq_eq_true hc.1
      have hle:=Nat.le_of_ble_eq_true hc.2.1
      have hone:=Nat.le_of_ble_eq_true hc.2.2.1
      subst hlen
      obtain ⟨g1,g2,g3,g4⟩:=fill_elems ha hk ⟨ei,hei,rfl⟩ hel hob
      subst hm
      have hun:=run_und (w:=w) (hk.und hu)
      have hsz:=run_tsize (w:=w) hk hei
      refine ⟨w.alloc (.cells (flat vs).toArray e),?_,?_,by simp,g1,heq,λhl=>by rw [hop] at hl;cases hl⟩
      ·have hnot:¬ (vs.length*ei.size > 2 ^ 24):=by omega
       obtain ⟨z,hz⟩:=Option.isSome_iff_exists.1 hc.2.2.2
       have hzero:(zeroValue e).run P w = .ok z w:=by
        simp [zeroValue,run_ti (hk.get hei),hz]
       by_cases hz0:vs.length*ei.size=0
       ·have hfl:flat vs=[]:=List.eq_nil_of_length_eq_zero (by rw [g2];exact hz0)
        have hfill:=g4 #[] (by simp only [Nat.zero_add];rw [hz0];exact Nat.zero_le _)
        simp only [hfl] at hfill ⊢
        simp [execOp,hop,Instr.buildSlice,hun,hsz,hz0,Array.range_zero',hfill,newRow,newObj,Sem.run,outN,EV.v,AV.v]
       ·have hfill:=g4 ((Array.range (vs.length*ei.size)).map (z.cells[· % z.cells.size]!)) (by simp)
        rw [List.drop_eq_nil_of_le (by simp)] at hfill
        simp only [Nat.zero_mul,List.take_zero,List.nil_append,List.append_nil] at hfill
        simp [execOp,hop,Instr.buildSlice,hun,hsz,hz0,hzero,hnot,hfill,newRow,newObj,Sem.run,outN,EV.v,AV.v]
      ·refine hst.push (ext_alloc w _) nx _ ?_ (λk hk'=>?_)
       ·exact ⟨g2,.inr ⟨w.heap.size,vs.length,(flat vs).toArray,rfl,hst.base,heap_alloc_new w _,Nat.le_refl _,by simp only [maxLen];have:=Nat.le_mul_of_pos_right vs.length hone;omega,by simp [g2],by rw [List.toList_toArray,← g2,List.take_length]⟩⟩
       ·simp [HE.blk,Value.ownBlock] at hk';omega
     ·cases h
    ·cases h
   ·cases h
  ·cases h
 ·-- all else
  split at h
  ·rename_i e ob1 eq1 hp
   injection h with h;cases h
   have hp':pureOp tb env H ob eq o.op=some (e,ob',eq'):=by rw [hop];exact hp
   obtain ⟨h1,h2,h3⟩:=pureOp_ok hk ha hst hp' hob heq
   exact ⟨w,h1,hst,hm,h2,h3,λ_=>rfl⟩
  ·cases h
end
end Go.Proofs.YtbfjmimiigjenaaGreatDoor.V
