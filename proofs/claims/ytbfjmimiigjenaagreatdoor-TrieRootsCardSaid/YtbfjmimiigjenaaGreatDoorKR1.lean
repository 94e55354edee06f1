/-
Lemmas. No condition.
-/
import Derived.Test.YtbfjmimiigjenaaGreatDoorRows
import Derived.ProofKit
import Derived.OpenShut
import Derived.Lay
import Derived.Carry
import Derived.HandedShaped
import Derived.Shelf.Vars
import Derived.MakeChecks
import Derived.Test.YtbfjmimiigjenaaGreatDoorTie
import Derived.Test.YtbfjmimiigjenaaGreatDoorCards
import Derived.LaidMore
import Derived.SevenTiedAt
import Derived.Stop.Joined
import Derived.JoinedOf
import Derived.Test.YtbfjmimiigjenaaGreatDoorShelfG
import Derived.Test.YtbfjmimiigjenaaGreatDoorKPC1
import Derived.Test.YtbfjmimiigjenaaGreatDoorKVZ
set_option maxRecDepth 100000
set_option linter.unusedVariables false
set_option linter.unusedSectionVars false
set_option linter.unusedSimpArgs false
namespace Go.Proofs.YtbfjmimiigjenaaGreatDoor
open Go V RowKit
namespace V
theorem wrap {H:Type} {enc:TypeId × Value->H} {a:Assume} {C:Checked} {os:Os} {f:FuncId} {fn:Func} {s:ChangeSpec} {conds:List PathCond} {apart fresh handsOn again:Bool} {X:World->Array Value->Prop}
  (hX:∀ (w w':World) (args:Array Value),w.heap=w'.heap->X w args->X w' args)
  (own:ownKnob C.prog.godebug=none) (started:os.Started) (noInit:C.prog.inits.idxOf? f=none) (hfn:C.prog.funcs[f]? = some fn)
  (witness:∃ (w:World) (tape:Tape) (i:Input),w.os=os/\(w.forCall tape i).Shaped C.prog/\i.vars=[]/\Input.okWide C.prog (w.forCall tape i) .any w.heap.size f i ∧
   ((s.pre enc C.prog fn conds apart (w.forCall tape i).memory i.args/\X (w.forCall tape i).memory i.args)/\sizedMet enc C.prog fn (OpenSpec.ofChange s) apart (w.forCall tape i).memory i.args)/\a.holds C.prog (lone (Frame.enter C.prog f i.args .normal) [] (w.forCall tape i)))
  (contract:∀ (W:World) (base:Nat) (args:Array Value) (ds gs:List (DataW H)) (before:List MemPlace),
   (∀ (j:Nat) t v,fn.params[j]? = some t->args[j]? = some v->Value.okWide C.prog W .any base t v) →
   DataW.Whole enc C.prog fn.params.toList s.vars apart W args.toList ds gs before →
   (DataW.weightsEach C.prog (fn.params.toList ++ s.plain.varTypes C.prog) (ds ++ gs)).all (· ≤ reachBytes)=true->X W args->W.ShapedOpen C.prog →
   Calls C.prog f args W λe W'=>∃ v,e = .returned v/\s.post enc C.prog fn apart fresh handsOn again W args v W') :
  ReturnsInHanded a C os f .any (λw args=>(s.pre enc C.prog fn conds apart w args/\X w args)/\sizedMet enc C.prog fn (OpenSpec.ofChange s) apart w args) (s.post enc C.prog fn apart fresh handsOn again):=by
 refine returnsInHanded_of_calls own started noInit witness ?_
 intro w tape i _ hsh _ hok hpre hholds
 obtain ⟨_,_,_,fn',hfn',_,_,_,_,hval⟩:=hok
 have e:fn'=fn:=Option.some.inj (hfn'.symm.trans hfn)
 subst e
 obtain ⟨⟨⟨ds,gs,before,hw,hc⟩,hx⟩,hz⟩:=hpre
 have hw':=DataW.Whole.of_heap (w':=w.forCall tape i) (by rfl) hw
 refine (contract (w.forCall tape i) w.heap.size i.args ds gs before hval hw' (hz.weights hw) (hX _ _ _ (by rfl) hx) hsh).mono λe W' ⟨v,he,hp⟩=>?_
 subst he
 exact ChangeSpec.post_blind hp
section
open Go.ChangeShapes
variable {H:Type} {enc:TypeId × Value->H} {w:World} {base:Nat} {sp:Nat->Bool} {held:Bool}
theorem u8s_of:∀ (cs:List Value),(∀ i,i < cs.length->∃ z,(Lit.int .u8 z).wf=true/\(cs.drop i).take 1=[.int .u8 z])->∃ l:List UInt8,cs=l.map u8V
 | [],_=>⟨[],rfl⟩
 | c :: r,h=>by
  obtain ⟨l,hl⟩:=u8s_of r (λi hi=>by
   obtain ⟨z,hz,e⟩:=h (i+1) (by simpa using hi)
   exact ⟨z,hz,by simpa using e⟩)
  obtain ⟨z,hz,e⟩:=h 0 (by simp)
  have ec:c = .int .u8 z:=by simpa using e
  have hb:0 ≤ z/\z ≤ 255:=by simpa [Lit.wf,IntKind.min,IntKind.max,IntKind.signed,IntKind.bits] using hz
  refine ⟨UInt8.ofNat z.toNat :: l,?_⟩
  rw [ec,hl,List.map_cons]
  congr 1
  unfold u8V
  congr 1
  have:(UInt8.ofNat z.toNat).toNat=z.toNat:=by
   rw [UInt8.toNat_ofNat']
   exact Nat.mod_eq_of_lt (by omega)
  rw [this]
  omega
theorem open_sum {fuel:Nat} {cs:List Value} {x:DataW H × List MemPlace} (h:DataW.trod enc Tryz.prog w base sp held fuel 40 cs=some x):∃ s:Sum,cs=s.l.map u8V:=by
 obtain ⟨xs,m,_,_,hl,hn,hel⟩:=DataW.trod_array Tryz.underlying40 h
 have c1:Tryz.prog.cellsOf 5=1:=by kernel_rfl
 have c32:Tryz.prog.cellsOf 40=32:=by kernel_rfl
 rw [c32] at hl
 obtain ⟨l,hl'⟩:=u8s_of cs (λi hi=>by
  rw [hl] at hi
  have hE:=hel i hi
  rw [c1,Nat.mul_one,List.getElem?_eq_getElem (by omega)] at hE
  obtain ⟨z,e1,_,e3⟩:=DataW.trod_int Tryz.underlying5 hE
  exact ⟨z,e3,e1⟩)
 exact ⟨⟨l,by rw [hl'] at hl;simpa using hl⟩,hl'⟩
theorem open_row {α:Type} (κ:Kd α) {st:TypeId} (hs:Tryz.prog.underlying st=some (.slice κ.T)) (hc:Tryz.prog.cellsOf κ.T=κ.sz) (hp:0 < κ.sz) (hb:0 < Tryz.prog.bytesOf κ.T)
  (hopen:∀ {w:World} {base:Nat} {sp:Nat->Bool} {held:Bool} {fuel:Nat} {cs:List Value} {x:DataW H × List MemPlace},DataW.trod enc Tryz.prog w base sp held fuel κ.T cs=some x->∃ e:α,cs=κ.cs e)
  {fuel:Nat} {cs:List Value} {x:DataW H × List MemPlace} (h:DataW.trod enc Tryz.prog w base (λ_=>true) held fuel st cs=some x)
  (hz:∀ n ∈ x.1.weights Tryz.prog st,n ≤ reachBytes):∃ r:Row α,cs=[.slice r.A r.l.length r.c]/\r.ok κ w:=by
 rcases DataW.trod_slice hs h with ⟨rfl,rfl⟩|⟨a,len,cap,elems,rest,n,_,rfl,rfl,_,hl,_,hlen,hel,hsp,_⟩
 ·exact ⟨⟨none,0,[]⟩,rfl,⟨Nat.le_refl _,Nat.zero_le _,λh=>absurd rfl h,λj v hv=>by simp at hv,λ_=>⟨rfl,rfl⟩⟩⟩
 ·have hr:=(hsp rfl).1
  have hcap:cap ≤ lim:=by
   have:=hz ((elems.length+rest.length)*Tryz.prog.bytesOf κ.T) (by simp [DataW.weights,hs])
   have h2:cap*1 ≤ cap*Tryz.prog.bytesOf κ.T:=Nat.mul_le_mul_left _ hb
   have h3:elems.length+rest.length=cap:=by omega
   rw [h3] at this
   have:reachBytes=lim:=rfl
   omega
  have hex:∀ i,i < len->∃ e:α,w.cells? base (a.add (i*κ.sz)) κ.sz=some (κ.cs e):=λi hi=>by
   have hE:=hel i hi
   rw [hc,List.getElem?_eq_getElem (by omega),Option.bind_eq_some_iff] at hE
   obtain ⟨c1,hc1,hy⟩:=hE
   obtain ⟨e,rfl⟩:=hopen hy
   exact ⟨e,hc1⟩
  obtain ⟨l,hll,hl2⟩:∃ l:List α,l.length=len/\∀ i (h:i < l.length),w.cells? base (a.add (i*κ.sz)) κ.sz=some (κ.cs l[i]):=by
   refine ⟨(List.range len).attach.map λi=>(hex i.1 (List.mem_range.1 i.2)).choose,by simp,λi hi=>?_⟩
   simp only [List.length_map,List.length_attach,List.length_range] at hi
   simp only [List.getElem_map,List.getElem_attach,List.getElem_range]
   exact (hex i hi).choose_spec
  have hcell:∀ i (h:i < l.length) j,j < κ.sz->w.cell? ((a.add (i*κ.sz)).add j)=(κ.cs l[i])[j]?:=λi h j hj=>by
   have h1:=hl2 i h
   unfold World.cells? at h1
   split at h1
   ·have:=mapM_some_get h1 j j (by simp [hj])
    exact this
   ·cases h1
  have hspot:l ≠ []->a.spot=none:=λhne=>by
   have h0:0 < l.length:=List.length_pos_iff.2 hne
   have:=hcell 0 h0 0 hp
   rw [List.getElem?_eq_getElem (by rw [κ.cs_len];exact hp)] at this
   unfold World.cell? at this
   cases ha:a.spot with
   | none=>rfl
   | some k =>
    have hs1:((a.add (0*κ.sz)).add 0).spot.isSome=true:=by simp [Addr.add,ha]
    simp only [hs1,if_true] at this
    split at this<;>cases this
  refine ⟨⟨some a,cap,l⟩,by rw [hll],⟨by rw [hll];exact hl,by show l.length ≤ lim;omega,?_,?_,λh=>by cases h⟩⟩
  ·intro hne
   show some a=some ⟨a.block,a.off,none⟩
   rw [← hspot hne]
  ·intro j v hv
   have hj:j < l.length*κ.sz:=by
    rw [← κ.flL];exact (List.getElem?_eq_some_iff.1 hv).1
   have hi:j / κ.sz < l.length:=Nat.div_lt_of_lt_mul (by rw [Nat.mul_comm];exact hj)
   have hne:l ≠ []:=λe=>by subst e;simp at hi
   have hm:j % κ.sz < κ.sz:=Nat.mod_lt _ hp
   have:=hcell (j / κ.sz) hi (j % κ.sz) hm
   have hg:=κ.get l (j / κ.sz) hi
   have e1:(κ.cs l[j / κ.sz])[j % κ.sz]? = (l.flatMap κ.cs)[j]?:=by
    rw [← hg,List.getElem?_take_of_lt hm,List.getElem?_drop,Nat.mul_comm,Nat.div_add_mod]
   rw [e1,hv] at this
   have ha:=hspot hne
   have ea:(⟨blkA (some a),offA (some a)+j,none⟩:Addr)=(a.add (j / κ.sz*κ.sz)).add (j % κ.sz):=by
    obtain ⟨ab,ao,asp⟩:=a
    have ha':asp=none:=ha
    subst ha'
    rw [Addr.add_mid,Addr.add_mid]
    show (⟨ab,ao+j,none⟩:Addr)=_
    rw [Nat.add_assoc,Nat.mul_comm,Nat.div_add_mod]
   show w.cell? (⟨blkA (some a),offA (some a)+j,none⟩:Addr)=some v
   rw [ea]
   exact this
end
end V
namespace V
theorem u32s_of:∀ (cs:List Value) (zs:List Int),cs.length=zs.length->(∀ i (h:i < zs.length),(cs.drop i).take 1=[.int .u32 zs[i]])->cs=zs.map λz=>.int .u32 z
 | [],[],_,_=>rfl
 | c :: r,z :: t,hl,h=>by
  rw [List.map_cons,← u32s_of r t (by simpa using hl) (λi hi=>h (i+1) (Nat.succ_lt_succ hi))]
  have:=h 0 (by simp)
  simp at this
  rw [this]
 | [],_ :: _,hl,_=>by simp at hl
 | _ :: _,[],hl,_=>by simp at hl
theorem laid_words {W:World} {nm:String} {g:Nat} {t u:TypeId} {cs:Array Value} {fuel n:Nat} {p:List MemPlace} {zs:List Int} (hg:Tryz.prog.globalNamed nm=some g)
  (hu:Tryz.prog.underlying t=some (.array n u)) (hi:Tryz.prog.underlying u=some (.int .u32)) (c1:Tryz.prog.cellsOf u=1) (cn:Tryz.prog.cellsOf t=n)
  (hv:W.var? Tryz.prog nm=some cs) {enc:TypeId × Value->Unit} {base:Nat} {sp:Nat->Bool} {held:Bool}
  (hd:DataW.trod enc Tryz.prog W base sp held fuel t cs.toList=some (.agg (zs.map λz=>.lit (.int .u32 z)),p)):W.rangeAt g 0 (zs.map λz=>.int .u32 z):=by
 obtain ⟨xs,m,_,ex,hl,hn,hel⟩:=DataW.trod_array hu hd
 rw [cn] at hl
 have e3:(xs.map (·.1))=zs.map λz=>(DataW.lit (.int .u32 z):DataW Unit):=(DataW.agg.inj (Prod.mk.inj ex).1).symm
 have hzl:zs.length=n:=by
  have:=congrArg List.length e3
  simp at this
  omega
 have hcs:cs.toList=zs.map λz=>.int .u32 z:=by
  refine u32s_of _ _ (by omega) λi hi'=>?_
  have hE:=hel i (by omega)
  rw [c1,Nat.mul_one,List.getElem?_eq_getElem (by omega)] at hE
  obtain ⟨z,e1,e2,_⟩:=DataW.trod_int hi hE
  have e4:(xs.map (·.1))[i]? = (zs.map λz=>(DataW.lit (.int .u32 z):DataW Unit))[i]?:=by rw [e3]
  rw [List.getElem?_map,List.getElem?_map,List.getElem?_eq_getElem (by omega:i < xs.length),List.getElem?_eq_getElem hi',e2] at e4
  simp only [Option.map_some,Option.some.injEq,DataW.lit.injEq,Lit.int.injEq,true_and] at e4
  rw [e1,e4]
 intro j v hv'
 rw [← hcs] at hv'
 have:=World.var?_cell hg hv (0+j)
 rw [this,Nat.zero_add]
 simpa using hv'
theorem glob_of {W:World} (hS:W.ShapedOpen Tryz.prog) (h:laidMetH Tryz.prog Rows.trieShapeRow.laid W):Glob W:=by
 have hmax:MaxLen W:=by
  refine cell_of_shapedOpen_int hS (t:=3) (of_decide_eq_true (by kernel_rfl)) (zero:=#[.int .i64 0]) (by kernel_rfl) rfl (by kernel_rfl) (by kernel_rfl) Tryz.underlying3
 rw [MakeChecks.laidMetH_plain _ _ _ (by kernel_rfl)] at h
 obtain ⟨ps,⟨g1,t1,cs1,f1,pA,q1,hgA,htA,hvA,hdA,⟨g2,t2,cs2,f2,pB,q2,hgB,htB,hvB,hdB,⟨g0,t0,cs0,f0,p0,q0,hg0,ht0,hv0,hd0,_,_⟩,_⟩,_⟩,_,_⟩:=h
 obtain rfl:=Option.some.inj ((show Tryz.prog.globalNamed "hoarstone/sum.constants" = some 1 by kernel_rfl).symm.trans hgA)
 obtain rfl:=Option.some.inj ((show Tryz.prog.globalNamed "hoarstone/sum.begin" = some 0 by kernel_rfl).symm.trans hgB)
 obtain rfl:=Option.some.inj ((show (Tryz.prog.globals[1]?).map (·.type)=some 367 by kernel_rfl).symm.trans htA)
 obtain rfl:=Option.some.inj ((show (Tryz.prog.globals[0]?).map (·.type)=some 226 by kernel_rfl).symm.trans htB)
 refine ⟨hmax,?_,?_⟩
 ·have e:constW.map u32V=(constW.map λx=>(x.toNat:Int)).map λz=>.int .u32 z:=by rw [List.map_map];rfl
  rw [e]
  refine laid_words hgA Tryz.underlying367 Tryz.underlying225 (by kernel_rfl) (by kernel_rfl) hvA (hdA.trans (congrArg (λd=>some (d,pA)) (show (Rows.laid_hoarstone_sum_constants:DataW Unit)=_ from by kernel_rfl)))
 ·have e:beginW.map u32V=(beginW.map λx=>(x.toNat:Int)).map λz=>.int .u32 z:=by rw [List.map_map];rfl
  rw [e]
  refine laid_words hgB Tryz.underlying226 Tryz.underlying225 (by kernel_rfl) (by kernel_rfl) hvB (hdB.trans (congrArg (λd=>some (d,pB)) (show (Rows.laid_hoarstone_sum_begin:DataW Unit)=_ from by kernel_rfl)))
end V
open Go V RowKit Go.ChangeShapes Go.WideShapes Go.ChangeAt
theorem ownKnobs:ownKnob Tryz.prog.godebug=none:=by kernel_rfl
theorem laidOuts:laidOutB Tryz.prog=true:=by kernel_rfl
section
variable {H:Type} {enc:TypeId × Value->H} {P:Program} {w:World} {base:Nat} {spare:Nat->Bool} {held:Bool}
theorem trodAll_five {t t' t'' t3 t4:TypeId} {args:Array Value} {ds:List (DataW H)} {ps:List MemPlace} (h:DataW.TrodAll enc P w base spare held [t,t',t'',t3,t4] args.toList ds ps) :
  ∃ v v' v'' v3 v4 d d' d'' d3 d4 p p' p'' p3 p4,args = #[v,v',v'',v3,v4]/\ds=[d,d',d'',d3,d4]/\ps=p ++ p' ++ p'' ++ p3 ++ p4/\DataW.Trod enc P w base spare held t v d p/\DataW.Trod enc P w base spare held t' v' d' p'/\DataW.Trod enc P w base spare held t'' v'' d'' p''/\DataW.Trod enc P w base spare held t3 v3 d3 p3/\DataW.Trod enc P w base spare held t4 v4 d4 p4:=by
 obtain ⟨v,vs,d,ds',p,q,hargs,rfl,rfl,hd,hrest⟩:=trodAll_cons h
 obtain ⟨v',vs',d',ds'',p',q',rfl,rfl,rfl,hd',hrest'⟩:=trodAll_cons hrest
 obtain ⟨v'',vs'',d'',ds''',p'',q'',rfl,rfl,rfl,hd'',hrest''⟩:=trodAll_cons hrest'
 obtain ⟨v3,vs3,d3,ds3,p3,q3,rfl,rfl,rfl,hd3,hrest3⟩:=trodAll_cons hrest''
 obtain ⟨v4,vs4,d4,ds4,p4,q4,rfl,rfl,rfl,hd4,hrest4⟩:=trodAll_cons hrest3
 obtain ⟨rfl,rfl,rfl⟩:=trodAll_nil hrest4
 exact ⟨v,v',v'',v3,v4,d,d',d'',d3,d4,p,p',p'',p3,p4,by cases args;simp_all,rfl,by simp,hd,hd',hd'',hd3,hd4⟩
theorem trodAll_mk5 {t t' t'' t3 t4:TypeId} {v v' v'' v3 v4:Value} {d d' d'' d3 d4:DataW H} {p p' p'' p3 p4:List MemPlace} (h:DataW.Trod enc P w base spare held t v d p) (h':DataW.Trod enc P w base spare held t' v' d' p')
  (h'':DataW.Trod enc P w base spare held t'' v'' d'' p'') (h3:DataW.Trod enc P w base spare held t3 v3 d3 p3) (h4:DataW.Trod enc P w base spare held t4 v4 d4 p4):DataW.TrodAll enc P w base spare held [t,t',t'',t3,t4] [v,v',v'',v3,v4] [d,d',d'',d3,d4] (p ++ (p' ++ (p'' ++ (p3 ++ p4)))) :=
 ⟨p,p' ++ (p'' ++ (p3 ++ p4)),h,trodAll_mk4 h' h'' h3 h4,rfl⟩
theorem open_sumA {v:Value} {d:DataW H} {p:List MemPlace} {r:Reach} {b0:Nat} (h:DataW.Trod enc Tryz.prog w base spare held 40 v d p)
  (hv:Value.okWide Tryz.prog w r b0 40 v):∃ s:Sum,v=sumV s:=by
 obtain ⟨fuel,hf⟩:=h
 obtain ⟨s,hs⟩:=open_sum hf
 have:∃ cs:Array Value,v = .agg cs:=by
  simp only [Value.okWide,Tryz.underlying40] at hv
  obtain ⟨cs,h1,_⟩:=hv
  exact ⟨cs,h1⟩
 obtain ⟨cs,rfl⟩:=this
 refine ⟨s,?_⟩
 have e3:(Value.agg cs).cells.toList=cs.toList:=rfl
 rw [e3] at hs
 exact congrArg Value.agg (Array.ext' (by simpa using hs))
end
end Go.Proofs.YtbfjmimiigjenaaGreatDoor
namespace Go.Proofs.YtbfjmimiigjenaaGreatDoor
open Go
theorem joined_of {P:Program} {f:FuncId} {fn:Func} {s:ChangeSpec} {c:OpenClaim}
  (h0:(c.wf (OpenSpec.ofChange s):Bool)=true)
  (h1:(laidOutB P:Bool)=true)
  (h2:(mapsRowed P:Bool)=true)
  (h3:(fn.params.all (P.readableRec ·):Bool)=true)
  (h4:(namedTie P c.named s.vars:Bool)=true)
  (h5:(c.stops == []:Bool)=true)
  (h6:(P.stops == []:Bool)=true)
  (h7:(c.knobs == []:Bool)=true)
  (h8:(P.stopKnobs == []:Bool)=true)
  (h9:(c.inPlace == P.inPlace f:Bool)=true)
  (h10:(c.unfollowed == P.unfollowed f:Bool)=true)
  (h11:(c.recurses == P.recurses f:Bool)=true)
  (h12:(c.named == P.varsNamed f:Bool)=true)
  (h13:(c.maps == (fn.params.toList ++ s.plain.varTypes P).any (P.mapsRec ·):Bool)=true)
  (h14:(c.ifaces == (fn.params.toList ++ s.plain.varTypes P).any (P.ifacesRec ·):Bool)=true)
  (h15:(c.mapsOut == P.mapsAmong fn.resultTypes.toList:Bool)=true)
  (h16:(c.loops == (fn.params.toList ++ s.plain.varTypes P).any (P.loopsFrom ·):Bool)=true)
  (h17:(c.wideKeys == (fn.params.toList ++ s.plain.varTypes P ++ fn.resultTypes.toList).any (P.wideKeysFrom ·):Bool)=true)
  (h18:(s.vars.all (P.varReadable ·):Bool)=true)
  (h19:(fn.resultTypes.all (λt=>P.readableRec t && decide (t < P.types.size)):Bool)=true)
  (h20:(c.ifacesOut == fn.resultTypes.toList.any (P.ifacesRec ·):Bool)=true)
  (h21:(c.loopsOut == fn.resultTypes.toList.any (P.loopsFrom ·):Bool)=true)
  (h22:(c.plainKeys == P.plainKeys:Bool)=true)
  (h23:(c.shortTexts.isNone:Bool)=true)
  (h24:(P.stopsHeard:Bool)=true)
  (h25:(P.mayEnter:Bool)=true)
  (h26:(c.lifted == P.liftsFinal:Bool)=true)
  (h27:(P.make == some c.make:Bool)=true)
  (h28:(c.kinds == (if c.domain.isEmpty then [] else fn.params.toList.map λt=>match P.underlying t with|some (.int k)=>some k|_=>none):Bool)=true)
  (h29:(c.pinned == c.pinnedBy:Bool)=true)
  (h30:(c.veiled == (fn.params.toList ++ s.plain.varTypes P ++ fn.resultTypes.toList).any (P.veiledRec ·):Bool)=true)
  (h31:(c.veiledFits P fn.params.toList (fn.params.toList ++ s.plain.varTypes P ++ fn.resultTypes.toList):Bool)=true)
  : joinedFacts P f fn s c=true:=by
 unfold joinedFacts
 simp only [Bool.and_eq_true]
 exact ⟨⟨⟨⟨⟨⟨⟨⟨⟨⟨⟨⟨⟨⟨⟨⟨⟨⟨⟨⟨⟨⟨⟨⟨⟨⟨⟨⟨⟨⟨⟨h0,h1⟩,h2⟩,h3⟩,h4⟩,h5⟩,h6⟩,h7⟩,h8⟩,h9⟩,h10⟩,h11⟩,h12⟩,h13⟩,h14⟩,h15⟩,h16⟩,h17⟩,h18⟩,h19⟩,h20⟩,h21⟩,h22⟩,h23⟩,h24⟩,h25⟩,h26⟩,h27⟩,h28⟩,h29⟩,h30⟩,h31⟩
end Go.Proofs.YtbfjmimiigjenaaGreatDoor
namespace Go.Proofs.YtbfjmimiigjenaaGreatDoor
open V
mutual
inductive Tree where
 | node (stem:Str) (v:Option Sum) (k:Kids):Tree
inductive Kids where
 | nil:Kids
 | cons (b:UInt8) (t:Tree) (r:Kids):Kids
end
mutual
def Tree.many:Tree->Nat
 | .node _ v k=>(if v.isSome=true then 1 else 0)+k.many
def Kids.many:Kids->Nat
 | .nil=>0
 | .cons _ t r=>t.many+r.many
end
def Kids.bytes:Kids->List UInt8
 | .nil=>[]
 | .cons b _ r=>b :: r.bytes
def Kids.trees:Kids->List Tree
 | .nil=>[]
 | .cons _ t r=>t :: r.trees
theorem Kids.len:∀ k:Kids,k.bytes.length=k.trees.length
 | .nil=>rfl
 | .cons _ _ r=>by simp [Kids.bytes,Kids.trees,Kids.len r]
def vB (v:Option Sum):List UInt8:=match v with
 | some s=>1 :: s.l
 | none=>[0]
def pairB (bs:List UInt8) (os:List Sum):List UInt8:=(bs.zip os).flatMap λp=>p.1 :: p.2.l
def stepB (stem:Str) (v:Option Sum) (bs:List UInt8) (os:List Sum):List UInt8 :=
 [UInt8.ofNat stem.length] ++ stem ++ vB v ++ [UInt8.ofNat (bs.length / 256),UInt8.ofNat bs.length] ++ pairB bs os
mutual
def Tree.own:Tree->Sum
 | .node stem v k=>shaW (stepB stem v k.bytes k.owns)
def Kids.owns:Kids->List Sum
 | .nil=>[]
 | .cons _ t r=>t.own :: r.owns
end
theorem Kids.owns_eq:∀ k:Kids,k.owns=k.trees.map Tree.own
 | .nil=>rfl
 | .cons _ _ r=>by simp [Kids.owns,Kids.trees,Kids.owns_eq r]
mutual
def Tree.ents:Tree->Str->List (Str × Sum)
 | .node stem v k,beg=>(match v with
  | some s=>[(beg ++ stem,s)]
  | none=>[]) ++ k.ents (beg ++ stem)
def Kids.ents:Kids->Str->List (Str × Sum)
 | .nil,_=>[]
 | .cons b t r,beg=>t.ents (beg ++ [b]) ++ r.ents beg
end
def cutP:Str->Str->Option Str
 | [],n=>some n
 | _ :: _,[]=>none
 | a :: s,b :: n=>if a=b then cutP s n else none
theorem cutP_iff:∀ (s n r:Str),cutP s n=some r ↔ n=s ++ r
 | [],n,r=>by simp [cutP]
 | a :: s,[],r=>by simp [cutP]
 | a :: s,b :: n,r=>by
  unfold cutP
  by_cases h:a=b
  ·subst h
   simp [cutP_iff s n r]
  ·have h2:¬ b=a:=λe=>h e.symm
   simp [h,h2]
theorem cutP_app (s r:Str):cutP s (s ++ r)=some r:=(cutP_iff s (s ++ r) r).2 rfl
theorem cutP_none {s n:Str} (h:∀ r,n ≠ s ++ r):cutP s n=none:=by
 cases hc:cutP s n with
 | none=>rfl
 | some r=>exact absurd ((cutP_iff s n r).1 hc) (h r)
mutual
def Tree.get:Tree->Str->Option Sum
 | .node stem v k,name=>match cutP stem name with
  | none=>none
  | some []=>v
  | some (b :: r)=>k.get b r
def Kids.get:Kids->UInt8->Str->Option Sum
 | .nil,_,_=>none
 | .cons b t r,c,n=>if b=c then t.get n else r.get c n
end
mutual
def Tree.wf:Tree->Prop
 | .node _ v k=>k.wf/\(v.isSome=true ∨ 2 ≤ k.bytes.length)
def Kids.wf:Kids->Prop
 | .nil=>True
 | .cons b t r=>t.wf/\r.wf/\∀ c ∈ r.bytes,b < c
end
theorem get_here (stem:Str) (v:Option Sum) (k:Kids):(Tree.node stem v k).get stem=v:=by
 have:=cutP_app stem []
 rw [List.append_nil] at this
 simp [Tree.get,this]
theorem get_kid (stem:Str) (v:Option Sum) (k:Kids) (b:UInt8) (r:Str):(Tree.node stem v k).get (stem ++ b :: r)=k.get b r:=by
 simp [Tree.get,cutP_app]
theorem get_off {stem n:Str} (v:Option Sum) (k:Kids) (h:∀ r,n ≠ stem ++ r):(Tree.node stem v k).get n=none:=by
 simp [Tree.get,cutP_none h]
theorem kget_mem:∀ {k:Kids} {c:UInt8} {n:Str},c ∉ k.bytes->k.get c n=none
 | .nil,_,_,_=>rfl
 | .cons b t r,c,n,h=>by
  have h1:¬ b=c:=λe=>h (by rw [e];exact .head _)
  unfold Kids.get
  rw [if_neg h1]
  exact kget_mem λhm=>h (.tail _ hm)
theorem paC:∀ (s n:Str),(n=s) ∨ (∃ c r,n=s ++ c :: r) ∨ (∃ p b q,s=p ++ b :: q/\n=p) ∨ (∃ p b q c r,s=p ++ b :: q/\n=p ++ c :: r/\b ≠ c)
 | [],[]=>.inl rfl
 | [],c :: r=>.inr (.inl ⟨c,r,rfl⟩)
 | b :: q,[]=>.inr (.inr (.inl ⟨[],b,q,rfl,rfl⟩))
 | a :: s,c :: n=>by
  by_cases h:a=c
  ·subst h
   rcases paC s n with e|⟨c,r,e⟩|⟨p,b,q,e1,e2⟩|⟨p,b,q,c,r,e1,e2,e3⟩
   ·exact .inl (by rw [e])
   ·exact .inr (.inl ⟨c,r,by rw [e];rfl⟩)
   ·exact .inr (.inr (.inl ⟨a :: p,b,q,by rw [e1];rfl,by rw [e2]⟩))
   ·exact .inr (.inr (.inr ⟨a :: p,b,q,c,r,by rw [e1];rfl,by rw [e2];rfl,e3⟩))
  ·exact .inr (.inr (.inr ⟨[],a,s,c,n,rfl,rfl,h⟩))
def lcp:Str->Str->Nat
 | a :: x,b :: y=>if a=b then lcp x y+1 else 0
 | _,_=>0
theorem lcp_app:∀ (p x y:Str),lcp (p ++ x) (p ++ y)=p.length+lcp x y
 | [],_,_=>by simp
 | a :: p,x,y=>by
  show (if a=a then lcp (p ++ x) (p ++ y)+1 else 0)=_
  rw [if_pos rfl,lcp_app p x y,List.length_cons]
  omega
theorem lcp_ne {a b:UInt8} (h:a ≠ b) (x y:Str):lcp (a :: x) (b :: y)=0:=by
 unfold lcp;rw [if_neg h]
theorem lcp_nil (x:Str):lcp x []=0:=by cases x<;>rfl
theorem lcp_nil2 (x:Str):lcp [] x=0:=rfl
def leaf (n:Str) (x:Sum):Tree:=.node n (some x) .nil
def Kids.ins:Kids->UInt8->Tree->Kids
 | .nil,c,t=>.cons c t .nil
 | .cons b s r,c,t=>if b < c then .cons b s (r.ins c t) else .cons c t (.cons b s r)
mutual
def Tree.put:Tree->Str->Sum->Tree
 | .node stem v k,name,x =>
  if lcp stem name < stem.length then
   (if lcp stem name=name.length then .node (stem.take (lcp stem name)) (some x) (.cons (stem.getD (lcp stem name) 0) (.node (stem.drop (lcp stem name+1)) v k) .nil)
   else .node (stem.take (lcp stem name)) none ((Kids.cons (stem.getD (lcp stem name) 0) (.node (stem.drop (lcp stem name+1)) v k) .nil).ins (name.getD (lcp stem name) 0) (leaf (name.drop (lcp stem name+1)) x)))
  else if lcp stem name=name.length then .node stem (some x) k
  else .node stem v (k.put (name.getD (lcp stem name) 0) (name.drop (lcp stem name+1)) x)
def Kids.put:Kids->UInt8->Str->Sum->Kids
 | .nil,c,n,x=>.cons c (leaf n x) .nil
 | .cons b t r,c,n,x=>if b < c then .cons b t (r.put c n x) else if b=c then .cons b (t.put n x) r else .cons c (leaf n x) (.cons b t r)
end
theorem put_here (s:Str) (v:Option Sum) (k:Kids) (x:Sum):(Tree.node s v k).put s x = .node s (some x) k:=by
 have h:=lcp_app s [] []
 rw [List.append_nil] at h
 have h:lcp s s=s.length:=h
 unfold Tree.put
 simp [h]
theorem put_kid (s:Str) (v:Option Sum) (k:Kids) (c:UInt8) (r:Str) (x:Sum):(Tree.node s v k).put (s ++ c :: r) x = .node s v (k.put c r x):=by
 have h:=lcp_app s [] (c :: r)
 rw [List.append_nil,lcp_nil2,Nat.add_zero] at h
 unfold Tree.put
 rw [h,if_neg (Nat.lt_irrefl _),if_neg (by simp)]
 congr 2
 ·simp
 ·rw [← List.drop_drop,List.drop_left];rfl
theorem put_up (p:Str) (b:UInt8) (q:Str) (v:Option Sum) (k:Kids) (x:Sum):(Tree.node (p ++ b :: q) v k).put p x = .node p (some x) (.cons b (.node q v k) .nil):=by
 have h:=lcp_app p (b :: q) []
 rw [List.append_nil,lcp_nil,Nat.add_zero] at h
 unfold Tree.put
 rw [h,if_pos (by simp),if_pos rfl]
 congr 1
 ·simp
 ·congr 1
  ·simp
  ·congr 1
   rw [← List.drop_drop,List.drop_left];rfl
theorem put_fork (p:Str) (b:UInt8) (q:Str) (v:Option Sum) (k:Kids) (c:UInt8) (r:Str) (x:Sum) (hbc:b ≠ c):(Tree.node (p ++ b :: q) v k).put (p ++ c :: r) x = .node p none ((Kids.cons b (.node q v k) .nil).ins c (leaf r x)):=by
 have h:=lcp_app p (b :: q) (c :: r)
 rw [lcp_ne hbc,Nat.add_zero] at h
 unfold Tree.put
 rw [h,if_pos (by simp),if_neg (by simp)]
 have e1:∀ (a:UInt8) (s:Str),(p ++ a :: s).drop (p.length+1)=s:=λa s=>by rw [← List.drop_drop,List.drop_left];rfl
 have e2:∀ (a:UInt8) (s:Str),(p ++ a :: s).getD p.length 0=a:=λa s=>by simp
 rw [e1,e1,e2,e2,List.take_left]
theorem ins_bytes:∀ (k:Kids) (c:UInt8) (t:Tree),∀ b,b ∈ (k.ins c t).bytes ↔ b=c ∨ b ∈ k.bytes
 | .nil,c,t,b=>by simp [Kids.ins,Kids.bytes]
 | .cons a s r,c,t,b=>by
  unfold Kids.ins
  split
  ·simp only [Kids.bytes,List.mem_cons,ins_bytes r c t b]
   constructor
   ·rintro (h|h|h)
    ·exact .inr (.inl h)
    ·exact .inl h
    ·exact .inr (.inr h)
   ·rintro (h|h|h)
    ·exact .inr (.inl h)
    ·exact .inl h
    ·exact .inr (.inr h)
  ·simp [Kids.bytes]
theorem kput_bytes:∀ (k:Kids) (c:UInt8) (n:Str) (x:Sum),∀ b,b ∈ (k.put c n x).bytes ↔ b=c ∨ b ∈ k.bytes
 | .nil,c,n,x,b=>by simp [Kids.put,Kids.bytes]
 | .cons a s r,c,n,x,b=>by
  unfold Kids.put
  split
  ·simp only [Kids.bytes,List.mem_cons,kput_bytes r c n x b]
   constructor
   ·rintro (h|h|h)
    ·exact .inr (.inl h)
    ·exact .inl h
    ·exact .inr (.inr h)
   ·rintro (h|h|h)
    ·exact .inr (.inl h)
    ·exact .inl h
    ·exact .inr (.inr h)
  ·split
   ·rename_i h
    subst h
    simp only [Kids.bytes,List.mem_cons]
    constructor
    ·rintro (h|h)
     ·exact .inl h
     ·exact .inr (.inr h)
    ·rintro (h|h|h)
     ·exact .inl h
     ·exact .inl h
     ·exact .inr h
   ·simp [Kids.bytes]
theorem kput_len:∀ (k:Kids) (c:UInt8) (n:Str) (x:Sum),k.bytes.length ≤ (k.put c n x).bytes.length
 | .nil,_,_,_=>Nat.zero_le _
 | .cons a s r,c,n,x=>by
  unfold Kids.put
  split
  ·simp only [Kids.bytes,List.length_cons]
   have:=kput_len r c n x
   omega
  ·split<;>simp [Kids.bytes]
theorem u8_lt_of {a b:UInt8} (h1:¬ a < b) (h2:¬ a=b):b < a:=by
 rw [UInt8.lt_iff_toNat_lt] at *
 rcases Nat.lt_trichotomy a.toNat b.toNat with h|h|h
 ·exact absurd h h1
 ·exact absurd (UInt8.toNat_inj.1 h) h2
 ·exact h
theorem u8_trans {a b c:UInt8} (h1:a < b) (h2:b < c):a < c:=by
 rw [UInt8.lt_iff_toNat_lt] at *;omega
theorem u8_ne {a b:UInt8} (h:a < b):a ≠ b:=by
 rintro rfl
 rw [UInt8.lt_iff_toNat_lt] at h
 exact Nat.lt_irrefl _ h
theorem leaf_wf (n:Str) (x:Sum):(leaf n x).wf:=by simp [leaf,Tree.wf,Kids.wf]
theorem ins_wf:∀ {k:Kids} {c:UInt8} {t:Tree},k.wf->t.wf->c ∉ k.bytes->(k.ins c t).wf
 | .nil,c,t,_,ht,_=>by simp [Kids.ins,Kids.wf,ht,Kids.bytes]
 | .cons a s r,c,t,hk,ht,hc=>by
  unfold Kids.wf at hk
  obtain ⟨h1,h2,h3⟩:=hk
  have hca:a ≠ c:=λe=>hc (by rw [e];exact .head _)
  have hcr:c ∉ r.bytes:=λh=>hc (.tail _ h)
  unfold Kids.ins
  split
  ·rename_i hlt
   unfold Kids.wf
   refine ⟨h1,ins_wf h2 ht hcr,λb hb=>?_⟩
   rcases (ins_bytes r c t b).1 hb with rfl|hb
   ·exact hlt
   ·exact h3 b hb
  ·rename_i hlt
   have hlt:=u8_lt_of hlt hca
   unfold Kids.wf
   refine ⟨ht,by unfold Kids.wf;exact ⟨h1,h2,h3⟩,λb hb=>?_⟩
   rcases List.mem_cons.1 hb with rfl|hb
   ·exact hlt
   ·exact u8_trans hlt (h3 b hb)
mutual
theorem put_wf:∀ {t:Tree} {n:Str} {x:Sum},t.wf->(t.put n x).wf
 | .node s v k,n,x,h=>by
  unfold Tree.wf at h
  rcases paC s n with rfl|⟨c,r,rfl⟩|⟨p,b,q,rfl,rfl⟩|⟨p,b,q,c,r,rfl,rfl,hbc⟩
  ·rw [put_here]
   unfold Tree.wf
   exact ⟨h.1,.inl rfl⟩
  ·rw [put_kid]
   unfold Tree.wf
   refine ⟨kput_wf h.1,h.2.imp id λh2=>?_⟩
   exact Nat.le_trans h2 (kput_len k c r x)
  ·rw [put_up]
   unfold Tree.wf
   refine ⟨?_,.inl rfl⟩
   unfold Kids.wf
   refine ⟨?_,trivial,λc hc=>by cases hc⟩
   unfold Tree.wf
   exact h
  ·rw [put_fork p b q v k c r x hbc]
   unfold Tree.wf
   have hl:(Tree.node q v k).wf:=by unfold Tree.wf;exact h
   refine ⟨ins_wf (by unfold Kids.wf;exact ⟨hl,trivial,λc hc=>by cases hc⟩) (leaf_wf r x) (by simp [Kids.bytes];exact λe=>hbc e.symm),.inr ?_⟩
   unfold Kids.ins
   split<;>simp [Kids.ins,Kids.bytes]
theorem kput_wf:∀ {k:Kids} {c:UInt8} {n:Str} {x:Sum},k.wf->(k.put c n x).wf
 | .nil,c,n,x,_=>by
  unfold Kids.put Kids.wf
  exact ⟨leaf_wf n x,trivial,λb hb=>by cases hb⟩
 | .cons b t r,c,n,x,h=>by
  unfold Kids.wf at h
  obtain ⟨h1,h2,h3⟩:=h
  unfold Kids.put
  split
  ·rename_i hlt
   unfold Kids.wf
   refine ⟨h1,kput_wf h2,λa ha=>?_⟩
   rcases (kput_bytes r c n x a).1 ha with rfl|ha
   ·exact hlt
   ·exact h3 a ha
  ·split
   ·unfold Kids.wf
    exact ⟨put_wf h1,h2,h3⟩
   ·rename_i h4 h5
    have hlt:=u8_lt_of h4 h5
    unfold Kids.wf
    refine ⟨leaf_wf n x,by unfold Kids.wf;exact ⟨h1,h2,h3⟩,λa ha=>?_⟩
    rcases List.mem_cons.1 ha with rfl|ha
    ·exact hlt
    ·exact u8_trans hlt (h3 a ha)
end
theorem get_leaf (n:Str) (x:Sum) (m:Str):(leaf n x).get m=if m=n then some x else none:=by
 by_cases h:m=n
 ·subst h
  rw [if_pos rfl]
  exact get_here m (some x) .nil
 ·rw [if_neg h]
  by_cases h2:∃ r,m=n ++ r
  ·obtain ⟨r,rfl⟩:=h2
   cases r with
   | nil=>rw [List.append_nil] at h;exact absurd rfl h
   | cons b r=>exact get_kid n (some x) .nil b r
  ·exact get_off _ _ λr e=>h2 ⟨r,e⟩
theorem get_ins:∀ {k:Kids} {c:UInt8} {t:Tree},c ∉ k.bytes->∀ (a:UInt8) (m:Str),(k.ins c t).get a m=if a=c then t.get m else k.get a m
 | .nil,c,t,_,a,m=>by
  unfold Kids.ins Kids.get Kids.get
  by_cases h:c=a
  ·rw [if_pos h,if_pos h.symm]
  ·rw [if_neg h,if_neg λe=>h e.symm]
 | .cons b s r,c,t,hc,a,m=>by
  have hca:b ≠ c:=λe=>hc (by rw [e];exact .head _)
  have hcr:c ∉ r.bytes:=λh=>hc (.tail _ h)
  unfold Kids.ins
  split
  ·have ih:=get_ins (k:=r) (c:=c) (t:=t) hcr a m
   rw [Kids.get,ih]
   conv=>rhs;rw [Kids.get]
   by_cases h1:b=a
   ·subst h1
    rw [if_pos rfl,if_neg hca,if_pos rfl]
   ·rw [if_neg h1,if_neg h1]
  ·rw [Kids.get]
   by_cases h1:c=a
   ·rw [if_pos h1,if_pos h1.symm]
   ·rw [if_neg h1,if_neg λe=>h1 e.symm]
mutual
theorem get_put:∀ {t:Tree} {n:Str} {x:Sum},t.wf->∀ m,(t.put n x).get m=if m=n then some x else t.get m
 | .node s v k,n,x,h,m=>by
  unfold Tree.wf at h
  rcases paC s n with rfl|⟨c,r,rfl⟩|⟨p,b,q,rfl,hp⟩|⟨p,b,q,c,r,rfl,rfl,hbc⟩
  ·rw [put_here]
   rcases paC n m with rfl|⟨c',r',rfl⟩|⟨p',b',q',rfl,rfl⟩|⟨p',b',q',c',r',rfl,rfl,hbc'⟩
   ·rw [get_here,if_pos rfl]
   ·rw [get_kid,get_kid,if_neg (by simp)]
   ·rw [if_neg (by simp),get_off,get_off]<;>(intro r e;have:=congrArg List.length e;simp at this<;>omega)
   ·have h1:∀ r,p' ++ c' :: r' ≠ p' ++ b' :: q' ++ r:=λr e=>by
     rw [List.append_assoc] at e
     have:=List.append_cancel_left e
     injection this with e1 _
     exact hbc' e1.symm
    rw [get_off _ _ h1,get_off _ _ h1,if_neg λe=>h1 [] (by rw [List.append_nil];exact e)]
  ·rw [put_kid]
   rcases paC s m with rfl|⟨c',r',rfl⟩|⟨p',b',q',rfl,rfl⟩|⟨p',b',q',c',r',rfl,rfl,hbc'⟩
   ·rw [get_here,get_here,if_neg (by simp)]
   ·rw [get_kid,get_kid,kget_put h.1]
    by_cases e:c'=c/\r'=r
    ·rw [if_pos e,if_pos (by rw [e.1,e.2])]
    ·rw [if_neg e,if_neg λe2=>e (by have:=List.append_cancel_left e2;injection this with a1 a2;exact ⟨a1,a2⟩)]
   ·rw [if_neg (by intro e;have:=congrArg List.length e;simp at this<;>omega),get_off,get_off]<;>(intro r e;have:=congrArg List.length e;simp at this<;>omega)
   ·have h1:∀ r,p' ++ c' :: r' ≠ p' ++ b' :: q' ++ r:=λr e=>by
     rw [List.append_assoc] at e
     have:=List.append_cancel_left e
     injection this with e1 _
     exact hbc' e1.symm
    rw [get_off _ _ h1,get_off _ _ h1,if_neg λe=>h1 _ e]
  ·obtain rfl:p=n:=hp.symm
   rw [put_up]
   rcases paC p m with rfl|⟨c',r',rfl⟩|⟨p',b',q',rfl,rfl⟩|⟨p',b',q',c',r',rfl,rfl,hbc'⟩
   ·rw [get_here,if_pos rfl]
   ·rw [get_kid,if_neg (by simp)]
    unfold Kids.get Kids.get
    exact fork_get p b q v k c' r'
   ·rw [if_neg (by intro e;have:=congrArg List.length e;simp at this),get_off,get_off]<;>(intro r e;have:=congrArg List.length e;simp at this<;>omega)
   ·have h1:∀ r,p' ++ c' :: r' ≠ p' ++ b' :: q' ++ r:=λr e=>by
     rw [List.append_assoc] at e
     have:=List.append_cancel_left e
     injection this with e1 _
     exact hbc' e1.symm
    rw [get_off _ _ h1,if_neg λe=>h1 [] (by rw [List.append_nil];exact e),get_off]
    intro r e
    rw [List.append_assoc] at e
    exact h1 _ e
  ·rw [put_fork p b q v k c r x hbc]
   have hni:c ∉ (Kids.cons b (Tree.node q v k) .nil).bytes:=by simp [Kids.bytes];exact λe=>hbc e.symm
   rcases paC p m with rfl|⟨c',r',rfl⟩|⟨p',b',q',rfl,rfl⟩|⟨p',b',q',c',r',rfl,rfl,hbc'⟩
   ·rw [get_here,if_neg (by simp),get_off]
    intro r e
    have:=congrArg List.length e
    simp at this
   ·rw [get_kid,get_ins hni,get_leaf]
    by_cases h1:c'=c
    ·subst h1
     rw [if_pos rfl]
     by_cases h2:r'=r
     ·subst h2
      rw [if_pos rfl,if_pos rfl]
     ·rw [if_neg h2,if_neg λe=>h2 (by have:=List.append_cancel_left e;injection this),get_off]
      intro r0 e
      rw [List.append_assoc] at e
      have:=List.append_cancel_left e
      injection this with e1 _
      exact hbc e1.symm
    ·rw [if_neg h1,if_neg λe=>h1 (by have:=List.append_cancel_left e;injection this)]
     unfold Kids.get Kids.get
     exact fork_get p b q v k c' r'
   ·rw [if_neg (by intro e;have:=congrArg List.length e;simp at this<;>omega),get_off,get_off]<;>(intro r e;have:=congrArg List.length e;simp at this<;>omega)
   ·have h1:∀ r,p' ++ c' :: r' ≠ p' ++ b' :: q' ++ r:=λr e=>by
     rw [List.append_assoc] at e
     have:=List.append_cancel_left e
     injection this with e1 _
     exact hbc' e1.symm
    rw [get_off _ _ h1,if_neg λe=>h1 _ e,get_off]
    intro r e
    rw [List.append_assoc] at e
    exact h1 _ e
theorem kget_put:∀ {k:Kids} {c:UInt8} {n:Str} {x:Sum},k.wf->∀ a m,(k.put c n x).get a m=if a=c/\m=n then some x else k.get a m
 | .nil,c,n,x,_,a,m=>by
  unfold Kids.put Kids.get Kids.get
  rw [get_leaf]
  by_cases h:c=a
  ·subst h
   simp
  ·have h2:¬ a=c:=λe=>h e.symm
   simp [h,h2]
 | .cons b t r,c,n,x,h,a,m=>by
  unfold Kids.wf at h
  obtain ⟨h1,h2,h3⟩:=h
  unfold Kids.put
  split
  ·rename_i hlt
   rw [Kids.get,kget_put h2]
   conv=>rhs;rw [Kids.get]
   by_cases e:b=a
   ·subst e
    have:=u8_ne hlt
    simp [this]
   ·simp [e]
  ·split
   ·rename_i _ e
    subst e
    rw [Kids.get,get_put h1]
    conv=>rhs;rw [Kids.get]
    by_cases e:b=a
    ·subst e;simp
    ·have e2:¬ a=b:=λh=>e h.symm
     simp [e,e2]
   ·rename_i h4 h5
    have hlt:=u8_lt_of h4 h5
    rw [Kids.get,get_leaf]
    by_cases e:c=a
    ·subst e
     have h0:(Kids.cons b t r).get c m=none:=kget_mem λhm=>by
      rcases List.mem_cons.1 hm with rfl|hm
      ·exact h5 rfl
      ·exact u8_ne (u8_trans hlt (h3 c hm)) rfl
     simp [h0]
    ·have e2:¬ a=c:=λh=>e h.symm
     simp [e,e2]
theorem fork_get (p:Str) (b:UInt8) (q:Str) (v:Option Sum) (k:Kids) (c:UInt8) (r:Str):(if b=c then (Tree.node q v k).get r else none)=(Tree.node (p ++ b :: q) v k).get (p ++ c :: r):=by
 by_cases h:b=c
 ·subst h
  rw [if_pos rfl]
  unfold Tree.get
  have e:cutP (p ++ b :: q) (p ++ b :: r)=cutP q r:=by
   cases hc:cutP q r with
   | none =>
    refine cutP_none λs e=>?_
    rw [List.append_assoc] at e
    have:=List.append_cancel_left e
    injection this with _ e2
    have:=(cutP_iff q r s).2 e2
    rw [hc] at this;cases this
   | some s =>
    have:=(cutP_iff q r s).1 hc
    rw [this]
    exact (cutP_iff _ _ _).2 (by simp)
  rw [e]
 ·rw [if_neg h,get_off]
  intro s e
  rw [List.append_assoc] at e
  have:=List.append_cancel_left e
  injection this with e1 _
  exact h e1.symm
end
theorem get_pre {s:Str} {v:Option Sum} {k:Kids} {n:Str} {x:Sum} (h:(Tree.node s v k).get n=some x):∃ r,n=s ++ r:=by
 refine Classical.byContradiction λhc=>?_
 rw [get_off v k λr e=>hc ⟨r,e⟩] at h
 cases h
theorem kget_in {k:Kids} {c:UInt8} {n:Str} {x:Sum} (h:k.get c n=some x):c ∈ k.bytes:=by
 refine Classical.byContradiction λhc=>?_
 rw [kget_mem hc] at h
 cases h
mutual
theorem has_name:∀ {t:Tree},t.wf->∃ n x,t.get n=some x
 | .node s v k,h=>by
  unfold Tree.wf at h
  cases v with
  | some x=>exact ⟨s,x,get_here s (some x) k⟩
  | none =>
   have h2:2 ≤ k.bytes.length:=h.2.resolve_left (by simp)
   obtain ⟨c,n,x,hx⟩:=khas_name h.1 (by omega)
   exact ⟨s ++ c :: n,x,by rw [get_kid];exact hx⟩
theorem khas_name:∀ {k:Kids},k.wf->0 < k.bytes.length->∃ c n x,k.get c n=some x
 | .nil,_,h=>absurd h (by simp [Kids.bytes])
 | .cons b t r,h,_=>by
  unfold Kids.wf at h
  obtain ⟨n,x,hx⟩:=has_name h.1
  exact ⟨b,n,x,by rw [Kids.get,if_pos rfl];exact hx⟩
end
theorem no_longer {s:Str} {v:Option Sum} {k:Kids} (h:(Tree.node s v k).wf) (c:UInt8) (r:Str) (f:Str->Option Sum) (hf:∀ n x,f n=some x->∃ q,n=(s ++ c :: r) ++ q) (he:∀ n,(Tree.node s v k).get n=f n):False:=by
 unfold Tree.wf at h
 cases v with
 | some x =>
  have h1:=he s
  rw [get_here] at h1
  obtain ⟨q,hq⟩:=hf s x h1.symm
  have:=congrArg List.length hq
  simp at this<;>omega
 | none =>
  have h2:2 ≤ k.bytes.length:=h.2.resolve_left (by simp)
  have key:∀ b n x,k.get b n=some x->b ≠ c->False:=λb n x hx hb=>by
   have h1:=he (s ++ b :: n)
   rw [get_kid,hx] at h1
   obtain ⟨q,hq⟩:=hf _ x h1.symm
   rw [List.append_assoc] at hq
   have:=List.append_cancel_left hq
   injection this with e _
   exact hb e
  match k,h.1,h2 with
  | .nil,_,h2=>simp [Kids.bytes] at h2
  | .cons _ _ .nil,_,h2=>simp [Kids.bytes] at h2
  | .cons b1 t1 (.cons b2 t2 q),hk,_ =>
   unfold Kids.wf at hk
   obtain ⟨w1,w2,w3⟩:=hk
   have hlt:=w3 b2 (by simp [Kids.bytes])
   unfold Kids.wf at w2
   obtain ⟨n1,x1,hx1⟩:=has_name w1
   obtain ⟨n2,x2,hx2⟩:=has_name w2.1
   by_cases e:b1=c
   ·refine key b2 n2 x2 ?_ λe2=>u8_ne hlt (by rw [e,e2])
    rw [Kids.get,if_neg (u8_ne hlt),Kids.get,if_pos rfl]
    exact hx2
   ·exact key b1 n1 x1 (by rw [Kids.get,if_pos rfl];exact hx1) e
mutual
theorem canon:∀ {t u:Tree},t.wf->u.wf->(∀ n,t.get n=u.get n)->t=u
 | .node s v k,.node s' v' k',h,h',he=>by
  rcases paC s s' with rfl|⟨c,r,rfl⟩|⟨p,b,q,rfl,rfl⟩|⟨p,b,q,c,r,rfl,rfl,hbc⟩
  ·have hv:v=v':=by
    have:=he s'
    rwa [get_here,get_here] at this
   unfold Tree.wf at h h'
   have hk:k=k':=kcanon h.1 h'.1 λc n=>by
    have:=he (s' ++ c :: n)
    rwa [get_kid,get_kid] at this
   rw [hv,hk]
  ·exact (no_longer h c r _ (λn x hx=>get_pre hx) he).elim
  ·exact (no_longer h' b q _ (λn x hx=>get_pre hx) λn=>(he n).symm).elim
  ·obtain ⟨n,x,hx⟩:=has_name h
   obtain ⟨q1,e1⟩:=get_pre hx
   rw [he n] at hx
   obtain ⟨q2,e2⟩:=get_pre hx
   rw [e1,List.append_assoc,List.append_assoc] at e2
   have:=List.append_cancel_left e2
   injection this with e _
   exact absurd e hbc
theorem kcanon:∀ {k l:Kids},k.wf->l.wf->(∀ c n,k.get c n=l.get c n)->k=l
 | .nil,.nil,_,_,_=>rfl
 | .nil,.cons b t r,_,h,he=>by
  obtain ⟨c,n,x,hx⟩:=khas_name h (by simp [Kids.bytes])
  have:=he c n
  rw [hx] at this
  cases this
 | .cons b t r,.nil,h,_,he=>by
  obtain ⟨c,n,x,hx⟩:=khas_name h (by simp [Kids.bytes])
  have:=he c n
  rw [hx] at this
  cases this
 | .cons b t r,.cons b' t' r',h,h',he=>by
  unfold Kids.wf at h h'
  obtain ⟨w1,w2,w3⟩:=h
  obtain ⟨w1',w2',w3'⟩:=h'
  have hb:b=b':=by
   refine Classical.byContradiction λhne=>?_
   by_cases hlt:b < b'
   ·obtain ⟨n,x,hx⟩:=has_name w1
    have h1:=he b n
    rw [Kids.get,if_pos rfl,hx] at h1
    have:=kget_in h1.symm
    rcases List.mem_cons.1 this with e|hm
    ·exact hne e
    ·exact u8_ne (u8_trans hlt (w3' b hm)) rfl
   ·have hlt:=u8_lt_of hlt hne
    obtain ⟨n,x,hx⟩:=has_name w1'
    have h1:=he b' n
    conv at h1=>rhs;rw [Kids.get,if_pos rfl,hx]
    have:=kget_in h1
    rcases List.mem_cons.1 this with e|hm
    ·exact hne e.symm
    ·exact u8_ne (u8_trans hlt (w3 b' hm)) rfl
  subst hb
  have ht:t=t':=canon w1 w1' λn=>by
   have:=he b n
   rwa [Kids.get,Kids.get,if_pos rfl,if_pos rfl] at this
  have hr:r=r':=kcanon w2 w2' λc n=>by
   by_cases e:b=c
   ·subst e
    rw [kget_mem λhm=>u8_ne (w3 b hm) rfl,kget_mem λhm=>u8_ne (w3' b hm) rfl]
   ·have:=he c n
    rwa [Kids.get,Kids.get,if_neg e,if_neg e] at this
  rw [ht,hr]
end
mutual
theorem mem_ents:∀ {t:Tree},t.wf->∀ (beg m:Str) (x:Sum),(m,x) ∈ t.ents beg ↔ ∃ n,m=beg ++ n/\t.get n=some x
 | .node s v k,h,beg,m,x=>by
  unfold Tree.wf at h
  have ih:=mem_kents h.1 (beg ++ s) m x
  unfold Tree.ents
  rw [List.mem_append,ih]
  constructor
  ·rintro (h1|⟨c,n,rfl,hx⟩)
   ·cases v with
    | none=>cases h1
    | some y =>
     have h1:(m,x)=(beg ++ s,y):=List.mem_singleton.1 h1
     injection h1 with e1 e2
     subst e1 e2
     exact ⟨s,rfl,get_here _ _ _⟩
   ·exact ⟨s ++ c :: n,by rw [List.append_assoc],by rw [get_kid];exact hx⟩
  ·rintro ⟨n,rfl,hx⟩
   obtain ⟨r,rfl⟩:=get_pre hx
   cases r with
   | nil =>
    rw [List.append_nil,get_here] at hx
    subst hx
    left
    rw [List.append_nil]
    exact .head _
   | cons c r =>
    rw [get_kid] at hx
    exact .inr ⟨c,r,by rw [List.append_assoc],hx⟩
theorem mem_kents:∀ {k:Kids},k.wf->∀ (beg m:Str) (x:Sum),(m,x) ∈ k.ents beg ↔ ∃ c n,m=beg ++ c :: n/\k.get c n=some x
 | .nil,_,beg,m,x=>by
  constructor
  ·intro h;cases h
  ·rintro ⟨c,n,_,h⟩;cases h
 | .cons b t r,h,beg,m,x=>by
  unfold Kids.wf at h
  obtain ⟨w1,w2,w3⟩:=h
  unfold Kids.ents
  rw [List.mem_append,mem_ents w1,mem_kents w2]
  constructor
  ·rintro (⟨n,rfl,hx⟩|⟨c,n,rfl,hx⟩)
   ·exact ⟨b,n,by simp,by rw [Kids.get,if_pos rfl];exact hx⟩
   ·have hc:=kget_in hx
    exact ⟨c,n,rfl,by rw [Kids.get,if_neg (u8_ne (w3 c hc))];exact hx⟩
  ·rintro ⟨c,n,rfl,hx⟩
   rw [Kids.get] at hx
   by_cases e:b=c
   ·subst e
    rw [if_pos rfl] at hx
    exact .inl ⟨n,by simp,hx⟩
   ·rw [if_neg e] at hx
    exact .inr ⟨c,n,rfl,hx⟩
end
theorem less_app:∀ (p x y:Str),Go.Op.bytesLess (p ++ x) (p ++ y)=Go.Op.bytesLess x y
 | [],_,_=>rfl
 | a :: p,x,y=>by
  show Go.Op.bytesLess (a :: (p ++ x)) (a :: (p ++ y))=_
  simp [Go.Op.bytesLess,less_app p x y]
theorem less_cons {a b:UInt8} (h:a < b) (x y:Str):Go.Op.bytesLess (a :: x) (b :: y)=true:=by simp [Go.Op.bytesLess,h]
def Rise (l:List (Str × Sum)):Prop:=l.Pairwise λp q=>Go.Op.bytesLess p.1 q.1=true
mutual
theorem ents_rise:∀ {t:Tree},t.wf->∀ beg,Rise (t.ents beg)
 | .node s v k,h,beg=>by
  have h':=h
  unfold Tree.wf at h
  unfold Rise Tree.ents
  rw [List.pairwise_append]
  refine ⟨?_,kents_rise h.1 (beg ++ s),λp hp q hq=>?_⟩
  ·cases v<;>simp
  ·obtain ⟨m,y⟩:=q
   obtain ⟨c,n,rfl,_⟩:=(mem_kents h.1 _ _ _).1 hq
   cases v with
   | none=>cases hp
   | some x =>
    have hp:p=(beg ++ s,x):=List.mem_singleton.1 hp
    subst hp
    have:=less_app (beg ++ s) [] (c :: n)
    rw [List.append_nil] at this
    exact this
theorem kents_rise:∀ {k:Kids},k.wf->∀ beg,Rise (k.ents beg)
 | .nil,_,_=>List.Pairwise.nil
 | .cons b t r,h,beg=>by
  unfold Kids.wf at h
  obtain ⟨w1,w2,w3⟩:=h
  unfold Rise Kids.ents
  rw [List.pairwise_append]
  refine ⟨ents_rise w1 _,kents_rise w2 _,λp hp q hq=>?_⟩
  obtain ⟨m,y⟩:=q
  obtain ⟨m',y'⟩:=p
  obtain ⟨c,n,rfl,hx⟩:=(mem_kents w2 _ _ _).1 hq
  obtain ⟨n',rfl,_⟩:=(mem_ents w1 _ _ _).1 hp
  show Go.Op.bytesLess (beg ++ [b] ++ n') (beg ++ c :: n)=true
  rw [List.append_assoc,less_app]
  exact less_cons (w3 c (kget_in hx)) _ _
end
mutual
theorem many_ents:∀ (t:Tree) (beg:Str),(t.ents beg).length=t.many
 | .node s v k,beg=>by
  unfold Tree.ents Tree.many
  rw [List.length_append,many_kents]
  cases v<;>simp
theorem many_kents:∀ (k:Kids) (beg:Str),(k.ents beg).length=k.many
 | .nil,_=>rfl
 | .cons b t r,beg=>by
  unfold Kids.ents Kids.many
  rw [List.length_append,many_ents,many_kents]
end
def joinT (s:Str) (v:Option Sum) (k:Kids):Option Tree:=match v,k with
 | some x,k=>some (.node s (some x) k)
 | none,.nil=>none
 | none,.cons b (.node s2 v2 k2) .nil=>some (.node (s ++ b :: s2) v2 k2)
 | none,.cons b t (.cons c u r)=>some (.node s none (.cons b t (.cons c u r)))
mutual
def Tree.drop:Tree->Str->Option Tree
 | .node s v k,n=>if n.length=s.length then joinT s none k else joinT s v (k.drop (n.getD s.length 0) (n.drop (s.length+1)))
def Kids.drop:Kids->UInt8->Str->Kids
 | .nil,_,_=>.nil
 | .cons b t r,c,n=>if b=c then (match t.drop n with
  | some t'=>.cons b t' r
  | none=>r) else .cons b t (r.drop c n)
end
def getO (t:Option Tree) (n:Str):Option Sum:=match t with
 | none=>none
 | some t=>t.get n
def wfO (t:Option Tree):Prop:=match t with
 | none=>True
 | some t=>t.wf
theorem get_empty (s:Str) (m:Str):(Tree.node s none .nil).get m=none:=by
 rcases paC s m with rfl|⟨c,r,rfl⟩|⟨p,b,q,rfl,rfl⟩|⟨p,b,q,c,r,rfl,rfl,hbc⟩
 ·exact get_here _ _ _
 ·rw [get_kid];rfl
 ·refine get_off _ _ λr e=>?_
  have:=congrArg List.length e
  simp at this<;>omega
 ·refine get_off _ _ λr0 e=>?_
  rw [List.append_assoc] at e
  have:=List.append_cancel_left e
  injection this with e1 _
  exact hbc e1.symm
theorem get_one (s:Str) (b:UInt8) (s2:Str) (v2:Option Sum) (k2:Kids) (m:Str):(Tree.node (s ++ b :: s2) v2 k2).get m=(Tree.node s none (.cons b (.node s2 v2 k2) .nil)).get m:=by
 rcases paC s m with rfl|⟨c,r,rfl⟩|⟨p,b',q,rfl,rfl⟩|⟨p,b',q,c,r,rfl,rfl,hbc⟩
 ·rw [get_here,get_off]
  intro r e
  have:=congrArg List.length e
  simp at this<;>omega
 ·rw [get_kid,← fork_get]
  unfold Kids.get Kids.get
  rfl
 ·rw [get_off,get_off]<;>(intro r e;have:=congrArg List.length e;simp at this<;>omega)
 ·have h1:∀ z,p ++ c :: r ≠ p ++ b' :: q ++ z:=λz e=>by
   rw [List.append_assoc] at e
   have:=List.append_cancel_left e
   injection this with e1 _
   exact hbc e1.symm
  rw [get_off _ _ h1,get_off]
  intro z e
  rw [List.append_assoc] at e
  exact h1 _ e
theorem joinT_get (s:Str) (v:Option Sum) (k:Kids) (m:Str):getO (joinT s v k) m=(Tree.node s v k).get m:=by
 unfold joinT
 split
 ·rfl
 ·rw [get_empty];rfl
 ·exact get_one s _ _ _ _ m
 ·rfl
theorem joinT_wf {s:Str} {v:Option Sum} {k:Kids} (h:k.wf):wfO (joinT s v k):=by
 unfold joinT
 split
 ·show Tree.wf _
  unfold Tree.wf
  exact ⟨h,.inl rfl⟩
 ·trivial
 ·unfold Kids.wf at h
  have h1:=h.1
  show Tree.wf _
  unfold Tree.wf at h1 ⊢
  exact h1
 ·show Tree.wf _
  unfold Tree.wf
  exact ⟨h,.inr (by simp [Kids.bytes])⟩
mutual
theorem drop_all:∀ {t:Tree} {n:Str},t.wf->(t.get n).isSome=true->wfO (t.drop n)/\∀ m,getO (t.drop n) m=if m=n then none else t.get m
 | .node s v k,n,h,hn=>by
  unfold Tree.wf at h
  obtain ⟨x,hx⟩:=Option.isSome_iff_exists.1 hn
  obtain ⟨r,rfl⟩:=get_pre hx
  unfold Tree.drop
  cases r with
  | nil =>
   rw [if_pos (by simp)]
   refine ⟨joinT_wf h.1,λm=>?_⟩
   rw [joinT_get,List.append_nil]
   rcases paC s m with rfl|⟨c,r,rfl⟩|⟨p,b,q,rfl,rfl⟩|⟨p,b,q,c,r,rfl,rfl,hbc⟩
   ·rw [get_here,if_pos rfl]
   ·rw [get_kid,get_kid,if_neg (by simp)]
   ·rw [if_neg (by simp),get_off,get_off]<;>(intro r e;have:=congrArg List.length e;simp at this<;>omega)
   ·have h1:∀ z,p ++ c :: r ≠ p ++ b :: q ++ z:=λz e=>by
     rw [List.append_assoc] at e
     have:=List.append_cancel_left e
     injection this with e1 _
     exact hbc e1.symm
    rw [get_off _ _ h1,get_off _ _ h1,if_neg λe=>h1 [] (by rw [List.append_nil];exact e)]
  | cons c r =>
   rw [get_kid] at hx
   have e1:(s ++ c :: r).getD s.length 0=c:=by simp
   have e2:(s ++ c :: r).drop (s.length+1)=r:=by rw [← List.drop_drop,List.drop_left];rfl
   rw [if_neg (by simp),e1,e2]
   obtain ⟨w1,_,w3⟩:=kdrop_all h.1 (by rw [hx];rfl:(k.get c r).isSome=true)
   refine ⟨joinT_wf w1,λm=>?_⟩
   rw [joinT_get]
   rcases paC s m with rfl|⟨c',r',rfl⟩|⟨p,b,q,rfl,rfl⟩|⟨p,b,q,c',r',rfl,rfl,hbc⟩
   ·rw [get_here,get_here,if_neg (by simp)]
   ·rw [get_kid,get_kid,w3]
    by_cases e:c'=c/\r'=r
    ·rw [if_pos e,if_pos (by rw [e.1,e.2])]
    ·rw [if_neg e,if_neg λe2=>e (by have:=List.append_cancel_left e2;injection this with a1 a2;exact ⟨a1,a2⟩)]
   ·rw [if_neg (by intro e;have:=congrArg List.length e;simp at this<;>omega),get_off,get_off]<;>(intro r e;have:=congrArg List.length e;simp at this<;>omega)
   ·have h1:∀ z,p ++ c' :: r' ≠ p ++ b :: q ++ z:=λz e=>by
     rw [List.append_assoc] at e
     have:=List.append_cancel_left e
     injection this with e1 _
     exact hbc e1.symm
    rw [get_off _ _ h1,get_off _ _ h1,if_neg λe=>h1 _ e]
theorem kdrop_all:∀ {k:Kids} {c:UInt8} {n:Str},k.wf->(k.get c n).isSome=true->(k.drop c n).wf/\(∀ b ∈ (k.drop c n).bytes,b ∈ k.bytes)/\∀ a m,(k.drop c n).get a m=if a=c/\m=n then none else k.get a m
 | .nil,c,n,_,h=>by cases h
 | .cons b t r,c,n,h,hn=>by
  unfold Kids.wf at h
  obtain ⟨w1,w2,w3⟩:=h
  have hnb:b ∉ r.bytes:=λhm=>u8_ne (w3 b hm) rfl
  rw [Kids.get] at hn
  unfold Kids.drop
  by_cases e:b=c
  ·subst e
   rw [if_pos rfl] at hn
   obtain ⟨d1,d2⟩:=drop_all w1 hn
   rw [if_pos rfl]
   cases hd:t.drop n with
   | none =>
    rw [hd] at d2
    refine ⟨w2,λa ha=>.tail _ ha,λa m=>?_⟩
    show r.get a m=_
    rw [Kids.get]
    by_cases ea:b=a
    ·subst ea
     rw [kget_mem hnb,if_pos rfl]
     have:=d2 m
     change none=_ at this
     by_cases em:m=n
     ·rw [if_pos ⟨rfl,em⟩]
     ·rw [if_neg em] at this
      rw [if_neg λh=>em h.2]
      exact this
    ·rw [if_neg ea,if_neg λh=>ea h.1.symm]
   | some t' =>
    rw [hd] at d1 d2
    refine ⟨?_,λa ha=>?_,λa m=>?_⟩
    ·show (Kids.cons b t' r).wf
     unfold Kids.wf
     exact ⟨d1,w2,w3⟩
    ·exact ha
    ·show (Kids.cons b t' r).get a m=_
     rw [Kids.get]
     conv=>rhs;rw [Kids.get]
     by_cases ea:b=a
     ·subst ea
      rw [if_pos rfl,if_pos rfl]
      have:=d2 m
      change t'.get m=_ at this
      rw [this]
      by_cases em:m=n
      ·rw [if_pos em,if_pos ⟨rfl,em⟩]
      ·rw [if_neg em,if_neg λh=>em h.2]
     ·rw [if_neg ea,if_neg ea,if_neg λh=>ea h.1.symm]
  ·rw [if_neg e] at hn
   obtain ⟨d1,d2,d3⟩:=kdrop_all w2 hn
   rw [if_neg e]
   refine ⟨?_,λa ha=>?_,λa m=>?_⟩
   ·unfold Kids.wf
    exact ⟨w1,d1,λa ha=>w3 a (d2 a ha)⟩
   ·rcases List.mem_cons.1 ha with rfl|ha
    ·exact .head _
    ·exact .tail _ (d2 a ha)
   ·rw [Kids.get,d3]
    conv=>rhs;rw [Kids.get]
    by_cases ea:b=a
    ·subst ea
     rw [if_pos rfl,if_pos rfl,if_neg λh=>e h.1]
    ·rw [if_neg ea,if_neg ea]
end
def posB (bs:List UInt8) (c:UInt8):Nat:=(bs.takeWhile λb=>decide (b < c)).length
def isB (bs:List UInt8) (c:UInt8):Bool:=decide (posB bs c < bs.length) && decide (bs.getD (posB bs c) 0=c)
theorem posB_cons (b:UInt8) (bs:List UInt8) (c:UInt8):posB (b :: bs) c=if b < c then posB bs c+1 else 0:=by
 unfold posB
 rw [List.takeWhile_cons]
 by_cases h:b < c<;>simp [h]
theorem isB_cons (b:UInt8) (bs:List UInt8) (c:UInt8):isB (b :: bs) c=if b < c then isB bs c else decide (b=c):=by
 unfold isB
 rw [posB_cons]
 by_cases h:b < c
 ·simp [h]
 ·simp [h]
theorem posB_le (bs:List UInt8) (c:UInt8):posB bs c ≤ bs.length:=tw_le _ _
theorem kget_pos:∀ {k:Kids} {c:UInt8} {n:Str},k.wf->(isB k.bytes c=true->∃ h:posB k.bytes c < k.trees.length,k.get c n=(k.trees[posB k.bytes c]).get n)/\(isB k.bytes c=false->k.get c n=none/\c ∉ k.bytes)
 | .nil,c,n,_=>⟨λh=>by simp [isB,Kids.bytes] at h,λ_=>⟨rfl,by simp [Kids.bytes]⟩⟩
 | .cons b t r,c,n,h=>by
  unfold Kids.wf at h
  obtain ⟨w1,w2,w3⟩:=h
  obtain ⟨i1,i2⟩:=kget_pos (k:=r) (c:=c) (n:=n) w2
  unfold Kids.bytes Kids.trees
  rw [isB_cons,Kids.get]
  simp only [posB_cons]
  by_cases hlt:b < c
  ·simp only [hlt,if_true,if_neg (u8_ne hlt)]
   constructor
   ·intro hi
    obtain ⟨h1,h2⟩:=i1 hi
    exact ⟨by simpa using h1,by simpa using h2⟩
   ·intro hi
    obtain ⟨h1,h2⟩:=i2 hi
    refine ⟨h1,λhm=>?_⟩
    rcases List.mem_cons.1 hm with e|hm
    ·exact u8_ne hlt e.symm
    ·exact h2 hm
  ·simp only [hlt,if_false]
   by_cases e:b=c
   ·subst e
    simp
   ·have hcb:=u8_lt_of hlt e
    simp only [e,decide_false,if_false]
    refine ⟨λh=>(by cases h),λ_=>?_⟩
    have hn:c ∉ r.bytes:=λhm=>u8_ne (u8_trans hcb (w3 c hm)) rfl
    refine ⟨kget_mem hn,λhm=>?_⟩
    rcases List.mem_cons.1 hm with e2|hm
    ·exact e e2.symm
    ·exact hn hm
theorem kput_is:∀ {k:Kids} {c:UInt8} (n:Str) (x:Sum),k.wf->isB k.bytes c=true->(k.put c n x).bytes=k.bytes/\∃ h:posB k.bytes c < k.trees.length,(k.put c n x).trees=k.trees.set (posB k.bytes c) (k.trees[posB k.bytes c].put n x)
 | .nil,c,n,x,_,h=>by simp [isB,Kids.bytes] at h
 | .cons b t r,c,n,x,h,hi=>by
  unfold Kids.wf at h
  obtain ⟨w1,w2,w3⟩:=h
  unfold Kids.bytes at hi
  rw [isB_cons] at hi
  unfold Kids.put
  by_cases hlt:b < c
  ·rw [if_pos hlt] at hi ⊢
   obtain ⟨h1,h2,h3⟩:=kput_is n x w2 hi
   unfold Kids.bytes Kids.trees
   simp only [posB_cons,hlt,if_true]
   exact ⟨by rw [h1],by simpa using h2,by simp [h3]⟩
  ·rw [if_neg hlt] at hi ⊢
   have e:b=c:=by simpa using hi
   subst e
   unfold Kids.bytes Kids.trees
   simp [posB_cons,hlt]
theorem kput_not:∀ {k:Kids} {c:UInt8} (n:Str) (x:Sum),isB k.bytes c=false->(k.put c n x).bytes=k.bytes.take (posB k.bytes c) ++ c :: k.bytes.drop (posB k.bytes c)/\(k.put c n x).trees=k.trees.take (posB k.bytes c) ++ leaf n x :: k.trees.drop (posB k.bytes c)
 | .nil,c,n,x,_=>by simp [Kids.put,Kids.bytes,Kids.trees]
 | .cons b t r,c,n,x,hi=>by
  unfold Kids.bytes at hi
  rw [isB_cons] at hi
  unfold Kids.put
  by_cases hlt:b < c
  ·rw [if_pos hlt] at hi ⊢
   obtain ⟨h1,h2⟩:=kput_not (k:=r) n x hi
   unfold Kids.bytes Kids.trees
   simp only [posB_cons,hlt,if_true]
   simp [h1,h2]
  ·rw [if_neg hlt] at hi ⊢
   have e:¬ b=c:=by simpa using hi
   rw [if_neg e]
   unfold Kids.bytes Kids.trees
   simp [posB_cons,hlt,Kids.bytes,Kids.trees]
theorem kdrop_is:∀ {k:Kids} {c:UInt8} (n:Str),k.wf->isB k.bytes c=true->∃ h:posB k.bytes c < k.trees.length,
  (∀ t',(k.trees[posB k.bytes c]).drop n=some t'->(k.drop c n).bytes=k.bytes/\(k.drop c n).trees=k.trees.set (posB k.bytes c) t') ∧
  ((k.trees[posB k.bytes c]).drop n=none->(k.drop c n).bytes=k.bytes.eraseIdx (posB k.bytes c)/\(k.drop c n).trees=k.trees.eraseIdx (posB k.bytes c))
 | .nil,c,n,_,h=>by simp [isB,Kids.bytes] at h
 | .cons b t r,c,n,h,hi=>by
  unfold Kids.wf at h
  obtain ⟨w1,w2,w3⟩:=h
  unfold Kids.bytes at hi
  rw [isB_cons] at hi
  unfold Kids.drop
  by_cases hlt:b < c
  ·rw [if_pos hlt] at hi
   obtain ⟨h1,h2,h3⟩:=kdrop_is n w2 hi
   rw [if_neg (u8_ne hlt)]
   unfold Kids.bytes Kids.trees
   simp only [posB_cons,hlt,if_true]
   refine ⟨by simpa using h1,λt' ht=>?_,λht=>?_⟩
   ·obtain ⟨a1,a2⟩:=h2 t' (by simpa using ht)
    exact ⟨by rw [a1],by simp [a2]⟩
   ·obtain ⟨a1,a2⟩:=h3 (by simpa using ht)
    exact ⟨by simp [a1],by simp [a2]⟩
  ·rw [if_neg hlt] at hi
   have e:b=c:=by simpa using hi
   subst e
   rw [if_pos rfl]
   unfold Kids.bytes Kids.trees
   simp only [posB_cons,hlt,if_false]
   refine ⟨by simp,λt' ht=>?_,λht=>?_⟩
   ·have ht:t.drop n=some t':=by simpa using ht
    rw [ht]
    simp [Kids.bytes,Kids.trees]
   ·have ht:t.drop n=none:=by simpa using ht
    rw [ht]
    cases r<;>simp [Kids.bytes,Kids.trees]
theorem kbytes_low:∀ {k:Kids},k.wf->∀ (m:Nat),(∀ c ∈ k.bytes,m ≤ c.toNat)->m ≤ 256->k.bytes.length+m ≤ 256
 | .nil,_,m,_,hm=>by simpa [Kids.bytes] using hm
 | .cons b t r,h,m,hc,hm=>by
  unfold Kids.wf at h
  have hb:=hc b (by simp [Kids.bytes])
  have hb2:=b.toNat_lt
  have:=kbytes_low h.2.1 (m+1) (λc hcr=>by
   have:=h.2.2 c hcr
   rw [UInt8.lt_iff_toNat_lt] at this
   omega) (by omega)
  simp only [Kids.bytes,List.length_cons]
  omega
theorem kbL {k:Kids} (h:k.wf):k.bytes.length ≤ 256:=by
 have:=kbytes_low h 0 (λ_ _=>Nat.zero_le _) (by decide)
 omega
theorem ins_many:∀ (k:Kids) (c:UInt8) (t:Tree),(k.ins c t).many=k.many+t.many
 | .nil,c,t=>by simp [Kids.ins,Kids.many]
 | .cons b s r,c,t=>by
  unfold Kids.ins
  split
  ·simp only [Kids.many,ins_many r c t];omega
  ·simp only [Kids.many];omega
mutual
theorem many_put:∀ {t:Tree} {n:Str} {x:Sum},t.wf->(t.put n x).many=t.many+(if (t.get n).isSome=true then 0 else 1)
 | .node s v k,n,x,h=>by
  unfold Tree.wf at h
  rcases paC s n with rfl|⟨c,r,rfl⟩|⟨p,b,q,rfl,hp⟩|⟨p,b,q,c,r,rfl,rfl,hbc⟩
  ·rw [put_here,get_here]
   unfold Tree.many
   cases v<;>simp<;>omega
  ·rw [put_kid,get_kid]
   unfold Tree.many
   rw [many_kput h.1]
   omega
  ·obtain rfl:p=n:=hp.symm
   rw [put_up,get_off]
   ·simp only [Tree.many,Kids.many]
    simp
    omega
   ·intro r e
    have:=congrArg List.length e
    simp at this<;>omega
  ·rw [put_fork p b q v k c r x hbc,get_off]
   ·simp only [Tree.many,ins_many,Kids.many,leaf]
    simp
   ·intro z e
    rw [List.append_assoc] at e
    have:=List.append_cancel_left e
    injection this with e1 _
    exact hbc e1.symm
theorem many_kput:∀ {k:Kids} {c:UInt8} {n:Str} {x:Sum},k.wf->(k.put c n x).many=k.many+(if (k.get c n).isSome=true then 0 else 1)
 | .nil,c,n,x,_=>by simp [Kids.put,Kids.many,Kids.get,leaf,Tree.many]
 | .cons b t r,c,n,x,h=>by
  unfold Kids.wf at h
  obtain ⟨w1,w2,w3⟩:=h
  unfold Kids.put
  by_cases hlt:b < c
  ·rw [if_pos hlt,Kids.get,if_neg (u8_ne hlt)]
   simp only [Kids.many,many_kput w2]
   omega
  ·rw [if_neg hlt]
   by_cases e:b=c
   ·subst e
    rw [if_pos rfl,Kids.get,if_pos rfl]
    simp only [Kids.many,many_put w1]
    omega
   ·have hcb:=u8_lt_of hlt e
    have hn:c ∉ r.bytes:=λhm=>u8_ne (u8_trans hcb (w3 c hm)) rfl
    rw [if_neg e,Kids.get,if_neg e,kget_mem hn]
    simp [Kids.many,leaf,Tree.many]
    omega
end
def maO (t:Option Tree):Nat:=match t with
 | none=>0
 | some t=>t.many
theorem joinT_many (s:Str) (v:Option Sum) (k:Kids):maO (joinT s v k)=(Tree.node s v k).many:=by
 unfold joinT
 split
 ·rfl
 ·simp [maO,Tree.many,Kids.many]
 ·simp [maO,Tree.many,Kids.many]
 ·rfl
mutual
theorem many_drop:∀ {t:Tree} {n:Str},t.wf->(t.get n).isSome=true->maO (t.drop n)+1=t.many
 | .node s v k,n,h,hn=>by
  unfold Tree.wf at h
  obtain ⟨x,hx⟩:=Option.isSome_iff_exists.1 hn
  obtain ⟨r,rfl⟩:=get_pre hx
  unfold Tree.drop
  cases r with
  | nil =>
   rw [List.append_nil,get_here] at hx
   subst hx
   rw [if_pos (by simp),joinT_many]
   simp [Tree.many]
   omega
  | cons c r =>
   rw [get_kid] at hx
   have e1:(s ++ c :: r).getD s.length 0=c:=by simp
   have e2:(s ++ c :: r).drop (s.length+1)=r:=by rw [← List.drop_drop,List.drop_left];rfl
   rw [if_neg (by simp),e1,e2,joinT_many]
   have:=many_kdrop h.1 (by rw [hx];rfl:(k.get c r).isSome=true)
   unfold Tree.many
   omega
theorem many_kdrop:∀ {k:Kids} {c:UInt8} {n:Str},k.wf->(k.get c n).isSome=true->(k.drop c n).many+1=k.many
 | .nil,c,n,_,h=>by cases h
 | .cons b t r,c,n,h,hn=>by
  unfold Kids.wf at h
  obtain ⟨w1,w2,w3⟩:=h
  rw [Kids.get] at hn
  unfold Kids.drop
  by_cases e:b=c
  ·subst e
   rw [if_pos rfl] at hn
   have:=many_drop w1 hn
   rw [if_pos rfl]
   cases hd:t.drop n with
   | none =>
    rw [hd] at this
    show r.many+1=t.many+r.many
    have:0+1=t.many:=this
    omega
   | some t' =>
    rw [hd] at this
    show t'.many+r.many+1=t.many+r.many
    have:t'.many+1=t.many:=this
    omega
  ·rw [if_neg e] at hn
   have:=many_kdrop w2 hn
   rw [if_neg e]
   simp only [Kids.many]
   omega
end
def Tree.low (N:Nat) (t:Tree):Prop:=∀ n x,t.get n=some x->n.length ≤ N
theorem low_stem {N:Nat} {s:Str} {v:Option Sum} {k:Kids} (h:(Tree.node s v k).wf) (hl:(Tree.node s v k).low N):s.length ≤ N:=by
 obtain ⟨n,x,hx⟩:=has_name h
 obtain ⟨r,rfl⟩:=get_pre hx
 have:=hl _ x hx
 rw [List.length_append] at this
 omega
theorem kid_at:∀ {k:Kids},k.wf->∀ i (h:i < k.trees.length) (h2:i < k.bytes.length),(k.trees[i]).wf/\∀ n,k.get k.bytes[i] n=(k.trees[i]).get n
 | .nil,_,i,h,_=>by cases h
 | .cons b t r,hw,i,h,h2=>by
  unfold Kids.wf at hw
  obtain ⟨w1,w2,w3⟩:=hw
  cases i with
  | zero=>exact ⟨w1,λn=>by rw [Kids.get];exact if_pos rfl⟩
  | succ i =>
   obtain ⟨a1,a2⟩:=kid_at w2 i (by simpa [Kids.trees] using h) (by simpa [Kids.bytes] using h2)
   refine ⟨a1,λn=>?_⟩
   show (Kids.cons b t r).get (r.bytes[i]'(by simpa [Kids.bytes] using h2)) n=_
   rw [Kids.get,if_neg (u8_ne (w3 _ (List.getElem_mem _)))]
   exact a2 n
theorem low_kid {N:Nat} {s:Str} {v:Option Sum} {k:Kids} (h:(Tree.node s v k).wf) (hl:(Tree.node s v k).low N) (i:Nat) (hi:i < k.trees.length):(k.trees[i]).low N:=by
 intro n x hx
 unfold Tree.wf at h
 have h2:i < k.bytes.length:=by rw [Kids.len];exact hi
 obtain ⟨_,a2⟩:=kid_at h.1 i hi h2
 have:=hl (s ++ k.bytes[i] :: n) x (by rw [get_kid,a2];exact hx)
 simp at this
 omega
theorem many_kid:∀ {k:Kids} (i:Nat) (hi:i < k.trees.length),(k.trees[i]).many ≤ k.many
 | .nil,i,h=>by cases h
 | .cons b t r,i,h=>by
  cases i with
  | zero=>simp [Kids.trees,Kids.many]
  | succ i =>
   have:=many_kid (k:=r) i (by simpa [Kids.trees] using h)
   simp only [Kids.many]
   show (r.trees[i]'(by simpa [Kids.trees] using h)).many ≤ _
   omega
def putO (t:Option Tree) (n:Str) (x:Sum):Tree:=match t with
 | none=>leaf n x
 | some t=>t.put n x
def dropO (t:Option Tree) (n:Str):Option Tree:=match t with
 | none=>none
 | some t=>t.drop n
def enO (t:Option Tree):List (Str × Sum):=match t with
 | none=>[]
 | some t=>t.ents []
def rootO (t:Option Tree):Sum:=match t with
 | none=>shaW []
 | some t=>t.own
def lowO (N:Nat) (t:Option Tree):Prop:=∀ n x,getO t n=some x->n.length ≤ N
theorem putO_wf {t:Option Tree} (h:wfO t) (n:Str) (x:Sum):wfO (some (putO t n x)):=by
 cases t with
 | none=>exact leaf_wf n x
 | some t=>exact put_wf h
theorem putO_get {t:Option Tree} (h:wfO t) (n:Str) (x:Sum) (m:Str):getO (some (putO t n x)) m=if m=n then some x else getO t m:=by
 cases t with
 | none=>exact get_leaf n x m
 | some t=>exact get_put h m
theorem putO_many {t:Option Tree} (h:wfO t) (n:Str) (x:Sum):maO (some (putO t n x))=maO t+(if (getO t n).isSome=true then 0 else 1):=by
 cases t with
 | none=>simp [putO,maO,leaf,Tree.many,Kids.many,getO]
 | some t=>exact many_put h
theorem putO_low {N:Nat} {t:Option Tree} (h:wfO t) (hl:lowO N t) {n:Str} (hn:n.length ≤ N) (x:Sum):lowO N (some (putO t n x)):=λm y hy=>by
 rw [putO_get h] at hy
 by_cases e:m=n
 ·rw [e];exact hn
 ·rw [if_neg e] at hy
  exact hl m y hy
theorem dropO_wf {t:Option Tree} (h:wfO t) {n:Str} (hn:(getO t n).isSome=true):wfO (dropO t n):=by
 cases t with
 | none=>cases hn
 | some t=>exact (drop_all h hn).1
theorem dropO_get {t:Option Tree} (h:wfO t) {n:Str} (hn:(getO t n).isSome=true) (m:Str):getO (dropO t n) m=if m=n then none else getO t m:=by
 cases t with
 | none=>cases hn
 | some t=>exact (drop_all h hn).2 m
theorem dropO_many {t:Option Tree} (h:wfO t) {n:Str} (hn:(getO t n).isSome=true):maO (dropO t n)+1=maO t:=by
 cases t with
 | none=>cases hn
 | some t=>exact many_drop h hn
theorem dropO_low {N:Nat} {t:Option Tree} (h:wfO t) (hl:lowO N t) {n:Str} (hn:(getO t n).isSome=true):lowO N (dropO t n):=λm y hy=>by
 rw [dropO_get h hn] at hy
 by_cases e:m=n
 ·rw [if_pos e] at hy;cases hy
 ·rw [if_neg e] at hy
  exact hl m y hy
theorem canonO {a b:Option Tree} (ha:wfO a) (hb:wfO b) (h:∀ n,getO a n=getO b n):a=b:=by
 cases a with
 | none =>
  cases b with
  | none=>rfl
  | some t =>
   obtain ⟨n,x,hx⟩:=has_name (t:=t) hb
   have:=h n
   change none=t.get n at this
   rw [hx] at this;cases this
 | some t =>
  cases b with
  | none =>
   obtain ⟨n,x,hx⟩:=has_name (t:=t) ha
   have:=h n
   change t.get n=none at this
   rw [hx] at this;cases this
  | some u=>rw [canon ha hb h]
theorem meO {t:Option Tree} (h:wfO t) (n:Str) (x:Sum):(n,x) ∈ enO t ↔ getO t n=some x:=by
 cases t with
 | none=>simp [enO,getO]
 | some t =>
  show (n,x) ∈ t.ents [] ↔ t.get n=some x
  rw [mem_ents h]
  simp
theorem entsO_rise {t:Option Tree} (h:wfO t):Rise (enO t):=by
 cases t with
 | none=>exact List.Pairwise.nil
 | some t=>exact ents_rise h []
theorem entsO_many (t:Option Tree):(enO t).length=maO t:=by
 cases t with
 | none=>rfl
 | some t=>exact many_ents t []
theorem entsO_inj {a b:Option Tree} (ha:wfO a) (hb:wfO b) (h:enO a=enO b):a=b:=by
 refine canonO ha hb λn=>?_
 cases hx:getO a n with
 | none =>
  cases hy:getO b n with
  | none=>rfl
  | some y =>
   rw [← meO hb,← h,meO ha,hx] at hy
   cases hy
 | some x =>
  rw [← meO ha,h,meO hb] at hx
  exact hx.symm
open Go V RowKit
inductive Plot where
 | node (b:Nat) (A:Option Addr) (c:Nat) (B:Option Addr) (d:Nat) (ps:List Plot):Plot
def Plot.b:Plot->Nat|.node b _ _ _ _ _=>b
def Plot.A:Plot->Option Addr|.node _ A _ _ _ _=>A
def Plot.c:Plot->Nat|.node _ _ c _ _ _=>c
def Plot.B:Plot->Option Addr|.node _ _ _ B _ _=>B
def Plot.d:Plot->Nat|.node _ _ _ _ d _=>d
def Plot.ps:Plot->List Plot|.node _ _ _ _ _ ps=>ps
def kP:Kd Plot where
 T:=29
 sz:=1
 ev L:=.av (.val (.pointer (some ⟨L.b,0,none⟩)))
 ok b:=⟨rfl,Tryz.t29,rfl,rfl⟩
 size b:=rfl
abbrev ptrV (b:Nat):Value:=.pointer (some ⟨b,0,none⟩)
abbrev ptrAt (b:Nat):EV:=.av (.val (ptrV b))
abbrev nodF (s:Str) (v:Option Sum) (A:Option Addr) (q c:Nat) (B:Option Addr) (p d:Nat) (many:Int) (own:Sum):List AV :=
 [.val (strV s),.val (.bool v.isSome),.val (sumV (v.getD Sum.zero)),.val (.slice A q c),.val (.slice B p d),.val (intV many),.val (sumV own)]
theorem nod_cells (s:Str) (v:Option Sum) (A:Option Addr) (q c:Nat) (B:Option Addr) (p d:Nat) (many:Int) (own:Sum) :
  (boxCells (nodF s v A q c B p d many own)).toList=[strV s,.bool v.isSome] ++ ((v.getD Sum.zero).l.map u8V ++ ([.slice A q c,.slice B p d,intV many] ++ own.l.map u8V)):=by
 unfold boxCells nodF
 simp [flat,AV.v,Value.cells,sumV,strV,intV]
mutual
def IT (u:World):Plot->Tree->Prop
 | L,.node s v k=>u.heap[L.b]? = some (.cells (boxCells (nodF s v L.A k.bytes.length L.c L.B L.ps.length L.d (Tree.node s v k).many (Tree.node s v k).own)) 165 (0,0))/\Sl kBy u L.A L.c k.bytes/\Sl kP u L.B L.d L.ps/\IK u L.ps k
def IK (u:World):List Plot->Kids->Prop
 | [],.nil=>True
 | p :: ps,.cons _ t r=>IT u p t/\IK u ps r
 | [],.cons _ _ _=>False
 | _ :: _,.nil=>False
end
structure Part (u:World) (b:Nat) (s:Str) (v:Option Sum) (k:Kids) (A:Option Addr) (c:Nat) (B:Option Addr) (d:Nat) (ps:List Plot) (many:Int) (own:Sum):Prop where
 blk:u.heap[b]? = some (.cells (boxCells (nodF s v A k.bytes.length c B ps.length d many own)) 165 (0,0))
 by_:Sl kBy u A c k.bytes
 to_:Sl kP u B d ps
 kids:IK u ps k
theorem IT.part {u:World} {L:Plot} {s:Str} {v:Option Sum} {k:Kids} (h:IT u L (.node s v k)):Part u L.b s v k L.A L.c L.B L.d L.ps (Tree.node s v k).many (Tree.node s v k).own:=by
 unfold IT at h
 obtain ⟨h1,h2,h3,h4⟩:=h
 exact ⟨h1,h2,h3,h4⟩
theorem Part.tree {u:World} {b:Nat} {s:Str} {v:Option Sum} {k:Kids} {A:Option Addr} {c:Nat} {B:Option Addr} {d:Nat} {ps:List Plot} (h:Part u b s v k A c B d ps (Tree.node s v k).many (Tree.node s v k).own):IT u (.node b A c B d ps) (.node s v k):=by
 unfold IT
 exact ⟨h.blk,h.by_,h.to_,h.kids⟩
mutual
theorem IT.ext {u u':World} (he:Ext u u'):∀ {t:Tree} {b:Plot},IT u b t->IT u' b t
 | .node s v k,b,h=>by
  unfold IT at h ⊢
  obtain ⟨h1,h2,h3,h4⟩:=h
  exact ⟨by rw [he.block _ (Array.getElem?_eq_some_iff.1 h1).1];exact h1,h2.ext he,h3.ext he,h4.ext he⟩
theorem IK.ext {u u':World} (he:Ext u u'):∀ {k:Kids} {ps:List Plot},IK u ps k->IK u' ps k
 | .nil,[],_=>trivial
 | .nil,_ :: _,h=>h.elim
 | .cons _ t r,[],h=>h.elim
 | .cons _ t r,p :: ps,h=>by
  unfold IK at h ⊢
  exact ⟨h.1.ext he,h.2.ext he⟩
end
theorem Part.ext {u u':World} (he:Ext u u') {b:Nat} {s:Str} {v:Option Sum} {k:Kids} {A:Option Addr} {c:Nat} {B:Option Addr} {d:Nat} {ps:List Plot} {many:Int} {own:Sum} (h:Part u b s v k A c B d ps many own):Part u' b s v k A c B d ps many own :=
 ⟨by rw [he.block b (Array.getElem?_eq_some_iff.1 h.blk).1];exact h.blk,h.by_.ext he,h.to_.ext he,h.kids.ext he⟩
theorem IK.len {u:World}:∀ {k:Kids} {ps:List Plot},IK u ps k->ps.length=k.bytes.length
 | .nil,[],_=>rfl
 | .nil,_ :: _,h=>h.elim
 | .cons _ t r,[],h=>h.elim
 | .cons _ t r,p :: ps,h=>by
  unfold IK at h
  simp [Kids.bytes,h.2.len]
theorem IK.at {u:World}:∀ {k:Kids} {ps:List Plot},IK u ps k->∀ i (h:i < ps.length) (h2:i < k.trees.length),IT u ps[i] k.trees[i]
 | .nil,[],_,i,h,_=>by cases h
 | .nil,_ :: _,h,_,_,_=>h.elim
 | .cons _ t r,[],h,_,_,_=>h.elim
 | .cons _ t r,p :: ps,h,i,h1,h2=>by
  unfold IK at h
  cases i with
  | zero=>exact h.1
  | succ i=>exact h.2.at i (by simpa using h1) (by simpa [Kids.trees] using h2)
section
variable {u:World} {b:Nat} {s:Str} {v:Option Sum} {k:Kids} {A:Option Addr} {c:Nat} {B:Option Addr} {d:Nat} {ps:List Plot} {many:Int} {own:Sum}
theorem Part.cell (h:Part u b s v k A c B d ps many own) (o:Nat) (x:Value) (hx:([strV s,.bool v.isSome] ++ ((v.getD Sum.zero).l.map u8V ++ ([.slice A k.bytes.length c,.slice B ps.length d,intV many] ++ own.l.map u8V)))[o]? = some x):u.cell? ⟨b,o,none⟩=some x:=by
 rw [← nod_cells] at hx
 have:=range_of_blk h.blk (o:=0) (l:=(boxCells (nodF s v A k.bytes.length c B ps.length d many own)).toList) (λj v hj=>by rw [Nat.zero_add];exact hj)
 have:=this o x hx
 rw [Nat.zero_add] at this
 exact this
theorem Part.stem (h:Part u b s v k A c B d ps many own):(loadVar 9 ⟨b,0,none⟩).run Tryz.prog u = .ok (strV s) u :=
 V.run_load tk ⟨rfl,Tryz.t9,rfl,rfl⟩ λj x hj=>by
  cases j with
  | zero=>exact h.cell 0 x hj
  | succ j=>simp [strV,Value.cells] at hj
theorem Part.has (h:Part u b s v k A c B d ps many own):(loadVar 4 ⟨b,1,none⟩).run Tryz.prog u = .ok (.bool v.isSome) u :=
 V.run_load tk ⟨rfl,Tryz.t4,rfl,rfl⟩ λj x hj=>by
  cases j with
  | zero=>exact h.cell 1 x hj
  | succ j=>simp [Value.cells] at hj
theorem Part.sum (h:Part u b s v k A c B d ps many own):(loadVar 40 ⟨b,2,none⟩).run Tryz.prog u = .ok (sumV (v.getD Sum.zero)) u :=
 V.run_load tk (vok_sum _) λj x hj=>by
  refine h.cell (2+j) x ?_
  have hc:(sumV (v.getD Sum.zero)).cells.toList=(v.getD Sum.zero).l.map u8V:=by simp [sumV,Value.cells]
  rw [hc] at hj
  rw [List.getElem?_append_right (by simp),List.getElem?_append_left (by have:=(List.getElem?_eq_some_iff.1 hj).1;simpa using this)]
  simpa using hj
theorem Part.at34 (h:Part u b s v k A c B d ps many own) (j:Nat) (x:Value) (hx:([.slice A k.bytes.length c,.slice B ps.length d,intV many] ++ own.l.map u8V:List Value)[j]? = some x):u.cell? ⟨b,34+j,none⟩=some x:=by
 refine h.cell (34+j) x ?_
 have hl:=(v.getD Sum.zero).h
 rw [List.getElem?_append_right (by simp;omega),List.getElem?_append_right (by simp [hl];omega)]
 rw [show 34+j - [strV s,Value.bool v.isSome].length - ((v.getD Sum.zero).l.map u8V).length=j by simp [hl];omega]
 exact hx
theorem Part.lby (h:Part u b s v k A c B d ps many own):(loadVar 22 ⟨b,34,none⟩).run Tryz.prog u = .ok (.slice A k.bytes.length c) u :=
 V.run_load tk ⟨rfl,Tryz.t22,rfl,rfl⟩ λj x hj=>by
  cases j with
  | zero=>exact h.at34 0 x hj
  | succ j=>simp [Value.cells] at hj
theorem Part.lto (h:Part u b s v k A c B d ps many own):(loadVar 163 ⟨b,35,none⟩).run Tryz.prog u = .ok (.slice B ps.length d) u :=
 V.run_load tk ⟨rfl,Tryz.t163,rfl,rfl⟩ λj x hj=>by
  cases j with
  | zero=>exact h.at34 1 x hj
  | succ j=>simp [Value.cells] at hj
theorem Part.lmany (h:Part u b s v k A c B d ps many own):(loadVar 3 ⟨b,36,none⟩).run Tryz.prog u = .ok (intV many) u :=
 V.run_load tk ⟨rfl,Tryz.t3,rfl,rfl⟩ λj x hj=>by
  cases j with
  | zero=>exact h.at34 2 x hj
  | succ j=>simp [intV,Value.cells] at hj
theorem Part.lown (h:Part u b s v k A c B d ps many own):(loadVar 40 ⟨b,37,none⟩).run Tryz.prog u = .ok (sumV own) u :=
 V.run_load tk (vok_sum _) λj x hj=>by
  have hc:(sumV own).cells.toList=own.l.map u8V:=by simp [sumV,Value.cells]
  rw [hc] at hj
  have:=h.at34 (3+j) x (by rw [List.getElem?_append_right (by simp)];simpa using hj)
  rw [← Nat.add_assoc] at this
  exact this
end
abbrev bufF (A:Option Addr) (q c:Nat) (lr:Int):List AV:=[.val (.slice A q c),.val (intV 0),.val (.int .i8 lr)]
abbrev bufE (b:Nat) (A:Option Addr) (q c:Nat) (lr:Int):Option HE:=some (.box b (bufF A q c lr) 291)
abbrev capR (A:Option Addr) (q c:Nat):Prop:=True
theorem Len_spec (b:Nat) (A:Option Addr) (q c:Nat) (lr:Int) (hq:q ≤ 100000000):Does Tryz.prog tb 281 [.pointer (some ⟨b,0,none⟩)] [(0,bufE b A q c lr)] (λ_=>True) (λ_:Unit=>intV q) (λ_=>[(0,bufE b A q c lr)]) (λ_ _ _=>True):=by
 refine Does.enter tk [(0,.av (.box 0 b 0))] Tryz.func281 rfl Tryz.ntmps281 rfl rfl 1 ?_
 intro B0 m0 K
 refine RH.a [] ?_
 refine RH.w [(0,bufE b A q c lr)] 11 ?_
 refine RD.a [] ?_
 refine RD.e ?_
 refine RH.a [] ?_
 refine RH.ret1 Tryz.func281 rfl rfl λw hst=>⟨(),by show Ending.returned (Value.int .i64 ((q:Int) - 0))=_;rw [Int.sub_zero],hst.out [] rfl rfl λu h=>⟨h.1,trivial⟩⟩
theorem tryGrow_yes (b:Nat) (A:Option Addr) (q c n:Nat) (lr:Int) (hq:q+n ≤ c) (hc:c ≤ 9223372036854775807):Does Tryz.prog tb 254 [.pointer (some ⟨b,0,none⟩),intV n] [(0,bufE b A q c lr)] (λ_=>True) (λ_:Unit=>.tuple #[intV q,.bool true]) (λ_=>[(0,bufE b A (q+n) c lr)]) (λ_ _ _=>True):=by
 have hl:lim=140737488351232:=rfl
 refine Does.enter tk [(0,.av (.box 0 b 0)),(1,intE n)] Tryz.func254 rfl Tryz.ntmps254 rfl rfl 1 ?_
 intro B0 m0 K
 refine RH.a [] ?_
 refine RH.read (intE c) rfl rfl rfl rfl (λw a _ ha=>op_cap (A:=A) (n_:=q) (e:=5) ha rfl rfl (tk.und (by kernel_rfl))) ?_
 refine RH.a [true] ?_
 have e:((q:Int)+n).toNat=q+n:=by omega
 simp only [e]
 refine RH.ret2 Tryz.func254 rfl rfl rfl λw hst=>⟨(),rfl,hst.out [] rfl rfl λu h=>⟨h.1,trivial⟩⟩
theorem tryGrow_no (b:Nat) (A:Option Addr) (q c n:Nat) (lr:Int) (hq:c < q+n) (hc:c ≤ 9223372036854775807) (h2:q ≤ 1000000000):Does Tryz.prog tb 254 [.pointer (some ⟨b,0,none⟩),intV n] [(0,bufE b A q c lr)] (λ_=>True) (λ_:Unit=>.tuple #[intV 0,.bool false]) (λ_=>[(0,bufE b A q c lr)]) (λ_ _ _=>True):=by
 refine Does.enter tk [(0,.av (.box 0 b 0)),(1,intE n)] Tryz.func254 rfl Tryz.ntmps254 rfl rfl 1 ?_
 intro B0 m0 K
 refine RH.a [] ?_
 refine RH.read (intE c) rfl rfl rfl rfl (λw a _ ha=>op_cap (A:=A) (n_:=q) (e:=5) ha rfl rfl (tk.und (by kernel_rfl))) ?_
 refine RH.a [false] ?_
 refine RH.ret2 Tryz.func254 rfl rfl rfl λw hst=>⟨(),rfl,hst.out [] rfl rfl λu h=>⟨h.1,trivial⟩⟩
def RowAt (u:World) (A:Option Addr) (c:Nat) (l:List UInt8):Prop:=∃ B,u.ownsRow B 5 1 (.slice A l.length c) l.length (l.flatMap kBy.cs)
theorem growSlice_spec (A:Option Addr) (c:Nat) (l:List UInt8) (n:Nat) (hn:1 ≤ n) (hs:l.length+n ≤ 1000000) (hc:c ≤ 1000000000) :
  Does Tryz.prog tb 283 [.slice A l.length c,intV n] [] (λu=>RowAt u A c l) (λy:Option Addr × Nat=>.slice y.1 l.length y.2) (λy=>[(0,rowE kBy y.1 y.2 l)]) (λy _ _=>l.length+n ≤ y.2):=by
 intro B0 w K hst hp
 obtain ⟨B,_,hrow⟩:=hp w hst.fact
 have hsz:∀ l:List UInt8,(l.flatMap kBy.cs).length=l.length:=λl=>by rw [kBy.flL,show kBy.sz=1 from rfl,Nat.mul_one]
 have hone:∀ v ∈ l.flatMap kBy.cs,v.oneCell'=true:=λv hv=>by
  rw [List.mem_flatMap] at hv
  obtain ⟨x,_,hv⟩:=hv
  have:v=u8V x:=List.mem_singleton.1 hv
  subst this;rfl
 have fin:∀ (w':World) (cap2:Nat) (cells:Array Value),w'.heap[w.heap.size]? = some (.cells cells 5 (0,0))->cells.size=cap2->cells.toList.take l.length=l.flatMap kBy.cs->l.length+n ≤ cap2->cap2 ≤ maxLen->Below w.heap.size w w' →
   St tb B0 [(0,rowE kBy (some ⟨w.heap.size,0,none⟩) cap2 l)] (λu=>K u/\l.length+n ≤ cap2) w':=by
  intro w' cap2 cells h1 h2 h3 h4 h5 h6
  have hown:w'.ownsRow B0 kBy.T kBy.sz (.slice (some ⟨w.heap.size,0,none⟩) l.length cap2) l.length (l.flatMap kBy.cs):=by
   exact ⟨kBy.flL l,.inr ⟨w.heap.size,cap2,cells,rfl,hst.base,h1,by omega,h5,by rw [h2];exact (Nat.mul_one _).symm,by rw [show l.length*kBy.sz=l.length from Nat.mul_one _];exact h3⟩⟩
  have:=hst.push (w':=w') h6 0 (.row (.slice (some ⟨w.heap.size,0,none⟩) l.length cap2) kBy.T kBy.sz l.length (l.flatMap kBy.cs)) hown (λk hk=>by
   have:w.heap.size=k:=by injection hk
   omega)
  exact this.mono λu _ hu=>⟨hu,h4⟩
 rcases hrow with ⟨hv,h0⟩|⟨g,cap,cur,hv,hg,hh,hnc,hmx,hcs,htk⟩
 ·injection hv with e1 e2 e3
  subst e1 e3
  have hl0:l=[]:=List.length_eq_zero_iff.1 e2
  subst hl0
  refine (Tryz.bytes_growSlice_nil n w hn (by simp only [List.length_nil] at hs;omega)).mono ?_
  rintro e w' ⟨cap2,cells,rfl,h1,h2,h3,h4,h5⟩
  exact ⟨(some ⟨w.heap.size,0,none⟩,cap2),rfl,fin w' cap2 cells h1 h2 (by simp) (by simpa using h3) h4 h5⟩
 ·injection hv with e1 e2 e3
  subst e1 e3
  rw [Nat.mul_one] at hcs htk
  refine (Tryz.bytes_growSlice_row g l.length c n cur w hh hcs hnc hn (by omega) (by omega) (by rw [htk];exact hone)).mono ?_
  rintro e w' ⟨cap2,cells,rfl,h1,h2,h3,h4,h5,h6⟩
  exact ⟨(some ⟨w.heap.size,0,none⟩,cap2),rfl,fin w' cap2 cells h1 h2 (by rw [h3,htk]) h4 h5 h6⟩
section
variable {P:Program} {f:Fr} {n:Nat} {S:Stops} {R:Ending->World->Prop} {tb:TT} {B0:Nat} {I:World->Prop} {H:Heap} {nx m:Nat} {env:SEnv} {todo k:List Item}
theorem V.RH.rowCase {id:Nat} {A:Option Addr} {e:TypeId} {sz p c:Nat} {xs:List Value} (hH:loH H id=some (.row (.slice A p c) e sz p xs))
  (h0:A=none->p=0->c=0->RH P f n tb B0 S R todo env H nx m I) (h1:∀ g,A=some ⟨g,0,none⟩->p ≤ c->c ≤ 9223372036854775807->RH P f n tb B0 S R todo env H nx m I):RH P f n tb B0 S R todo env H nx m I:=by
 intro w hm hst
 rcases (hst.holds id _ hH).2 with ⟨hv,_⟩|⟨g,cap,cur,hv,hg,hh,hc,hmx,hcs,ht⟩
 ·injection hv with e1 e2 e3
  exact h0 e1 e2 e3 w hm hst
 ·injection hv with e1 e2 e3
  subst e3
  exact h1 g e1 hc hmx w hm hst
theorem V.RH.rowLe {id:Nat} {A:Option Addr} {e:TypeId} {sz p c:Nat} {xs:List Value} (hH:loH H id=some (.row (.slice A p c) e sz p xs))
  (h:p ≤ c->c ≤ 9223372036854775807->RH P f n tb B0 S R todo env H nx m I):RH P f n tb B0 S R todo env H nx m I :=
 RH.rowCase hH (λ_ h1 h2=>h (by omega) (by omega)) (λ_ _ h1 h2=>h h1 h2)
end
theorem V.RD.lastOp {P:Program} {f:Fr} {n:Nat} {S:Stops} {R:Ending->World->Prop} {tb:TT} {B0:Nat} {I:World->Prop} {H:Heap} {nx m:Nat} {env:SEnv} {k:List Item} {ops:Array Oper} {i:Nat} {l:List Bool} {G0:Heap} {I0:World->Prop} {o:Oper} (hk:tb.Ok P) {v:Option EV} {H':Heap} {nx' m':Nat} {ob:List Ob} {eq:List Eqn}
  (ho:ops.toList[i]? = some o) (hr:Region.ready .any ops l.toArray=[i]) (hw:wantE env ops o.guard = .yes) (hf:finB ops i=true) (hl:Region.ready .any ops (l.set i true).toArray=[])
  (hs:stepOp tb env H nx m [] [] o.op=some (v,H',nx',m',ob,eq)) (heq:AllEqn eq) (hob:AllOb ob) (hm:m ≤ m') {env':SEnv} (hv:OutOk n v o.dst env env')
  (h:∀ m1,m ≤ m1->RH P f n tb B0 S R k env' H' nx' m1 I):RD P f n tb B0 S R k ops G0 I0 (0+1) l env H nx m I:=by
 refine RD.last (E:=λ_:Unit=>env') (G:=λ_=>H') (F:=λ_=>I) ho hr hw hf ?_ nx' hl λ_ m1 hm1=>h m1 hm1
 intro w a hmw hst ha
 unfold OutOk at hv
 obtain ⟨w',q1,q2,q3,_⟩:=stepOp_ok hk ha hst hmw hs hob heq
 unfold Oper.wp
 rw [q1]
 cases v with
 | none =>
  cases hd:o.dst with
  | none =>
   rw [hd] at hv
   have hv:env'=env:=hv
   subst hv
   exact ⟨(),by rw [hd];exact ha,by omega,q2⟩
  | some d=>rw [hd] at hv;exact hv.elim
 | some e =>
  cases hd:o.dst with
  | none=>rw [hd] at hv;exact hv.elim
  | some d =>
   rw [hd] at hv
   obtain ⟨hdn,rfl⟩:=hv
   refine ⟨(),?_,by omega,q2⟩
   rw [kn_cons,hd]
   exact ha.put (Nat.lt_of_lt_of_le (Nat.lt_succ_self d) (Nat.le_of_ble_eq_true hdn)) _
theorem made_byte (n:Nat):madeCells ((Tryz.t5).zero.getD undef).cells n=bsC (List.replicate n 0):=by
 have e:((Tryz.t5).zero.getD undef)=Value.int .u8 0:=by kernel_rfl
 rw [e]
 unfold madeCells bsC
 apply Array.ext
 ·simp
 ·intro i h1 h2
  simp [Value.cells,Nat.mod_one]
  rfl
theorem run_make8 (w:World) (n c:Nat) (hc:n ≤ c) (hn:c ≤ 1000):(Instr.makeSlice 22 (.int .i64 n) (.int .i64 c)).run Tryz.prog w = .ok (.slice (some ⟨w.heap.size,0,none⟩) n c) (w.alloc (.cells (bsC (List.replicate c 0)) 5)):=by
 have h:=run_makeSlice (P:=Tryz.prog) w 22 5 Tryz.t5 ((Tryz.t5).zero.getD undef) (tk.und rfl) (tk.get (by kernel_rfl)) (by kernel_rfl) .i64 .i64 n c (by omega) (by omega) (by rw [Int.toNat_natCast];show c*1 ≤ _;omega) (by show (1:Int)*c ≤ _;omega) (by omega)
 rw [h,Int.toNat_natCast,Int.toNat_natCast,show c*(Tryz.t5).size=c from Nat.mul_one c,made_byte]
section
variable {n:Nat} {B0:Nat} {I:World->Prop} {H:Heap} {m:Nat} {env:SEnv}
theorem V.OpGo.make8 {d id q c:Nat} {z:Int} (hz:z=c) (hq:q ≤ c) (hc:c ≤ 1000) {x y:Operand} {ty:TypeId} {ps:String} {af:Array Edge} {gd:Option (Nat × Bool)} (hd:Nat.blt d n=true) (hx:evE env x=some (intE q)) (hy:evE env y=some (intE z)) :
  OpGo Tryz.prog tb B0 n ⟨some d,.makeSlice 22 x y,ty,ps,af,gd⟩ env H m I (λ_:Unit=>(d,.av (.val (.slice (some ⟨m,0,none⟩) q c))) :: env) (λ_=>(id,some (.obj m (.cells (bsC (List.replicate c 0)) 5))) :: H) (λ_=>I):=by
 intro w a hm hst ha
 have hdn:d < n:=Nat.lt_of_lt_of_le (Nat.lt_succ_self d) (Nat.le_of_ble_eq_true hd)
 have hxv:a.eval x = .int .i64 q:=ev_run ha hx
 subst hz
 have hyv:a.eval y = .int .i64 c:=ev_run ha hy
 unfold Oper.wp
 have:(execOp a.eval ⟨some d,.makeSlice 22 x y,ty,ps,af,gd⟩).run Tryz.prog w = .ok (.value (.slice (some ⟨w.heap.size,0,none⟩) q c)) (w.alloc (.cells (bsC (List.replicate c 0)) 5)):=by
  simp only [execOp,hxv,hyv,run_make8 w q c hq hc,Sem.run_bind,Sem.run_pure,Result.andThen_ok]
 rw [this]
 subst hm
 refine ⟨(),?_,by simp,hst.push (ext_alloc w _) id (.obj w.heap.size (.cells (bsC (List.replicate c 0)) 5)) ⟨hst.base,heap_alloc_new w _⟩ (λk hk=>by
  have:w.heap.size=k:=by injection hk
  subst this;exact Nat.le_refl _)⟩
 rw [kn_cons];exact ha.put hdn _
end
theorem subA_zero (A:Option Addr) (c sz:Nat):V.subA A (Int.toNat 0) c sz=A:=by
 unfold V.subA
 split
 ·rfl
 ·cases A with
  | none=>rfl
  | some a=>simp [Addr.add]
theorem grow_spec (b:Nat) (A:Option Addr) (c n:Nat) (lr:Int) (l:List UInt8) (hn:1 ≤ n) (hs:l.length+n ≤ 1000000) (hlt:c < l.length+n):Does Tryz.prog tb 255 [.pointer (some ⟨b,0,none⟩),intV n] [(0,bufE b A l.length c lr),(1,rowE kBy A c l)] (λ_=>True) (λ_:Option Addr × Nat=>intV l.length) (λy=>[(0,bufE b y.1 (l.length+n) y.2 lr),(1,rowE kBy y.1 y.2 l)]) (λy _ _=>l.length+n ≤ y.2):=by
 refine Does.enter tk [(0,.av (.box 0 b 0)),(1,intE n)] Tryz.func255 rfl Tryz.ntmps255 rfl rfl 2 ?_
 intro B0 m0 K
 refine RH.a [] ?_
 refine RH.dd [(0,0)] 2 (λ_:Unit=>intE l.length) rfl rfl rfl Tryz.call281 (Len_spec b A l.length c lr (by omega)) (λ_ _=>trivial) ?_
 rintro ⟨⟩ m1 hm1;refine RH.drop ?_
 refine RH.a [] ?_
 apply RH.joinK (α:=Unit) (λ_=>[(0,.av (.box 0 b 0)),(1,intE n),(5,intE l.length),(47,slE A l.length c)]) (λ_=>[(0,bufE b A l.length c lr),(1,rowE kBy A c l)]) (λ_ u=>K u/\True)
 ·refine RH.rowCase (id:=1) rfl (λhA h0 hc=>?_) (λg hA hlc _=>?_)
  ·have hl0:l=[]:=List.length_eq_zero_iff.1 h0
   subst hl0 hA hc
   simp only [List.length_nil] at *
   refine RH.a [true,false] ?_
   refine RH.dd [(0,0)] 2 (λ_:Unit=>.av (.val (.tuple #[intV 0,.bool false]))) rfl rfl rfl Tryz.call254 (tryGrow_no b none 0 0 n lr (by omega) (by omega) (by omega)) (λ_ _=>trivial) ?_
   rintro ⟨⟩ m2 hm2;refine RH.drop ?_
   by_cases h64:n ≤ 64
   ·refine RH.adv tk [false,true,true] rfl rfl (by simp [h64]<;>omega) ?_
    refine RH.go rfl rfl (OpGo.make8 (id:=3) (q:=n) (c:=64) (z:=64) (by omega) h64 (by show 64 ≤ 1000;omega) rfl rfl rfl) 4 ?_
    rintro ⟨⟩ m3 hm3
    refine RH.a [] ?_
    refine RH.cook (id:=3) (g:=m2) (sz:=1) 0 64 rfl (by omega) (by show 64 ≤ 9223372036854775807;omega) (by unfold bsC;simp) ?_
    refine RH.ret1 Tryz.func255 rfl rfl λw hst=>⟨(some ⟨m2,0,none⟩,64),rfl,by
     have:=hst.out (G:=[(0,bufE b (some ⟨m2,0,none⟩) (0+n) 64 lr),(1,rowE kBy (some ⟨m2,0,none⟩) 64 [])]) (J:=λu=>K u/\0+n ≤ 64) [(1,3)] (by rw [Nat.zero_add];rfl) rfl λu h=>⟨h.1,by omega⟩
     exact this⟩
   ·refine RH.adv tk [false,true,false] rfl rfl (by simp [h64]<;>omega) ?_
    exact RH.mtS () [] (.head _) rfl rfl rfl λu hu=>hu
  ·subst hA
   by_cases h0:l.length=0
   ·refine RH.adv tk [true,false] rfl rfl (by simp [h0]<;>omega) ?_
    refine RH.dd [(0,0)] 2 (λ_:Unit=>.av (.val (.tuple #[intV 0,.bool false]))) rfl rfl rfl Tryz.call254 (tryGrow_no b (some ⟨g,0,none⟩) l.length c n lr (by omega) (by omega) (by omega)) (λ_ _=>trivial) ?_
    rintro ⟨⟩ m2 hm2;refine RH.drop ?_
    refine RH.a [false,false] ?_
    exact RH.mtS () [] (.head _) rfl rfl rfl λu hu=>hu
   ·refine RH.adv tk [false] rfl rfl (by simp [h0]<;>omega) ?_
    refine RH.dd [(0,0)] 2 (λ_:Unit=>.av (.val (.tuple #[intV 0,.bool false]))) rfl rfl rfl Tryz.call254 (tryGrow_no b (some ⟨g,0,none⟩) l.length c n lr (by omega) (by omega) (by omega)) (λ_ _=>trivial) ?_
    rintro ⟨⟩ m2 hm2;refine RH.drop ?_
    refine RH.a [false,false] ?_
    exact RH.mtS () [] (.head _) rfl rfl rfl λu hu=>hu
 rintro ⟨⟩ m2
 refine RH.toNx 2 ?_
 refine RH.rowLe (id:=1) rfl λhlc hc=>?_
 refine RH.read (intE c) rfl rfl rfl rfl (λw a _ ha=>op_cap (A:=A) (n_:=l.length) (e:=5) ha rfl rfl (tk.und (by kernel_rfl))) ?_
 refine RH.a [false,false] ?_
 refine RH.w [(0,bufE b A l.length c lr)] 20 ?_
 refine RD.a [] ?_
 have e1:subA A (Int.toNat 0) c (Tryz.t5).size=A:=subA_zero A c _
 have e2:l.length - Int.toNat 0=l.length:=Nat.sub_zero _
 have e3:c - Int.toNat 0=c:=Nat.sub_zero _
 have e4:(0+(n:Int))=n:=Int.zero_add _
 rw [e1,e2,e3,e4]
 refine RD.dd 16 [] 3 (λy:Option Addr × Nat=>rowS 2 y.1 l.length y.2) rfl rfl rfl Tryz.call283 (growSlice_spec A c l n hn hs (by omega)) (λu hu=>⟨B0,hu.row (κ:=kBy) (l:=l) (id:=1) rfl⟩) ?_
 rintro ⟨A',c'⟩ m3 hm3
 dsimp only
 refine RD.a [] ?_
 refine RD.lastOp (i:=19) tk rfl (by kernel_rfl) rfl (by kernel_rfl) (by kernel_rfl) rfl rfl ?_ (Nat.le_refl _) rfl ?_
 ·simp [AllOb]
 intro m4 hm4
 refine RH.pure (λu h=>h.2) λhc'=>?_
 refine RH.a [] ?_
 have e5:((l.length:Int)+n).toNat=l.length+n:=by omega
 simp only [e5]
 refine RH.ret1 Tryz.func255 rfl rfl λw hst=>⟨(A',c'),rfl,hst.out [(1,2)] rfl rfl λu h=>⟨h.1.1,hc'⟩⟩
section
variable {n:Nat} {B0:Nat} {I:World->Prop} {H:Heap} {m:Nat} {env:SEnv}
theorem V.OpGo.copyTail {d id:Nat} {s x:Operand} {T2:TypeId} {ty:TypeId} {ps:String} {af:Array Edge} {gd:Option (Nat × Bool)} {es ex:EV} {dc c:Nat} {A:Option Addr} {l p:List UInt8} {X:Value}
  (hd:Nat.blt d n=true) (hs:evE env s=some es) (hsv:es.v = .slice (V.subA A l.length c 1) p.length dc) (hx:evE env x=some ex) (hxv:ex.v=X)
  (hH:loH H id=rowE kBy A c l) (hfit:l.length+p.length ≤ c) (hX:∀ w,St tb B0 H I w->(Builtin.lenOf X).run Tryz.prog w = .ok p.length w/\(Builtin.firstCells 1 p.length X).run Tryz.prog w = .ok (p.flatMap kBy.cs).toArray w) :
  OpGo Tryz.prog tb B0 n ⟨some d,.call ⟨.builtin .copy,#[s,x],#[22,T2]⟩,ty,ps,af,gd⟩ env H m I (λ_:Unit=>(d,.av (.val (.int .i64 p.length))) :: env) (λ_=>(id,rowE kBy A c (l ++ p)) :: H) (λ_=>I):=by
 intro w a hm hst ha
 have hdn:d < n:=Nat.lt_of_lt_of_le (Nat.lt_succ_self d) (Nat.le_of_ble_eq_true hd)
 have hu:=run_underlying (tk.und (show tb.und 22=some (.slice 5) from rfl)) w
 have hsz:=run_tsize (w:=w) tk (show tb.get 5=some Tryz.t5 by kernel_rfl)
 have hsz1:(Tryz.t5).size=1:=by kernel_rfl
 rw [hsz1] at hsz
 obtain ⟨hq,hfirst⟩:=hX w hst
 have hfl:∀ l:List UInt8,(l.flatMap kBy.cs).length=l.length:=λl=>by rw [kBy.flL,show kBy.sz=1 from rfl,Nat.mul_one]
 have h1:∀ u ∈ p.flatMap kBy.cs,u.oneCell'=true:=λu hu=>by
  rw [List.mem_flatMap] at hu
  obtain ⟨z,_,hz⟩:=hu
  have:u=u8V z:=List.mem_singleton.1 hz
  subst this;rfl
 have hsv':a.eval s = .slice (V.subA A l.length c 1) p.length dc:=(ev_run ha hs).trans hsv
 have hxv':a.eval x=X:=(ev_run ha hx).trans hxv
 have key:∃ w',(Builtin.copy_ #[22,T2] ty #[.slice (V.subA A l.length c 1) p.length dc,X]).run Tryz.prog w = .ok (.int .i64 p.length) w'/\w.heap.size ≤ w'.heap.size/\St tb B0 ((id,rowE kBy A c (l ++ p)) :: H) I w':=by
  by_cases hp0:p=[]
  ·subst hp0
   refine ⟨w,?_,Nat.le_refl _,?_⟩
   ·have hf:(Builtin.firstCells 1 0 X).run Tryz.prog w = .ok #[] w:=hfirst
    simp only [Builtin.copy_,Sem.run_bind,List.getElem?_toArray,List.getElem?_cons_zero,List.getElem?_cons_succ,hu,Result.andThen_ok,hq,Sem.run_pure,hsz,List.length_nil,Nat.min_self]
    cases V.subA A l.length c 1<;>simp [hf,storeCells,goInt]
   ·rw [List.append_nil]
    exact hst.turn id _ _ hH (Agr.refl _ _) (hst.holds id _ hH) λk hk=>.inl hk
  ·have hpl:0 < p.length:=List.length_pos_iff.2 hp0
   have ho:=hst.holds id _ hH
   rcases ho.2 with ⟨hv,_⟩|⟨g,cap,cur,hv,hg,hh,hcc,hmx,hcs,htk⟩
   ·injection hv with e1 e2 e3
    omega
   ·injection hv with e1 e2 e3
    subst e1 e3
    have hA:V.subA (some ⟨g,0,none⟩) l.length c 1=some ⟨g,l.length,none⟩:=by
     unfold V.subA
     rw [if_neg (by omega)]
     simp [Addr.add]
     intro h;rw [h];rfl
    have hcs1:cur.size=c:=by rw [hcs];exact Nat.mul_one c
    have hstc:=run_storeCells_at Tryz.prog g l.length 5 (p.flatMap kBy.cs) 0 cur w hh (by rw [hfl,hcs1];omega) h1
    simp only [Nat.add_zero] at hstc
    refine ⟨w.setRow g (putC cur l.length (p.flatMap kBy.cs)),?_,by simp,?_⟩
    ·simp only [Builtin.copy_,Sem.run_bind,List.getElem?_toArray,List.getElem?_cons_zero,List.getElem?_cons_succ,hu,Result.andThen_ok,hq,Sem.run_pure,hsz,Nat.min_self,hfirst,hA]
     simp [hstc,putC,goInt]
    ·refine hst.turn id _ (.row (.slice (some ⟨g,0,none⟩) (l ++ p).length c) kBy.T kBy.sz (l ++ p).length ((l ++ p).flatMap kBy.cs)) hH ⟨rfl,rfl,rfl,by simp,λk _ hk=>setRow_other w g k _ λe=>hk (by rw [e];rfl)⟩ ⟨?_,.inr ⟨g,c,_,rfl,hg,setRow_heap w g cur _ _ _ hh,?_,hmx,?_,?_⟩⟩ λk hk=>.inl hk
     ·exact kBy.flL _
     ·rw [List.length_append];exact hfit
     ·rw [putC_size (by rw [hfl,hcs1];omega)];exact hcs
     ·have e:(l ++ p).length*kBy.sz=l.length+(p.flatMap kBy.cs).length:=by rw [hfl,List.length_append];exact Nat.mul_one _
      have e2:cur.toList.take l.length=l.flatMap kBy.cs:=by rw [← htk,show l.length*kBy.sz=l.length from Nat.mul_one _]
      rw [e,putC_take2 (by omega),e2,List.flatMap_append]
 obtain ⟨w',hrun,h2,h3⟩:=key
 unfold Oper.wp
 have:(execOp a.eval ⟨some d,.call ⟨.builtin .copy,#[s,x],#[22,T2]⟩,ty,ps,af,gd⟩).run Tryz.prog w = .ok (.value (.int .i64 p.length)) w':=by
  simp only [execOp,resolve,invoke,builtin,Sem.run_bind,Sem.run_pure,Result.andThen_ok,List.map_toArray,List.map_cons,List.map_nil,hsv',hxv',hrun]
 rw [this]
 refine ⟨(),?_,by rw [← hm];exact h2,h3⟩
 rw [kn_cons];exact ha.put hdn _
end
theorem firstSl {w:World} {Q:Option Addr} {qc:Nat} {p:List UInt8} (h:Sl kBy w Q qc p):(Builtin.firstCells 1 p.length (.slice Q p.length qc)).run Tryz.prog w = .ok (p.flatMap kBy.cs).toArray w:=by
 have hfl:(p.flatMap kBy.cs).length=p.length:=by rw [kBy.flL,show kBy.sz=1 from rfl,Nat.mul_one]
 cases Q with
 | none =>
  obtain ⟨rfl,_⟩:=h.nil rfl
  rfl
 | some ad =>
  refine run_firstCells_some w 1 _ ad _ _ (p.flatMap kBy.cs) (by rw [hfl];exact (Nat.mul_one _).symm) λj v hj=>?_
  have hp:=h.addr (by rintro rfl;simp at hj)
  unfold Ptr at hp
  injection hp with hp
  have:=h.cells j v hj
  rw [hp,Addr.add_lit]
  exact this
theorem Write_spec (b:Nat) (A:Option Addr) (c:Nat) (lr:Int) (l:List UInt8) (Q:Option Addr) (qc:Nat) (p:List UInt8) (hs:l.length+p.length ≤ 1000000) :
  Does Tryz.prog tb 188 [.pointer (some ⟨b,0,none⟩),.slice Q p.length qc] [(0,bufE b A l.length c lr),(1,rowE kBy A c l)] (λu=>Sl kBy u Q qc p) (λ_:Option Addr × Nat=>.tuple #[intV p.length,.nilIface]) (λy=>[(0,bufE b y.1 (l ++ p).length y.2 0),(1,rowE kBy y.1 y.2 (l ++ p))]) (λ_ _ _=>True):=by
 refine Does.enter tk [(0,.av (.box 0 b 0)),(1,slE Q p.length qc)] Tryz.func188 rfl Tryz.ntmps188 rfl rfl 2 ?_
 intro B0 m0 K
 refine RH.rowLe (id:=1) rfl λhlc hc=>?_
 refine RH.a [] ?_
 apply RH.joinK (α:=Option Addr × Nat) (λy=>[(5,.av (.val .nilIface)),(29,.av (.val (.slice (V.subA y.1 ((l.length:Int)).toNat y.2 (Tryz.t5).size) (l.length+p.length - ((l.length:Int)).toNat) (y.2 - ((l.length:Int)).toNat)))),(30,slE Q p.length qc)]) (λy=>[(0,bufE b y.1 (l.length+p.length) y.2 0),(1,rowE kBy y.1 y.2 l)]) (λy u=>(K u/\Sl kBy u Q qc p)/\l.length+p.length ≤ y.2)
 ·by_cases hroom:l.length+p.length ≤ c
  ·refine RH.dd [(0,0)] 2 (λ_:Unit=>.av (.val (.tuple #[intV l.length,.bool true]))) rfl rfl rfl Tryz.call254 (tryGrow_yes b A l.length c p.length 0 hroom hc) (λ_ _=>trivial) ?_
   rintro ⟨⟩ m2 hm2;refine RH.drop ?_
   refine RH.a [false] ?_
   exact RH.mtS (A,c) [] (.head _) rfl rfl rfl λu hu=>⟨hu,hroom⟩
  ·refine RH.dd [(0,0)] 2 (λ_:Unit=>.av (.val (.tuple #[intV 0,.bool false]))) rfl rfl rfl Tryz.call254 (tryGrow_no b A l.length c p.length 0 (by omega) hc (by omega)) (λ_ _=>trivial) ?_
   rintro ⟨⟩ m2 hm2;refine RH.drop ?_
   refine RH.a [true] ?_
   refine RH.dd [] 2 (λ_:Option Addr × Nat=>intE l.length) rfl rfl rfl Tryz.call255 (grow_spec b A c p.length 0 l (by omega) hs (by omega)) (λ_ _=>trivial) ?_
   rintro ⟨A',c'⟩ m3 hm3
   refine RH.pure (λu h=>h.2) λhc'=>?_
   dsimp only at hc'
   refine RH.a [] ?_
   exact RH.mtS (A',c') [] (.head _) rfl rfl rfl λu hu=>hu
 rintro ⟨A',c'⟩ m4
 refine RH.toNx 2 ?_
 refine RH.pure (λu h=>h.2) λhc'=>?_
 dsimp only at hc' ⊢
 refine RH.go rfl rfl (OpGo.copyTail (id:=1) (l:=l) (p:=p) (A:=A') (c:=c') (dc:=c' - l.length) (X:=.slice Q p.length qc) rfl rfl ?_ rfl rfl rfl hc' λw hst=>⟨rfl,?_⟩) 2 ?_
 ·show Value.slice _ _ _=_
  rw [Int.toNat_natCast,Nat.add_sub_cancel_left];rfl
 ·exact firstSl hst.fact.1.2
 rintro ⟨⟩ m5 hm5
 refine RH.a [] ?_
 refine RH.ret2 Tryz.func188 rfl rfl rfl λw hst=>⟨(A',c'),rfl,by
  have:=hst.out (G:=[(0,bufE b A' (l.length+p.length) c' 0),(1,rowE kBy A' c' (l ++ p))]) (J:=λu=>K u/\True) [] rfl rfl λu h=>⟨h.1.1,trivial⟩
  rw [List.length_append]
  exact this⟩
theorem firstStr (w:World) (p:Str):(Builtin.firstCells 1 p.length (strV p)).run Tryz.prog w = .ok (p.flatMap kBy.cs).toArray w:=by
 have h:=Lib.run_firstCells_string (P:=Tryz.prog) w 1 ⟨⟨p⟩⟩
 rw [strCells_flat] at h
 exact h
theorem WriteString_spec (b:Nat) (A:Option Addr) (c:Nat) (lr:Int) (l:List UInt8) (p:Str) (hs:l.length+p.length ≤ 1000000) :
  Does Tryz.prog tb 189 [.pointer (some ⟨b,0,none⟩),strV p] [(0,bufE b A l.length c lr),(1,rowE kBy A c l)] (λ_=>True) (λ_:Option Addr × Nat=>.tuple #[intV p.length,.nilIface]) (λy=>[(0,bufE b y.1 (l ++ p).length y.2 0),(1,rowE kBy y.1 y.2 (l ++ p))]) (λ_ _ _=>True):=by
 refine Does.enter tk [(0,.av (.box 0 b 0)),(1,strE p)] Tryz.func189 rfl Tryz.ntmps189 rfl rfl 2 ?_
 intro B0 m0 K
 refine RH.rowLe (id:=1) rfl λhlc hc=>?_
 refine RH.a [] ?_
 apply RH.joinK (α:=Option Addr × Nat) (λy=>[(5,.av (.val .nilIface)),(29,.av (.val (.slice (V.subA y.1 ((l.length:Int)).toNat y.2 (Tryz.t5).size) (l.length+p.length - ((l.length:Int)).toNat) (y.2 - ((l.length:Int)).toNat)))),(30,strE p)]) (λy=>[(0,bufE b y.1 (l.length+p.length) y.2 0),(1,rowE kBy y.1 y.2 l)]) (λy u=>(K u/\True)/\l.length+p.length ≤ y.2)
 ·by_cases hroom:l.length+p.length ≤ c
  ·refine RH.dd [(0,0)] 2 (λ_:Unit=>.av (.val (.tuple #[intV l.length,.bool true]))) rfl rfl rfl Tryz.call254 (tryGrow_yes b A l.length c p.length 0 hroom hc) (λ_ _=>trivial) ?_
   rintro ⟨⟩ m2 hm2;refine RH.drop ?_
   refine RH.a [false] ?_
   exact RH.mtS (A,c) [] (.head _) rfl rfl rfl λu hu=>⟨hu,hroom⟩
  ·refine RH.dd [(0,0)] 2 (λ_:Unit=>.av (.val (.tuple #[intV 0,.bool false]))) rfl rfl rfl Tryz.call254 (tryGrow_no b A l.length c p.length 0 (by omega) hc (by omega)) (λ_ _=>trivial) ?_
   rintro ⟨⟩ m2 hm2;refine RH.drop ?_
   refine RH.a [true] ?_
   refine RH.dd [] 2 (λ_:Option Addr × Nat=>intE l.length) rfl rfl rfl Tryz.call255 (grow_spec b A c p.length 0 l (by omega) hs (by omega)) (λ_ _=>trivial) ?_
   rintro ⟨A',c'⟩ m3 hm3
   refine RH.pure (λu h=>h.2) λhc'=>?_
   dsimp only at hc'
   refine RH.a [] ?_
   exact RH.mtS (A',c') [] (.head _) rfl rfl rfl λu hu=>hu
 rintro ⟨A',c'⟩ m4
 refine RH.toNx 2 ?_
 refine RH.pure (λu h=>h.2) λhc'=>?_
 dsimp only at hc' ⊢
 refine RH.go rfl rfl (OpGo.copyTail (id:=1) (l:=l) (p:=p) (A:=A') (c:=c') (dc:=c' - l.length) (X:=strV p) rfl rfl ?_ rfl rfl rfl hc' λw hst=>⟨rfl,?_⟩) 2 ?_
 ·show Value.slice _ _ _=_
  rw [Int.toNat_natCast,Nat.add_sub_cancel_left];rfl
 ·exact firstStr w p
 rintro ⟨⟩ m5 hm5
 refine RH.a [] ?_
 refine RH.ret2 Tryz.func189 rfl rfl rfl λw hst=>⟨(A',c'),rfl,by
  have:=hst.out (G:=[(0,bufE b A' (l.length+p.length) c' 0),(1,rowE kBy A' c' (l ++ p))]) (J:=λu=>K u/\True) [] rfl rfl λu h=>⟨h.1.1,trivial⟩
  rw [List.length_append]
  exact this⟩
theorem Bytes_spec (b:Nat) (A:Option Addr) (q c:Nat) (lr:Int) (hq:q ≤ c) (hc:c ≤ 9223372036854775807):Does Tryz.prog tb 190 [.pointer (some ⟨b,0,none⟩)] [(0,bufE b A q c lr)] (λ_=>True) (λ_:Unit=>.slice A q c) (λ_=>[(0,bufE b A q c lr)]) (λ_ _ _=>True):=by
 refine Does.enter tk [(0,.av (.box 0 b 0))] Tryz.func190 rfl Tryz.ntmps190 rfl rfl 1 ?_
 intro B0 m0 K
 refine RH.a [] ?_
 refine RH.w [(0,bufE b A q c lr)] 10 ?_
 refine RD.a [] ?_
 rw [subA_zero A c,show q - Int.toNat 0=q from Nat.sub_zero _,show c - Int.toNat 0=c from Nat.sub_zero _]
 refine RD.e ?_
 refine RH.a [] ?_
 refine RH.ret1 Tryz.func190 rfl rfl λw hst=>⟨(),rfl,hst.out [] rfl rfl λu h=>⟨h.1,trivial⟩⟩
end Go.Proofs.YtbfjmimiigjenaaGreatDoor
