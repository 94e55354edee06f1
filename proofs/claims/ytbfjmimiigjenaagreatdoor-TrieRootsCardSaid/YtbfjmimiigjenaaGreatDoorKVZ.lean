/-
Lemmas. No condition.
-/
import Derived.Test.YtbfjmimiigjenaaGreatDoorKVJoin
import Derived.Test.YtbfjmimiigjenaaGreatDoorKVRow
set_option linter.unusedVariables false
set_option linter.unusedSectionVars false
set_option linter.unusedSimpArgs false
namespace Go.Proofs.YtbfjmimiigjenaaGreatDoor.V
open Go Go.RowKit
section
variable {f:Fr} {n:Nat} {S:Stops} {R:Ending->World->Prop} {B0:Nat} {I:World->Prop} {H:Heap} {nx m:Nat} {env:SEnv} {todo k:List Item} {env':SEnv} {H':Heap} {nx' m':Nat} {todo':List Item} {ob:List Ob} {eq:List Eqn}
theorem RH.a (ds:List Bool) (hr:RH Tryz.prog f n tb B0 S R todo' env' H' nx' m' I) (h:V.adv tb n 3000 ds env H nx m todo [] []=(env',H',nx',m',todo',ob,eq):=by exact rfl) (heq:AllEqn eq:=by exact rfl) (hob:AllOb ob:=by simp<;>omega) :
  RH Tryz.prog f n tb B0 S R todo env H nx m I:=RH.adv tk ds h heq hob hr
variable {G:Heap} {I0:World->Prop} {fuel fuel':Nat} {l l':List Bool} {ops:Array Oper} {α:Type} {i d:Nat} {rs:List Nat} {fo:Operand} {args:Array Operand} {tys:Array TypeId} {ty:TypeId} {ps:String} {af:Array Edge} {gd:Option (Nat × Bool)} {g:FuncId} {es:List EV} {f1 c1:List Value}
theorem RD.a (ds:List Bool) (hr:RD Tryz.prog f n tb B0 S R k ops G I0 fuel' l' env' H nx m I) (hp:pairOk ops=true:=by kernel_rfl) (h:advD tb n ops G ops.toList 0 ds fuel l env [] []=(fuel',l',env',ob,eq):=by exact rfl) (heq:AllEqn eq:=by exact rfl) (hob:AllOb ob:=by simp<;>omega) :
  RD Tryz.prog f n tb B0 S R k ops G I0 fuel l env H nx m I:=RD.adv tk hp ds h heq hob hr
theorem RD.b (ds:List Bool) (h:advD tb n ops G ops.toList 0 ds fuel l env [] []=(fuel',l',env',ob,eq)) (heq:AllEqn eq) (hob:AllOb ob) (hr:RD Tryz.prog f n tb B0 S R k ops G I0 fuel' l' env' H nx m I) (hp:pairOk ops=true:=by kernel_rfl) :
  RD Tryz.prog f n tb B0 S R k ops G I0 fuel l env H nx m I:=RD.adv tk hp ds h heq hob hr
theorem RH.gv (e:EV) (ho:ops.toList[i]? = some ⟨some d,.call ⟨.value fo,args,tys⟩,ty,ps,af,gd⟩) (hf:fnE (evE env fo)=some (g,f1,c1)) (hes:evsE env args.toList=some es)
  (hc:∀ (xs:Array Value) w,(callFunc g xs).run Tryz.prog w = .ok (.enter g xs) w) (hC:∀ w,St tb B0 H I w->Gives Tryz.prog g (f1 ++ es.map EV.v ++ c1) w e)
  (hk:∀ m',m ≤ m'->RH Tryz.prog f n tb B0 S R (.inRegion ops rs :: k) ((d,e) :: env) H nx m' I) (hw:wantE env ops gd = .yes:=by exact rfl) (hd:Nat.blt d n=true:=by exact rfl):RH Tryz.prog f n tb B0 S R (.inRegion ops (i :: rs) :: k) env H nx m I :=
 RH.gives e ho hw hd hf hes hc hC hk
theorem RH.dd {Gi:Heap} {pre:World->Prop} {W:α->Value} {G':α->Heap} {J:α->Nat->World->Prop} [∀ x,From (J x)] (σ:List (Nat × Nat)) (nx':Nat) (e:α->EV)
  (ho:ops.toList[i]? = some ⟨some d,.call ⟨.value fo,args,tys⟩,ty,ps,af,gd⟩) (hf:fnE (evE env fo)=some (g,f1,c1)) (hes:evsE env args.toList=some es)
  (hc:∀ (xs:Array Value) w,(callFunc g xs).run Tryz.prog w = .ok (.enter g xs) w) (hC:Does Tryz.prog tb g (f1 ++ es.map EV.v ++ c1) Gi pre W G' J) (hp:∀ u,St tb B0 (rest Gi H σ) I u->pre u)
  (hk:∀ x m',m ≤ m'->RH Tryz.prog f n tb B0 S R (.inRegion ops rs :: k) ((d,e x) :: env) (afterH Gi (G' x) H σ nx) nx' m' (λu=>I u/\J x m u))
  (hw:wantE env ops gd = .yes:=by exact rfl) (hd:Nat.blt d n=true:=by exact rfl) (hσ:SelEq Gi H σ:=by exact rfl) (hn:nodupN (Gi.map λp=>ren σ p.1)=true:=by exact rfl) (hV:∀ x,W x=(e x).v:=by exact λ_=>rfl) (hG:∀ x,nodupN ((G' x).map λp=>renB Gi σ nx p.1)=true:=by exact λ_=>rfl) :
  RH Tryz.prog f n tb B0 S R (.inRegion ops (i :: rs) :: k) env H nx m I:=RH.doB σ nx' e ho hw hd hf hes hc hC hσ hn hV hG hp hk
theorem RD.gv (i:Nat) (e:EV) (ho:ops.toList[i]? = some ⟨some d,.call ⟨.value fo,args,tys⟩,ty,ps,af,gd⟩) (hf:fnE (evE env fo)=some (g,f1,c1)) (hes:evsE env args.toList=some es)
  (hc:∀ (xs:Array Value) w,(callFunc g xs).run Tryz.prog w = .ok (.enter g xs) w) (hC:∀ w,St tb B0 H I w->Gives Tryz.prog g (f1 ++ es.map EV.v ++ c1) w e)
  (hk:∀ m',m ≤ m'->RD Tryz.prog f n tb B0 S R k ops G I0 fuel (l.set i true) ((d,e) :: env) H nx m' I)
  (hr:Region.ready .any ops l.toArray=[i]:=by kernel_rfl) (hw:wantE env ops gd = .yes:=by exact rfl) (hd:Nat.blt d n=true:=by exact rfl) (hG:SubH G H:=by exact rfl) (hI:∀ w,I w->I0 w:=by first|exact λ_ h=>h|exact λ_ h=>h.1|exact λ_ h=>h.1.1|exact λ_ h=>h.1.1.1|exact λ_ h=>h.1.1.1.1):RD Tryz.prog f n tb B0 S R k ops G I0 (fuel+1) l env H nx m I :=
 RD.gives e ho hr hw hd hf hes hc hC hG hI hk
theorem RD.dd {Gi:Heap} {pre:World->Prop} {W:α->Value} {G':α->Heap} {J:α->Nat->World->Prop} [∀ x,From (J x)] (i:Nat) (σ:List (Nat × Nat)) (nx':Nat) (e:α->EV)
  (ho:ops.toList[i]? = some ⟨some d,.call ⟨.value fo,args,tys⟩,ty,ps,af,gd⟩) (hf:fnE (evE env fo)=some (g,f1,c1)) (hes:evsE env args.toList=some es)
  (hc:∀ (xs:Array Value) w,(callFunc g xs).run Tryz.prog w = .ok (.enter g xs) w) (hC:Does Tryz.prog tb g (f1 ++ es.map EV.v ++ c1) Gi pre W G' J) (hp:∀ u,St tb B0 (rest Gi H σ) I u->pre u)
  (hk:∀ x m',m ≤ m'->RD Tryz.prog f n tb B0 S R k ops G I0 fuel (l.set i true) ((d,e x) :: env) (afterH Gi (G' x) H σ nx) nx' m' (λu=>I u/\J x m u))
  (hr:Region.ready .any ops l.toArray=[i]:=by kernel_rfl) (hw:wantE env ops gd = .yes:=by exact rfl) (hd:Nat.blt d n=true:=by exact rfl) (hσ:SelEq Gi H σ:=by exact rfl) (hn:nodupN (Gi.map λp=>ren σ p.1)=true:=by exact rfl) (hV:∀ x,W x=(e x).v:=by exact λ_=>rfl) (hG:∀ x,nodupN ((G' x).map λp=>renB Gi σ nx p.1)=true:=by exact λ_=>rfl)
  (hG0:∀ x,SubH G (afterH Gi (G' x) H σ nx):=by exact λ_=>rfl) (hI:∀ w,I w->I0 w:=by first|exact λ_ h=>h|exact λ_ h=>h.1|exact λ_ h=>h.1.1|exact λ_ h=>h.1.1.1|exact λ_ h=>h.1.1.1.1):RD Tryz.prog f n tb B0 S R k ops G I0 (fuel+1) l env H nx m I :=
 RD.doB σ nx' e ho hr hw hd hf hes hc hC hσ hn hV hG hp hG0 hI hk
theorem RD.ld {T:TypeId} {x:Operand} {p:Addr} (i:Nat) (e:EV) (ho:ops.toList[i]? = some ⟨some d,.load T x,ty,ps,af,gd⟩) (hx:evE env x=some (.av (.val (.pointer (some p))))) (hv:∀ w,I0 w->(loadVar T p).run Tryz.prog w = .ok e.v w)
  (h:RD Tryz.prog f n tb B0 S R k ops G I0 fuel (l.set i true) ((d,e) :: env) H nx m I) (hp:pairOk ops=true:=by kernel_rfl) (hdn:Nat.blt d n=true:=by exact rfl) (hw:wantE env ops gd = .yes:=by exact rfl)
  (hl:l[i]? = some false:=by exact rfl) (hr:readyE l ⟨some d,.load T x,ty,ps,af,gd⟩=true:=by exact rfl):RD Tryz.prog f n tb B0 S R k ops G I0 (fuel+1) l env H nx m I :=
 RD.load hp e ho hdn hw hl hr hx hv h
theorem RD.r {o:Oper} (i:Nat) (e:EV) (ho:ops.toList[i]? = some o) (hd:o.dst=some d) (hv:∀ w a,I0 w->Agree n a (kn env)->(execOp a.eval o).run Tryz.prog w = .ok (.value e.v) w)
  (h:RD Tryz.prog f n tb B0 S R k ops G I0 fuel (l.set i true) ((d,e) :: env) H nx m I) (hp:pairOk ops=true:=by kernel_rfl) (hdn:Nat.blt d n=true:=by exact rfl) (hw:wantE env ops o.guard = .yes:=by exact rfl)
  (hl:l[i]? = some false:=by exact rfl) (hr:readyE l o=true:=by exact rfl):RD Tryz.prog f n tb B0 S R k ops G I0 (fuel+1) l env H nx m I :=
 RD.read hp e ho hd hdn hw hl hr hv h
theorem RD.s {o:Oper} {v:Option EV} (nx0 i:Nat) (h:RD Tryz.prog f n tb B0 S R k ops G I0 fuel (l.set i true) env' H' nx' m' I) (ho:ops.toList[i]? = some o:=by exact rfl) (hr:Region.ready .any ops l.toArray=[i]:=by kernel_rfl) (hw:wantE env ops o.guard = .yes:=by exact rfl)
  (hs:stepOp tb env H nx0 m [] [] o.op=some (v,H',nx',m',ob,eq):=by exact rfl) (heq:AllEqn eq:=by exact rfl) (hob:AllOb ob:=by first|trivial|(simp;done)) (hG:SubH G H':=by exact rfl) (hI:∀ w,I w->I0 w:=by first|exact λ_ h=>h|exact λ_ h=>h.1|exact λ_ h=>h.1.1|exact λ_ h=>h.1.1.1|exact λ_ h=>h.1.1.1.1)
  (hv:OutOk n v o.dst env env':=by first|exact rfl|exact ⟨rfl,rfl⟩):RD Tryz.prog f n tb B0 S R k ops G I0 (fuel+1) l env H nx m I :=
 RD.step (nx:=nx0) tk ho hr hw hs heq hob hG hI hv h
theorem opS {o:Oper} {v:Option EV} (nx0 i:Nat) (h:RD Tryz.prog f n tb B0 S R k ops G I0 fuel (l.set i true) env' H' nx' m' I) (ho:ops.toList[i]? = some o:=by exact rfl) (hw:wantE env ops o.guard = .yes:=by exact rfl)
  (hs:stepOp tb env H nx0 m [] [] o.op=some (v,H',nx',m',ob,eq):=by exact rfl) (heq:AllEqn eq:=by exact rfl) (hob:AllOb ob:=by first|trivial|(simp;done)) (hG:SubH G H':=by exact rfl) (hI:∀ w,I w->I0 w:=by first|exact λ_ h=>h|exact λ_ h=>h.1|exact λ_ h=>h.1.1|exact λ_ h=>h.1.1.1|exact λ_ h=>h.1.1.1.1)
  (hv:OutOk n v o.dst env env':=by first|exact rfl|exact ⟨rfl,rfl⟩) :
  ∀ w a,w.heap.size=m->St tb B0 H I w->Agree n a (kn env)->wpOp Tryz.prog ops (QD Tryz.prog f n S R k) i (λa' w'=>St tb B0 G I0 w'/\wpAnyH Tryz.prog .any ops (QD Tryz.prog f n S R k) (St tb B0 G I0) fuel (l.set i true).toArray a' w') a w :=
 opD_step (nx:=nx0) tk ho hw hs heq hob hG hI hv h
theorem RD.e (h:RH Tryz.prog f n tb B0 S R k env H nx m I) (hr:fuel=0 ∨ Region.ready .any ops l.toArray=[]:=by exact .inl rfl) (hall:Region.ready .any ops l.toArray=[]:=by kernel_rfl):RD Tryz.prog f n tb B0 S R k ops G I0 fuel l env H nx m I :=
 RD.done hr hall h
theorem RH.w {id:Nat} (G:Heap) (nops:Nat) (h:RD Tryz.prog f n tb B0 S R k ops G I nops (List.replicate nops false) env H nx m I) (hm:Tryz.prog.follows .mixedOrders=true:=by exact rfl) (hG:SubH G H:=by exact rfl) (hn:ops.size=nops:=by exact rfl) (hnd:noDefer ops=true:=by exact rfl) :
  RH Tryz.prog f n tb B0 S R (.code (.region id ops true) :: k) env H nx m I:=RH.draw hm G hG nops hn hnd h
end
end Go.Proofs.YtbfjmimiigjenaaGreatDoor.V
