/-
Lemmas. No condition.
-/
import Derived.Test.YtbfjmimiigjenaaGreatDoorKVMake
set_option linter.unusedVariables false
set_option linter.unusedSectionVars false
set_option linter.unusedSimpArgs false
namespace Go.Proofs.YtbfjmimiigjenaaGreatDoor.V
open Go Go.RowKit
section
variable {P:Program} {n:Nat} {tb:TT} {B0:Nat} {I:World->Prop} {H:Heap} {m:Nat} {env:SEnv}
theorem OpGo.appendMakeR (hk:tb.Ok P) {d id:Nat} {s x:Operand} {T T2 e:TypeId} {ty:TypeId} {ps:String} {af:Array Edge} {gd:Option (Nat × Bool)} {es:EV} {b:Addr} {sl cap q:Nat} {i:TypeInfo} {z:Value} {olds:List Value}
  (hd:Nat.blt d n=true) (hT:tb.und T=some (.slice e)) (hT2:tb.und T2=some (.int .i64)) (hi:tb.get e=some i) (hz:i.zero=some z) (hsz:0 < i.size) (hzs:z.cells.size=i.size)
  (hs:evE env s=some es) (hsv:es.v = .slice (some b) sl cap) (hx:evE env x=some (.av (.val (.int .i64 q))))
  (hlo:olds.length=sl*i.size) (hold:∀ w,St tb B0 H I w->∀ j v,olds[j]? = some v->w.cell? (b.add j)=some v) (hq:0 < q) (hg:cap < sl+q) (hb:(sl+q)*i.bytes ≤ 140737488355328) (h63:sl+q ≤ maxLen) :
  OpGo P tb B0 n ⟨some d,.call ⟨.builtin .append,#[s,x],#[T,T2]⟩,ty,ps,af,gd⟩ env H m I (λy:Nat=>(d,.av (.row id (.slice (some ⟨m,0,none⟩) (sl+q) y))) :: env)
   (λy=>(id,some (.row (.slice (some ⟨m,0,none⟩) (sl+q) y) e i.size (sl+q) (olds ++ (Builtin.zeroCells z.cells q).toList))) :: H) (λ_=>I):=by
 intro w a hm hst ha
 have hdn:d < n:=Nat.lt_of_lt_of_le (Nat.lt_succ_self d) (Nat.le_of_ble_eq_true hd)
 have hmx:sl+q ≤ 9223372036854775807:=by simp only [maxLen] at h63;omega
 have hrun:=run_append_make (P:=P) w T T2 ty e i z (hk.und hT) (hk.und hT2) (hk.get hi) hz hsz b sl cap olds hlo (hold w hst) q hq hg (by omega) (growslice_fits hg hb)
  (Nat.le_trans (Nat.mul_le_mul_right _ (Nat.le_add_left q sl)) (by omega))
 have hsv':a.eval s = .slice (some b) sl cap:=(ev_run ha hs).trans hsv
 have hxv':a.eval x = .int .i64 q:=ev_run ha hx
 have hge:=grownCap_ge w (sl+q) cap e
 have hle:=grownCap_le_maxLen w (sl+q) cap e h63
 unfold Oper.wp
 have:(execOp a.eval ⟨some d,.call ⟨.builtin .append,#[s,x],#[T,T2]⟩,ty,ps,af,gd⟩).run P w = .ok (.value (.slice (some ⟨w.heap.size,0,none⟩) (sl+q) (grownCap w (sl+q) cap e)))
   (w.drew.alloc (.cells (olds.toArray ++ Builtin.zeroCells z.cells q ++ Builtin.zeroCells z.cells (grownCap w (sl+q) cap e - (sl+q))) e)):=by
  simp only [execOp,resolve,invoke,builtin,Sem.run_bind,Sem.run_pure,Result.andThen_ok,List.map_toArray,List.map_cons,List.map_nil,hsv',hxv',hrun]
 rw [this]
 subst hm
 have hd1:=hst.ext (drew_ext w)
 have hlen:(olds ++ (Builtin.zeroCells z.cells q).toList).length=(sl+q)*i.size:=by
  rw [List.length_append,hlo,Array.length_toList,size_zeroCells,hzs,Nat.add_mul]
 have hp:=hd1.push (ext_alloc w.drew (.cells (olds.toArray ++ Builtin.zeroCells z.cells q ++ Builtin.zeroCells z.cells (grownCap w (sl+q) cap e - (sl+q))) e)) id
  (.row (.slice (some ⟨w.heap.size,0,none⟩) (sl+q) (grownCap w (sl+q) cap e)) e i.size (sl+q) (olds ++ (Builtin.zeroCells z.cells q).toList))
  ⟨hlen,.inr ⟨w.heap.size,grownCap w (sl+q) cap e,_,rfl,hst.base,heap_alloc_new w.drew _,hge,hle,by
   simp only [Array.size_append,List.size_toArray,size_zeroCells,hzs,hlo,← Nat.add_mul]
   congr 1;omega,by
   simp only [Array.toList_append]
   exact List.take_left' hlen⟩⟩ (λk hk=>by
   have:w.heap.size=k:=by injection hk
   subst this;exact Nat.le_refl _)
 refine ⟨grownCap w (sl+q) cap e,?_,by simp,hp⟩
 rw [kn_cons];exact ha.put hdn _
end
end Go.Proofs.YtbfjmimiigjenaaGreatDoor.V
