/-
Lemmas. No condition.
-/
import Derived.Test.YtbfjmimiigjenaaGreatDoorKG13
set_option linter.unusedVariables false
set_option linter.unusedSimpArgs false
namespace Go.Proofs.YtbfjmimiigjenaaGreatDoor
open Go V RowKit
theorem zeroCells_one (z:Array Value) (hz:0 < z.size) (h:∀ u ∈ z.toList,u.oneCell'=true) (n:Nat):∀ u ∈ (Builtin.zeroCells z n).toList,u.oneCell'=true:=by
 intro u hu
 unfold Builtin.zeroCells at hu
 simp only [Array.toList_map,List.mem_map] at hu
 obtain ⟨i,_,rfl⟩:=hu
 have hlt:i % z.size < z.size:=Nat.mod_lt _ hz
 rw [getElem!_pos z (i % z.size) hlt]
 exact h _ (by simp)
theorem V.St.subL {tb:TT} {B0:Nat} {H:Heap} {I:World->Prop} {w:World} {G:Heap} (h:St tb B0 H I w) (hs:∀ i x,loH G i=some x->loH H i=some x):St tb B0 G I w where
 base:=h.base
 holds i x hx:=h.holds i x (hs i x hx)
 apart i j x y hij hx hy:=h.apart i j x y hij (hs i x hx) (hs j y hy)
 keeps w' ha:=h.keeps w' (ha.mono λk _=>by rintro ⟨i,x,hx,hb⟩;exact ⟨i,x,hs i x hx,hb⟩)
theorem V.OpGo.clearK {α:Type} {κ:Kd α} {tb:TT} {P:Program} {B0 n:Nat} {env:SEnv} {H:Heap} {m:Nat} {I:World->Prop} {A:Option Addr} {c:Nat} {l:List α} {id:Nat} {ty:TypeId} {ps:String} {af:Array Edge} {gd:Option (Nat × Bool)}
  {x:Operand} {T:TypeId} {q:Nat} {inf:TypeInfo} {z:Value} {ex:EV} (hk:tb.Ok P) (hx:evE env x=some ex) (hxv:ex.v = .slice A q c) (hq:q=l.length)
  (hT:tb.und T=some (.slice κ.T)) (hH:loH H id=rowE κ A c l) (hi:tb.get κ.T=some inf) (hz:inf.zero=some z) (h1:∀ u ∈ z.cells.toList,u.oneCell'=true) (hs:z.cells.size=κ.sz) (h0:0 < κ.sz) :
  OpGo P tb B0 n ⟨none,.call ⟨.builtin .clear,#[x],#[T]⟩,ty,ps,af,gd⟩ env H m I (λ_:Unit=>env) (λ_=>(id,none) :: H) (λ_=>I):=by
 subst hq
 have hdone:∀ {w':World} {y:Option HE},St tb B0 ((id,y) :: H) I w'->St tb B0 ((id,none) :: H) I w':=fun {w' y} h=>(h.give id).subL λi e he=>by
  rw [lookH_cons] at he ⊢
  by_cases hii:id=i
  ·rw [if_pos hii] at he;cases he
  ·rw [if_neg hii] at he ⊢;rw [lookH_cons,if_neg hii];exact he
 cases l with
 | nil =>
  intro w a hm hst ha
  have hu:=run_underlying (hk.und hT) w
  have hxv:a.eval x = .slice A 0 c:=(ev_run ha hx).trans hxv
  have hrun:(Builtin.clear_ #[T] ty #[.slice A 0 c]).run P w = .ok (.tuple #[]) w:=by
   simp only [Builtin.clear_,Sem.run_bind,List.getElem?_toArray,List.getElem?_cons_zero,hu,Result.andThen_ok]
   cases A<;>rfl
  unfold Oper.wp
  have:(execOp a.eval ⟨none,.call ⟨.builtin .clear,#[x],#[T]⟩,ty,ps,af,gd⟩).run P w = .ok (.value (.tuple #[])) w:=by
   simp only [execOp,resolve,invoke,builtin,Sem.run_bind,Sem.run_pure,Result.andThen_ok,List.map_toArray,List.map_cons,List.map_nil,hxv,hrun]
  rw [this]
  exact ⟨(),ha,by omega,hst.give id⟩
 | cons y r =>
  intro w a hm hst ha
  have ho:=hst.holds id _ hH
  rcases ho.2 with ⟨_,hb⟩|⟨g,cap,cur,hv,hg,hh,hc,hmx,hcs,ht⟩
  ·simp at hb
  ·injection hv with e1 e2 e3
   subst e1;subst e3
   have hst':St tb B0 ((id,some (.obj g (.cells cur κ.T))) :: H) I w:=by
    refine hst.turn id _ (.obj g (.cells cur κ.T)) hH (Agr.refl _ _) ⟨hg,hh⟩ λk hk=>.inl ?_
    exact hk
   have hzl:(Builtin.zeroCells z.cells (r.length+1)).toList.length=(r.length+1)*κ.sz:=by simp [Builtin.zeroCells,hs]
   have hgo:=OpGo.clearRaw (P:=P) (tb:=tb) (B0:=B0) (n:=n) (I:=I) (m:=m) (env:=env) (H:=(id,some (.obj g (.cells cur κ.T))) :: H) (id:=id) (g:=g) (off:=0) (q:=r.length) (c:=c) (cur:=cur) (e:=κ.T) (x:=x) (T:=T) (ty:=ty) (ps:=ps) (af:=af) (gd:=gd) (i:=inf) (z:=z)
    hk hT hi hz hx hxv (by rw [lookH_cons,if_pos rfl]) (zeroCells_one _ (by omega) h1 _) (by
     have:(r.length+1)*κ.sz ≤ c*κ.sz:=Nat.mul_le_mul_right _ hc
     rw [hzl,hcs];omega)
   refine Oper.wp_mono ?_ (hgo w a hm hst' ha)
   rintro a' w' ⟨_,ha',hm',hst''⟩
   refine ⟨(),ha',hm',?_⟩
   refine hdone (y:=some (.obj g (.cells (putC cur 0 (Builtin.zeroCells z.cells (r.length+1)).toList) κ.T))) (hst''.subL λi e he=>?_)
   rw [lookH_cons] at he ⊢
   by_cases hii:id=i
   ·rw [if_pos hii] at he ⊢;exact he
   ·rw [if_neg hii] at he ⊢;rw [lookH_cons,if_neg hii];exact he
end Go.Proofs.YtbfjmimiigjenaaGreatDoor
