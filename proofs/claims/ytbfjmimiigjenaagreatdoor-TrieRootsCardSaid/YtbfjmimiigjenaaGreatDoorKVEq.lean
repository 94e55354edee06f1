/-
Lemmas. No condition.
-/
import Derived.Laws.StructEq
import Derived.Test.YtbfjmimiigjenaaGreatDoorKVData
set_option linter.unusedVariables false
set_option linter.unusedSimpArgs false
namespace Go.Proofs.YtbfjmimiigjenaaGreatDoor.V
open Go
theorem part_u8 {P:Program} (w:World) {e:TypeId} (he:P.underlying e=some (.int .u8)) (xs:List UInt8) (k:Nat) (hk:k < xs.length):(part e (xs.map u8V).toArray k).run P w = .ok (u8V xs[k]) w:=by
 have hagg:(isAgg e).run P w = .ok false w:=by
  unfold isAgg
  rw [Sem.run_bind,run_underlying he w]
  rfl
 unfold part
 rw [Sem.run_bind,hagg,Result.andThen_ok]
 simp [hk]
theorem eq_loop {P:Program} (w:World) (d:Nat) {e:TypeId} (he:P.underlying e=some (.int .u8)) (xs ys:List UInt8) (n:Nat) (hx:xs.length=n) (hy:ys.length=n):∀ (m k:Nat),k+m=n →
  (forIn (List.range' k m 1) ((none,()):Option Bool × Unit) λi _=>(do
      let a ← part e (xs.map u8V).toArray i
      let b ← part e (ys.map u8V).toArray i
      let r ← Op.equalIn (d+1) e a b
      if (!r)=true then pure (ForInStep.done (some false,())) else pure (ForInStep.yield (none,())):Sem _)).run P w = .ok (if xs.drop k=ys.drop k then (none,()) else (some false,())) w
 | 0,k,hk=>by
  have h1:xs.drop k=[]:=List.drop_eq_nil_of_le (by omega)
  have h2:ys.drop k=[]:=List.drop_eq_nil_of_le (by omega)
  rw [h1,h2];rfl
 | m+1,k,hk=>by
  have kx:k < xs.length:=by omega
  have ky:k < ys.length:=by omega
  rw [List.range'_succ,List.forIn_cons]
  simp only [Sem.run_bind,part_u8 w he xs k kx,part_u8 w he ys k ky,Result.andThen_ok]
  have hq:(Op.equalIn (d+1) e (u8V xs[k]) (u8V ys[k])).run P w = .ok (decide (xs[k]=ys[k])) w:=by
   unfold u8V
   rw [run_equalIn_int w d e .u8 .u8 _ _ he]
   congr 1
   rw [Bool.eq_iff_iff,beq_iff_eq,decide_eq_true_iff]
   constructor
   ·intro h;exact UInt8.toNat_inj.1 (by omega)
   ·intro h;rw [h]
  rw [hq,List.drop_eq_getElem_cons kx,List.drop_eq_getElem_cons ky]
  by_cases hxy:xs[k]=ys[k]
  ·simp only [Result.andThen_ok,hxy,decide_true,Bool.not_true,Bool.false_eq_true,if_false,Sem.run_pure,List.cons.injEq,true_and]
   exact eq_loop w d he xs ys n hx hy m (k+1) (by omega)
  ·have hne:¬ (xs[k] :: xs.drop (k+1)=ys[k] :: ys.drop (k+1)):=λh=>hxy (by injection h)
   rw [if_neg hne]
   simp [hxy]
theorem eq_bytes {P:Program} (w:World) (d n:Nat) {t e:TypeId} (ht:P.underlying t=some (.array n e)) (he:P.underlying e=some (.int .u8)) (hs:(sizeOf e).run P w = .ok 1 w) (xs ys:List UInt8) (hx:xs.length=n) (hy:ys.length=n) :
  (Op.equalIn (d+2) t (.agg (xs.map u8V).toArray) (.agg (ys.map u8V).toArray)).run P w = .ok (decide (xs=ys)) w:=by
 rw [show d+2=(d+1)+1 from rfl,Op.equalIn]
 simp only [Sem.run_bind,run_underlying ht,Result.andThen_ok,hs,Nat.mul_one]
 rw [Std.Legacy.Range.forIn_eq_forIn_range']
 have h:=eq_loop w d he xs ys n hx hy n 0 (by omega)
 have hr:List.range' ([:n]:Std.Legacy.Range).start ([:n]:Std.Legacy.Range).size ([:n]:Std.Legacy.Range).step=List.range' 0 n 1:=by
  simp [Std.Legacy.Range.size]
 rw [hr,h]
 simp only [List.drop_zero,Result.andThen_ok]
 by_cases hxy:xs=ys<;>simp [hxy]
theorem eq_sum (w:World) (d:Nat) (a b:Sum):(Op.equalIn (d+2) 40 (sumV a) (sumV b)).run Tryz.prog w = .ok (decide (a=b)) w:=by
 unfold sumV
 rw [eq_bytes w d 32 (tk.und und_sum) (tk.und (d:=.int .u8) rfl) (run_tsize tk (i:=Tryz.t5) rfl) a.l b.l a.h b.h]
 congr 2
 obtain ⟨x,hx⟩:=a
 obtain ⟨y,hy⟩:=b
 simp
theorem eq_str (w:World) (d:Nat) (a b:Str):(Op.equalIn (d+1) 9 (strV a) (strV b)).run Tryz.prog w = .ok (decide (a=b)) w:=by
 rw [run_equalIn_string w d _ _ _ (tk.und rfl),bytes_toList,bytes_toList,beq_bytes]
theorem part_one {P:Program} (w:World) {e:TypeId} {d:TypeDesc} (he:P.underlying e=some d) (hd:d.isRow=false) (cs:List Value) (k:Nat) (v:Value) (hk:cs[k]? = some v):(part e cs.toArray k).run P w = .ok v w:=by
 have hagg:(isAgg e).run P w = .ok false w:=by
  unfold isAgg
  rw [Sem.run_bind,run_underlying he w]
  cases d<;>first|rfl|cases hd
 unfold part
 rw [Sem.run_bind,hagg,Result.andThen_ok]
 simp [hk]
theorem part_row {P:Program} (w:World) {e:TypeId} {d:TypeDesc} {sz:Nat} (he:P.underlying e=some d) (hd:d.isRow=true) (hs:(sizeOf e).run P w = .ok sz w) (cs:List Value) (k:Nat):(part e cs.toArray k).run P w = .ok (.agg ((cs.take (k+sz)).drop k).toArray) w:=by
 have hagg:(isAgg e).run P w = .ok true w:=by
  unfold isAgg
  rw [Sem.run_bind,run_underlying he w]
  cases d<;>first|rfl|cases hd
 unfold part
 rw [Sem.run_bind,hagg,Result.andThen_ok,if_pos rfl,Sem.run_bind,hs,Result.andThen_ok]
 show Result.ok (Value.agg _) w=_
 congr 2
 apply Array.ext'
 rw [Array.toList_extract]
 simp [List.extract,List.drop_take]
theorem eq_two {P:Program} (w:World) (d:Nat) (f1 f2:Field) (h1:f1.name ≠ "_") (h2:f2.name ≠ "_") (xs ys:Array Value) {a1 b1 a2 b2:Value} {p q:Bool}
  (pa:(part f1.type xs f1.offset).run P w = .ok a1 w) (pb:(part f1.type ys f1.offset).run P w = .ok b1 w) (pe:(Op.equalIn d f1.type a1 b1).run P w = .ok p w)
  (qa:(part f2.type xs f2.offset).run P w = .ok a2 w) (qb:(part f2.type ys f2.offset).run P w = .ok b2 w) (qe:(Op.equalIn d f2.type a2 b2).run P w = .ok q w) :
  (Op.eqFields d xs ys [f1,f2]).run P w = .ok (p && q) w:=by
 simp only [Op.eqFields,Sem.run_ite]
 rw [if_pos h1]
 simp only [Sem.run_bind,pa,pb,pe,Result.andThen_ok]
 cases p
 ·simp
 ·simp only [Bool.not_true,Bool.false_eq_true,if_false,Bool.true_and,Sem.run_ite]
  rw [if_pos h2]
  simp only [Sem.run_bind,qa,qb,qe,Result.andThen_ok]
  cases q<;>simp
theorem entry_cells (e:Entry):(EV.st (entryF e)).v = .agg (strV e.path :: (e.sum.l.map u8V)).toArray:=by
 simp [EV.v,entryF,AV.v,flat,Value.cells,sumV]
theorem op_eq {n:Nat} {env:SEnv} {a:Act} (ha:Agree n a (kn env)) {o:Oper} {T T':TypeId} {x y:Operand} {u v:EV} {b:Bool} {w:World} (hop:o.op = .binOp .eql T x y T') (hx:evE env x=some u) (hy:evE env y=some v)
  {xs ys:Array Value} (hu:u.v = .agg xs) (hv:v.v = .agg ys) (hg:Tryz.prog.eqGuardType Tryz.prog.depth T=false) (h:(Op.equalIn 10000 T (.agg xs) (.agg ys)).run Tryz.prog w = .ok b w) :
  (execOp a.eval o).run Tryz.prog w = .ok (.value (EV.av (.val (.bool b))).v) w:=by
 simp only [execOp,hop,ev_run ha hx,ev_run ha hy,hu,hv]
 rw [Sem.run_bind,Sem.run_bind,run_eqGuard_agg w .eql T x y xs ys hg,Result.andThen_ok,run_eql_struct w T xs ys,h]
 rfl
theorem op_neq {n:Nat} {env:SEnv} {a:Act} (ha:Agree n a (kn env)) {o:Oper} {T T':TypeId} {x y:Operand} {u v:EV} {b:Bool} {w:World} (hop:o.op = .binOp .neq T x y T') (hx:evE env x=some u) (hy:evE env y=some v)
  {xs ys:Array Value} (hu:u.v = .agg xs) (hv:v.v = .agg ys) (hg:Tryz.prog.eqGuardType Tryz.prog.depth T=false) (h:(Op.equalIn 10000 T (.agg xs) (.agg ys)).run Tryz.prog w = .ok b w) :
  (execOp a.eval o).run Tryz.prog w = .ok (.value (EV.av (.val (.bool (!b)))).v) w:=by
 simp only [execOp,hop,ev_run ha hx,ev_run ha hy,hu,hv]
 rw [Sem.run_bind,Sem.run_bind,run_eqGuard_agg w .neq T x y xs ys hg,Result.andThen_ok,run_neq_struct w T xs ys,h]
 rfl
end Go.Proofs.YtbfjmimiigjenaaGreatDoor.V
