/-
Lemmas. No condition.
-/
import Derived.Lib.SplitLaws
import Derived.Test.YtbfjmimiigjenaaGreatDoorKVRaw
import Derived.Test.YtbfjmimiigjenaaGreatDoorKVZ
set_option linter.unusedVariables false
set_option linter.unusedSimpArgs false
namespace Go.Proofs.YtbfjmimiigjenaaGreatDoor
open V
def low (b:UInt8):Bool:=decide (97 ≤ b.toNat/\b.toNat ≤ 122)
def words:Str->List Str
 | []=>[[]]
 | b :: r=>if b=46 then [] :: words r else match words r with
  | []=>[[b]]
  | w :: ws=>(b :: w) :: ws
def grow (l:List Str) (b:UInt8):List Str:=l.set (l.length - 1) (l.getD (l.length - 1) [] ++ [b])
def okB (b:UInt8):Bool:=decide (b=46) || low b
def okW (w:Str):Bool:=decide (1 ≤ w.length/\w.length ≤ 10)
def pathOk (t:Str):Bool:=t.all okB && decide ((words t).length ≤ 5) && (words t).all okW
def pathsE (l:List Str):Int:=if l.all pathOk=true then 0 else 4
def leS (a b:Str):Bool:=Go.Op.bytesLess a b || decide (a=b)
theorem less_irrefl:∀ a:Str,Go.Op.bytesLess a a=false
 | []=>rfl
 | x :: r=>by simp [Go.Op.bytesLess,less_irrefl r]
theorem less_trans:∀ {a b c:Str},Go.Op.bytesLess a b=true->Go.Op.bytesLess b c=true->Go.Op.bytesLess a c=true
 | [],[],_,h,_=>by simp [Go.Op.bytesLess] at h
 | _ :: _,[],_,h,_=>by simp [Go.Op.bytesLess] at h
 | [],_ :: _,[],_,h=>by simp [Go.Op.bytesLess] at h
 | [],_ :: _,_ :: _,_,_=>rfl
 | _ :: _,_ :: _,[],_,h=>by simp [Go.Op.bytesLess] at h
 | x :: a,y :: b,z :: c,h1,h2=>by
  simp only [Go.Op.bytesLess,Bool.or_eq_true,decide_eq_true_eq,Bool.and_eq_true,beq_iff_eq,UInt8.lt_iff_toNat_lt] at h1 h2 ⊢
  rcases h1 with h1|⟨rfl,h1⟩
  ·rcases h2 with h2|⟨rfl,h2⟩
   ·exact .inl (by omega)
   ·exact .inl h1
  ·rcases h2 with h2|⟨rfl,h2⟩
   ·exact .inl h2
   ·exact .inr ⟨rfl,less_trans h1 h2⟩
theorem less_total:∀ {a b:Str},Go.Op.bytesLess a b=false->Go.Op.bytesLess b a=false->a=b
 | [],[],_,_=>rfl
 | [],_ :: _,h,_=>by simp [Go.Op.bytesLess] at h
 | _ :: _,[],_,h=>by simp [Go.Op.bytesLess] at h
 | x :: a,y :: b,h1,h2=>by
  simp only [Go.Op.bytesLess,Bool.or_eq_false_iff,decide_eq_false_iff_not,Bool.and_eq_false_imp,beq_iff_eq,UInt8.lt_iff_toNat_lt] at h1 h2
  have hxy:x=y:=UInt8.toNat_inj.1 (by omega)
  subst hxy
  rw [less_total (h1.2 rfl) (h2.2 rfl)]
theorem leS_false {a b:Str} (h:leS a b=false):Go.Op.bytesLess b a=true:=by
 unfold leS at h
 simp only [Bool.or_eq_false_iff,decide_eq_false_iff_not] at h
 cases hb:Go.Op.bytesLess b a with
 | true=>rfl
 | false=>exact absurd (less_total h.1 hb) h.2
def zeroE:Entry:=⟨[],Sum.zero⟩
def pathAt (l:List Entry) (i:Nat):Str:=(l.getD i zeroE).path
def rises (l:List Entry):Bool:=(List.range (l.length - 1)).all λi=>!leS (pathAt l (i+1)) (pathAt l i)
def before (t:Str) (x:Entry):Bool:=Go.Op.bytesLess x.path t
def posOf (l:List Entry) (t:Str):Nat:=(l.takeWhile (before t)).length
def isAt (l:List Entry) (t:Str):Bool:=decide (posOf l t < l.length) && decide (pathAt l (posOf l t)=t)
theorem tw_le {α:Type} (p:α->Bool) (l:List α):(l.takeWhile p).length ≤ l.length:=by
 induction l with
 | nil=>simp
 | cons x r ih=>rw [List.takeWhile_cons];split<;>simp;exact ih
def goodE (x:Entry):Bool:=pathOk x.path
def listE (l:List Entry):Int:=if 300 < l.length then 12 else if l.all goodE=true then (if rises l=true then 0 else 15) else 4
def checkE (t y:List Entry):Int:=if listE t=0 then listE y else listE t
open Go V
def MaxLen (w:World):Prop:=∃ m,w.cell? ⟨3,0,none⟩=some (.int .i64 m)
theorem MaxLen.ext {w w':World} (h:MaxLen w) (he:Ext w w'):MaxLen w':=by
 obtain ⟨m,hm⟩:=h
 have hlt:3 < w.heap.size:=World.block_lt_of_cell? w ⟨3,0,none⟩ hm
 exact ⟨m,by rw [← hm];exact World.cell?_of_block (he.block 3 hlt)⟩
theorem equalS_spec (w:World) (A B:Option Addr) (ca cb:Nat) (la lb:List Str) (ha:Sl kStr w A ca la) (hb:Sl kStr w B cb lb) :
  Gives Tryz.prog 28 [.slice A la.length ca,.slice B lb.length cb] w (boE (decide (la=lb))):=by
 have sa:=ha.small
 have hl:lim=140737488351232:=rfl
 refine enterH tk [(0,slE A la.length ca),(1,slE B lb.length cb)] Tryz.func28 rfl Tryz.ntmps28 rfl rfl ?_
 by_cases hlen:la.length=lb.length
 ·refine RH.adv tk [false] rfl rfl (by simp [hlen]<;>omega) ?_
  refine RH.loop (α:=Nat) (λi=>[(0,slE A la.length ca),(1,slE B lb.length cb),(13,intE i),(12,intE la.length)]) (λ_=>[]) (λi w'=>Ext w w'/\i ≤ la.length/\la.take i=lb.take i) (λi=>la.length - i) 0
   rfl rfl (λw' h=>⟨h,Nat.zero_le _,rfl⟩) ?_
  intro i m
  refine RH.pure (λw' h=>h.2) λ⟨hi,hpre⟩=>?_
  by_cases hlt:i < la.length
  ·have hltb:i < lb.length:=by omega
   refine RH.a [true] ?_
   refine RH.w [] 9 ?_
   refine RD.b [] rfl rfl (by simp [ha.ptr hlt,hb.ptr hltb]<;>omega) ?_
   refine RD.ld 3 (strE la[i]) rfl rfl (λw' h=>(ha.ext h.1).load hlt) ?_
   refine RD.ld 7 (strE lb[i]) rfl rfl (λw' h=>(hb.ext h.1).load hltb) ?_
   refine RD.a [] ?_
   refine RD.e ?_
   by_cases he:la[i]=lb[i]
   ·refine RH.adv tk [false] rfl rfl (by simp [he]<;>omega) ?_
    refine RH.again (i+1) (.head _) rfl rfl (by omega) λw' h=>⟨h.1,by omega,?_⟩
    rw [List.take_succ_eq_append_getElem hlt,List.take_succ_eq_append_getElem hltb,hpre,he]
   ·refine RH.adv tk [true] rfl rfl (by simp [he]<;>omega) ?_
    refine RH.ret1 Tryz.func28 rfl rfl λw' hst=>⟨?_,hst.fact.1⟩
    have:la ≠ lb:=λe=>he (by subst e;rfl)
    simp [this,EV.v,AV.v]
  ·refine RH.a [false] ?_
   refine RH.ret1 Tryz.func28 rfl rfl λw' hst=>⟨?_,hst.fact.1⟩
   have:la=lb:=by
    rw [← List.take_of_length_le (l:=la) (i:=i) (by omega),hpre,List.take_of_length_le (by omega)]
   simp [this,EV.v,AV.v]
 ·refine RH.adv tk [true] rfl rfl (by simp [hlen]<;>omega) ?_
  refine RH.ret1 Tryz.func28 rfl rfl λw' hst=>⟨?_,hst.fact⟩
  have:la ≠ lb:=λe=>hlen (by rw [e])
  simp [this,EV.v,AV.v]
theorem equalD_spec (w:World) (A B:Option Addr) (ca cb:Nat) (la lb:List Sum) (ha:Sl kSum w A ca la) (hb:Sl kSum w B cb lb) :
  Gives Tryz.prog 58 [.slice A la.length ca,.slice B lb.length cb] w (boE (decide (la=lb))):=by
 have sa:=ha.small
 have hl:lim=140737488351232:=rfl
 refine enterH tk [(0,slE A la.length ca),(1,slE B lb.length cb)] Tryz.func58 rfl Tryz.ntmps58 rfl rfl ?_
 by_cases hlen:la.length=lb.length
 ·refine RH.adv tk [false] rfl rfl (by simp [hlen]<;>omega) ?_
  refine RH.loop (α:=Nat) (λi=>[(0,slE A la.length ca),(1,slE B lb.length cb),(13,intE i),(12,intE la.length)]) (λ_=>[]) (λi w'=>Ext w w'/\i ≤ la.length/\la.take i=lb.take i) (λi=>la.length - i) 0
   rfl rfl (λw' h=>⟨h,Nat.zero_le _,rfl⟩) ?_
  intro i m
  refine RH.pure (λw' h=>h.2) λ⟨hi,hpre⟩=>?_
  by_cases hlt:i < la.length
  ·have hltb:i < lb.length:=by omega
   refine RH.a [true] ?_
   refine RH.w [] 9 ?_
   refine RD.b [] rfl rfl (by simp [ha.ptr hlt,hb.ptr hltb]<;>omega) ?_
   refine RD.ld 3 (sumE la[i]) rfl rfl (λw' h=>(ha.ext h.1).load hlt) ?_
   refine RD.ld 7 (sumE lb[i]) rfl rfl (λw' h=>(hb.ext h.1).load hltb) ?_
   refine RD.r 8 (boE (!decide (la[i]=lb[i]))) rfl rfl (λw' a h hag=>op_neq hag rfl rfl rfl rfl rfl (by kernel_rfl) (eq_sum w' 9998 _ _)) ?_
   refine RD.e ?_
   by_cases he:la[i]=lb[i]
   ·refine RH.adv tk [false] rfl rfl (by simp [he]<;>omega) ?_
    refine RH.again (i+1) (.head _) rfl rfl (by omega) λw' h=>⟨h.1,by omega,?_⟩
    rw [List.take_succ_eq_append_getElem hlt,List.take_succ_eq_append_getElem hltb,hpre,he]
   ·refine RH.adv tk [true] rfl rfl (by simp [he]<;>omega) ?_
    refine RH.ret1 Tryz.func58 rfl rfl λw' hst=>⟨?_,hst.fact.1⟩
    have:la ≠ lb:=λe=>he (by subst e;rfl)
    simp [this,EV.v,AV.v]
  ·refine RH.a [false] ?_
   refine RH.ret1 Tryz.func58 rfl rfl λw' hst=>⟨?_,hst.fact.1⟩
   have:la=lb:=by
    rw [← List.take_of_length_le (l:=la) (i:=i) (by omega),hpre,List.take_of_length_le (by omega)]
   simp [this,EV.v,AV.v]
 ·refine RH.adv tk [true] rfl rfl (by simp [hlen]<;>omega) ?_
  refine RH.ret1 Tryz.func58 rfl rfl λw' hst=>⟨?_,hst.fact⟩
  have:la ≠ lb:=λe=>hlen (by rw [e])
  simp [this,EV.v,AV.v]
def idxOf {α:Type} (p:α->Bool):List α->Nat->Int
 | [],_=>-1
 | x :: r,i=>if p x=true then i else idxOf p r (i+1)
theorem idxOf_ge {α:Type} (p:α->Bool):∀ (l:List α) (i:Nat),0 ≤ idxOf p l i ↔ l.any p=true
 | [],i=>by simp [idxOf]
 | x :: r,i=>by
  unfold idxOf
  by_cases h:p x=true
  ·simp [h]
  ·simp [h,idxOf_ge p r]
theorem idxOf_none {α:Type} (p:α->Bool):∀ (l:List α) (i:Nat),l.any p=false->idxOf p l i = -1
 | [],i,_=>rfl
 | x :: r,i,h=>by
  simp only [List.any_cons,Bool.or_eq_false_iff] at h
  unfold idxOf
  rw [if_neg (by simp [h.1]),idxOf_none p r (i+1) h.2]
theorem idxOf_at {α:Type} (p:α->Bool):∀ (l:List α) (i k:Nat) (h:k < l.length),(l.take k).any p=false->p l[k]=true->idxOf p l i=(i+k:Nat)
 | [],_,_,h,_,_=>by cases h
 | x :: r,i,0,_,_,h=>by
  have h:p x=true:=h
  unfold idxOf;rw [if_pos h];rfl
 | x :: r,i,k+1,hk,hn,h=>by
  simp only [List.take_succ_cons,List.any_cons,Bool.or_eq_false_iff] at hn
  unfold idxOf
  rw [if_neg (by simp [hn.1]),idxOf_at p r (i+1) k (by simpa using hk) hn.2 (by simpa using h)]
  congr 1;omega
structure Fun1 {α:Type} (κ:Kd α) (w:World) (g:FuncId) (f1 c1:List Value) (l:List α) (p:α->Bool):Prop where
 enter:∀ (xs:Array Value) w,(callFunc g xs).run Tryz.prog w = .ok (.enter g xs) w
 says:∀ x ∈ l,∀ u,Ext w u->Gives Tryz.prog g (f1 ++ [(κ.ev x).v] ++ c1) u (boE (p x))
theorem Fun1.ext {α:Type} {κ:Kd α} {w w':World} {g:FuncId} {f1 c1:List Value} {l:List α} {p:α->Bool} (h:Fun1 κ w g f1 c1 l p) (he:Ext w w'):Fun1 κ w' g f1 c1 l p :=
 ⟨h.enter,λx hx u hu=>h.says x hx u (he.trans' hu)⟩
theorem idxFuncS (w:World) (A:Option Addr) (c:Nat) (l:List Str) (h:Sl kStr w A c l) (g:FuncId) (f1 c1:List Value) (p:Str->Bool) (hf:Fun1 kStr w g f1 c1 l p) :
  Gives Tryz.prog 196 [.slice A l.length c,.func (.func g) f1.toArray c1.toArray] w (intE (idxOf p l 0)):=by
 have hl:lim=140737488351232:=rfl
 have hsm:=h.small
 refine enterH tk [(0,slE A l.length c),(1,.av (.val (.func (.func g) f1.toArray c1.toArray)))] Tryz.func196 rfl Tryz.ntmps196 rfl rfl ?_
 refine RH.a [] ?_
 refine RH.loop (α:=Nat) (λi=>[(0,slE A l.length c),(1,.av (.val (.func (.func g) f1.toArray c1.toArray))),(7,intE l.length),(8,intE i)]) (λ_=>[]) (λi w'=>Ext w w'/\i ≤ l.length/\(l.take i).any p=false) (λi=>l.length - i) 0
  rfl rfl (λw' h=>⟨h,Nat.zero_le _,rfl⟩) ?_
 intro i m
 refine RH.pure (λw' h=>h.2) λ⟨hi,hpre⟩=>?_
 by_cases hlt:i < l.length
 ·have hts:l.take (i+1)=l.take i ++ [l[i]]:=List.take_succ_eq_append_getElem hlt
  refine RH.adv tk [true] rfl rfl (by simp [h.ptr hlt]<;>omega) ?_
  refine RH.load (strE l[i]) rfl rfl rfl rfl (λw' h'=>(h.ext h'.1).load hlt) ?_
  refine RH.gives (g:=g) (f1:=f1) (c1:=c1) (boE (p l[i])) rfl rfl rfl rfl rfl hf.enter (λw' hst=>hf.says _ (List.getElem_mem hlt) w' hst.fact.1) ?_
  intro m' hm'
  by_cases hp:p l[i]=true
  ·refine RH.adv tk [true] rfl rfl (by simp [hp]<;>omega) ?_
   refine RH.ret1 Tryz.func196 rfl rfl λw' hst=>⟨?_,hst.fact.1⟩
   rw [idxOf_at p l 0 i hlt hpre hp,Nat.zero_add]
  ·refine RH.adv tk [false] rfl rfl (by simp [hp]<;>omega) ?_
   refine RH.again (i+1) (.head _) rfl rfl (by omega) λw' h=>⟨h.1,by omega,?_⟩
   rw [hts,List.any_append,hpre];simp [hp]
 ·rw [List.take_of_length_le (by omega)] at hpre
  refine RH.a [false] ?_
  refine RH.ret1 Tryz.func196 rfl rfl λw' hst=>⟨?_,hst.fact.1⟩
  rw [idxOf_none p l 0 hpre]
theorem containsFuncS (w:World) (A:Option Addr) (c:Nat) (l:List Str) (h:Sl kStr w A c l) (g:FuncId) (f1 c1:List Value) (p:Str->Bool) (hf:Fun1 kStr w g f1 c1 l p) :
  Gives Tryz.prog 118 [.slice A l.length c,.func (.func g) f1.toArray c1.toArray] w (boE (l.any p)):=by
 refine enterH tk [(0,slE A l.length c),(1,.av (.val (.func (.func g) f1.toArray c1.toArray)))] Tryz.func118 rfl Tryz.ntmps118 rfl rfl ?_
 refine RH.a [] ?_
 refine RH.gv (intE (idxOf p l 0)) rfl rfl rfl Tryz.call196 (λw' hst=>idxFuncS w' A c l (h.ext hst.fact) g f1 c1 p (hf.ext hst.fact)) ?_
 intro m' hm'
 refine RH.a [] ?_
 refine RH.ret1 Tryz.func118 rfl rfl λw' hst=>⟨?_,hst.fact⟩
 have:decide (0 ≤ idxOf p l 0)=l.any p:=by rw [Bool.eq_iff_iff];simp only [decide_eq_true_eq];exact idxOf_ge p l 0
 simp [this,EV.v,AV.v]
def Spc.at_ (s:Spc) (k:Nat):Row Entry:=if k=0 then s.t else s.y
theorem Spc.ok.at_ {w:World} {s:Spc} (h:s.ok w) (k:Nat):(Spc.at_ s k).ok kEntry w:=by
 unfold Spc.at_;split
 ·exact h.t
 ·exact h.y
def cmpS3 (a b:Str):Int:=if Op.bytesLess a b=true then -1 else if leS a b=true then 0 else 1
structure Fun2 (w:World) (g:FuncId) (f1 c1:List Value) (l:List Entry) (t:Str) (F:Entry->Int):Prop where
 enter:∀ (xs:Array Value) w,(callFunc g xs).run Tryz.prog w = .ok (.enter g xs) w
 says:∀ x ∈ l,∀ u,Ext w u->Gives Tryz.prog g (f1 ++ [(kEntry.ev x).v,strV t] ++ c1) u (intE (F x))
theorem cmpS3_neg (a b:Str):cmpS3 a b < 0 ↔ Op.bytesLess a b=true:=by
 unfold cmpS3
 split
 ·simp [*]
 ·split<;>simp [*]
theorem cmpS3_zero (a b:Str):cmpS3 a b=0 ↔ a=b:=by
 unfold cmpS3
 split
 ·rename_i h
  constructor
  ·intro h;cases h
  ·rintro rfl;rw [less_irrefl] at h;cases h
 ·rename_i h
  split
  ·rename_i h2
   unfold leS at h2
   simp only [Bool.or_eq_true,decide_eq_true_eq] at h2
   rcases h2 with h2|h2
   ·exact absurd h2 h
   ·simp [h2]
  ·rename_i h2
   constructor
   ·intro h;cases h
   ·rintro rfl;unfold leS at h2;simp at h2
abbrev atV (l:List Entry) (t:Str):EV:=.av (.val (.tuple #[intV (posOf l t),.bool (isAt l t)]))
theorem cloneD (A:Option Addr) (c:Nat) (l:List Sum) (hb:l.length*32 ≤ 140737488355328):Does Tryz.prog tb 38 [.slice A l.length c] [] (λu=>Sl kSum u A c l) (λy:Option Addr × Nat=>.slice y.1 l.length y.2) (λy=>[(0,rowE kSum y.1 y.2 l)]) (λ_ _ _=>True):=by
 refine Does.enter tk [(0,slE A l.length c)] Tryz.func38 rfl Tryz.ntmps38 rfl rfl 0 ?_
 intro B0 m K
 refine RH.pure (λu h=>And.intro h.2.nil h.2.small) λ⟨hnil,hsm⟩=>?_
 cases hA:A.isNone with
 | true =>
  have hn:A=none:=Option.isNone_iff_eq_none.1 hA
  obtain ⟨rfl,rfl⟩:=hnil hn
  subst hn
  refine RH.a [true] ?_
  refine RH.ret1 Tryz.func38 rfl rfl λw hst=>⟨(none,0),rfl,(hst.nilrow 0 kSum).out [] rfl rfl λu h=>⟨h.1,trivial⟩⟩
 | false =>
  refine RH.adv tk [false] rfl rfl ⟨hA,trivial⟩ ?_
  refine RH.apK (κ:=kSum) (id:=0) (l:=[]) (r:=l) rfl rfl rfl rfl rfl rfl elt_sum rfl rfl (λw hst=>hst.fact.2.lies) (by simp;omega) (by simp;omega) ?_
  intro A' c' m' hm'
  refine RH.a [] ?_
  refine RH.ret1 Tryz.func38 rfl rfl λw hst=>⟨(A',c'),rfl,hst.out [] rfl rfl λu h=>⟨h.1,trivial⟩⟩
theorem cloneB (A:Option Addr) (c:Nat) (l:List UInt8) (hb:l.length*1 ≤ 140737488355328):Does Tryz.prog tb 90 [.slice A l.length c] [] (λu=>Sl kBy u A c l) (λy:Option Addr × Nat=>.slice y.1 l.length y.2) (λy=>[(0,rowE kBy y.1 y.2 l)]) (λ_ _ _=>True):=by
 refine Does.enter tk [(0,slE A l.length c)] Tryz.func90 rfl Tryz.ntmps90 rfl rfl 0 ?_
 intro B0 m K
 refine RH.pure (λu h=>And.intro h.2.nil h.2.small) λ⟨hnil,hsm⟩=>?_
 cases hA:A.isNone with
 | true =>
  have hn:A=none:=Option.isNone_iff_eq_none.1 hA
  obtain ⟨rfl,rfl⟩:=hnil hn
  subst hn
  refine RH.a [true] ?_
  refine RH.ret1 Tryz.func90 rfl rfl λw hst=>⟨(none,0),rfl,(hst.nilrow 0 kBy).out [] rfl rfl λu h=>⟨h.1,trivial⟩⟩
 | false =>
  refine RH.adv tk [false] rfl rfl ⟨hA,trivial⟩ ?_
  refine RH.apK (κ:=kBy) (id:=0) (l:=[]) (r:=l) rfl rfl rfl rfl rfl rfl elt_byte rfl rfl (λw hst=>hst.fact.2.lies) (by simp;omega) (by simp;omega) ?_
  intro A' c' m' hm'
  refine RH.a [] ?_
  refine RH.ret1 Tryz.func90 rfl rfl λw hst=>⟨(A',c'),rfl,hst.out [] rfl rfl λu h=>⟨h.1,trivial⟩⟩
def wkE (b:Nat) (v1 v2:Value):Option HE:=some (.obj b (.cells #[v1,v2] 266))
def kOff (k:Int):Nat:=if k=1 then 0 else 1
theorem load_wk {w:World} {b:Nat} {A B:Option Addr} {n c n2 c2:Nat} (h:w.heap[b]? = some (.cells #[.slice A n c,.slice B n2 c2] 266)) (k:Int) :
  (loadVar 129 ⟨b,kOff k,none⟩).run Tryz.prog w = .ok (if k=1 then .slice A n c else .slice B n2 c2) w:=by
 refine V.run_load tk ?_ ?_
 ·split<;>exact ⟨rfl,Tryz.t129,rfl,rfl⟩
 ·refine range_of_blk h λj v hj=>?_
  unfold kOff
  split at hj
  ·rename_i hk
   cases j with
   | zero=>simpa [hk,Value.cells] using hj
   | succ j=>simp [Value.cells] at hj
  ·rename_i hk
   cases j with
   | zero=>simpa [hk,Value.cells] using hj
   | succ j=>simp [Value.cells] at hj
abbrev slV (A:Option Addr) (n c:Nat):Value:=.slice A n c
abbrev wkG (t y:List Entry) (x:Nat × (Option Addr × Nat) × (Option Addr × Nat)):Heap :=
 [(0,wkE x.1 (slV x.2.1.1 t.length x.2.1.2) (slV x.2.2.1 y.length x.2.2.2)),(1,rowE kEntry x.2.1.1 x.2.1.2 t),(2,rowE kEntry x.2.2.1 x.2.2.2 y)]
def kList (k:Int) (t y:List Entry):List Entry:=if k=1 then t else y
def kindE (t y:List Entry) (k:Int):Int:=if checkE t y=0 then (if k=1 ∨ k=2 then 0 else 3) else checkE t y
def hasPre (s p:Str):Bool:=decide (p.length ≤ s.length) && decide (s.take p.length=p)
theorem HasPrefix_spec (w:World) (s p:Str):Gives Tryz.prog 185 [strV s,strV p] w (boE (hasPre s p)):=by
 refine enterH tk [(0,strE s),(1,strE p)] Tryz.func185 rfl Tryz.ntmps185 rfl rfl ?_
 by_cases h:p.length ≤ s.length
 ·refine RH.a [true] ?_
  refine RH.ret1 Tryz.func185 rfl rfl λw' hst=>⟨by simp [hasPre,h,EV.v,AV.v],hst.fact⟩
 ·refine RH.a [false] ?_
  refine RH.ret1 Tryz.func185 rfl rfl λw' hst=>⟨by simp [hasPre,h,EV.v,AV.v],hst.fact⟩
def cutS (s p:Str):Str:=if hasPre s p=true then s.drop p.length else s
abbrev cutV (s p:Str):EV:=.av (.val (.tuple #[strV (cutS s p),.bool (hasPre s p)]))
theorem CutPre0_spec (w:World) (s p:Str):Gives Tryz.prog 101 [strV s,strV p] w (cutV s p):=by
 refine enterH tk [(0,strE s),(1,strE p)] Tryz.func101 rfl Tryz.ntmps101 rfl rfl ?_
 refine RH.a [] ?_
 refine RH.gv (boE (hasPre s p)) rfl rfl rfl Tryz.call185 (λw' _=>HasPrefix_spec w' s p) ?_
 intro m hm
 by_cases h:hasPre s p=true
 ·have hle:p.length ≤ s.length:=by
   unfold hasPre at h
   simp only [Bool.and_eq_true,decide_eq_true_eq] at h
   exact h.1
  refine RH.adv tk [false] rfl rfl (by simp [h]<;>omega) ?_
  refine RH.ret2 Tryz.func101 rfl rfl rfl λw' hst=>⟨by simp [cutS,h,EV.v,AV.v],hst.fact⟩
 ·refine RH.adv tk [true] rfl rfl (by simp [h]<;>omega) ?_
  refine RH.ret2 Tryz.func101 rfl rfl rfl λw' hst=>⟨by simp [cutS,h,EV.v,AV.v],hst.fact⟩
theorem CutPre_spec (w:World) (s p:Str):Gives Tryz.prog 32 [strV s,strV p] w (cutV s p):=by
 refine enterH tk [(0,strE s),(1,strE p)] Tryz.func32 rfl Tryz.ntmps32 rfl rfl ?_
 refine RH.a [] ?_
 refine RH.gv (cutV s p) rfl rfl rfl Tryz.call101 (λw' _=>CutPre0_spec w' s p) ?_
 intro m hm
 refine RH.a [] ?_
 refine RH.ret2 Tryz.func32 rfl rfl rfl λw' hst=>⟨rfl,hst.fact⟩
def oneB (l:List Entry):Bool:=l.all λx=>decide (x.sum=(l.getD 0 zeroE).sum)
theorem buZ (w:World):(Instr.build 40 #[]).run Tryz.prog w = .ok (sumV Sum.zero) w:=by
 refine run_build w _ _ _ ?_
 kernel_rfl
theorem Sl.take {α:Type} {κ:Kd α} {w:World} {A:Option Addr} {c:Nat} {l:List α} (h:Sl κ w A c l) (i:Nat) (hi:i ≤ l.length):Sl κ w A c (l.take i):=by
 have hlen:(l.take i).length=i:=by rw [List.length_take];omega
 refine ⟨by rw [hlen];exact Nat.le_trans hi h.cap,by rw [hlen];exact Nat.le_trans hi h.small,λhn=>h.addr λe=>hn (by rw [e,List.take_nil]),?_,λe=>?_⟩
 ·intro j v hj
  refine h.cells j v ?_
  have e:l.flatMap κ.cs=(l.take i).flatMap κ.cs ++ (l.drop i).flatMap κ.cs:=by rw [← List.flatMap_append,List.take_append_drop]
  rw [e,List.getElem?_append_left (List.getElem?_eq_some_iff.1 hj).1]
  exact hj
 ·obtain ⟨rfl,h2⟩:=h.nil e
  exact ⟨List.take_nil,h2⟩
theorem putC_take {X:Array Value} {o:Nat} {cs:List Value} (h:o ≤ X.size):(putC X o cs).toList.take o=X.toList.take o:=by
 have hl:(X.toList.take o).length=o:=by rw [List.length_take,Array.length_toList];omega
 show ((X.toList.take o ++ cs) ++ X.toList.drop (o+cs.length)).take o=_
 rw [List.append_assoc,List.take_left' hl]
theorem putC_take2 {X:Array Value} {o:Nat} {cs:List Value} (h:o ≤ X.size):(putC X o cs).toList.take (o+cs.length)=X.toList.take o ++ cs:=by
 have hl:(X.toList.take o).length=o:=by rw [List.length_take,Array.length_toList];omega
 show ((X.toList.take o ++ cs) ++ X.toList.drop (o+cs.length)).take _=_
 rw [List.take_left' (by rw [List.length_append,hl])]
abbrev dropV (l:List Entry) (p:Str):Value:=.tuple #[sumV (l.getD (posOf l p) zeroE).sum,.bool true]
end Go.Proofs.YtbfjmimiigjenaaGreatDoor
