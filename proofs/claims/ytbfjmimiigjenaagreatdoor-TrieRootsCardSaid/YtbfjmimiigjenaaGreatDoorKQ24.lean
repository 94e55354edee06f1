/-
Lemmas. No condition.
-/
import Derived.Test.YtbfjmimiigjenaaGreatDoorKQ9
import Derived.Test.YtbfjmimiigjenaaGreatDoorKVZ
set_option maxRecDepth 10000
set_option linter.unusedVariables false
set_option linter.unusedSimpArgs false
namespace Go.Proofs.YtbfjmimiigjenaaGreatDoor
open Go V RowKit
abbrev entF (e:Str × Sum):List AV:=[.val (strV e.1),.val (sumV e.2)]
def fName:Field:={ name := "name", type:=9,offset:=0,embedded:=false,tag := "", pkgPath := "hoarstone/trie", byteOffset:=0 }
def fSumT:Field:={ name := "sum", type:=40,offset:=1,embedded:=false,tag := "", pkgPath := "hoarstone/trie", byteOffset:=16 }
theorem fields_ent:(Tryz.prog.fieldsOf 155).toList=[fName,fSumT]:=by kernel_rfl
theorem stood_ent:Tryz.prog.stoodInHeld 155=false:=by kernel_rfl
theorem undf_ent:Tryz.prog.underlying 155=some (.struct (Tryz.prog.fieldsOf 155)):=by kernel_rfl
theorem ent_cells (e:Str × Sum):(EV.st (entF e)).v = .agg (strV e.1 :: (e.2.l.map u8V)).toArray:=by
 simp [EV.v,AV.v,flat,Value.cells,sumV]
theorem eq_ent (w:World) (d:Nat) (a b:Str × Sum):(Op.equalIn (d+3) 155 (EV.st (entF a)).v (EV.st (entF b)).v).run Tryz.prog w = .ok (decide (a=b)) w:=by
 rw [ent_cells,ent_cells,run_equalIn_struct w (d+2) _ _ _ undf_ent stood_ent,fields_ent]
 have hs:∀ e:Str × Sum,(part 40 (strV e.1 :: (e.2.l.map u8V)).toArray 1).run Tryz.prog w = .ok (sumV e.2) w:=λe=>by
  rw [part_row w (tk.und und_sum) rfl (run_tsize tk (i:=Tryz.t40) rfl)]
  have hlen:(e.2.l.map u8V).length=32:=by simp [e.2.h]
  have:((strV e.1 :: (e.2.l.map u8V)).take (1+Tryz.t40.size)).drop 1=e.2.l.map u8V:=by
   show ((strV e.1 :: (e.2.l.map u8V)).take (32+1)).drop 1=_
   rw [List.take_succ_cons,List.drop_succ_cons,List.drop_zero,List.take_of_length_le (by omega)]
  rw [this]
  rfl
 rw [eq_two w (d+2) fName fSumT (by decide) (by decide) _ _ (part_one w (tk.und (d:=.string) rfl) rfl _ 0 (strV a.1) rfl) (part_one w (tk.und (d:=.string) rfl) rfl _ 0 (strV b.1) rfl) (eq_str w (d+1) a.1 b.1)
  (hs a) (hs b) (eq_sum w d a.2 b.2)]
 congr 1
 rw [Bool.eq_iff_iff]
 simp only [Bool.and_eq_true,decide_eq_true_iff]
 constructor
 ·rintro ⟨h1,h2⟩;cases a;cases b;simp_all
 ·rintro rfl;exact ⟨rfl,rfl⟩
theorem equalT_spec (w:World) (A B:Option Addr) (ca cb:Nat) (la lb:List (Str × Sum)) (ha:Sl kEnt w A ca la) (hb:Sl kEnt w B cb lb) :
  Gives Tryz.prog 96 [.slice A la.length ca,.slice B lb.length cb] w (boE (decide (la=lb))):=by
 have sa:=ha.small
 have hl:lim=140737488351232:=rfl
 refine enterH tk [(0,slE A la.length ca),(1,slE B lb.length cb)] Tryz.func96 rfl Tryz.ntmps96 rfl rfl ?_
 by_cases hlen:la.length=lb.length
 ·refine RH.adv tk [false] rfl rfl (by simp [hlen]<;>omega) ?_
  refine RH.loop (α:=Nat) (λi=>[(0,slE A la.length ca),(1,slE B lb.length cb),(13,intE i),(12,intE la.length)]) (λ_=>[]) (λi w'=>Ext w w'/\i ≤ la.length/\la.take i=lb.take i) (λi=>la.length - i) 0
   rfl rfl (λw' h=>⟨h,Nat.zero_le _,rfl⟩) ?_
  intro i m
  refine RH.pure (λw' h=>h.2) λ⟨hi,hpre⟩=>?_
  by_cases hlt:i < la.length
  ·have hltb:i < lb.length:=by omega
   refine RH.a [true] ?_
   refine RH.w [] 9 ?_
   refine RD.b [] rfl rfl (by simp [ha.ptr hlt,hb.ptr hltb]<;>omega) ?_
   refine RD.ld 3 (.st (entF la[i])) rfl rfl (λw' h=>(ha.ext h.1).load hlt) ?_
   refine RD.ld 7 (.st (entF lb[i])) rfl rfl (λw' h=>(hb.ext h.1).load hltb) ?_
   refine RD.r 8 (boE (!decide (la[i]=lb[i]))) rfl rfl (λw' a h hag=>op_neq hag rfl rfl rfl rfl rfl (by kernel_rfl) (eq_ent w' 9997 _ _)) ?_
   refine RD.e ?_
   by_cases he:la[i]=lb[i]
   ·refine RH.adv tk [false] rfl rfl (by simp [he]<;>omega) ?_
    refine RH.again (i+1) (.head _) rfl rfl (by omega) λw' h=>⟨h.1,by omega,?_⟩
    rw [List.take_succ_eq_append_getElem hlt,List.take_succ_eq_append_getElem hltb,hpre,he]
   ·refine RH.adv tk [true] rfl rfl (by simp [he]<;>omega) ?_
    refine RH.ret1 Tryz.func96 rfl rfl λw' hst=>⟨?_,hst.fact.1⟩
    have:la ≠ lb:=λe=>he (by subst e;rfl)
    simp [this,EV.v,AV.v]
  ·refine RH.a [false] ?_
   refine RH.ret1 Tryz.func96 rfl rfl λw' hst=>⟨?_,hst.fact.1⟩
   have:la=lb:=by
    rw [← List.take_of_length_le (l:=la) (i:=i) (by omega),hpre,List.take_of_length_le (by omega)]
   simp [this,EV.v,AV.v]
 ·refine RH.adv tk [true] rfl rfl (by simp [hlen]<;>omega) ?_
  refine RH.ret1 Tryz.func96 rfl rfl λw' hst=>⟨?_,hst.fact⟩
  have:la ≠ lb:=λe=>hlen (by rw [e])
  simp [this,EV.v,AV.v]
theorem idxFuncT (w:World) (A:Option Addr) (c:Nat) (l:List (Str × Sum)) (h:Sl kEnt w A c l) (g:FuncId) (f1 c1:List Value) (p:Str × Sum->Bool) (hf:Fun1 kEnt w g f1 c1 l p) :
  Gives Tryz.prog 186 [.slice A l.length c,.func (.func g) f1.toArray c1.toArray] w (intE (idxOf p l 0)):=by
 have hl:lim=140737488351232:=rfl
 have hsm:=h.small
 refine enterH tk [(0,slE A l.length c),(1,.av (.val (.func (.func g) f1.toArray c1.toArray)))] Tryz.func186 rfl Tryz.ntmps186 rfl rfl ?_
 refine RH.a [] ?_
 refine RH.loop (α:=Nat) (λi=>[(0,slE A l.length c),(1,.av (.val (.func (.func g) f1.toArray c1.toArray))),(7,intE l.length),(8,intE i)]) (λ_=>[]) (λi w'=>Ext w w'/\i ≤ l.length/\(l.take i).any p=false) (λi=>l.length - i) 0
  rfl rfl (λw' h=>⟨h,Nat.zero_le _,rfl⟩) ?_
 intro i m
 refine RH.pure (λw' h=>h.2) λ⟨hi,hpre⟩=>?_
 by_cases hlt:i < l.length
 ·have hts:l.take (i+1)=l.take i ++ [l[i]]:=List.take_succ_eq_append_getElem hlt
  refine RH.adv tk [true] rfl rfl (by simp [h.ptr hlt]<;>omega) ?_
  refine RH.load (.st (entF l[i])) rfl rfl rfl rfl (λw' h'=>(h.ext h'.1).load hlt) ?_
  refine RH.gives (g:=g) (f1:=f1) (c1:=c1) (boE (p l[i])) rfl rfl rfl rfl rfl hf.enter (λw' hst=>hf.says _ (List.getElem_mem hlt) w' hst.fact.1) ?_
  intro m' hm'
  by_cases hp:p l[i]=true
  ·refine RH.adv tk [true] rfl rfl (by simp [hp]<;>omega) ?_
   refine RH.ret1 Tryz.func186 rfl rfl λw' hst=>⟨?_,hst.fact.1⟩
   rw [idxOf_at p l 0 i hlt hpre hp,Nat.zero_add]
  ·refine RH.adv tk [false] rfl rfl (by simp [hp]<;>omega) ?_
   refine RH.again (i+1) (.head _) rfl rfl (by omega) λw' h=>⟨h.1,by omega,?_⟩
   rw [hts,List.any_append,hpre];simp [hp]
 ·rw [List.take_of_length_le (by omega)] at hpre
  refine RH.a [false] ?_
  refine RH.ret1 Tryz.func186 rfl rfl λw' hst=>⟨?_,hst.fact.1⟩
  rw [idxOf_none p l 0 hpre]
theorem containsFuncT (w:World) (A:Option Addr) (c:Nat) (l:List (Str × Sum)) (h:Sl kEnt w A c l) (g:FuncId) (f1 c1:List Value) (p:Str × Sum->Bool) (hf:Fun1 kEnt w g f1 c1 l p) :
  Gives Tryz.prog 102 [.slice A l.length c,.func (.func g) f1.toArray c1.toArray] w (boE (l.any p)):=by
 refine enterH tk [(0,slE A l.length c),(1,.av (.val (.func (.func g) f1.toArray c1.toArray)))] Tryz.func102 rfl Tryz.ntmps102 rfl rfl ?_
 refine RH.a [] ?_
 refine RH.gv (intE (idxOf p l 0)) rfl rfl rfl Tryz.call186 (λw' hst=>idxFuncT w' A c l (h.ext hst.fact) g f1 c1 p (hf.ext hst.fact)) ?_
 intro m' hm'
 refine RH.a [] ?_
 refine RH.ret1 Tryz.func102 rfl rfl λw' hst=>⟨?_,hst.fact⟩
 have:decide (0 ≤ idxOf p l 0)=l.any p:=by rw [Bool.eq_iff_iff];simp only [decide_eq_true_eq];exact idxOf_ge p l 0
 simp [this,EV.v,AV.v]
theorem TSame_spec (w:World) (po:Option Plot) (t:Option Tree) (qo:Option Plot) (s:Option Tree) (h1:IsO w po t) (ht:okO t) (hl1:lowO 1000 t) (h2:IsO w qo s) (hs:okO s) (hl2:lowO 1000 s) :
  Gives Tryz.prog 23 [(mapE po).v,(mapE qo).v] w (boE (decide (enO t=enO s))):=by
 have hlim:lim=140737488351232:=rfl
 have hml:∀ t,okO t->(enO t).length ≤ 900000000:=by
  intro t ht
  cases t with
  | none=>simp [enO]
  | some t=>show (t.ents []).length ≤ _;rw [many_ents];exact ht.2.2
 have hm1:=hml t ht
 have hm2:=hml s hs
 refine enterH tk [(0,mapE po),(1,mapE qo)] Tryz.func23 rfl Tryz.ntmps23 rfl rfl ?_
 refine RH.a [] ?_
 refine RH.w [(0,some (.box w.heap.size [.val (ptrO po)] 31)),(1,some (.box (w.heap.size+1) [.val (ptrO qo)] 31))] 8 ?_
 refine RD.a [] ?_
 refine RD.dd 2 [] 10 (λy:Option Addr × Nat=>rowS 2 y.1 (enO t).length y.2) rfl rfl rfl Tryz.call97 (entries_O po t 1000 ht hl1 (Nat.le_refl _)) (λu hu=>h1.ext hu.fact) ?_
 rintro ⟨A1,c1⟩ m1 hm1'
 refine RD.a [] ?_
 refine RD.dd 5 [] 20 (λy:Option Addr × Nat=>rowS 10 y.1 (enO s).length y.2) rfl rfl rfl Tryz.call97 (entries_O qo s 1000 hs hl2 (Nat.le_refl _)) (λu hu=>h2.ext hu.fact.1) ?_
 rintro ⟨A2,c2⟩ m2 hm2'
 refine RD.a [] ?_
 refine RD.gv 6 (boE (decide (enO t=enO s))) rfl rfl rfl Tryz.call96 (λu hu=>equalT_spec u A1 A2 c1 c2 (enO t) (enO s) (Sl.own (hu.row (κ:=kEnt) (l:=enO t) (id:=2) rfl) (by omega)) (Sl.own (hu.row (κ:=kEnt) (l:=enO s) (id:=10) rfl) (by omega))) ?_
 intro m3 hm3
 refine RD.a [] ?_
 refine RD.e ?_
 refine RH.ret1 Tryz.func23 rfl rfl λw' hst=>⟨rfl,hst.fact.1.1⟩
def below1 (p:Str) (e:Str × Sum):List (Str × Sum):=if hasPre e.1 p=true then [(cutS e.1 p,e.2)] else []
def belowL (p:Str) (l:List (Str × Sum)):List (Str × Sum):=l.flatMap (below1 p)
theorem below_len (p:Str):∀ l,(belowL p l).length ≤ l.length
 | []=>Nat.le_refl _
 | x :: r=>by
  have:=below_len p r
  unfold belowL at this ⊢
  rw [List.flatMap_cons,List.length_append,List.length_cons]
  have:(below1 p x).length ≤ 1:=by unfold below1;split<;>simp
  omega
theorem cutS_len (s p:Str):(cutS s p).length ≤ s.length:=by
 unfold cutS
 split
 ·rw [List.length_drop];omega
 ·exact Nat.le_refl _
theorem below_short {N:Nat} {p:Str} {l:List (Str × Sum)} (h:∀ e ∈ l,e.1.length ≤ N):∀ e ∈ belowL p l,e.1.length ≤ N:=by
 intro e he
 unfold belowL at he
 rw [List.mem_flatMap] at he
 obtain ⟨x,hx,hm⟩:=he
 unfold below1 at hm
 split at hm
 ·rw [List.mem_singleton] at hm
  subst hm
  exact Nat.le_trans (cutS_len _ _) (h x hx)
 ·cases hm
theorem ents_short {t:Option Tree} {N:Nat} (ht:okO t) (hl:lowO N t):∀ e ∈ enO t,e.1.length ≤ N:=by
 intro e he
 have hw:wfO t:=by
  cases t with
  | none=>trivial
  | some t=>exact ht.1
 exact hl e.1 e.2 ((meO hw e.1 e.2).1 he)
theorem ents_many {t:Option Tree} (ht:okO t):(enO t).length ≤ 900000000:=by
 cases t with
 | none=>simp [enO]
 | some t=>show (t.ents []).length ≤ _;rw [many_ents];exact ht.2.2
theorem Below_spec (po:Option Plot) (t:Option Tree) (ht:okO t) (hl:lowO 1000 t) (beg:Str) (hb:beg.length ≤ 1000) :
  Does Tryz.prog tb 31 [(mapE po).v,strV beg] [] (λu=>Glob u/\IsO u po t) (λo:Option Plot=>.tuple #[.agg #[ptrO o],intV (if belowL beg (enO t)=[] then 6 else 0)]) (λ_=>[]) (λo=>Late (λ_=>True) (λu=>IsO u o (fromO (belowL beg (enO t))))):=by
 have hlim:lim=140737488351232:=rfl
 have hml:=ents_many ht
 have hsh:=below_short (p:=beg) (ents_short ht hl)
 have hent:=entries_O
 refine V.Does.enter0 [(0,mapE po),(1,strE beg)] Tryz.func31 rfl Tryz.ntmps31 rfl rfl 0 ?_
 intro m0 K
 refine RH.a [] ?_
 refine RH.dd [] 10 (λy:Option Addr × Nat=>rowS 2 y.1 (enO t).length y.2) rfl rfl rfl Tryz.call97 (entries_O po t 1000 ht hl (by omega)) (λu hu=>hu.fact.2.2) ?_
 rintro ⟨A1,c1⟩ m1 hm1
 refine RH.drop ?_
 refine RH.a [] ?_
 dsimp only
 generalize enO t=l at *
 have hlen:=below_len beg l
 refine RH.nilrow 50 kEnt.T kEnt.sz 51 ?_
 refine RH.loop (α:=Nat × (Option Addr × Nat)) (λy=>[(1,strE beg),(4,.av (.box 1 (m0+1) 0)),(13,rowS 2 A1 l.length c1),(14,intE l.length),(15,intE y.1),(6,rowS 50 y.2.1 (belowL beg (l.take y.1)).length y.2.2)]) (λy=>[(1,some (.box (m0+1) [.val (.pointer none)] 31)),(2,rowE kEnt A1 c1 l),(50,rowE kEnt y.2.1 y.2.2 (belowL beg (l.take y.1)))]) (λy u=>(K u/\Glob u)/\y.1 ≤ l.length) (λy=>l.length - y.1) (0,(none,0)) rfl rfl (λu hu=>⟨⟨hu.1,hu.2.1⟩,Nat.zero_le _⟩) ?_
 rintro ⟨i,A2,c2⟩ m2
 refine RH.pure (λu hu=>hu.2) λhi=>?_
 dsimp only at hi ⊢
 by_cases hlt:i < l.length
 ·have hts:belowL beg (l.take (i+1))=belowL beg (l.take i) ++ below1 beg l[i]:=by
   rw [List.take_succ_eq_append_getElem hlt];unfold belowL;rw [List.flatMap_append,List.flatMap_cons,List.flatMap_nil,List.append_nil]
  have hlt2:=below_len beg (l.take i)
  rw [List.length_take] at hlt2
  refine RH.pureS (λu hu=>hu.ptr (id:=2) (κ:=kEnt) (l:=l) rfl (by intro e;rw [e] at hlt;cases hlt)) λhptr=>?_
  refine RH.adv tk [true] rfl rfl (by simp [hptr]<;>omega) ?_
  refine RH.loadS (.st [.val (strV l[i].1),.val (sumV l[i].2)]) rfl rfl rfl rfl (λu hu=>(Sl.own (B:=m0) (hu.row (κ:=kEnt) (l:=l) (id:=2) rfl) (by omega)).load hlt) ?_
  refine RH.a [] ?_
  refine RH.gv (cutV l[i].1 beg) rfl rfl rfl Tryz.call32 (λu _=>CutPre_spec u _ _) ?_
  intro m3 hm3
  by_cases hp:hasPre l[i].1 beg=true
  ·have hb1:below1 beg l[i]=[(cutS l[i].1 beg,l[i].2)]:=by unfold below1;rw [if_pos hp]
   rw [hb1] at hts
   refine RH.adv tk [true] rfl rfl (by simp [hp]) ?_
   refine RH.apK (κ:=kEnt) (id:=50) (l:=belowL beg (l.take i)) (r:=[(cutS l[i].1 beg,l[i].2)]) rfl rfl rfl rfl rfl rfl elt_ent rfl rfl (λu hu=>hu.liR (κ:=kEnt) (l:=[(cutS l[i].1 beg,l[i].2)]) (id:=52) rfl (by simp [hlim])) (by simp;omega) (by simp [hlim];omega) ?_
   intro A3 c3 m4 hm4
   rw [← hts]
   refine RH.a [] ?_
   exact RH.again (i+1,(A3,c3)) (.head _) rfl rfl (by show l.length - (i+1) < l.length - i;omega) λu hu=>⟨hu.1,hlt⟩
  ·have hb1:below1 beg l[i]=[]:=by unfold below1;rw [if_neg hp]
   rw [hb1,List.append_nil] at hts
   refine RH.adv tk [false] rfl rfl (by simp [hp]<;>omega) ?_
   rw [← hts]
   exact RH.again (i+1,(A2,c2)) (.head _) rfl rfl (by show l.length - (i+1) < l.length - i;omega) λu hu=>⟨hu.1,hlt⟩
 ·have hi':i=l.length:=by omega
  subst hi'
  rw [List.take_length]
  cases hbl:belowL beg l with
  | nil =>
   refine RH.a [false,true] ?_
   exact RH.retBoxT tk (.st [.val (.pointer none)]) Tryz.func31 rfl rfl rfl rfl rfl λw' hst=>⟨none,rfl,hst.out [] rfl rfl λu h=>⟨h.1.1,λv _ _=>trivial⟩⟩
  | cons e0 r0 =>
   have hne:¬ (e0 :: r0=[]):=by simp
   rw [← hbl]
   have hnl:0 < (belowL beg l).length:=by rw [hbl];simp
   have hne2:¬ belowL beg l=[]:=by rw [hbl];exact hne
   refine RH.above (id:=1) rfl rfl λhz1 hz2=>?_
   refine RH.adv tk [false,false] rfl rfl (by simp [hne2]<;>omega) ?_
   refine RH.dd [] 60 (λo:Option Plot=>mapE o) rfl rfl rfl Tryz.call92 (from_spec A2 c2 (belowL beg l) hsh (from_okO _ (Nat.le_refl 1000) hsh (by omega))) (λu hu=>⟨hu.fact.1.2,Sl.own (B:=m0) (hu.row (κ:=kEnt) (l:=belowL beg l) (id:=50) rfl) (by omega)⟩) ?_
   rintro o m5 hm5
   refine RH.a [] ?_
   exact RH.retBoxT tk (mapE o) Tryz.func31 rfl rfl rfl rfl rfl λw' hst=>⟨o,by rw [if_neg (by rw [hbl];exact hne)];rfl,hst.out [] rfl rfl λu h=>⟨h.1.1.1,λv hv hp=>h.2.up (by omega) hv hp⟩⟩
def isN (is:List Str):List (Str × Value):=is.map λs=>(s,Value.bool true)
def hasN (is:List Str) (x:Str):Bool:=is.any λs=>decide (s=x)
theorem findI_isN (x:Str):∀ (is:List Str) (n:Nat),(findI x (isN is) n).isSome=hasN is x/\(∀ p,findI x (isN is) n=some p->p.2 = .bool true)
 | [],n=>⟨rfl,λ_ h=>by cases h⟩
 | s :: r,n=>by
  have ih:=findI_isN x r (n+1)
  unfold isN hasN at *
  rw [List.map_cons,List.any_cons]
  unfold findI
  by_cases h:s=x
  ·simp [h]
  ·have h2:¬ x=s:=λe=>h e.symm
   simp only [h,h2,decide_false,Bool.false_or,if_false]
   exact ih
theorem getM_isN (is:List Str) (x:Str):(getM (isN is) x).getD (.bool false) = .bool (hasN is x):=by
 have h:=findI_isN x is 0
 unfold getM
 cases hf:findI x (isN is) 0 with
 | none=>rw [hf] at h;simp at h;simp [h]
 | some p=>rw [hf] at h;simp at h;simp [h]
theorem setM_isN (is:List Str) (x:Str) (hx:hasN is x=false):setM (isN is) x (.bool true)=isN (is ++ [x]):=by
 have h:=(findI_isN x is 0).1
 rw [hx] at h
 unfold setM
 cases hf:findI x (isN is) 0 with
 | none=>simp [isN]
 | some p=>rw [hf] at h;cases h
theorem und_isN:Tryz.prog.underlying 152=some (.map 9 4):=tk.und (by kernel_rfl)
theorem zero_boolN:∀ w,(zeroValue 4).run Tryz.prog w = .ok (.bool false) w:=λw=>by
 have hi:Tryz.prog.info? 4=some Tryz.t4:=tk.get (by kernel_rfl)
 have hz:(Tryz.t4).zero=some (.bool false):=by kernel_rfl
 simp [zeroValue,typeInfo,hi,hz]
def scanN:List Str->List Str->Int
 | _,[]=>0
 | met,n :: r=>if 60 < n.length then 11 else if hasN met n=true then 5 else scanN (met ++ [n]) r
def fromE (names:List Str) (sums:List Sum):Int:=if names.length ≠ sums.length then 7 else if 600 < names.length then 12 else scanN [] names
theorem scan_long {met r:List Str} {n:Str} (h:60 < n.length):scanN met (n :: r)=11:=if_pos h
theorem scan_twice {met r:List Str} {n:Str} (h:¬ 60 < n.length) (h2:hasN met n=true):scanN met (n :: r)=5:=by
 unfold scanN;rw [if_neg h,if_pos h2]
theorem scan_next {met r:List Str} {n:Str} (h:¬ 60 < n.length) (h2:¬ hasN met n=true):scanN met (n :: r)=scanN (met ++ [n]) r:=by
 conv=>lhs;unfold scanN
 rw [if_neg h,if_neg h2]
theorem scan_ok:∀ (r met:List Str),scanN met r=0->∀ n ∈ r,n.length ≤ 60
 | [],_,_,n,h=>by cases h
 | a :: r,met,hs,n,h=>by
  by_cases h1:60 < a.length
  ·rw [scan_long h1] at hs;cases hs
  ·by_cases h2:hasN met a=true
   ·rw [scan_twice h1 h2] at hs;cases hs
   ·rw [scan_next h1 h2] at hs
    rcases List.mem_cons.1 h with rfl|h
    ·omega
    ·exact scan_ok r _ hs n h
theorem From_spec (A:Option Addr) (c:Nat) (names:List Str) (B:Option Addr) (d:Nat) (sums:List Sum) :
  Does Tryz.prog tb 17 [.slice A names.length c,.slice B sums.length d] [] (λu=>Glob u/\Sl kStr u A c names/\Sl kSum u B d sums) (λo:Option Plot=>.tuple #[.agg #[ptrO o],intV (fromE names sums)]) (λ_=>[])
   (λo=>Late (λ_=>True) (λu=>IsO u o (if fromE names sums=0 then fromO (names.zip sums) else none))):=by
 have hlim:lim=140737488351232:=rfl
 have hz31:(Tryz.t31).size=1:=by kernel_rfl
 refine V.Does.enter0 [(0,slE A names.length c),(1,slE B sums.length d)] Tryz.func17 rfl Tryz.ntmps17 rfl rfl 0 ?_
 intro m0 K
 refine RH.pure (λu h=>(⟨h.2.2.1.small,h.2.2.2.small⟩:names.length ≤ lim/\sums.length ≤ lim)) λ⟨hsn,hss⟩=>?_
 by_cases h1:names.length=sums.length
 ·by_cases h2:600 < names.length
  ·have he:fromE names sums=12:=by unfold fromE;rw [if_neg (by simpa using h1),if_pos h2]
   rw [he]
   refine RH.adv tk [false,true] rfl rfl (by simp [hz31,h1]<;>omega) ?_
   exact RH.retBoxT tk (.st [.val (.pointer none)]) Tryz.func17 rfl rfl rfl rfl rfl λw' hst=>⟨none,rfl,hst.out [] rfl rfl λu h=>⟨h.1,λv _ _=>trivial⟩⟩
  ·have he:fromE names sums=scanN [] names:=by unfold fromE;rw [if_neg (by simpa using h1),if_neg h2]
   rw [he]
   refine RH.adv tk [false,false] rfl rfl (by simp [hz31,h1]<;>omega) ?_
   refine RH.go rfl rfl (OpGo.makeMap 3 strV rfl) 4 ?_
   rintro ⟨⟩ m1 hm1
   refine RH.a [] ?_
   refine RH.nilrow 50 kEnt.T kEnt.sz 51 ?_
   refine RH.loop (α:=Nat × (Option Addr × Nat)) (λy=>[(1,slE B sums.length d),(4,.av (.box 0 m0 0)),(6,.av (.val (.map (some (m0+1))))),(23,slE A names.length c),(24,intE names.length),(25,intE y.1),(7,rowS 50 y.2.1 ((names.zip sums).take y.1).length y.2.2)])
    (λy=>[(0,some (.box m0 [.val (.pointer none)] 31)),(3,V.mapE (m0+1) strV (isN (names.take y.1))),(50,rowE kEnt y.2.1 y.2.2 ((names.zip sums).take y.1))])
    (λy u=>(K u/\Glob u/\Sl kStr u A c names/\Sl kSum u B d sums)/\y.1 ≤ names.length/\scanN [] names=scanN (names.take y.1) (names.drop y.1)) (λy=>names.length - y.1) (0,(none,0)) rfl rfl (λu hu=>⟨hu,Nat.zero_le _,rfl⟩) ?_
   rintro ⟨i,A2,c2⟩ m2
   refine RH.pure (λu hu=>hu.2) λ⟨hi,hsc⟩=>?_
   dsimp only at hi hsc ⊢
   have hzl:(names.zip sums).length=names.length:=by rw [List.length_zip];omega
   by_cases hlt:i < names.length
   ·have hlts:i < sums.length:=by omega
    have hts:names.take (i+1)=names.take i ++ [names[i]]:=List.take_succ_eq_append_getElem hlt
    have hdr:names.drop i=names[i] :: names.drop (i+1):=List.drop_eq_getElem_cons hlt
    have hzi:(names.zip sums)[i]'(by omega)=(names[i],sums[i]):=by rw [List.getElem_zip]
    have htz:(names.zip sums).take (i+1)=(names.zip sums).take i ++ [(names[i],sums[i])]:=by rw [List.take_succ_eq_append_getElem (by omega),hzi]
    rw [hdr] at hsc
    refine RH.pure (λu hu=>(⟨hu.1.2.2.1.ptr hlt,hu.1.2.2.2.ptr hlts⟩:Ptr A/\Ptr B)) λ⟨hptr,hptrB⟩=>?_
    refine RH.adv tk [true] rfl rfl (by simp [hptr]<;>omega) ?_
    refine RH.loadS (strE names[i]) rfl rfl rfl rfl (λu hu=>hu.fact.1.2.2.1.load hlt) ?_
    by_cases hlong:60 < names[i].length
    ·rw [hsc,scan_long hlong]
     refine RH.adv tk [true] rfl rfl (by simp [hz31]<;>omega) ?_
     exact RH.retBoxT tk (.st [.val (.pointer none)]) Tryz.func17 rfl rfl rfl rfl rfl λw' hst=>⟨none,rfl,hst.out [] rfl rfl λu h=>⟨h.1.1,λv _ _=>trivial⟩⟩
    ·refine RH.a [false] ?_
     refine RH.go rfl rfl (OpGo.lookupV (es:=isN (names.take i)) (k:=names[i]) (.bool (hasN (names.take i) names[i])) key_str und_isN zero_boolN rfl rfl rfl rfl rfl (λu hu=>(hu.holds 3 _ rfl).2) (getM_isN _ _)) 52 ?_
     rintro ⟨⟩ m3 hm3
     by_cases hin:hasN (names.take i) names[i]=true
     ·rw [hsc,scan_twice hlong hin]
      refine RH.adv tk [true] rfl rfl (by simp [hz31,hin]<;>omega) ?_
      exact RH.retBoxT tk (.st [.val (.pointer none)]) Tryz.func17 rfl rfl rfl rfl rfl λw' hst=>⟨none,rfl,hst.out [] rfl rfl λu h=>⟨h.1.1,λv _ _=>trivial⟩⟩
     ·refine RH.adv tk [false] rfl rfl (by simp [hin]<;>omega) ?_
      refine RH.go rfl rfl (OpGo.mapUpdate (id:=3) (k:=names[i]) key_str und_isN rfl rfl rfl rfl rfl rfl) 53 ?_
      rintro ⟨⟩ m4 hm4
      have hset:setM (isN (names.take i)) names[i] EV.tt.v=isN (names.take i ++ [names[i]]):=setM_isN _ _ (by simpa using hin)
      rw [hset,← hts]
      refine RH.adv tk [] rfl rfl (by simp [hptrB]<;>omega) ?_
      refine RH.loadS (sumE sums[i]) rfl rfl rfl rfl (λu hu=>hu.fact.1.2.2.2.load hlts) ?_
      refine RH.a [] ?_
      refine RH.apK (κ:=kEnt) (id:=50) (l:=(names.zip sums).take i) (r:=[(names[i],sums[i])]) rfl rfl rfl rfl rfl rfl elt_ent rfl rfl (λu hu=>hu.liR (κ:=kEnt) (l:=[(names[i],sums[i])]) (id:=53) rfl (by simp [hlim])) (by simp;omega) (by simp [hlim];omega) ?_
      intro A3 c3 m5 hm5
      rw [← htz]
      refine RH.a [] ?_
      exact RH.again (i+1,(A3,c3)) (.head _) rfl rfl (by show names.length - (i+1) < names.length - i;omega) λu hu=>⟨hu.1,hlt,by rw [hsc,scan_next hlong hin,← hts]⟩
   ·have hi':i=names.length:=by omega
    have hsc0:scanN [] names=0:=by rw [hsc,hi',List.drop_length];rfl
    have htk:(names.zip sums).take i=names.zip sums:=by rw [hi',← hzl,List.take_length]
    rw [htk]
    have hsh:∀ e ∈ names.zip sums,e.1.length ≤ 60:=λe he=>scan_ok names [] hsc0 e.1 (List.of_mem_zip he).1
    refine RH.above (id:=0) rfl rfl λhz1 hz2=>?_
    refine RH.a [false] ?_
    refine RH.dd [] 60 (λo:Option Plot=>mapE o) rfl rfl rfl Tryz.call92 (from_spec A2 c2 (names.zip sums) (λe he=>Nat.le_trans (hsh e he) (by decide)) (from_okO _ (by decide:60 ≤ 1000) hsh (by omega))) (λu hu=>⟨hu.fact.1.2.1,Sl.own (B:=m0) (hu.row (κ:=kEnt) (l:=names.zip sums) (id:=50) rfl) (by omega)⟩) ?_
    rintro o m5 hm5
    refine RH.a [] ?_
    rw [hsc0]
    exact RH.retBoxT tk (mapE o) Tryz.func17 rfl rfl rfl rfl rfl λw' hst=>⟨o,rfl,hst.out [] rfl rfl λu h=>⟨h.1.1.1,λv hv hp=>h.2.up (by omega) hv hp⟩⟩
 ·have he:fromE names sums=7:=by unfold fromE;rw [if_pos h1]
  rw [he]
  refine RH.adv tk [true] rfl rfl (by simp [hz31,h1]<;>omega) ?_
  exact RH.retBoxT tk (.st [.val (.pointer none)]) Tryz.func17 rfl rfl rfl rfl rfl λw' hst=>⟨none,rfl,hst.out [] rfl rfl λu h=>⟨h.1,λv _ _=>trivial⟩⟩
def unionE (s t:Option Tree):Int:=if ((enO t).any λe=>(getO s e.1).isSome)=true then 5 else if 600 < (enO t).length+maO s then 12 else 0
theorem Union1_spec (w:World) (b:Nat) (po:Option Plot) (t:Option Tree) (fr:Nat × Nat) (hb:w.heap[b]? = some (.cells #[ptrO po] 31 fr)) (h:IsO w po t) (ht:okO t) (e:Str × Sum) (he:e.1.length ≤ 1000) :
  Gives Tryz.prog 103 [(EV.st (entF e)).v,ptrV b] w (boE (getO t e.1).isSome):=by
 have hfs:=find_isSome h ht e.1
 refine enterH tk [(0,.st (entF e)),(1,ptrAt b)] Tryz.func103 rfl Tryz.ntmps103 rfl rfl ?_
 refine RH.a [] ?_
 refine RH.loadS (.av (.val (ptrO po))) rfl rfl rfl rfl (λu hu=>load_root (by rw [hu.fact.block b (Array.getElem?_eq_some_iff.1 hb).1];exact hb)) ?_
 refine RH.a [] ?_
 refine RH.gv (.av (.val (ptrO (findO po t e.1)))) rfl rfl rfl Tryz.call93 (λu hu=>get_ok u po t (h.ext hu.fact) ht e.1 he) ?_
 intro m1 hm1
 refine RH.read (.av (.val (.bool (!((findO po t e.1).map λL=>(⟨L.b,0,none⟩:Addr)).isNone)))) rfl rfl rfl rfl (λu q _ ha=>op_neqPtr ha rfl rfl rfl rfl) ?_
 refine RH.a [] ?_
 refine RH.ret1 Tryz.func103 rfl rfl λw' hst=>⟨?_,hst.fact⟩
 rw [← hfs]
 cases findO po t e.1<;>rfl
theorem Union_spec (po:Option Plot) (s:Option Tree) (qo:Option Plot) (t:Option Tree) (hs:okO s) (hls:lowO 1000 s) (ht:okO t) (hlt:lowO 1000 t) (hm1:maO s ≤ 100000) (hm2:maO t ≤ 100000) :
  Does Tryz.prog tb 34 [(mapE po).v,(mapE qo).v] [] (λu=>Glob u/\IsO u po s/\IsO u qo t) (λo:Option Plot=>.tuple #[.agg #[ptrO o],intV (unionE s t)]) (λ_=>[])
   (λo=>Late (λ_=>True) (λu=>IsO u o (if unionE s t=0 then fromO (enO s ++ enO t) else none))):=by
 have hlim:lim=140737488351232:=rfl
 have hz31:(Tryz.t31).size=1:=by kernel_rfl
 have e1:=entsO_many s
 have e2:=entsO_many t
 have hsh:∀ e ∈ enO s ++ enO t,e.1.length ≤ 1000:=λe he=>by
  rcases List.mem_append.1 he with h|h
  ·exact ents_short hs hls e h
  ·exact ents_short ht hlt e h
 refine V.Does.enter0 [(0,mapE po),(1,mapE qo)] Tryz.func34 rfl Tryz.ntmps34 rfl rfl 0 ?_
 intro m0 K
 refine RH.a [] ?_
 refine RH.dd [] 10 (λy:Option Addr × Nat=>rowS 3 y.1 (enO t).length y.2) rfl rfl rfl Tryz.call97 (entries_O qo t 1000 ht hlt (by omega)) (λu hu=>hu.fact.2.2.2) ?_
 rintro ⟨A1,c1⟩ m1 hm1'
 refine RH.drop ?_
 refine RH.a [] ?_
 dsimp only
 refine RH.gv (boE ((enO t).any λe=>(getO s e.1).isSome)) rfl rfl rfl Tryz.call102 (λu hu=>containsFuncT u A1 c1 (enO t) (Sl.own (B:=m0) (hu.row (κ:=kEnt) (l:=enO t) (id:=3) rfl) (by omega)) 103 [] [ptrV m0] (λe=>(getO s e.1).isSome) ⟨λxs w=>Tryz.call103 xs w,λe he u' hu'=>Union1_spec u' m0 po s (0,0) (by
   rw [hu'.block m0 (Array.getElem?_eq_some_iff.1 (hu.holds 0 _ rfl).2.1).1]
   exact (hu.holds 0 _ rfl).2.1) (hu.fact.2.2.1.ext hu') hs e (hsh e (List.mem_append_right _ he))⟩) ?_
 intro m2 hm2'
 by_cases h1:((enO t).any λe=>(getO s e.1).isSome)=true
 ·have hE:unionE s t=5:=if_pos h1
  rw [hE]
  refine RH.adv tk [true] rfl rfl (by simp [hz31,h1]<;>omega) ?_
  exact RH.retBoxT tk (.st [.val (.pointer none)]) Tryz.func34 rfl rfl rfl rfl rfl λw' hst=>⟨none,rfl,hst.out [] rfl rfl λu h=>⟨h.1,λv _ _=>trivial⟩⟩
 ·refine RH.adv tk [false] rfl rfl (by simp [hz31,h1]<;>omega) ?_
  refine RH.gv (intE (maO s)) rfl rfl rfl Tryz.call25 (λu hu=>Many_spec u po s hu.fact.2.2.1) ?_
  intro m3 hm3
  by_cases h2:600 < (enO t).length+maO s
  ·have hE:unionE s t=12:=by unfold unionE;rw [if_neg h1,if_pos h2]
   rw [hE]
   refine RH.adv tk [true] rfl rfl (by simp [hz31]<;>omega) ?_
   exact RH.retBoxT tk (.st [.val (.pointer none)]) Tryz.func34 rfl rfl rfl rfl rfl λw' hst=>⟨none,rfl,hst.out [] rfl rfl λu h=>⟨h.1,λv _ _=>trivial⟩⟩
  ·have hE:unionE s t=0:=by unfold unionE;rw [if_neg h1,if_neg h2]
   rw [hE]
   refine RH.adv tk [false] rfl rfl (by simp [hz31]<;>omega) ?_
   refine RH.dd [] 20 (λy:Option Addr × Nat=>rowS 10 y.1 (enO s).length y.2) rfl rfl rfl Tryz.call97 (entries_O po s 1000 hs hls (by omega)) (λu hu=>hu.fact.2.2.1) ?_
   rintro ⟨A2,c2⟩ m4 hm4
   refine RH.drop ?_
   refine RH.a [] ?_
   dsimp only
   refine RH.apK (κ:=kEnt) (id:=10) (l:=enO s) (r:=enO t) rfl rfl rfl rfl rfl rfl elt_ent rfl rfl (λu hu=>hu.liR (κ:=kEnt) (l:=enO t) (id:=3) rfl (by omega)) (by omega) (by omega) ?_
   intro A3 c3 m5 hm5
   refine RH.a [] ?_
   refine RH.dd [] 30 (λo:Option Plot=>mapE o) rfl rfl rfl Tryz.call92 (from_spec A3 c3 (enO s ++ enO t) hsh (from_okO _ (Nat.le_refl 1000) hsh (by rw [List.length_append];omega))) (λu hu=>⟨hu.fact.2.1,Sl.own (B:=m0) (hu.row (κ:=kEnt) (l:=enO s ++ enO t) (id:=10) rfl) (by rw [List.length_append];omega)⟩) ?_
   rintro o m6 hm6
   refine RH.adv tk [] rfl rfl (by simp [hz31,Value.oneCell']<;>omega) ?_
   exact RH.retBoxT tk (mapE o) Tryz.func34 rfl rfl rfl rfl rfl λw' hst=>⟨o,rfl,hst.out [] rfl rfl λu h=>⟨h.1.1,λv hv hp=>h.2.up (by omega) hv hp⟩⟩
end Go.Proofs.YtbfjmimiigjenaaGreatDoor
