/-
Lemmas. No condition.
-/
import Derived.Test.YtbfjmimiigjenaaGreatDoorKQ28
import Derived.Test.YtbfjmimiigjenaaGreatDoorKVIterM
import Derived.Test.YtbfjmimiigjenaaGreatDoorKVZ2
set_option maxRecDepth 20000
set_option linter.unusedVariables false
set_option linter.unusedSectionVars false
set_option linter.unusedSimpArgs false
namespace Go.Proofs.YtbfjmimiigjenaaGreatDoor
open Go V RowKit
def MapP (u:World) (b mb:Nat) (es:List (Str × Value)):Prop:=(loadVar 200 ⟨b,0,none⟩).run Tryz.prog u = .ok (.map (some mb)) u/\u.heap[mb]? = some (mapO strV es)
theorem und_chgM:Tryz.prog.underlying 200=some (.map 9 98):=tk.und (by kernel_rfl)
def keyAt (es:List (Str × Value)) (i:Nat):Str:=(es[i]?.map Prod.fst).getD []
theorem keyAt_eq {es:List (Str × Value)} {i:Nat} (h:i < es.length):keyAt es i=es[i].1:=by
 unfold keyAt;rw [List.getElem?_eq_getElem h];rfl
theorem keys_range (es:List (Str × Value)):(List.range es.length).map (keyAt es)=es.map Prod.fst:=by
 apply List.ext_getElem (by simp)
 intro i h1 h2
 simp only [List.length_map,List.length_range] at h1
 rw [List.getElem_map,List.getElem_range,List.getElem_map,keyAt_eq h1]
theorem js_rest {n:Nat} {js:List Nat} (h1:js.Nodup) (h2:∀ i ∈ js,i < n):(js ++ (List.range n).filter (λi=>!js.contains i)).Perm (List.range n):=by
 rw [List.perm_ext_iff_of_nodup]
 ·intro a
  simp only [List.mem_append,List.mem_filter,List.mem_range,Bool.not_eq_true',List.contains_eq_mem,decide_eq_false_iff_not]
  constructor
  ·rintro (h|⟨h,_⟩)
   ·exact h2 a h
   ·exact h
  ·intro h
   rcases Classical.em (a ∈ js) with h3|h3
   ·exact .inl h3
   ·exact .inr ⟨h,h3⟩
 ·rw [List.nodup_append]
  refine ⟨h1,List.nodup_range.filter _,λa ha b hb=>?_⟩
  rintro rfl
  simp only [List.mem_filter,Bool.not_eq_true',List.contains_eq_mem,decide_eq_false_iff_not] at hb
  exact hb.2 ha
 ·exact List.nodup_range
theorem keys1_spec (b mb:Nat) (es:List (Str × Value)) (xs:List Str) (hxs:xs=es.map Prod.fst) :
  IterM Tryz.prog tb 199 (λY=>[Y,ptrV b]) [] (λu=>MapP u b mb es) xs (λx=>[strE x].map EV.v) []:=by
 have hN:=Tryz.ntmps199
 refine V.IterM.enter (tb:=tb) (n:=14) (args:=λY=>[Y,ptrV b]) (Gi:=[]) (pre:=λu=>MapP u b mb es) (xs:=xs) (G':=[]) (enc:=λx=>[strE x]) (λl=>[(0,.av (.val (.func (.yield l) #[] #[]))),(1,ptrAt b)]) Tryz.func199 rfl hN (λ_=>rfl) (λ_=>rfl) 2 ?_
 intro α σ B0 l m Z Zs hZ hY x
 refine RH.adv tk [] rfl rfl trivial ?_
 refine RH.loadS (.av (.val (.map (some mb)))) rfl rfl rfl rfl (λu hu=>(hZ [] x u hu.fact).1) ?_
 refine RH.go rfl rfl (OpGo.rangeMap (es:=es) (kv:=strV) 5 und_chgM rfl rfl rfl (λw hst=>(hZ _ _ _ hst.fact).2)) 6 ?_
 rintro ⟨⟩ m1 hm1
 refine RH.adv tk [] rfl rfl trivial ?_
 refine RH.loop (α:=List Nat × α) (λz=>[(0,.av (.val (.func (.yield l) #[] #[]))),(5,.av (.box 5 m 0))]) (λz=>[(5,iterE m mb es.length z.1)])
  (λz u=>Z (z.1.map (keyAt es)) z.2 u/\z.1.Nodup/\∀ i ∈ z.1,i < es.length) (λz=>es.length - z.1.length) ([],x) rfl rfl (λu hu=>⟨hu,List.nodup_nil,λi h=>by cases h⟩) ?_
 rintro ⟨js,y⟩ m2
 refine RH.pure (λu hu=>hu.2) λ⟨hnd,hlt⟩=>?_
 dsimp only at hnd hlt ⊢
 have hprest:=js_rest hnd hlt
 refine RH.adv tk [] rfl rfl trivial ?_
 refine V.RH.nextMap 5 m mb strV es js rfl rfl rfl rfl rfl (λu hu=>(hZ _ _ _ hu.1).2) ?_ ?_
 ·intro m3 hm3
  refine RH.pure (λu hu=>hu.2) λhall=>?_
  refine RH.a [false] ?_
  refine RH.fin0 Tryz.func199 rfl λw hst=>⟨⟨_,rfl⟩,.inl ⟨js.map (keyAt es),?_,y,hst.out [] rfl rfl λu h=>h.1.1⟩⟩
  rw [hxs,← keys_range]
  refine List.Perm.map _ ?_
  rw [List.perm_ext_iff_of_nodup hnd List.nodup_range]
  intro a
  rw [List.mem_range]
  exact ⟨hlt a,hall a⟩
 ·intro j hj m3 hm3
  refine RH.pure (λu hu=>hu.2) λhnot=>?_
  have hnd2:(js ++ [j]).Nodup:=by
   rw [List.nodup_append]
   refine ⟨hnd,by simp,λa ha b hb=>?_⟩
   rw [List.mem_singleton] at hb
   subst hb
   rintro rfl
   exact hnot ha
  have hlt2:∀ i ∈ js ++ [j],i < es.length:=λi hi=>by
   rcases List.mem_append.1 hi with h|h
   ·exact hlt i h
   ·rw [List.mem_singleton] at h;subst h;exact hj
  have hlen2:js.length < es.length:=by
   have h:=js_rest hnd2 hlt2
   have h1:=h.length_eq
   rw [List.length_append,List.length_append,List.length_range,List.length_singleton] at h1
   omega
  have hperm:∃ r,(js.map (keyAt es) ++ es[j].1 :: r).Perm xs:=by
   refine ⟨((List.range es.length).filter (λi=>!(js ++ [j]).contains i)).map (keyAt es),?_⟩
   have h:=(js_rest hnd2 hlt2).map (keyAt es)
   rw [keys_range,← hxs,List.map_append,List.map_append,List.append_assoc] at h
   have e:[j].map (keyAt es)=[es[j].1]:=by simp [keyAt_eq hj]
   rw [e] at h
   exact h
  refine RH.a [true] ?_
  refine RH.go rfl rfl (OpGo.entryMap (id:=5) (b:=m) (mb:=mb) (kv:=strV) (js:=js) hj rfl rfl rfl (λw hst=>(hZ _ _ _ hst.fact.1.1).2)) 7 ?_
  rintro ⟨⟩ m4 hm4
  refine RH.a [] ?_
  refine RH.yield (It:=λy2 u=>Z (js.map (keyAt es) ++ [es[j].1]) y2 u) (If:=λy2 u=>Zs (js.map (keyAt es)) y2 u) rfl rfl rfl rfl rfl (λw hst=>?_) ?_ ?_
  ·exact hY _ _ hperm y _ w (hst.mono λu _ hu=>hu.1.1)
  ·intro y2 m5 hm5
   refine RH.a [false] ?_
   refine RH.again (js ++ [j],y2) (.head _) rfl rfl (by show es.length - (js ++ [j]).length < es.length - js.length;rw [List.length_append,List.length_singleton];omega) λu hu=>⟨?_,hnd2,hlt2⟩
   show Z ((js ++ [j]).map (keyAt es)) y2 u
   rw [List.map_append]
   have e:[j].map (keyAt es)=[es[j].1]:=by simp [keyAt_eq hj]
   rw [e]
   exact hu
  ·intro y2 m5 hm5
   refine RH.a [true] ?_
   refine RH.ret0 Tryz.func199 rfl λw hst=>⟨⟨_,rfl⟩,.inr ⟨_,_,y2,hst⟩⟩
theorem Keys_spec (mb:Nat):Does Tryz.prog tb 126 [.map (some mb)] [] (λ_=>True) (λb:Nat=>.func (.func 199) #[] #[ptrV b]) (λb=>[(0,some (.box b [.val (.map (some mb))] 200))]) (λ_ _ _=>True):=by
 refine Does.enter tk [(0,.av (.val (.map (some mb))))] Tryz.func126 rfl Tryz.ntmps126 rfl rfl 0 ?_
 intro B0 m0 K
 refine RH.a [] ?_
 refine RH.ret1 Tryz.func126 rfl rfl λw hst=>⟨m0,rfl,hst.out [] rfl rfl λu h=>⟨h.1,trivial⟩⟩
theorem AppendSeq_spec (b mb:Nat) (es:List (Str × Value)) (hes:es.length ≤ 1000000) (xs:List Str) (hxs:xs=es.map Prod.fst) :
  Does Tryz.prog tb 257 [.slice none 0 0,.func (.func 199) #[] #[ptrV b]] [] (λu=>MapP u b mb es) (λy:(Option Addr × Nat) × List Str=>.slice y.1.1 y.2.length y.1.2) (λy=>[(0,rowE kStr y.1.1 y.1.2 y.2)]) (λy _ _=>y.2.Perm xs):=by
 have hlim:lim=140737488351232:=rfl
 have hxl:xs.length ≤ 1000000:=by rw [hxs,List.length_map];exact hes
 refine Does.enter tk [(0,.av (.val (.slice none 0 0))),(1,.av (.val (.func (.func 199) #[] #[ptrV b])))] Tryz.func257 rfl Tryz.ntmps257 rfl rfl 0 ?_
 intro B0 m0 K
 refine RH.a [] ?_
 refine V.RH.reBox (id:=0) [.row 50 (.slice none 0 0)] rfl rfl ⟨_,rfl,rfl,Tryz.t25,rfl,rfl⟩ ?_
 refine RH.nilrow 50 kStr.T kStr.sz 12 ?_
 refine RH.defs0 ?_
 refine V.RH.rangeFuncM (β:=Str) (α:=Option Addr × Nat) (σ:=Unit) (xs:=xs) (Gi:=[]) (G':=[]) (pre:=λu=>MapP u b mb es) (nx:=12) (enc:=λx=>[strE x]) rfl rfl (λxs w=>Tryz.call199 xs w) (keys1_spec b mb es xs hxs) (λ_=>rfl) rfl [] (λ_ _ _=>rfl) rfl
  [(2,.av (.box 0 m0 0))] rfl (λu=>K u/\MapP u b mb es) (λu h=>h) (λu h=>h.2)
  (λd y=>[(0,some (.box m0 [.row 50 (.slice y.1 d.length y.2)] 25)),(50,rowE kStr y.1 y.2 d)]) (λ_ _=>True) (none,0) trivial (λ_ _ _=>rfl)
  (λ_ _=>[]) (λ_ _=>False) .ret ?_ 60 ?_ ?_
 ·rintro d x ⟨r,hr⟩ ⟨A,c⟩ _ l D tt Kg m5 hKg
  have hdl:d.length < xs.length:=by
   have:=hr.length_eq
   rw [List.length_append,List.length_cons] at this
   omega
  dsimp only
  refine RH.a [] ?_
  refine RH.beginRound (id:=12) rfl rfl ?_
  refine RH.a [] ?_
  refine RH.apK (κ:=kStr) (id:=50) (l:=d) (r:=[x]) rfl rfl rfl rfl rfl rfl elt_str rfl rfl (λu hu=>hu.liR (κ:=kStr) (l:=[x]) (id:=14) rfl (by simp [hlim])) (by simp;omega) (by simp [hlim];omega) ?_
  intro A2 c2 m6 hm6
  refine RH.a [] ?_
  refine RH.leave .fin λu hst=>⟨(A2,c2),trivial,hst.out [] rfl rfl λu h=>h⟩
 ·rintro d ⟨A,c⟩ D m5 hd _
  refine RH.a [] ?_
  refine RH.retD1 Tryz.func257 rfl rfl λu hst=>⟨((A,c),d),rfl,hst.out [(0,50)] rfl rfl λu h=>⟨h.1,hd⟩⟩
 ·rintro d ⟨⟩ D m5 hF
  exact hF.elim
theorem Collect_spec (b mb:Nat) (es:List (Str × Value)) (hes:es.length ≤ 1000000) (xs:List Str) (hxs:xs=es.map Prod.fst) :
  Does Tryz.prog tb 198 [.func (.func 199) #[] #[ptrV b]] [] (λu=>MapP u b mb es) (λy:(Option Addr × Nat) × List Str=>.slice y.1.1 y.2.length y.1.2) (λy=>[(0,rowE kStr y.1.1 y.1.2 y.2)]) (λy _ _=>y.2.Perm xs):=by
 refine Does.enter tk [(0,.av (.val (.func (.func 199) #[] #[ptrV b])))] Tryz.func198 rfl Tryz.ntmps198 rfl rfl 0 ?_
 intro B0 m0 K
 refine RH.a [] ?_
 refine RH.dd [] 5 (λy:(Option Addr × Nat) × List Str=>rowS 0 y.1.1 y.2.length y.1.2) rfl rfl rfl Tryz.call257 (AppendSeq_spec b mb es hes xs hxs) (λu hu=>hu.fact.2) ?_
 rintro ⟨⟨A,c⟩,l⟩ m1 hm1
 refine RH.a [] ?_
 refine RH.ret1 Tryz.func198 rfl rfl λw hst=>⟨((A,c),l),rfl,hst.out [] rfl rfl λu h=>⟨h.1.1,h.2⟩⟩
theorem sortN_perm {a b:List Str} (h:a.Perm b):sortN a=sortN b:=by
 have htr:∀ x y z:Str,decide (x ≤ y)=true->decide (y ≤ z)=true->decide (x ≤ z)=true:=λx y z h1 h2=>by
  simp only [decide_eq_true_eq] at *
  exact List.le_trans h1 h2
 have hto:∀ x y:Str,(decide (x ≤ y) || decide (y ≤ x))=true:=λx y=>by
  simp only [Bool.or_eq_true,decide_eq_true_eq]
  exact List.le_total x y
 refine List.Perm.eq_of_pairwise (le:=λx y=>decide (x ≤ y)=true) (λx y _ _ h1 h2=>?_) (List.pairwise_mergeSort htr hto a) (List.pairwise_mergeSort htr hto b) ?_
 ·simp only [decide_eq_true_eq] at h1 h2
  exact List.le_antisymm h1 h2
 ·exact (List.mergeSort_perm a _).trans (h.trans (List.mergeSort_perm b _).symm)
theorem Sorted_spec (b mb:Nat) (es:List (Str × Value)) (hes:es.length ≤ 1000000) (xs:List Str) (hxs:xs=es.map Prod.fst) :
  Does Tryz.prog tb 125 [.func (.func 199) #[] #[ptrV b]] [] (λu=>MapP u b mb es) (λy:Option Addr × Nat=>.slice y.1 (sortN xs).length y.2) (λy=>[(0,rowE kStr y.1 y.2 (sortN xs))]) (λ_ _ _=>True):=by
 refine Does.enter tk [(0,.av (.val (.func (.func 199) #[] #[ptrV b])))] Tryz.func125 rfl Tryz.ntmps125 rfl rfl 0 ?_
 intro B0 m0 K
 refine RH.a [] ?_
 refine RH.dd [] 5 (λy:(Option Addr × Nat) × List Str=>rowS 0 y.1.1 y.2.length y.1.2) rfl rfl rfl Tryz.call198 (Collect_spec b mb es hes xs hxs) (λu hu=>hu.fact.2) ?_
 rintro ⟨⟨A,c⟩,l⟩ m1 hm1
 refine RH.pure (λu hu=>hu.2) λhperm=>?_
 dsimp only at hperm ⊢
 have hll:l.length ≤ 1000000:=by rw [hperm.length_eq,hxs,List.length_map];exact hes
 have hsl:(sortN xs).length=l.length:=by rw [← sortN_perm hperm];unfold sortN;simp
 refine RH.a [] ?_
 refine RH.dd [(0,0)] 7 (λ_:Unit=>.av (.val (.tuple #[]))) rfl rfl rfl Tryz.call27 (Sort_spec A c l hll) (λu hu=>trivial) ?_
 rintro ⟨⟩ m2 hm2
 refine RH.drop ?_
 rw [sortN_perm hperm]
 refine RH.a [] ?_
 refine RH.ret1 Tryz.func125 rfl rfl λw hst=>⟨(A,c),by rw [hsl];rfl,hst.out [] rfl rfl λu h=>⟨h.1.1,trivial⟩⟩
structure TChg where
 name:Str
 had:Bool
 has:Bool
 old:Sum
 new:Sum
deriving DecidableEq
abbrev tchF (c:TChg):List AV:=[.val (strV c.name),.val (.bool c.had),.val (.bool c.has),.val (sumV c.old),.val (sumV c.new)]
theorem tch_cells (c:TChg):(EV.st (tchF c)).v = .agg (strV c.name :: .bool c.had :: .bool c.has :: (c.old.l.map u8V ++ c.new.l.map u8V)).toArray:=by
 simp [EV.v,AV.v,flat,Value.cells,sumV]
theorem tch_one (c:TChg):∀ u ∈ (strV c.name :: .bool c.had :: .bool c.has :: (c.old.l.map u8V ++ c.new.l.map u8V)),u.oneCell'=true:=by
 intro u hu
 simp only [List.mem_cons,List.mem_append,List.mem_map] at hu
 rcases hu with rfl|rfl|rfl|⟨b,_,rfl⟩|⟨b,_,rfl⟩<;>rfl
theorem vok_tch (c:TChg):VOk tb 98 (EV.st (tchF c)).v:=by
 rw [tch_cells]
 exact ⟨_,Tryz.t98,rfl,rfl,by simp [c.old.h,c.new.h];rfl,tch_one c⟩
def kTCh:Kd TChg where
 T:=98
 sz:=67
 ev c:=.st (tchF c)
 ok c:=vok_tch c
 size c:=by rw [tch_cells];simp [Value.cells,c.old.h,c.new.h]
theorem elt_tch:ElT tb kTCh.T 67 88:=⟨⟨Tryz.t98,(Tryz.t98).zero.getD undef,by kernel_rfl,by kernel_rfl,by kernel_rfl,by kernel_rfl,by kernel_rfl⟩,by decide⟩
def fT (nm:String) (t:TypeId) (o b:Nat):Field:={ name:=nm,type:=t,offset:=o,embedded:=false,tag := "", pkgPath := "", byteOffset:=b }
theorem fields_tch:(Tryz.prog.fieldsOf 98).toList=[fT "Name" 9 0 0,fT "Had" 4 1 16,fT "Has" 4 2 17,fT "Old" 40 3 18,fT "New" 40 35 50]:=by kernel_rfl
theorem stood_tch:Tryz.prog.stoodInHeld 98=false:=by kernel_rfl
theorem undf_tch:Tryz.prog.underlying 98=some (.struct (Tryz.prog.fieldsOf 98)):=by kernel_rfl
theorem eqT_nil {P:Program} (w:World) (d:Nat) (xs ys:Array Value):(Op.eqFields d xs ys []).run P w = .ok true w:=by simp [Op.eqFields]
theorem eqT_cons {P:Program} (w:World) (d:Nat) (f:Field) (fs:List Field) (h:f.name ≠ "_") (xs ys:Array Value) {a b:Value} {p q:Bool}
  (pa:(part f.type xs f.offset).run P w = .ok a w) (pb:(part f.type ys f.offset).run P w = .ok b w) (pe:(Op.equalIn d f.type a b).run P w = .ok p w)
  (ih:(Op.eqFields d xs ys fs).run P w = .ok q w):(Op.eqFields d xs ys (f :: fs)).run P w = .ok (p && q) w:=by
 simp only [Op.eqFields,Sem.run_ite]
 rw [if_pos h]
 simp only [Sem.run_bind,pa,pb,pe,Result.andThen_ok]
 cases p
 ·simp
 ·simp only [Bool.not_true,Bool.false_eq_true,if_false,Bool.true_and,Sem.run_ite]
  exact ih
theorem eqT_bool (w:World) (d:Nat) (a b:Bool):(Op.equalIn (d+1) 4 (.bool a) (.bool b)).run Tryz.prog w = .ok (decide (a=b)) w:=by
 have hu:Tryz.prog.underlying 4=some .bool:=tk.und rfl
 rw [Op.equalIn]
 simp only [Sem.run_bind,run_underlying hu,Result.andThen_ok]
 cases a<;>cases b<;>rfl
theorem eq_tchg (w:World) (d:Nat) (a b:TChg):(Op.equalIn (d+3) 98 (EV.st (tchF a)).v (EV.st (tchF b)).v).run Tryz.prog w = .ok (decide (a=b)) w:=by
 rw [tch_cells,tch_cells,run_equalIn_struct w (d+2) _ _ _ undf_tch stood_tch,fields_tch]
 have hs:∀ (x:TChg),(part 40 (strV x.name :: .bool x.had :: .bool x.has :: (x.old.l.map u8V ++ x.new.l.map u8V)).toArray 3).run Tryz.prog w = .ok (sumV x.old) w:=λx=>by
  rw [part_row w (tk.und und_sum) rfl (run_tsize tk (i:=Tryz.t40) rfl)]
  have hlen:(x.old.l.map u8V).length=32:=by simp [x.old.h]
  have:((strV x.name :: .bool x.had :: .bool x.has :: (x.old.l.map u8V ++ x.new.l.map u8V)).take (3+Tryz.t40.size)).drop 3=x.old.l.map u8V:=by
   show ((strV x.name :: .bool x.had :: .bool x.has :: (x.old.l.map u8V ++ x.new.l.map u8V)).take (32+3)).drop 3=_
   simp only [List.take_succ_cons,List.drop_succ_cons,List.drop_zero]
   rw [← hlen,List.take_left]
  rw [this]
  rfl
 have hn:∀ (x:TChg),(part 40 (strV x.name :: .bool x.had :: .bool x.has :: (x.old.l.map u8V ++ x.new.l.map u8V)).toArray 35).run Tryz.prog w = .ok (sumV x.new) w:=λx=>by
  rw [part_row w (tk.und und_sum) rfl (run_tsize tk (i:=Tryz.t40) rfl)]
  have hlen:(x.old.l.map u8V).length=32:=by simp [x.old.h]
  have hlen2:(x.new.l.map u8V).length=32:=by simp [x.new.h]
  have:((strV x.name :: .bool x.had :: .bool x.has :: (x.old.l.map u8V ++ x.new.l.map u8V)).take (35+Tryz.t40.size)).drop 35=x.new.l.map u8V:=by
   show ((strV x.name :: .bool x.had :: .bool x.has :: (x.old.l.map u8V ++ x.new.l.map u8V)).take (64+3)).drop (32+3)=_
   simp only [List.take_succ_cons,List.drop_succ_cons]
   rw [List.take_of_length_le (by rw [List.length_append,hlen,hlen2];decide),← hlen,List.drop_left]
  rw [this]
  rfl
 have e6:=eqT_cons w (d+2) (fT "New" 40 35 50) [] (by decide) _ _ (hn a) (hn b) (eq_sum w d a.new b.new) (eqT_nil w _ _ _)
 have e5:=eqT_cons w (d+2) (fT "Old" 40 3 18) _ (by decide) _ _ (hs a) (hs b) (eq_sum w d a.old b.old) e6
 have h3:∀ x:TChg,(part 4 (strV x.name :: .bool x.had :: .bool x.has :: (x.old.l.map u8V ++ x.new.l.map u8V)).toArray 2).run Tryz.prog w = .ok (.bool x.has) w:=λx=>part_one w (tk.und (d:=.bool) rfl) rfl _ 2 (.bool x.has) rfl
 have h2:∀ x:TChg,(part 4 (strV x.name :: .bool x.had :: .bool x.has :: (x.old.l.map u8V ++ x.new.l.map u8V)).toArray 1).run Tryz.prog w = .ok (.bool x.had) w:=λx=>part_one w (tk.und (d:=.bool) rfl) rfl _ 1 (.bool x.had) rfl
 have h1:∀ x:TChg,(part 9 (strV x.name :: .bool x.had :: .bool x.has :: (x.old.l.map u8V ++ x.new.l.map u8V)).toArray 0).run Tryz.prog w = .ok (strV x.name) w:=λx=>part_one w (tk.und (d:=.string) rfl) rfl _ 0 (strV x.name) rfl
 have e4:=eqT_cons w (d+2) (fT "Has" 4 2 17) _ (by decide) _ _ (h3 a) (h3 b) (eqT_bool w (d+1) a.has b.has) e5
 have e3:=eqT_cons w (d+2) (fT "Had" 4 1 16) _ (by decide) _ _ (h2 a) (h2 b) (eqT_bool w (d+1) a.had b.had) e4
 have e2:=eqT_cons w (d+2) (fT "Name" 9 0 0) _ (by decide) _ _ (h1 a) (h1 b) (eq_str w (d+1) a.name b.name) e3
 rw [e2]
 congr 1
 rw [Bool.eq_iff_iff]
 simp only [Bool.and_eq_true,decide_eq_true_iff,Bool.and_true]
 constructor
 ·rintro ⟨h2,h3,h4,h5,h6⟩;cases a;cases b;simp_all
 ·rintro rfl;exact ⟨rfl,rfl,rfl,rfl,rfl⟩
theorem equalC_spec (w:World) (A B:Option Addr) (ca cb:Nat) (la lb:List TChg) (ha:Sl kTCh w A ca la) (hb:Sl kTCh w B cb lb) :
  Gives Tryz.prog 73 [.slice A la.length ca,.slice B lb.length cb] w (boE (decide (la=lb))):=by
 have sa:=ha.small
 have hl:lim=140737488351232:=rfl
 refine enterH tk [(0,slE A la.length ca),(1,slE B lb.length cb)] Tryz.func73 rfl Tryz.ntmps73 rfl rfl ?_
 by_cases hlen:la.length=lb.length
 ·refine RH.adv tk [false] rfl rfl (by simp [hlen]<;>omega) ?_
  refine RH.loop (α:=Nat) (λi=>[(0,slE A la.length ca),(1,slE B lb.length cb),(13,intE i),(12,intE la.length)]) (λ_=>[]) (λi w'=>Ext w w'/\i ≤ la.length/\la.take i=lb.take i) (λi=>la.length - i) 0
   rfl rfl (λw' h=>⟨h,Nat.zero_le _,rfl⟩) ?_
  intro i m
  refine RH.pure (λw' h=>h.2) λ⟨hi,hpre⟩=>?_
  by_cases hlt:i < la.length
  ·have hltb:i < lb.length:=by omega
   refine RH.a [true] ?_
   refine RH.w [] 9 ?_
   refine RD.b [] rfl rfl (by simp [ha.ptr hlt,hb.ptr hltb]<;>omega) ?_
   refine RD.ld 3 (.st (tchF la[i])) rfl rfl (λw' h=>(ha.ext h.1).load hlt) ?_
   refine RD.ld 7 (.st (tchF lb[i])) rfl rfl (λw' h=>(hb.ext h.1).load hltb) ?_
   refine RD.r 8 (boE (!decide (la[i]=lb[i]))) rfl rfl (λw' a h hag=>op_neq hag rfl rfl rfl rfl rfl (by kernel_rfl) (eq_tchg w' 9997 _ _)) ?_
   refine RD.e ?_
   by_cases he:la[i]=lb[i]
   ·refine RH.adv tk [false] rfl rfl (by simp [he]<;>omega) ?_
    refine RH.again (i+1) (.head _) rfl rfl (by omega) λw' h=>⟨h.1,by omega,?_⟩
    rw [List.take_succ_eq_append_getElem hlt,List.take_succ_eq_append_getElem hltb,hpre,he]
   ·refine RH.adv tk [true] rfl rfl (by simp [he]<;>omega) ?_
    refine RH.ret1 Tryz.func73 rfl rfl λw' hst=>⟨?_,hst.fact.1⟩
    have:la ≠ lb:=λe=>he (by subst e;rfl)
    simp [this,EV.v,AV.v]
  ·refine RH.a [false] ?_
   refine RH.ret1 Tryz.func73 rfl rfl λw' hst=>⟨?_,hst.fact.1⟩
   have:la=lb:=by
    rw [← List.take_of_length_le (l:=la) (i:=i) (by omega),hpre,List.take_of_length_le (by omega)]
   simp [this,EV.v,AV.v]
 ·refine RH.adv tk [true] rfl rfl (by simp [hlen]<;>omega) ?_
  refine RH.ret1 Tryz.func73 rfl rfl λw' hst=>⟨?_,hst.fact⟩
  have:la ≠ lb:=λe=>hlen (by rw [e])
  simp [this,EV.v,AV.v]
theorem idxFuncC (w:World) (A:Option Addr) (c:Nat) (l:List TChg) (h:Sl kTCh w A c l) (g:FuncId) (f1 c1:List Value) (p:TChg->Bool) (hf:Fun1 kTCh w g f1 c1 l p) :
  Gives Tryz.prog 132 [.slice A l.length c,.func (.func g) f1.toArray c1.toArray] w (intE (idxOf p l 0)):=by
 have hl:lim=140737488351232:=rfl
 have hsm:=h.small
 refine enterH tk [(0,slE A l.length c),(1,.av (.val (.func (.func g) f1.toArray c1.toArray)))] Tryz.func132 rfl Tryz.ntmps132 rfl rfl ?_
 refine RH.a [] ?_
 refine RH.loop (α:=Nat) (λi=>[(0,slE A l.length c),(1,.av (.val (.func (.func g) f1.toArray c1.toArray))),(7,intE l.length),(8,intE i)]) (λ_=>[]) (λi w'=>Ext w w'/\i ≤ l.length/\(l.take i).any p=false) (λi=>l.length - i) 0
  rfl rfl (λw' h=>⟨h,Nat.zero_le _,rfl⟩) ?_
 intro i m
 refine RH.pure (λw' h=>h.2) λ⟨hi,hpre⟩=>?_
 by_cases hlt:i < l.length
 ·have hts:l.take (i+1)=l.take i ++ [l[i]]:=List.take_succ_eq_append_getElem hlt
  refine RH.adv tk [true] rfl rfl (by simp [h.ptr hlt]<;>omega) ?_
  refine RH.load (.st (tchF l[i])) rfl rfl rfl rfl (λw' h'=>(h.ext h'.1).load hlt) ?_
  refine RH.gives (g:=g) (f1:=f1) (c1:=c1) (boE (p l[i])) rfl rfl rfl rfl rfl hf.enter (λw' hst=>hf.says _ (List.getElem_mem hlt) w' hst.fact.1) ?_
  intro m' hm'
  by_cases hp:p l[i]=true
  ·refine RH.adv tk [true] rfl rfl (by simp [hp]<;>omega) ?_
   refine RH.ret1 Tryz.func132 rfl rfl λw' hst=>⟨?_,hst.fact.1⟩
   rw [idxOf_at p l 0 i hlt hpre hp,Nat.zero_add]
  ·refine RH.adv tk [false] rfl rfl (by simp [hp]<;>omega) ?_
   refine RH.again (i+1) (.head _) rfl rfl (by omega) λw' h=>⟨h.1,by omega,?_⟩
   rw [hts,List.any_append,hpre];simp [hp]
 ·rw [List.take_of_length_le (by omega)] at hpre
  refine RH.a [false] ?_
  refine RH.ret1 Tryz.func132 rfl rfl λw' hst=>⟨?_,hst.fact.1⟩
  rw [idxOf_none p l 0 hpre]
theorem containsFuncC (w:World) (A:Option Addr) (c:Nat) (l:List TChg) (h:Sl kTCh w A c l) (g:FuncId) (f1 c1:List Value) (p:TChg->Bool) (hf:Fun1 kTCh w g f1 c1 l p) :
  Gives Tryz.prog 69 [.slice A l.length c,.func (.func g) f1.toArray c1.toArray] w (boE (l.any p)):=by
 refine enterH tk [(0,slE A l.length c),(1,.av (.val (.func (.func g) f1.toArray c1.toArray)))] Tryz.func69 rfl Tryz.ntmps69 rfl rfl ?_
 refine RH.a [] ?_
 refine RH.gv (intE (idxOf p l 0)) rfl rfl rfl Tryz.call132 (λw' hst=>idxFuncC w' A c l (h.ext hst.fact) g f1 c1 p (hf.ext hst.fact)) ?_
 intro m' hm'
 refine RH.a [] ?_
 refine RH.ret1 Tryz.func69 rfl rfl λw' hst=>⟨?_,hst.fact⟩
 have:decide (0 ≤ idxOf p l 0)=l.any p:=by rw [Bool.eq_iff_iff];simp only [decide_eq_true_eq];exact idxOf_ge p l 0
 simp [this,EV.v,AV.v]
theorem cloneC (A:Option Addr) (c:Nat) (l:List TChg) (hb:l.length*88 ≤ 140737488355328):Does Tryz.prog tb 71 [.slice A l.length c] [] (λu=>Sl kTCh u A c l) (λy:Option Addr × Nat=>.slice y.1 l.length y.2) (λy=>[(0,rowE kTCh y.1 y.2 l)]) (λ_ _ _=>True):=by
 refine Does.enter tk [(0,slE A l.length c)] Tryz.func71 rfl Tryz.ntmps71 rfl rfl 0 ?_
 intro B0 m K
 refine RH.pure (λu h=>And.intro h.2.nil h.2.small) λ⟨hnil,hsm⟩=>?_
 cases hA:A.isNone with
 | true =>
  have hn:A=none:=Option.isNone_iff_eq_none.1 hA
  obtain ⟨rfl,rfl⟩:=hnil hn
  subst hn
  refine RH.a [true] ?_
  refine RH.ret1 Tryz.func71 rfl rfl λw hst=>⟨(none,0),rfl,(hst.nilrow 0 kTCh).out [] rfl rfl λu h=>⟨h.1,trivial⟩⟩
 | false =>
  refine RH.adv tk [false] rfl rfl ⟨hA,trivial⟩ ?_
  refine RH.apK (κ:=kTCh) (id:=0) (l:=[]) (r:=l) rfl rfl rfl rfl rfl rfl elt_tch rfl rfl (λw hst=>hst.fact.2.lies) (by simp;omega) (by simp;omega) ?_
  intro A' c' m' hm'
  refine RH.a [] ?_
  refine RH.ret1 Tryz.func71 rfl rfl λw hst=>⟨(A',c'),rfl,hst.out [] rfl rfl λu h=>⟨h.1,trivial⟩⟩
abbrev tchV (c:TChg):Value:=(EV.st (tchF c)).v
def chM (l:List (Str × TChg)):List (Str × Value):=l.map λp=>(p.1,tchV p.2)
def findC (k:Str):List (Str × TChg)->Nat->Option (Nat × TChg)
 | [],_=>none
 | p :: r,i=>if k=p.1 then some (i,p.2) else findC k r (i+1)
def getC (l:List (Str × TChg)) (k:Str):Option TChg:=(findC k l 0).map Prod.snd
def setC (l:List (Str × TChg)) (k:Str) (c:TChg):List (Str × TChg):=match findC k l 0 with
 | some (i,_)=>l.set i (k,c)
 | none=>l ++ [(k,c)]
theorem findI_chM (k:Str):∀ (l:List (Str × TChg)) (n:Nat),findI k (chM l) n=(findC k l n).map λp=>(p.1,tchV p.2)
 | [],_=>rfl
 | p :: r,n=>by
  show (if k=p.1 then some (n,tchV p.2) else findI k (chM r) (n+1))=_
  unfold findC
  by_cases h:k=p.1
  ·rw [if_pos h,if_pos h];rfl
  ·rw [if_neg h,if_neg h];exact findI_chM k r (n+1)
theorem getM_chM (l:List (Str × TChg)) (k:Str):getM (chM l) k=(getC l k).map tchV:=by
 unfold getM getC
 rw [findI_chM]
 cases findC k l 0<;>rfl
theorem setM_chM (l:List (Str × TChg)) (k:Str) (c:TChg):setM (chM l) k (tchV c)=chM (setC l k c):=by
 unfold setM setC
 rw [findI_chM]
 cases findC k l 0 with
 | none=>simp [chM]
 | some p=>simp [chM,List.map_set]
theorem setC_len (l:List (Str × TChg)) (k:Str) (c:TChg):(setC l k c).length ≤ l.length+1:=by
 unfold setC
 cases findC k l 0 with
 | none=>simp
 | some p=>simp
theorem chM_keys (l:List (Str × TChg)):(chM l).map Prod.fst=l.map Prod.fst:=by
 unfold chM;rw [List.map_map];rfl
def TChg.none_:TChg:=⟨[],false,false,Sum.zero,Sum.zero⟩
def diffA (L:List (Str × TChg)) (e:Str × Sum):List (Str × TChg):=setC L e.1 ⟨e.1,true,false,e.2,Sum.zero⟩
def diffB (L:List (Str × TChg)) (e:Str × Sum):List (Str × TChg):=setC L e.1 ⟨e.1,((getC L e.1).getD TChg.none_).had,true,((getC L e.1).getD TChg.none_).old,e.2⟩
def diffM (s t:Option Tree):List (Str × TChg):=(enO t).foldl diffB ((enO s).foldl diffA [])
def diff1 (L:List (Str × TChg)) (k:Str):List TChg:=if (getC L k).getD TChg.none_=⟨k,true,true,((getC L k).getD TChg.none_).old,((getC L k).getD TChg.none_).old⟩ then [] else [(getC L k).getD TChg.none_]
def diffL (s t:Option Tree):List TChg:=(sortN ((diffM s t).map Prod.fst)).flatMap (diff1 (diffM s t))
theorem foldC_len (f:List (Str × TChg)->Str × Sum->List (Str × TChg)) (hf:∀ L e,(f L e).length ≤ L.length+1):∀ (l:List (Str × Sum)) (L:List (Str × TChg)),(l.foldl f L).length ≤ L.length+l.length
 | [],L=>Nat.le_refl _
 | e :: r,L=>by
  have h1:=foldC_len f hf r (f L e)
  have h2:=hf L e
  rw [List.foldl_cons,List.length_cons]
  omega
theorem foldC_succ (f:List (Str × TChg)->Str × Sum->List (Str × TChg)) (l:List (Str × Sum)) (L:List (Str × TChg)) {i:Nat} (h:i < l.length):(l.take (i+1)).foldl f L=f ((l.take i).foldl f L) l[i]:=by
 rw [List.take_succ_eq_append_getElem h,List.foldl_append];rfl
section
variable {P:Program} {n:Nat} {B0:Nat} {I:World->Prop} {H:Heap} {m:Nat} {env:SEnv} {d:Nat} {ty:TypeId} {ps:String} {af:Array Edge} {gd:Option (Nat × Bool)} {α:Type} [DecidableEq α] {T:TypeId} {kv:α->Value} {b:Nat} {es:List (α × Value)} {t elem:TypeId} {x y:Operand} {ex ey:EV} {k:α}
theorem V.OpGo.lookupE (e:EV) (hk:MKey P T kv) (ht:P.underlying t=some (.map T elem)) {z:Value} (hz:∀ w,(zeroValue elem).run P w = .ok z w) (hd:Nat.blt d n=true) (hx:evE env x=some ex) (hxv:ex.v = .map (some b)) (hy:evE env y=some ey) (hyv:ey.v=kv k) (hH:∀ w,St tb B0 H I w->w.heap[b]? = some (mapO kv es)) (hv:(getM es k).getD z=e.v) :
  OpGo P tb B0 n ⟨some d,.lookup t x y false,ty,ps,af,gd⟩ env H m I (λ_:Unit=>(d,e) :: env) (λ_=>H) (λ_=>I) :=
 OpGo.read e rfl hd λw a hst ha=>by
  have hxe:=(ev_run ha hx).trans hxv
  have hye:=(ev_run ha hy).trans hyv
  have h:=run_lookup hk ht hz (hH w hst) false (k:=k)
  rw [if_neg (by decide),hv] at h
  simp only [execOp,hxe,hye,Sem.run_bind,h,Result.andThen_ok,Sem.run_pure]
end
theorem zero_tch:∀ w,(zeroValue 98).run Tryz.prog w = .ok (tchV TChg.none_) w:=λw=>by
 have hi:Tryz.prog.info? 98=some Tryz.t98:=tk.get (by kernel_rfl)
 have hz:(Tryz.t98).zero=some (tchV TChg.none_):=by kernel_rfl
 simp [zeroValue,typeInfo,hi,hz]
theorem get_noneC (L:List (Str × TChg)) (k:Str):(getM (chM L) k).getD (tchV TChg.none_)=(EV.st (tchF ((getC L k).getD TChg.none_))).v:=by
 rw [getM_chM]
 cases getC L k<;>rfl
theorem chM_diffA (L:List (Str × TChg)) (e:Str × Sum):chM (diffA L e)=setM (chM L) e.1 (tchV ⟨e.1,true,false,e.2,Sum.zero⟩):=(setM_chM _ _ _).symm
theorem chM_diffB (L:List (Str × TChg)) (e:Str × Sum):chM (diffB L e)=setM (chM L) e.1 (tchV ⟨e.1,((getC L e.1).getD TChg.none_).had,true,((getC L e.1).getD TChg.none_).old,e.2⟩):=(setM_chM _ _ _).symm
theorem diffM_len (s t:Option Tree):(diffM s t).length ≤ (enO s).length+(enO t).length:=by
 have h1:=foldC_len diffA (λL e=>setC_len _ _ _) (enO s) []
 have h2:=foldC_len diffB (λL e=>setC_len _ _ _) (enO t) ((enO s).foldl diffA [])
 unfold diffM
 rw [List.length_nil] at h1
 omega
theorem diff1_len (L:List (Str × TChg)) (k:Str):(diff1 L k).length ≤ 1:=by unfold diff1;split<;>simp
theorem flat1_len (L:List (Str × TChg)):∀ ks:List Str,(ks.flatMap (diff1 L)).length ≤ ks.length
 | []=>Nat.le_refl _
 | k :: r=>by
  have h1:=diff1_len L k
  have h2:=flat1_len L r
  rw [List.flatMap_cons,List.length_append,List.length_cons]
  omega
theorem Diff_spec (po:Option Plot) (s:Option Tree) (qo:Option Plot) (t:Option Tree) (hs:okO s) (hls:lowO 1000 s) (ht:okO t) (hlt:lowO 1000 t) (hm1:maO s ≤ 100000) (hm2:maO t ≤ 100000) :
  Does Tryz.prog tb 53 [(mapE po).v,(mapE qo).v] [] (λu=>IsO u po s/\IsO u qo t) (λy:Option Addr × Nat=>.slice y.1 (diffL s t).length y.2) (λy=>[(0,rowE kTCh y.1 y.2 (diffL s t))]) (λ_ _ _=>True):=by
 have hlim:lim=140737488351232:=rfl
 have e1:=entsO_many s
 have e2:=entsO_many t
 refine Does.enter tk [(0,mapE po),(1,mapE qo)] Tryz.func53 rfl Tryz.ntmps53 rfl rfl 0 ?_
 intro B0 m0 K
 refine RH.a [] ?_
 refine RH.go rfl rfl (OpGo.makeMap 3 strV rfl) 4 ?_
 rintro ⟨⟩ m1 hmm1
 refine RH.a [] ?_
 refine RH.dd [] 10 (λy:Option Addr × Nat=>rowS 4 y.1 (enO s).length y.2) rfl rfl rfl Tryz.call97 (entries_O po s 1000 hs hls (Nat.le_refl _)) (λu hu=>hu.fact.2.1) ?_
 rintro ⟨A1,c1⟩ m2 hmm2
 refine RH.drop ?_
 refine RH.a [] ?_
 dsimp only
 refine RH.loop (α:=Nat) (λi=>[(3,.av (.box 1 (m0+1) 0)),(5,.av (.val (.map (some (m0+1+1))))),(18,rowS 4 A1 (enO s).length c1),(19,intE (enO s).length),(20,intE i)])
  (λi=>[(1,some (.box (m0+1) [.val (ptrO qo)] 31)),(3,V.mapE (m0+1+1) strV (chM (((enO s).take i).foldl diffA []))),(4,rowE kEnt A1 c1 (enO s))]) (λi u=>(K u/\IsO u po s/\IsO u qo t)/\i ≤ (enO s).length) (λi=>(enO s).length - i) 0 rfl rfl (λu hu=>⟨hu,Nat.zero_le _⟩) ?_
 intro i m3
 refine RH.pure (λu hu=>hu.2) λhi=>?_
 by_cases hlt1:i < (enO s).length
 ·refine RH.pureS (λu hu=>hu.ptr (id:=4) (κ:=kEnt) (l:=enO s) rfl (by intro e;rw [e] at hlt1;cases hlt1)) λhptr=>?_
  refine RH.adv tk [true] rfl rfl (by simp [hptr]<;>omega) ?_
  refine RH.loadS (.st (entF (enO s)[i])) rfl rfl rfl rfl (λu hu=>(Sl.own (B:=B0) (hu.row (κ:=kEnt) (l:=enO s) (id:=4) rfl) (by omega)).load hlt1) ?_
  refine RH.a [] ?_
  refine RH.go rfl rfl (OpGo.mapUpdate (id:=3) (k:=(enO s)[i].1) key_str und_chgM rfl rfl rfl rfl rfl rfl) 60 ?_
  rintro ⟨⟩ m4 hm4
  refine RH.a [] ?_
  refine RH.again (i+1) (.head _) rfl ?_ (by show (enO s).length - (i+1) < (enO s).length - i;omega) λu hu=>⟨hu.1,hlt1⟩
  rw [foldC_succ _ _ _ hlt1,chM_diffA]
  rfl
 have hi':i=(enO s).length:=by omega
 subst hi'
 rw [List.take_length]
 generalize hL1:(enO s).foldl diffA []=L1
 refine RH.a [false] ?_
 refine RH.dd [] 30 (λy:Option Addr × Nat=>rowS 10 y.1 (enO t).length y.2) rfl rfl rfl Tryz.call97 (entries_O qo t 1000 ht hlt (Nat.le_refl _)) (λu hu=>hu.fact.1.2.2) ?_
 rintro ⟨A2,c2⟩ m4 hmm4
 refine RH.drop ?_
 refine RH.a [] ?_
 dsimp only
 refine RH.loop (α:=Nat) (λi=>[(5,.av (.val (.map (some (m0+1+1))))),(35,rowS 10 A2 (enO t).length c2),(36,intE (enO t).length),(37,intE i)])
  (λi=>[(3,V.mapE (m0+1+1) strV (chM (((enO t).take i).foldl diffB L1))),(10,rowE kEnt A2 c2 (enO t))]) (λi u=>K u/\i ≤ (enO t).length) (λi=>(enO t).length - i) 0 rfl rfl (λu hu=>⟨hu.1.1,Nat.zero_le _⟩) ?_
 intro i m5
 refine RH.pure (λu hu=>hu.2) λhi=>?_
 refine RH.toNx 30 ?_
 by_cases hlt2:i < (enO t).length
 ·refine RH.pureS (λu hu=>hu.ptr (id:=10) (κ:=kEnt) (l:=enO t) rfl (by intro e;rw [e] at hlt2;cases hlt2)) λhptr=>?_
  refine RH.adv tk [true] rfl rfl (by simp [hptr]<;>omega) ?_
  refine RH.loadS (.st (entF (enO t)[i])) rfl rfl rfl rfl (λu hu=>(Sl.own (B:=B0) (hu.row (κ:=kEnt) (l:=enO t) (id:=10) rfl) (by omega)).load hlt2) ?_
  refine RH.a [] ?_
  generalize hLi:((enO t).take i).foldl diffB L1=Li
  refine RH.go rfl rfl (V.OpGo.lookupE (es:=chM Li) (k:=(enO t)[i].1) (.st (tchF ((getC Li (enO t)[i].1).getD TChg.none_))) key_str und_chgM zero_tch rfl rfl rfl rfl rfl (λu hu=>(hu.holds 3 _ rfl).2) (get_noneC Li _)) 31 ?_
  rintro ⟨⟩ m6 hm6
  refine RH.a [] ?_
  refine RH.w [(30,some (.box m5 (entF (enO t)[i]) 155))] 10 ?_
  refine RD.a [] ?_
  refine RD.s 32 5 ?_
  refine RD.a [] ?_
  refine RD.s 32 7 ?_
  refine RD.a [] ?_
  refine RD.z 9 ?_
  intro m7 hm7
  refine RH.a [] ?_
  refine RH.go rfl rfl (OpGo.mapUpdate (id:=3) (es:=chM Li) (k:=(enO t)[i].1) key_str und_chgM rfl rfl rfl rfl rfl rfl) 33 ?_
  rintro ⟨⟩ m8 hm8
  refine RH.a [] ?_
  refine RH.again (i+1) (.head _) rfl ?_ (by show (enO t).length - (i+1) < (enO t).length - i;omega) λu hu=>⟨hu.1,hlt2⟩
  rw [foldC_succ _ _ _ hlt2,hLi,chM_diffB]
  rfl
 have hi':i=(enO t).length:=by omega
 subst hi'
 rw [List.take_length]
 have hLM:(enO t).foldl diffB L1=diffM s t:=by unfold diffM;rw [hL1]
 rw [hLM]
 have hdl:=diffM_len s t
 unfold diffL
 generalize diffM s t=L at *
 refine RH.a [false] ?_
 refine RH.dd [] 40 (λb:Nat=>.av (.val (.func (.func 199) #[] #[ptrV b]))) rfl rfl rfl Tryz.call126 (Keys_spec (m0+1+1)) (λu hu=>trivial) ?_
 rintro bk m6 hm6
 refine RH.drop ?_
 dsimp only
 refine RH.a [] ?_
 have hck:(chM L).length ≤ 1000000:=by unfold chM;rw [List.length_map];omega
 refine RH.dd [] 50 (λy:Option Addr × Nat=>rowS 40 y.1 (sortN (L.map Prod.fst)).length y.2) rfl rfl rfl Tryz.call125 (Sorted_spec bk (m0+1+1) (chM L) hck (L.map Prod.fst) (chM_keys L).symm) (λu hu=>⟨hu.loadBox (id:=30) (e:=.av (.val (.map (some (m0+1+1))))) tk rfl rfl u (Ext.rfl' u),(hu.holds 3 _ rfl).2⟩) ?_
 rintro ⟨A3,c3⟩ m7 hm7
 refine RH.drop ?_
 refine RH.a [] ?_
 dsimp only
 have hksl:(sortN (L.map Prod.fst)).length=L.length:=by unfold sortN;simp
 generalize sortN (L.map Prod.fst)=ks at *
 refine RH.nilrow 80 kTCh.T kTCh.sz 50 ?_
 refine RH.loop (α:=Nat × (Option Addr × Nat)) (λy=>[(5,.av (.val (.map (some (m0+1+1))))),(59,rowS 40 A3 ks.length c3),(60,intE ks.length),(61,intE y.1),(11,rowS 80 y.2.1 ((ks.take y.1).flatMap (diff1 L)).length y.2.2)])
  (λy=>[(3,V.mapE (m0+1+1) strV (chM L)),(40,rowE kStr A3 c3 ks),(80,rowE kTCh y.2.1 y.2.2 ((ks.take y.1).flatMap (diff1 L)))]) (λy u=>K u/\y.1 ≤ ks.length) (λy=>ks.length - y.1) (0,(none,0)) rfl rfl (λu hu=>⟨hu.1,Nat.zero_le _⟩) ?_
 rintro ⟨i,A4,c4⟩ m8
 refine RH.pure (λu hu=>hu.2) λhi=>?_
 refine RH.toNx 90 ?_
 dsimp only at hi ⊢
 have hfl:=flat1_len L (ks.take i)
 rw [List.length_take] at hfl
 by_cases hlt3:i < ks.length
 ·have hts:(ks.take (i+1)).flatMap (diff1 L)=(ks.take i).flatMap (diff1 L) ++ diff1 L ks[i]:=by rw [List.take_succ_eq_append_getElem hlt3,List.flatMap_append,List.flatMap_cons,List.flatMap_nil,List.append_nil]
  refine RH.pureS (λu hu=>hu.ptr (id:=40) (κ:=kStr) (l:=ks) rfl (by intro e;rw [e] at hlt3;cases hlt3)) λhptr=>?_
  refine RH.adv tk [true] rfl rfl (by simp [hptr]<;>omega) ?_
  refine RH.loadS (strE ks[i]) rfl rfl rfl rfl (λu hu=>(Sl.own (B:=B0) (hu.row (κ:=kStr) (l:=ks) (id:=40) rfl) (by omega)).load hlt3) ?_
  refine RH.a [] ?_
  generalize hc:(getC L ks[i]).getD TChg.none_=cc
  refine RH.go rfl rfl (V.OpGo.lookupE (es:=chM L) (k:=ks[i]) (.st (tchF cc)) key_str und_chgM zero_tch rfl rfl rfl rfl rfl (λu hu=>(hu.holds 3 _ rfl).2) (by rw [get_noneC,hc])) 91 ?_
  rintro ⟨⟩ m9 hm9
  refine RH.a [] ?_
  refine RH.read (boE (!decide (cc=⟨ks[i],true,true,cc.old,cc.old⟩))) rfl rfl rfl rfl (λw' a _ hag=>op_neq (u:=.st (tchF cc)) (v:=.st (tchF ⟨ks[i],true,true,cc.old,cc.old⟩)) hag rfl rfl rfl rfl rfl (by kernel_rfl) (eq_tchg w' 9997 _ _)) ?_
  by_cases hd:cc=⟨ks[i],true,true,cc.old,cc.old⟩
  ·have h1:diff1 L ks[i]=[]:=by unfold diff1;rw [hc,if_pos hd]
   rw [h1,List.append_nil] at hts
   refine RH.adv tk [false] rfl rfl (by simp;exact ⟨by omega,hd⟩) ?_
   rw [← hts]
   exact RH.again (i+1,(A4,c4)) (.head _) rfl rfl (by show ks.length - (i+1) < ks.length - i;omega) λu hu=>⟨hu.1,hlt3⟩
  ·have h1:diff1 L ks[i]=[cc]:=by unfold diff1;rw [hc,if_neg hd]
   rw [h1] at hts
   refine RH.adv tk [true] rfl rfl (by simp;exact hd) ?_
   refine RH.apK (κ:=kTCh) (id:=80) (l:=(ks.take i).flatMap (diff1 L)) (r:=[cc]) rfl rfl rfl rfl rfl rfl elt_tch rfl rfl (λu hu=>hu.liR (κ:=kTCh) (l:=[cc]) (id:=92) rfl (by simp [hlim])) (by simp only [List.length_singleton];omega) (by simp only [List.length_singleton];omega) ?_
   intro A5 c5 m10 hm10
   rw [← hts]
   refine RH.a [] ?_
   exact RH.again (i+1,(A5,c5)) (.head _) rfl rfl (by show ks.length - (i+1) < ks.length - i;omega) λu hu=>⟨hu.1,hlt3⟩
 ·have hi':i=ks.length:=by omega
  subst hi'
  rw [List.take_length]
  refine RH.a [false] ?_
  refine RH.ret1 Tryz.func53 rfl rfl λw hst=>⟨(A4,c4),rfl,hst.out [(0,80)] rfl rfl λu h=>⟨h.1,trivial⟩⟩
def rdB (b:Nat) (A:Option Addr) (n c:Nat) (at_:Int) (last:Str):Option HE:=some (.obj b (.cells #[.slice A n c,intV at_,strV last] 184))
theorem load_rd0 {w:World} {b:Nat} {A:Option Addr} {n c:Nat} {at_:Int} {last:Str} {T:TypeId} {fr:Nat × Nat} (h:w.heap[b]? = some (.cells #[.slice A n c,intV at_,strV last] T fr)):(loadVar 22 ⟨b,0,none⟩).run Tryz.prog w = .ok (.slice A n c) w :=
 V.run_load tk ⟨rfl,Tryz.t22,rfl,rfl⟩ (range_of_blk h λj v hj=>by
  cases j with
  | zero=>simpa [Value.cells] using hj
  | succ j=>simp [Value.cells] at hj)
theorem load_rd1 {w:World} {b:Nat} {A:Option Addr} {n c:Nat} {at_:Int} {last:Str} {T:TypeId} {fr:Nat × Nat} (h:w.heap[b]? = some (.cells #[.slice A n c,intV at_,strV last] T fr)):(loadVar 3 ⟨b,1,none⟩).run Tryz.prog w = .ok (intV at_) w :=
 V.run_load tk ⟨rfl,Tryz.t3,rfl,rfl⟩ (range_of_blk h λj v hj=>by
  cases j with
  | zero=>simpa [Value.cells,intV] using hj
  | succ j=>simp [Value.cells,intV] at hj)
theorem left_spec (w:World) (b:Nat) (A:Option Addr) (n c:Nat) (at_:Nat) (last:Str) (T:TypeId) (fr:Nat × Nat) (h:w.heap[b]? = some (.cells #[.slice A n c,intV at_,strV last] T fr)) (hn:n ≤ 1000000000) (ha:at_ ≤ 1000000000) :
  Gives Tryz.prog 117 [ptrV b] w (intE ((n:Int) - at_)):=by
 have hx:∀ u,Ext w u->u.heap[b]? = some (.cells #[.slice A n c,intV at_,strV last] T fr):=λu he=>by
  rw [he.block b (Array.getElem?_eq_some_iff.1 h).1];exact h
 refine enterH tk [(0,ptrAt b)] Tryz.func117 rfl Tryz.ntmps117 rfl rfl ?_
 refine RH.a [] ?_
 refine RH.w [] 13 ?_
 refine RD.a [] ?_
 refine RD.ld 4 (slE A n c) rfl rfl (λw' h=>load_rd0 (hx w' h)) ?_
 refine RD.ld 10 (intE at_) rfl rfl (λw' h=>load_rd1 (hx w' h)) ?_
 refine RD.a [] ?_
 refine RD.e ?_
 refine RH.ret1 Tryz.func117 rfl rfl λu hst=>⟨rfl,hst.fact⟩
theorem Decode_short (w:World) (A:Option Addr) (c:Nat) (l:List UInt8) (h:Sl kBy w A c l) (hl:l.length < 2):Gives Tryz.prog 45 [.slice A l.length c] w (.av (.val (.tuple #[.agg #[.pointer none],intV l.length,intV 4]))):=by
 have hz31:(Tryz.t31).size=1:=by kernel_rfl
 refine enterH tk [(0,slE A l.length c)] Tryz.func45 rfl Tryz.ntmps45 rfl rfl ?_
 refine RH.adv tk [true] rfl rfl (by simp [hz31]<;>omega) ?_
 exact V.RH.retBox3 tk (.st [.val (.pointer none)]) Tryz.func45 rfl rfl rfl rfl rfl rfl λw' hst=>⟨rfl,hst.fact⟩
theorem Decode_rest (w:World) (A:Option Addr) (c:Nat) (h:Sl kBy w A c [0,0,7]):Gives Tryz.prog 45 [.slice A 3 c] w (.av (.val (.tuple #[.agg #[.pointer none],intV 2,intV 4]))):=by
 have hz31:(Tryz.t31).size=1:=by kernel_rfl
 have hp:Ptr A:=h.ptr (i:=0) (by decide)
 refine enterH tk [(0,slE A 3 c)] Tryz.func45 rfl Tryz.ntmps45 rfl rfl ?_
 refine RH.adv tk [false] rfl rfl (by simp [hz31]<;>omega) ?_
 refine RH.w [] 11 ?_
 refine RD.b [] rfl rfl (by simp [hp]<;>omega) ?_
 refine RD.ld 2 (byE 0) rfl rfl (λw' hw=>(h.ext hw).load (i:=0) (by decide)) ?_
 refine RD.ld 7 (byE 0) rfl rfl (λw' hw=>(h.ext hw).load (i:=1) (by decide)) ?_
 refine RD.a [] ?_
 have hm:IntKind.i64.wrap ((BitVec.ofInt IntKind.i64.bits (IntKind.i64.wrap (((0:UInt8).toNat:Int)*2 ^ min (Int.toNat 8) IntKind.i64.bits)) ||| BitVec.ofInt IntKind.i64.bits ((0:UInt8).toNat:Int)).toNat:Int)=0:=by decide
 rw [hm]
 refine RD.e ?_
 refine RH.adv tk [false] rfl rfl (by simp [hz31]<;>omega) ?_
 refine RH.read (.st [.val (.agg #[.slice A 3 c,intV 2]),.val (strV [])]) rfl rfl rfl rfl (λu q _ ha=>?_) ?_
 ·have h1:q.eval (.tmp 32) = .agg #[.slice A 3 c,intV 2]:=ev_run (e:=.st [.val (.slice A 3 c),.val (intV 2)]) ha rfl
  have hb:(Instr.build 184 #[(0,.agg #[.slice A 3 c,intV 2])]).run Tryz.prog u = .ok (EV.st [.val (.agg #[.slice A 3 c,intV 2]),.val (strV [])]).v u:=by
   refine run_build u _ _ _ ?_
   kernel_rfl
  simp only [execOp,List.map_toArray,List.map_cons,List.map_nil,h1,hb,Sem.run_bind,Result.andThen_ok,Sem.run_pure]
 have hz182:(Tryz.t182).size=2:=by kernel_rfl
 refine RH.adv tk [] rfl rfl (by simp [hz31,hz182,Value.oneCell']<;>omega) ?_
 refine RH.boxObj (id:=1) #[.slice A 3 c,intV 2,strV []] rfl rfl ?_
 refine RH.loop (α:=Unit) (λ_=>[(2,.av (.box 0 w.heap.size 0)),(6,ptrAt (w.heap.size+1)),(7,.av (.val (.slice none 0 0))),(34,intE 0),(35,intE 0)]) (λ_=>[(0,some (.box w.heap.size [.val (.pointer none)] 31)),(1,rdB (w.heap.size+1) A 3 c 2 [])]) (λ_ u=>Ext w u) (λ_=>0) () rfl rfl (λu hu=>hu) ?_
 rintro ⟨⟩ m2
 refine RH.toNx 5 ?_
 refine RH.a [false] ?_
 refine RH.gv (intE (((3:Nat):Int) - ((2:Nat):Int))) rfl rfl rfl Tryz.call117 (λu hu=>left_spec u (w.heap.size+1) A 3 c 2 [] _ _ (hu.holds 1 _ rfl).2 (by decide) (by decide)) ?_
 intro m3 hm3
 refine RH.a [true] ?_
 refine RH.w [(1,rdB (w.heap.size+1) A 3 c 2 [])] 7 ?_
 refine RD.a [] ?_
 refine RD.lg 3 (intE 2) rfl rfl (λu hu=>load_rd1 (at_:=2) (hu.holds 1 _ rfl).2) ?_
 refine RD.a [] ?_
 refine RD.step tk (nx:=5) (i:=4) rfl (by kernel_rfl) rfl rfl rfl ?_ rfl (λ_ h=>h) rfl ?_
 ·first|trivial|(simp [hz31];done)
 refine RD.a [] ?_
 refine RD.e ?_
 exact V.RH.retBox3 tk (.st [.val (.pointer none)]) Tryz.func45 rfl rfl rfl rfl rfl rfl λw' hst=>⟨rfl,hst.fact⟩
end Go.Proofs.YtbfjmimiigjenaaGreatDoor
