/-
Lemmas. No condition.
-/
import Derived.Test.YtbfjmimiigjenaaGreatDoorKQ39
import Derived.Test.YtbfjmimiigjenaaGreatDoorKVZ2
set_option maxRecDepth 10000
set_option linter.unusedVariables false
set_option linter.unusedSectionVars false
set_option linter.unusedSimpArgs false
namespace Go.Proofs.YtbfjmimiigjenaaGreatDoor
open Go V RowKit
theorem apply_cons (m:Option Tree) (c:TChg) (r:List TChg):applyO m (c :: r)=if (stepO m c).2=0 then applyO (stepO m c).1 r else (none,(stepO m c).2):=rfl
theorem load_deed1 {w:World} {b j off:Nat} (h:w.rangeAt b 0 (deedsL.flatMap kDeed.cs)) (hj:j < 2) (ho:off=j*3+2):(loadVar 207 ⟨b,off,none⟩).run Tryz.prog w = .ok (.func (.func 200) #[] #[]) w:=by
 refine V.run_load tk ⟨rfl,Tryz.t207,rfl,rfl⟩ λi v hv=>?_
 subst ho
 cases i with
 | zero =>
  have h2:=h (j*3+2) v (by
   rw [← hv]
   rcases Nat.lt_or_ge j 1 with h|h
   ·obtain rfl:j=0:=by omega
    rfl
   ·obtain rfl:j=1:=by omega
    rfl)
  rw [Nat.zero_add] at h2
  exact h2
 | succ i=>simp [Value.cells] at hv
theorem load_deed2 {w:World} {b j off:Nat} (h:w.rangeAt b 0 (deedsL.flatMap kDeed.cs)) (hj:j=2) (ho:off=j*3+2):(loadVar 207 ⟨b,off,none⟩).run Tryz.prog w = .ok (.func (.func 201) #[] #[]) w:=by
 refine V.run_load tk ⟨rfl,Tryz.t207,rfl,rfl⟩ λi v hv=>?_
 subst ho
 subst hj
 cases i with
 | zero =>
  have h2:=h 8 v (by rw [← hv];rfl)
  rw [Nat.zero_add] at h2
  exact h2
 | succ i=>simp [Value.cells] at hv
set_option maxHeartbeats 400000 in
theorem Apply_spec (po0:Option Plot) (t0:Option Tree) (ht0:okO t0) (hl0:lowO 60 t0) (hm0:maO t0 ≤ 600) (A:Option Addr) (c:Nat) (l:List TChg) (hnl:∀ x ∈ l,x.name.length ≤ 1000) (hll:l.length ≤ 1000000) :
  Does Tryz.prog tb 54 [(mapE po0).v,.slice A l.length c] [] (λu=>Glob u/\IsO u po0 t0/\Sl kTCh u A c l) (λo:Option Plot=>.tuple #[.agg #[ptrO o],intV (applyO t0 l).2]) (λ_=>[]) (λo=>Late (λu=>IsO u po0 t0) (λu=>IsO u o (applyO t0 l).1)):=by
 have hlim:lim=140737488351232:=rfl
 have hz31:(Tryz.t31).size=1:=by kernel_rfl
 have hz209:(Tryz.t209).size=3:=by kernel_rfl
 refine V.Does.enter0 [(0,mapE po0),(1,slE A l.length c)] Tryz.func54 rfl Tryz.ntmps54 rfl rfl 0 ?_
 intro m0 K
 refine RH.adv tk [] rfl rfl (by simp [sum_len,sz_sum,one_int,hz31,Value.oneCell',u8V]) ?_
 refine RH.loop (α:=Nat × Option Plot × Option Tree) (λy=>[(2,.av (.box 0 m0 0)),(4,.av (.box 1 (m0+1) 0)),(11,slE A l.length c),(12,intE l.length),(13,intE y.1)])
  (λy=>[(0,some (.box m0 [.val (ptrO y.2.1)] 31)),(1,some (.box (m0+1) [.val (.pointer none)] 31))])
  (λy u=>((K u/\Glob u/\IsO u po0 t0/\Sl kTCh u A c l)/\Late (λu=>IsO u po0 t0) (λu=>IsO u y.2.1 y.2.2) m0 u)/\y.1 ≤ l.length/\applyO t0 l=applyO y.2.2 (l.drop y.1)/\okO y.2.2/\lowO 60 y.2.2/\maO y.2.2 ≤ 600) (λy=>l.length - y.1) (0,po0,t0) rfl rfl
  (λu h=>⟨⟨h,λv _ hp=>hp⟩,Nat.zero_le _,rfl,ht0,hl0,hm0⟩) ?_
 rintro ⟨i,po,t⟩ m2
 refine RH.pure (λu h=>h.2) λ⟨hi,hap,ht,hl,hm⟩=>?_
 refine V.RH.know (λu=>((K u/\Glob u/\IsO u po0 t0/\Sl kTCh u A c l)/\Late (λu=>IsO u po0 t0) (λu=>IsO u po t) m0 u)) (λu h=>h.1) ?_
 refine RH.above (id:=0) rfl rfl λhz1 hz2=>?_
 dsimp only at hi hap ht hl hm ⊢
 by_cases hlt:i < l.length
 ·refine RH.pure (λu hu=>hu.1.2.2.2.ptr hlt) λhptr=>?_
  rw [List.drop_eq_getElem_cons hlt,apply_cons] at hap
  have hcn:=hnl _ (List.getElem_mem hlt)
  refine RH.adv tk [true] rfl rfl (by simp [hptr]<;>omega) ?_
  refine RH.loadS (.st (tchF l[i])) rfl rfl rfl rfl (λu hu=>hu.fact.1.2.2.2.load hlt) ?_
  generalize l[i]=ch at *
  refine RH.a [] ?_
  refine RH.dd [] 20 (λb:Nat=>rowS 3 (some ⟨b,0,none⟩) 4 4) rfl rfl rfl Tryz.call128 deeds_spec (λ_ _=>trivial) ?_
  rintro db m3 hm3
  refine RH.drop ?_
  refine RH.a [] ?_
  refine RH.gv (intE (deedAt ch)) rfl rfl rfl Tryz.call127 (λu hu=>by
   have h:=idxFD_spec u (some ⟨db,0,none⟩) 4 deedsL (Sl.own (B:=m0) (hu.row (κ:=kDeed) (l:=deedsL) (id:=3) rfl) (by simp [hlim])) 129 [] [ptrV m2] (λd:Deed=>decide (d.had=ch.had) && decide (d.has=ch.has)) ⟨λxs w=>Tryz.call129 xs w,λd _ v hv=>apply1_spec v d m2 ch _ _ (by
    have h0:=(hu.holds 2 _ rfl).2.1
    rw [hv.block m2 (Array.getElem?_eq_some_iff.1 h0).1];exact h0)⟩
   rw [deedAt_idx] at h
   exact h) ?_
  intro m4 hm4
  refine RH.a [] ?_
  refine RH.gv (.av (.val (.tuple #[sumV ((getO t ch.name).getD Sum.zero),intV (if (getO t ch.name).isSome=true then 0 else 6)]))) rfl rfl rfl Tryz.call33 (λu hu=>Get_spec u po t (hu.fact.2.now hu.fact.1.2.2.1) ht ch.name hcn) ?_
  intro m5 hm5
  apply RH.joinK (α:=Unit) (λ_=>[(2,.av (.box 0 m0 0)),(4,.av (.box 1 (m0+1) 0)),(7,.av (.box 2 m2 0)),(8,intE (deedAt ch)),(11,slE A l.length c),(12,intE l.length),(13,intE i)])
   (λ_=>[(0,some (.box m0 [.val (ptrO po)] 31)),(1,some (.box (m0+1) [.val (.pointer none)] 31)),(2,some (.box m2 (tchF ch) 98))])
   (λ_ u=>((K u/\Glob u/\IsO u po0 t0/\Sl kTCh u A c l)/\Late (λu=>IsO u po0 t0) (λu=>IsO u po t) m0 u)/\(stepO t ch=if ch.has=true then (if (getO t ch.name).isSome=false/\600 ≤ maO t then (none,12) else (some (putO t ch.name ch.new),0)) else (dropO t ch.name,0))/\ch.had=(getO t ch.name).isSome/\ch.name.length ≤ 60/\¬ (ch.had=false/\ch.has=false))
  ·refine RH.toNx 40 ?_
   refine RH.a [] ?_
   have hbad:∀ k:Int,k ≠ 0->stepO t ch=(none,k)->applyO t0 l=(none,k):=λk hk e=>by rw [hap,e,if_neg hk]
   apply RH.joinK (α:=Unit) (λ_=>[(2,.av (.box 0 m0 0)),(4,.av (.box 1 (m0+1) 0)),(7,.av (.box 2 m2 0)),(8,intE (deedAt ch)),(9,.av (.box 40 m5 0)),(10,.av (.val (intV (if (getO t ch.name).isSome=true then 0 else 6)))),(59,.av (.val (.bool (decide (60 < (ch.name.length:Int)))))),(11,slE A l.length c),(12,intE l.length),(13,intE i)])
    (λ_=>[(0,some (.box m0 [.val (ptrO po)] 31)),(1,some (.box (m0+1) [.val (.pointer none)] 31)),(2,some (.box m2 (tchF ch) 98)),(40,some (.box m5 [.val (sumV ((getO t ch.name).getD Sum.zero))] 40))])
    (λ_ u=>((K u/\Glob u/\IsO u po0 t0/\Sl kTCh u A c l)/\Late (λu=>IsO u po0 t0) (λu=>IsO u po t) m0 u)/\¬ ((ch.had=false/\ch.has=false) ∨ (ch.had=false/\ch.old ≠ Sum.zero) ∨ (ch.has=false/\ch.new ≠ Sum.zero)))
   ·cases hh:ch.had<;>cases hs:ch.has
    ·rw [hbad 4 (by decide) (by unfold stepO;rw [if_pos (by simp [hh,hs])])]
     refine RH.adv tk [true,true] rfl rfl (by simp [hh,hs]<;>omega) ?_
     exact RH.retBoxT tk (.st [.val (.pointer none)]) Tryz.func54 rfl rfl rfl rfl rfl λw' hst=>⟨none,rfl,hst.out [] rfl rfl λu h=>⟨h.1.1,λv _ _=>trivial⟩⟩
    ·by_cases ho:ch.old=Sum.zero
     ·refine RH.adv tk [true,false,true] rfl rfl (by simp [hh,hs]<;>omega) ?_
      refine RH.read (sumE Sum.zero) rfl rfl rfl rfl (λw' a _ ha=>?_) ?_
      ·simp only [execOp,List.map_toArray,List.map_nil,buZ,Sem.run_bind,Result.andThen_ok,Sem.run_pure]
       rfl
      refine RH.a [] ?_
      refine RH.read (boE (!decide (ch.old=Sum.zero))) rfl rfl rfl rfl (λw' a h hag=>op_neq hag rfl rfl rfl rfl rfl (by kernel_rfl) (eq_sum w' 9998 _ _)) ?_
      refine RH.adv tk [false,false] rfl rfl (by simp [ho,hs]<;>omega) ?_
      exact RH.mtS () [] (.head _) rfl rfl rfl λu h=>⟨h,by simp [hh,hs,ho]⟩
     ·rw [hbad 4 (by decide) (by unfold stepO;rw [if_pos (by simp [hh,ho])])]
      refine RH.adv tk [true,false,true] rfl rfl (by simp [hh,hs]<;>omega) ?_
      refine RH.read (sumE Sum.zero) rfl rfl rfl rfl (λw' a _ ha=>?_) ?_
      ·simp only [execOp,List.map_toArray,List.map_nil,buZ,Sem.run_bind,Result.andThen_ok,Sem.run_pure]
       rfl
      refine RH.a [] ?_
      refine RH.read (boE (!decide (ch.old=Sum.zero))) rfl rfl rfl rfl (λw' a h hag=>op_neq hag rfl rfl rfl rfl rfl (by kernel_rfl) (eq_sum w' 9998 _ _)) ?_
      refine RH.adv tk [true] rfl rfl (by simp [ho]<;>omega) ?_
      exact RH.retBoxT tk (.st [.val (.pointer none)]) Tryz.func54 rfl rfl rfl rfl rfl λw' hst=>⟨none,rfl,hst.out [] rfl rfl λu h=>⟨h.1.1,λv _ _=>trivial⟩⟩
    ·by_cases ho:ch.new=Sum.zero
     ·refine RH.adv tk [false,false,true] rfl rfl (by simp [hh,hs]<;>omega) ?_
      refine RH.read (sumE Sum.zero) rfl rfl rfl rfl (λw' a _ ha=>?_) ?_
      ·simp only [execOp,List.map_toArray,List.map_nil,buZ,Sem.run_bind,Result.andThen_ok,Sem.run_pure]
       rfl
      refine RH.a [] ?_
      refine RH.read (boE (!decide (ch.new=Sum.zero))) rfl rfl rfl rfl (λw' a h hag=>op_neq hag rfl rfl rfl rfl rfl (by kernel_rfl) (eq_sum w' 9998 _ _)) ?_
      refine RH.adv tk [false] rfl rfl (by simp [ho]<;>omega) ?_
      exact RH.mtS () [] (.head _) rfl rfl rfl λu h=>⟨h,by simp [hh,hs,ho]⟩
     ·rw [hbad 4 (by decide) (by unfold stepO;rw [if_pos (by simp [hs,ho])])]
      refine RH.adv tk [false,false,true] rfl rfl (by simp [hh,hs]<;>omega) ?_
      refine RH.read (sumE Sum.zero) rfl rfl rfl rfl (λw' a _ ha=>?_) ?_
      ·simp only [execOp,List.map_toArray,List.map_nil,buZ,Sem.run_bind,Result.andThen_ok,Sem.run_pure]
       rfl
      refine RH.a [] ?_
      refine RH.read (boE (!decide (ch.new=Sum.zero))) rfl rfl rfl rfl (λw' a h hag=>op_neq hag rfl rfl rfl rfl rfl (by kernel_rfl) (eq_sum w' 9998 _ _)) ?_
      refine RH.adv tk [true] rfl rfl (by simp [ho]<;>omega) ?_
      exact RH.retBoxT tk (.st [.val (.pointer none)]) Tryz.func54 rfl rfl rfl rfl rfl λw' hst=>⟨none,rfl,hst.out [] rfl rfl λu h=>⟨h.1.1,λv _ _=>trivial⟩⟩
    ·refine RH.adv tk [false,false,false] rfl rfl (by simp [hh,hs]<;>omega) ?_
     exact RH.mtS () [] (.head _) rfl rfl rfl λu h=>⟨h,by simp [hh,hs]⟩
   rintro ⟨⟩ m7
   refine RH.pure (λu h=>h.2) λhform=>?_
   have hst1:stepO t ch=_:=if_neg hform
   by_cases h60:60 < ch.name.length
   ·rw [hbad 11 (by decide) (by rw [hst1,if_pos h60])]
    refine RH.adv tk [true] rfl rfl (by simp [h60]<;>omega) ?_
    exact RH.retBoxT tk (.st [.val (.pointer none)]) Tryz.func54 rfl rfl rfl rfl rfl λw' hst=>⟨none,rfl,hst.out [] rfl rfl λu h=>⟨h.1.1.1,λv _ _=>trivial⟩⟩
   ·rw [if_neg h60] at hst1
    cases hg:getO t ch.name with
    | none =>
     cases hh:ch.had with
     | true =>
      rw [hbad 7 (by decide) (by rw [hst1,if_pos (.inl (by simp [hh,hg]))])]
      refine RH.adv tk [false,true] rfl rfl (by simp [h60,hh]<;>omega) ?_
      exact RH.retBoxT tk (.st [.val (.pointer none)]) Tryz.func54 rfl rfl rfl rfl rfl λw' hst=>⟨none,rfl,hst.out [] rfl rfl λu h=>⟨h.1.1.1,λv _ _=>trivial⟩⟩
     | false =>
      refine RH.adv tk [false,false,false] rfl rfl (by simp [h60,hh]<;>omega) ?_
      exact RH.mtS () [] (.head _) rfl rfl rfl λu h=>⟨h.1,by rw [hst1,if_neg (by simp [hh,hg]),hg],rfl,by omega,λe=>hform (.inl ⟨hh,e.2⟩)⟩
    | some x =>
     cases hh:ch.had with
     | true =>
      refine RH.adv tk [false,false,true] rfl rfl (by simp [h60,hh]<;>omega) ?_
      refine RH.read (boE (!decide (ch.old=x))) rfl rfl rfl rfl (λw' a h hag=>op_neq hag rfl rfl rfl rfl rfl (by kernel_rfl) (eq_sum w' 9998 _ _)) ?_
      by_cases ho:ch.old=x
      ·refine RH.adv tk [false] rfl rfl (by simp [ho]<;>omega) ?_
       exact RH.mtS () [] (.head _) rfl rfl rfl λu h=>⟨h.1,by rw [hst1,if_neg (by simp [hh,hg,ho]),hg],rfl,by omega,λe=>by cases e.1⟩
      ·rw [hbad 7 (by decide) (by rw [hst1,if_pos (.inr (by simp [hh,hg,ho]))])]
       refine RH.adv tk [true] rfl rfl (by simp [ho]<;>omega) ?_
       exact RH.retBoxT tk (.st [.val (.pointer none)]) Tryz.func54 rfl rfl rfl rfl rfl λw' hst=>⟨none,rfl,hst.out [] rfl rfl λu h=>⟨h.1.1.1,λv _ _=>trivial⟩⟩
     | false =>
      rw [hbad 7 (by decide) (by rw [hst1,if_pos (.inl (by simp [hh,hg]))])]
      refine RH.adv tk [false,true] rfl rfl (by simp [h60,hh]<;>omega) ?_
      exact RH.retBoxT tk (.st [.val (.pointer none)]) Tryz.func54 rfl rfl rfl rfl rfl λw' hst=>⟨none,rfl,hst.out [] rfl rfl λu h=>⟨h.1.1.1,λv _ _=>trivial⟩⟩
  rintro ⟨⟩ m6
  refine RH.pure (λu h=>h.2) λ⟨hstep,hhi,h60,hff⟩=>?_
  rw [hstep] at hap
  refine V.RH.know (λu=>((K u/\Glob u/\IsO u po0 t0/\Sl kTCh u A c l)/\Late (λu=>IsO u po0 t0) (λu=>IsO u po t) m0 u)) (λu h=>h.1) ?_
  refine RH.toNx 3 ?_
  refine RH.above (id:=0) rfl rfl λhy1 hy2=>?_
  refine RH.w [(2,some (.box m2 (tchF ch) 98))] 13 ?_
  refine RD.a [] ?_
  have hd4:deedAt ch < 3:=by
   unfold deedAt
   split<;>split<;>first|omega|(exfalso;exact hff ⟨by simp_all,by simp_all⟩)
  by_cases hs:ch.has=true
  ·have hlt2:deedAt ch < 2:=by unfold deedAt;rw [if_pos hs];split<;>omega
   rw [if_pos hs] at hap
   by_cases hfull:(getO t ch.name).isSome=false/\600 ≤ maO t
   ·rw [if_pos hfull,if_neg (by decide)] at hap
    rw [hap]
    have hnone:getO t ch.name=none:=by cases hgo:getO t ch.name with
     | none=>rfl
     | some x=>rw [hgo] at hfull;simp at hfull
    have h600:maO t=600:=by omega
    dsimp only
    refine RD.two (i:=0) (j:=5) (by kernel_rfl) ?_ ?_
    ·refine V.opD_doesB (i:=0) [] 3 4 (λb:Nat=>rowS 3 (some ⟨b,0,none⟩) 4 4) rfl rfl rfl rfl rfl Tryz.call128 deeds_spec rfl rfl (λ_=>rfl) (λ_=>rfl) (λ_ _=>trivial) (λ_=>rfl) (λ_ h=>h) ?_
     rintro db2 m7 hm7
     refine RD.b [] rfl rfl (by simp;exact ⟨rfl,by omega⟩) ?_
     refine RD.two (i:=4) (j:=5) (by kernel_rfl) ?_ ?_
     ·refine opD_go (i:=4) rfl rfl (OpGo.load (.av (.val (.func (.func 200) #[] #[]))) rfl rfl rfl (λw hst=>load_deed1 (Sl.own (B:=m0) (hst.row (κ:=kDeed) (l:=deedsL) (id:=3) rfl) (by simp [hlim])).cells hlt2 (by show 0+((deedAt ch:Nat):Int).toNat*(Tryz.t209).size+2=_;rw [Int.toNat_natCast,hz209,Nat.zero_add]))) 4 (λ_=>rfl) (λ_ _ h=>h.1) ?_
      rintro ⟨⟩ m8 hm8
      refine RD.a [] ?_
      refine RD.step tk (nx:=4) (i:=5) rfl (by kernel_rfl) rfl rfl rfl ?_ rfl (λ_ h=>h.1) ⟨rfl,rfl⟩ ?_
      ·first|trivial|(simp;done)|(simp [hz31,Value.oneCell'];done)
      refine RD.a [] ?_
      refine RD.gv 7 (.av (.val (.tuple #[.agg #[.pointer none],intV 12]))) rfl rfl rfl Tryz.call200 (λu hu=>deed1_full u po t (hu.fact.1.2.now hu.fact.1.1.2.2.1) ht ch h60 hnone h600) ?_
      intro m9 hm9
      refine RD.a [] ?_
      refine V.RD.slotE 91 (mapE none) rfl rfl ?_
      refine RD.step tk (nx:=7) (i:=11) rfl (by kernel_rfl) rfl rfl rfl ?_ rfl (λ_ h=>h.1) rfl ?_
      ·first|trivial|(simp;done)|(simp [hz31,Value.oneCell'];done)
      refine RD.a [] ?_
      refine RD.e ?_
      refine RH.adv tk [true] rfl rfl (by simp [hz31,Value.oneCell']<;>omega) ?_
      exact RH.retBoxT tk (.st [.val (.pointer none)]) Tryz.func54 rfl rfl rfl rfl rfl λw' hst=>⟨none,rfl,hst.out [] rfl rfl λu h=>⟨h.1.1.1,λv _ _=>trivial⟩⟩
     ·refine opD_step tk (nx:=4) (i:=5) rfl rfl rfl rfl ?_ rfl (λ_ h=>h.1) ⟨rfl,rfl⟩ ?_
      ·first|trivial|(simp;done)|(simp [hz31,Value.oneCell'];done)
      refine RD.a [] ?_
      refine RD.loadS (i:=4) (.av (.val (.func (.func 200) #[] #[]))) rfl (by kernel_rfl) rfl rfl rfl (λw hst=>load_deed1 (Sl.own (B:=m0) (hst.row (κ:=kDeed) (l:=deedsL) (id:=3) rfl) (by simp [hlim])).cells hlt2 (by show 0+((deedAt ch:Nat):Int).toNat*(Tryz.t209).size+2=_;rw [Int.toNat_natCast,hz209,Nat.zero_add])) rfl (λ_ h=>h.1) ?_
      intro m8 hm8
      refine RD.a [] ?_
      refine RD.gv 7 (.av (.val (.tuple #[.agg #[.pointer none],intV 12]))) rfl rfl rfl Tryz.call200 (λu hu=>deed1_full u po t (hu.fact.1.2.now hu.fact.1.1.2.2.1) ht ch h60 hnone h600) ?_
      intro m9 hm9
      refine RD.a [] ?_
      refine V.RD.slotE 91 (mapE none) rfl rfl ?_
      refine RD.step tk (nx:=7) (i:=11) rfl (by kernel_rfl) rfl rfl rfl ?_ rfl (λ_ h=>h.1) rfl ?_
      ·first|trivial|(simp;done)|(simp [hz31,Value.oneCell'];done)
      refine RD.a [] ?_
      refine RD.e ?_
      refine RH.adv tk [true] rfl rfl (by simp [hz31,Value.oneCell']<;>omega) ?_
      exact RH.retBoxT tk (.st [.val (.pointer none)]) Tryz.func54 rfl rfl rfl rfl rfl λw' hst=>⟨none,rfl,hst.out [] rfl rfl λu h=>⟨h.1.1.1,λv _ _=>trivial⟩⟩
    ·refine opD_step tk (nx:=4) (i:=5) rfl rfl rfl rfl ?_ rfl (λ_ h=>h) ⟨rfl,rfl⟩ ?_
     ·first|trivial|(simp;done)|(simp [hz31,Value.oneCell'];done)
     refine RD.a [] ?_
     refine RD.doB (nx:=3) (i:=0) [] 4 (λb:Nat=>rowS 3 (some ⟨b,0,none⟩) 4 4) rfl (by kernel_rfl) rfl rfl rfl rfl Tryz.call128 deeds_spec rfl rfl (λ_=>rfl) (λ_=>rfl) (λ_ _=>trivial) (λ_=>rfl) (λ_ h=>h) ?_
     rintro db2 m7 hm7
     refine RD.b [] rfl rfl (by simp;exact ⟨rfl,by omega⟩) ?_
     refine RD.loadS (i:=4) (.av (.val (.func (.func 200) #[] #[]))) rfl (by kernel_rfl) rfl rfl rfl (λw hst=>load_deed1 (Sl.own (B:=m0) (hst.row (κ:=kDeed) (l:=deedsL) (id:=3) rfl) (by simp [hlim])).cells hlt2 (by show 0+((deedAt ch:Nat):Int).toNat*(Tryz.t209).size+2=_;rw [Int.toNat_natCast,hz209,Nat.zero_add])) rfl (λ_ h=>h.1) ?_
     intro m8 hm8
     refine RD.a [] ?_
     refine RD.gv 7 (.av (.val (.tuple #[.agg #[.pointer none],intV 12]))) rfl rfl rfl Tryz.call200 (λu hu=>deed1_full u po t (hu.fact.1.2.now hu.fact.1.1.2.2.1) ht ch h60 hnone h600) ?_
     intro m9 hm9
     refine RD.a [] ?_
     refine V.RD.slotE 91 (mapE none) rfl rfl ?_
     refine RD.step tk (nx:=7) (i:=11) rfl (by kernel_rfl) rfl rfl rfl ?_ rfl (λ_ h=>h.1) rfl ?_
     ·first|trivial|(simp;done)|(simp [hz31,Value.oneCell'];done)
     refine RD.a [] ?_
     refine RD.e ?_
     refine RH.adv tk [true] rfl rfl (by simp [hz31,Value.oneCell']<;>omega) ?_
     exact RH.retBoxT tk (.st [.val (.pointer none)]) Tryz.func54 rfl rfl rfl rfl rfl λw' hst=>⟨none,rfl,hst.out [] rfl rfl λu h=>⟨h.1.1.1,λv _ _=>trivial⟩⟩
   ·rw [if_neg hfull,if_pos rfl] at hap
    have hok1:(getO t ch.name).isSome=true ∨ maO t ≠ 600:=by
     cases hgo:(getO t ch.name).isSome with
     | true=>exact .inl rfl
     | false=>exact .inr λe=>hfull ⟨hgo,by omega⟩
    have hw:=okO_wf ht
    have hlow2:lowO 60 (some (putO t ch.name ch.new)):=putO_low hw hl h60 _
    have hmn2:maO (some (putO t ch.name ch.new)) ≤ 600:=by
     rw [putO_many hw]
     split
     ·omega
     ·rename_i hns
      rcases hok1 with h|h
      ·exact absurd h hns
      ·omega
    have hok2:okO (some (putO t ch.name ch.new)):=okO_of (putO_wf hw _ _) hlow2 (by decide) (by omega)
    refine RD.two (i:=0) (j:=5) (by kernel_rfl) ?_ ?_
    ·refine V.opD_doesB (i:=0) [] 3 4 (λb:Nat=>rowS 3 (some ⟨b,0,none⟩) 4 4) rfl rfl rfl rfl rfl Tryz.call128 deeds_spec rfl rfl (λ_=>rfl) (λ_=>rfl) (λ_ _=>trivial) (λ_=>rfl) (λ_ h=>h) ?_
     rintro db2 m7 hm7
     refine RD.b [] rfl rfl (by simp;exact ⟨rfl,by omega⟩) ?_
     refine RD.two (i:=4) (j:=5) (by kernel_rfl) ?_ ?_
     ·refine opD_go (i:=4) rfl rfl (OpGo.load (.av (.val (.func (.func 200) #[] #[]))) rfl rfl rfl (λw hst=>load_deed1 (Sl.own (B:=m0) (hst.row (κ:=kDeed) (l:=deedsL) (id:=3) rfl) (by simp [hlim])).cells hlt2 (by show 0+((deedAt ch:Nat):Int).toNat*(Tryz.t209).size+2=_;rw [Int.toNat_natCast,hz209,Nat.zero_add]))) 4 (λ_=>rfl) (λ_ _ h=>h.1) ?_
      rintro ⟨⟩ m8 hm8
      refine RD.a [] ?_
      refine RD.step tk (nx:=4) (i:=5) rfl (by kernel_rfl) rfl rfl rfl ?_ rfl (λ_ h=>h.1) ⟨rfl,rfl⟩ ?_
      ·first|trivial|(simp;done)|(simp [hz31,Value.oneCell'];done)
      refine RD.a [] ?_
      refine RD.doB (nx:=5) (i:=7) [] 6 (λb1:Plot=>.av (.val (.tuple #[.agg #[ptrV b1.b],intV 0]))) rfl (by kernel_rfl) rfl rfl rfl rfl Tryz.call200 (deed1_ok po t ht ch h60 hok1) rfl rfl (λ_=>rfl) (λ_=>rfl) (λu hu=>⟨hu.fact.1.1.2.1,hu.fact.1.2.now hu.fact.1.1.2.2.1⟩) (λ_=>rfl) (λ_ h=>h.1) ?_
      rintro Lb m9 hm9
      refine RD.a [] ?_
      refine V.RD.slotE 91 (mapE (some Lb)) rfl rfl ?_
      refine RD.step tk (nx:=7) (i:=11) rfl (by kernel_rfl) rfl rfl rfl ?_ rfl (λ_ h=>h.1.1) rfl ?_
      ·first|trivial|(simp;done)|(simp [hz31,Value.oneCell'];done)
      refine RD.a [] ?_
      refine RD.e ?_
      refine RH.adv tk [false] rfl rfl (by simp [hz31,Value.oneCell']<;>omega) ?_
      exact RH.again (i+1,some Lb,some (putO t ch.name ch.new)) (.head _) rfl rfl (by show l.length - (i+1) < l.length - i;omega) λu h=>⟨⟨h.1.1.1,λv hv hp=>h.2.up (by omega) hv (h.1.1.2 v hv hp)⟩,hlt,hap,hok2,hlow2,hmn2⟩
     ·refine opD_step tk (nx:=4) (i:=5) rfl rfl rfl rfl ?_ rfl (λ_ h=>h.1) ⟨rfl,rfl⟩ ?_
      ·first|trivial|(simp;done)|(simp [hz31,Value.oneCell'];done)
      refine RD.a [] ?_
      refine RD.loadS (i:=4) (.av (.val (.func (.func 200) #[] #[]))) rfl (by kernel_rfl) rfl rfl rfl (λw hst=>load_deed1 (Sl.own (B:=m0) (hst.row (κ:=kDeed) (l:=deedsL) (id:=3) rfl) (by simp [hlim])).cells hlt2 (by show 0+((deedAt ch:Nat):Int).toNat*(Tryz.t209).size+2=_;rw [Int.toNat_natCast,hz209,Nat.zero_add])) rfl (λ_ h=>h.1) ?_
      intro m8 hm8
      refine RD.a [] ?_
      refine RD.doB (nx:=5) (i:=7) [] 6 (λb1:Plot=>.av (.val (.tuple #[.agg #[ptrV b1.b],intV 0]))) rfl (by kernel_rfl) rfl rfl rfl rfl Tryz.call200 (deed1_ok po t ht ch h60 hok1) rfl rfl (λ_=>rfl) (λ_=>rfl) (λu hu=>⟨hu.fact.1.1.2.1,hu.fact.1.2.now hu.fact.1.1.2.2.1⟩) (λ_=>rfl) (λ_ h=>h.1) ?_
      rintro Lb m9 hm9
      refine RD.a [] ?_
      refine V.RD.slotE 91 (mapE (some Lb)) rfl rfl ?_
      refine RD.step tk (nx:=7) (i:=11) rfl (by kernel_rfl) rfl rfl rfl ?_ rfl (λ_ h=>h.1.1) rfl ?_
      ·first|trivial|(simp;done)|(simp [hz31,Value.oneCell'];done)
      refine RD.a [] ?_
      refine RD.e ?_
      refine RH.adv tk [false] rfl rfl (by simp [hz31,Value.oneCell']<;>omega) ?_
      exact RH.again (i+1,some Lb,some (putO t ch.name ch.new)) (.head _) rfl rfl (by show l.length - (i+1) < l.length - i;omega) λu h=>⟨⟨h.1.1.1,λv hv hp=>h.2.up (by omega) hv (h.1.1.2 v hv hp)⟩,hlt,hap,hok2,hlow2,hmn2⟩
    ·refine opD_step tk (nx:=4) (i:=5) rfl rfl rfl rfl ?_ rfl (λ_ h=>h) ⟨rfl,rfl⟩ ?_
     ·first|trivial|(simp;done)|(simp [hz31,Value.oneCell'];done)
     refine RD.a [] ?_
     refine RD.doB (nx:=3) (i:=0) [] 4 (λb:Nat=>rowS 3 (some ⟨b,0,none⟩) 4 4) rfl (by kernel_rfl) rfl rfl rfl rfl Tryz.call128 deeds_spec rfl rfl (λ_=>rfl) (λ_=>rfl) (λ_ _=>trivial) (λ_=>rfl) (λ_ h=>h) ?_
     rintro db2 m7 hm7
     refine RD.b [] rfl rfl (by simp;exact ⟨rfl,by omega⟩) ?_
     refine RD.loadS (i:=4) (.av (.val (.func (.func 200) #[] #[]))) rfl (by kernel_rfl) rfl rfl rfl (λw hst=>load_deed1 (Sl.own (B:=m0) (hst.row (κ:=kDeed) (l:=deedsL) (id:=3) rfl) (by simp [hlim])).cells hlt2 (by show 0+((deedAt ch:Nat):Int).toNat*(Tryz.t209).size+2=_;rw [Int.toNat_natCast,hz209,Nat.zero_add])) rfl (λ_ h=>h.1) ?_
     intro m8 hm8
     refine RD.a [] ?_
     refine RD.doB (nx:=5) (i:=7) [] 6 (λb1:Plot=>.av (.val (.tuple #[.agg #[ptrV b1.b],intV 0]))) rfl (by kernel_rfl) rfl rfl rfl rfl Tryz.call200 (deed1_ok po t ht ch h60 hok1) rfl rfl (λ_=>rfl) (λ_=>rfl) (λu hu=>⟨hu.fact.1.1.2.1,hu.fact.1.2.now hu.fact.1.1.2.2.1⟩) (λ_=>rfl) (λ_ h=>h.1) ?_
     rintro Lb m9 hm9
     refine RD.a [] ?_
     refine V.RD.slotE 91 (mapE (some Lb)) rfl rfl ?_
     refine RD.step tk (nx:=7) (i:=11) rfl (by kernel_rfl) rfl rfl rfl ?_ rfl (λ_ h=>h.1.1) rfl ?_
     ·first|trivial|(simp;done)|(simp [hz31,Value.oneCell'];done)
     refine RD.a [] ?_
     refine RD.e ?_
     refine RH.adv tk [false] rfl rfl (by simp [hz31,Value.oneCell']<;>omega) ?_
     exact RH.again (i+1,some Lb,some (putO t ch.name ch.new)) (.head _) rfl rfl (by show l.length - (i+1) < l.length - i;omega) λu h=>⟨⟨h.1.1.1,λv hv hp=>h.2.up (by omega) hv (h.1.1.2 v hv hp)⟩,hlt,hap,hok2,hlow2,hmn2⟩
  ·have hlt2:deedAt ch=2:=by
    have hhad:ch.had=true:=by
     cases hh:ch.had with
     | true=>rfl
     | false=>exact absurd ⟨hh,by simpa using hs⟩ hff
    unfold deedAt;rw [if_neg hs,if_pos hhad]
   rw [if_neg hs,if_pos rfl] at hap
   have hsome:(getO t ch.name).isSome=true:=by
    rw [← hhi]
    cases hh:ch.had with
    | true=>rfl
    | false=>exact absurd ⟨hh,by simpa using hs⟩ hff
   have hw:=okO_wf ht
   have hlow2:lowO 60 (dropO t ch.name):=dropO_low hw hl hsome
   have hmn2:maO (dropO t ch.name) ≤ 600:=by have:=dropO_many hw hsome;omega
   have hok2:okO (dropO t ch.name):=okO_of (dropO_wf hw hsome) hlow2 (by decide) (by omega)
   refine RD.two (i:=0) (j:=5) (by kernel_rfl) ?_ ?_
   ·refine V.opD_doesB (i:=0) [] 3 4 (λb:Nat=>rowS 3 (some ⟨b,0,none⟩) 4 4) rfl rfl rfl rfl rfl Tryz.call128 deeds_spec rfl rfl (λ_=>rfl) (λ_=>rfl) (λ_ _=>trivial) (λ_=>rfl) (λ_ h=>h) ?_
    rintro db2 m7 hm7
    refine RD.b [] rfl rfl (by simp;exact ⟨rfl,by omega⟩) ?_
    refine RD.two (i:=4) (j:=5) (by kernel_rfl) ?_ ?_
    ·refine opD_go (i:=4) rfl rfl (OpGo.load (.av (.val (.func (.func 201) #[] #[]))) rfl rfl rfl (λw hst=>load_deed2 (Sl.own (B:=m0) (hst.row (κ:=kDeed) (l:=deedsL) (id:=3) rfl) (by simp [hlim])).cells hlt2 (by show 0+((deedAt ch:Nat):Int).toNat*(Tryz.t209).size+2=_;rw [Int.toNat_natCast,hz209,Nat.zero_add]))) 4 (λ_=>rfl) (λ_ _ h=>h.1) ?_
     rintro ⟨⟩ m8 hm8
     refine RD.a [] ?_
     refine RD.step tk (nx:=4) (i:=5) rfl (by kernel_rfl) rfl rfl rfl ?_ rfl (λ_ h=>h.1) ⟨rfl,rfl⟩ ?_
     ·first|trivial|(simp;done)|(simp [hz31,Value.oneCell'];done)
     refine RD.a [] ?_
     refine RD.doB (nx:=5) (i:=7) [] 6 (λo:Option Plot=>.av (.val (.tuple #[.agg #[ptrO o],intV 0]))) rfl (by kernel_rfl) rfl rfl rfl rfl Tryz.call201 (deed2_ok po t ht (λn x hx=>Nat.le_trans (hl n x hx) (by decide)) ch (by omega) hsome) rfl rfl (λ_=>rfl) (λ_=>rfl) (λu hu=>⟨hu.fact.1.1.2.1,hu.fact.1.2.now hu.fact.1.1.2.2.1⟩) (λ_=>rfl) (λ_ h=>h.1) ?_
     rintro Lb m9 hm9
     refine RD.a [] ?_
     refine V.RD.slotE 91 (mapE Lb) rfl rfl ?_
     refine RD.step tk (nx:=7) (i:=11) rfl (by kernel_rfl) rfl rfl rfl ?_ rfl (λ_ h=>h.1.1) rfl ?_
     ·first|trivial|(simp;done)|(simp [hz31,Value.oneCell'];done)
     refine RD.a [] ?_
     refine RD.e ?_
     refine RH.adv tk [false] rfl rfl (by simp [hz31,Value.oneCell']<;>omega) ?_
     exact RH.again (i+1,Lb,dropO t ch.name) (.head _) rfl rfl (by show l.length - (i+1) < l.length - i;omega) λu h=>⟨⟨h.1.1.1,λv hv hp=>h.2.up (by omega) hv (h.1.1.2 v hv hp)⟩,hlt,hap,hok2,hlow2,hmn2⟩
    ·refine opD_step tk (nx:=4) (i:=5) rfl rfl rfl rfl ?_ rfl (λ_ h=>h.1) ⟨rfl,rfl⟩ ?_
     ·first|trivial|(simp;done)|(simp [hz31,Value.oneCell'];done)
     refine RD.a [] ?_
     refine RD.loadS (i:=4) (.av (.val (.func (.func 201) #[] #[]))) rfl (by kernel_rfl) rfl rfl rfl (λw hst=>load_deed2 (Sl.own (B:=m0) (hst.row (κ:=kDeed) (l:=deedsL) (id:=3) rfl) (by simp [hlim])).cells hlt2 (by show 0+((deedAt ch:Nat):Int).toNat*(Tryz.t209).size+2=_;rw [Int.toNat_natCast,hz209,Nat.zero_add])) rfl (λ_ h=>h.1) ?_
     intro m8 hm8
     refine RD.a [] ?_
     refine RD.doB (nx:=5) (i:=7) [] 6 (λo:Option Plot=>.av (.val (.tuple #[.agg #[ptrO o],intV 0]))) rfl (by kernel_rfl) rfl rfl rfl rfl Tryz.call201 (deed2_ok po t ht (λn x hx=>Nat.le_trans (hl n x hx) (by decide)) ch (by omega) hsome) rfl rfl (λ_=>rfl) (λ_=>rfl) (λu hu=>⟨hu.fact.1.1.2.1,hu.fact.1.2.now hu.fact.1.1.2.2.1⟩) (λ_=>rfl) (λ_ h=>h.1) ?_
     rintro Lb m9 hm9
     refine RD.a [] ?_
     refine V.RD.slotE 91 (mapE Lb) rfl rfl ?_
     refine RD.step tk (nx:=7) (i:=11) rfl (by kernel_rfl) rfl rfl rfl ?_ rfl (λ_ h=>h.1.1) rfl ?_
     ·first|trivial|(simp;done)|(simp [hz31,Value.oneCell'];done)
     refine RD.a [] ?_
     refine RD.e ?_
     refine RH.adv tk [false] rfl rfl (by simp [hz31,Value.oneCell']<;>omega) ?_
     exact RH.again (i+1,Lb,dropO t ch.name) (.head _) rfl rfl (by show l.length - (i+1) < l.length - i;omega) λu h=>⟨⟨h.1.1.1,λv hv hp=>h.2.up (by omega) hv (h.1.1.2 v hv hp)⟩,hlt,hap,hok2,hlow2,hmn2⟩
   ·refine opD_step tk (nx:=4) (i:=5) rfl rfl rfl rfl ?_ rfl (λ_ h=>h) ⟨rfl,rfl⟩ ?_
    ·first|trivial|(simp;done)|(simp [hz31,Value.oneCell'];done)
    refine RD.a [] ?_
    refine RD.doB (nx:=3) (i:=0) [] 4 (λb:Nat=>rowS 3 (some ⟨b,0,none⟩) 4 4) rfl (by kernel_rfl) rfl rfl rfl rfl Tryz.call128 deeds_spec rfl rfl (λ_=>rfl) (λ_=>rfl) (λ_ _=>trivial) (λ_=>rfl) (λ_ h=>h) ?_
    rintro db2 m7 hm7
    refine RD.b [] rfl rfl (by simp;exact ⟨rfl,by omega⟩) ?_
    refine RD.loadS (i:=4) (.av (.val (.func (.func 201) #[] #[]))) rfl (by kernel_rfl) rfl rfl rfl (λw hst=>load_deed2 (Sl.own (B:=m0) (hst.row (κ:=kDeed) (l:=deedsL) (id:=3) rfl) (by simp [hlim])).cells hlt2 (by show 0+((deedAt ch:Nat):Int).toNat*(Tryz.t209).size+2=_;rw [Int.toNat_natCast,hz209,Nat.zero_add])) rfl (λ_ h=>h.1) ?_
    intro m8 hm8
    refine RD.a [] ?_
    refine RD.doB (nx:=5) (i:=7) [] 6 (λo:Option Plot=>.av (.val (.tuple #[.agg #[ptrO o],intV 0]))) rfl (by kernel_rfl) rfl rfl rfl rfl Tryz.call201 (deed2_ok po t ht (λn x hx=>Nat.le_trans (hl n x hx) (by decide)) ch (by omega) hsome) rfl rfl (λ_=>rfl) (λ_=>rfl) (λu hu=>⟨hu.fact.1.1.2.1,hu.fact.1.2.now hu.fact.1.1.2.2.1⟩) (λ_=>rfl) (λ_ h=>h.1) ?_
    rintro Lb m9 hm9
    refine RD.a [] ?_
    refine V.RD.slotE 91 (mapE Lb) rfl rfl ?_
    refine RD.step tk (nx:=7) (i:=11) rfl (by kernel_rfl) rfl rfl rfl ?_ rfl (λ_ h=>h.1.1) rfl ?_
    ·first|trivial|(simp;done)|(simp [hz31,Value.oneCell'];done)
    refine RD.a [] ?_
    refine RD.e ?_
    refine RH.adv tk [false] rfl rfl (by simp [hz31,Value.oneCell']<;>omega) ?_
    exact RH.again (i+1,Lb,dropO t ch.name) (.head _) rfl rfl (by show l.length - (i+1) < l.length - i;omega) λu h=>⟨⟨h.1.1.1,λv hv hp=>h.2.up (by omega) hv (h.1.1.2 v hv hp)⟩,hlt,hap,hok2,hlow2,hmn2⟩
 ·have hn:i=l.length:=by omega
  rw [hn,List.drop_length] at hap
  have hap':applyO t0 l=(t,0):=hap
  rw [hap']
  refine RH.a [false] ?_
  refine RH.toNx 30 ?_
  refine RH.adv tk [] rfl rfl (by simp [hz31,Value.oneCell']) ?_
  exact RH.retBoxT tk (mapE po) Tryz.func54 rfl rfl rfl rfl rfl λw' hst=>⟨po,rfl,hst.out [] rfl rfl λu h=>⟨h.1.1,h.2⟩⟩
def Stp.bs (s:Stp):List UInt8:=stepB s.stem (if s.has=true then some s.sum else none) s.bytes s.nodes
theorem stp_mid (s:Stp):((boxCells (stpF s)).toList.drop 2).take 32=s.sum.l.map u8V:=step_sum s.stem s.has s.sum _ _ rfl rfl
section
variable {n:Nat} {B0:Nat} {I:World->Prop} {H:Heap} {m:Nat} {env:SEnv}
theorem V.OpGo.byteStrG {d:Nat} {x:Operand} {ty:TypeId} {ps:String} {af:Array Edge} {gd:Option (Nat × Bool)} {ex:EV} {A:Option Addr} {c:Nat} {l:List UInt8}
  (hd:Nat.blt d n=true) (hx:evE env x=some ex) (hxv:ex.v = .slice A l.length c) (hp:Ptr A ∨ A=none) (hl:∀ w,St tb B0 H I w->Sl kBy w A c l) :
  OpGo Tryz.prog tb B0 n ⟨some d,.convert 22 9 x,ty,ps,af,gd⟩ env H m I (λ_:Unit=>(d,strE l) :: env) (λ_=>H) (λ_=>I):=by
 rcases hp with hp|rfl
 ·exact OpGo.byteStrP hd hx hxv hp hl
 intro w a hm hst ha
 have hdn:d < n:=Nat.lt_of_lt_of_le (Nat.lt_succ_self d) (Nat.le_of_ble_eq_true hd)
 obtain ⟨rfl,rfl⟩:=(hl w hst).nil rfl
 have hxv':a.eval x = .slice none 0 0:=(ev_run ha hx).trans hxv
 have h:(convert 22 9 (.slice none 0 0)).run Tryz.prog w = .ok (strV []) w:=by
  rw [Go.run_convert_bytes_string w 22 9 5 none 0 0 (tk.und rfl) (tk.und rfl) (tk.und rfl)]
  rfl
 unfold Oper.wp
 have:(execOp a.eval ⟨some d,.convert 22 9 x,ty,ps,af,gd⟩).run Tryz.prog w = .ok (.value (strV [])) w:=by
  simp only [execOp,hxv',Sem.run_bind,h]
  rfl
 rw [this]
 refine ⟨(),?_,by rw [← hm];exact Nat.le_refl _,hst⟩
 rw [kn_cons];exact ha.put hdn _
end
abbrev Nice (A:Option Addr):Prop:=Ptr A ∨ A=none
theorem diff_short {s t:Option Tree} (hs:wfO s) (ht:wfO t) {N:Nat} (ls:lowO N s) (lt:lowO N t):∀ x ∈ diffL s t,x.name.length ≤ N:=by
 intro x hx
 rw [diffL_eq hs ht] at hx
 obtain ⟨k,hk,rfl⟩:=List.mem_map.1 hx
 have h:=(mem_dks hs ht k).1 hk
 show k.length ≤ N
 cases h1:getO s k with
 | some y=>exact ls k y h1
 | none =>
  cases h2:getO t k with
  | some y=>exact lt k y h2
  | none=>rw [h1,h2] at h;exact absurd rfl h
theorem diff_many {s t:Option Tree} (hs:wfO s) (ht:wfO t):(diffL s t).length ≤ maO s+maO t:=by
 rw [diffL_eq hs ht,List.length_map];exact dks_len hs ht
theorem tch_name {w:World} {A:Option Addr} {c:Nat} {l:List TChg} (h:Sl kTCh w A c l) {i:Nat} (hi:i < l.length):(loadVar 9 ⟨blkA A,offA A+i*67+0,none⟩).run Tryz.prog w = .ok (strV l[i].name) w :=
 YtbfjmimiigjenaaGreatDoor.Sl.field h hi 0 ⟨rfl,Tryz.t9,rfl,rfl⟩ λj x hx=>by
  rw [tch_cs]
  cases j with
  | zero=>simpa [Value.cells,strV] using hx
  | succ j=>simp [Value.cells,strV] at hx
theorem rot_or (x:UInt32) (n:Nat):shrW x n ||| shlW x (32 - n)=rotW x n:=by unfold rotW;rw [UInt32.or_comm]
theorem turn_spec (w:World) (x:UInt32) (n:Nat) (h1:0 < n) (h2:n < 32):Gives Tryz.prog 284 [u32V x,intV n] w (u32E (rotW x n)):=by
 refine enterH tk [(0,u32E x),(1,intE n)] Tryz.func284 rfl Tryz.ntmps284 rfl rfl ?_
 refine RH.a [] ?_
 refine RH.w [] 9 ?_
 refine RD.b [] rfl rfl (by simp;exact ⟨⟨by omega,by omega⟩,⟨by omega,by omega⟩,by omega⟩) ?_
 refine RD.e ?_
 rw [show (32:Int) - (n:Int)=((32 - n:Nat):Int) by omega]
 refine RH.ret1 Tryz.func284 rfl rfl λw' hst=>⟨?_,hst.fact⟩
 rw [← rot_or]
 unfold u32E u32V
 rw [w_or,w_shl x (32 - n) (by omega),w_shr x n h2]
theorem constant_spec (w:World) (i:Nat) (hi:i < 64):Gives Tryz.prog 285 [intV i] w (u32E (gW constW i)):=by
 refine enterH tk [(0,intE i)] Tryz.func285 rfl Tryz.ntmps285 rfl rfl ?_
 refine RH.a [] ?_
 refine RH.read (.av (.val (wsV constW))) rfl rfl rfl rfl (λu q _ _=>?_) ?_
 ·have hc:∀ v,q.eval (.const v)=v:=λ_=>rfl
  simp only [execOp,List.map_toArray,List.map_cons,List.map_nil,hc,Sem.run_bind]
  rw [run_build u _ _ (wsC constW) (by kernel_rfl)]
  rfl
 refine RH.a [] ?_
 refine RH.read (u32E (gW constW i)) rfl rfl rfl rfl (λu q _ ha=>?_) ?_
 ·have e1:q.eval (.tmp 3)=wsV constW:=ev_run (e:=.av (.val (wsV constW))) ha rfl
  have e2:q.eval (.tmp 4)=intV i:=ev_run (e:=intE i) ha rfl
  simp only [execOp,e1,e2,index_ws constW rfl i hi,Sem.run_bind,Result.andThen_ok,Sem.run_pure]
  rfl
 refine RH.a [] ?_
 refine RH.ret1 Tryz.func285 rfl rfl λw' hst=>⟨rfl,hst.fact⟩
theorem First_spec (w:World):Gives Tryz.prog 192 [] w (.av (.val (wsV beginW))):=by
 refine enterH tk [] Tryz.func192 rfl Tryz.ntmps192 rfl rfl ?_
 have hz8:(Tryz.t226).size=8:=by kernel_rfl
 refine RH.adv tk [] rfl rfl (by simp [hz8]) ?_
 refine RH.read (.av (.val (wsV beginW))) rfl rfl rfl rfl (λu q _ _=>?_) ?_
 ·have hc:∀ v,q.eval (.const v)=v:=λ_=>rfl
  simp only [execOp,List.map_toArray,List.map_cons,List.map_nil,hc,Sem.run_bind]
  rw [run_build u _ _ (wsC beginW) (by kernel_rfl)]
  rfl
 refine RH.adv tk [] rfl rfl (by simp [hz8];exact ⟨rfl,λu hu=>wsC_one beginW u (by simpa using hu)⟩) ?_
 exact RH.retBox tk (.av (.val (wsV beginW))) Tryz.func192 rfl rfl rfl rfl λu hu=>⟨rfl,hu.fact⟩
theorem w_ext {x y:UInt32} (h:∀ i:Nat,i < 32->x.toBitVec.getLsbD i=y.toBitVec.getLsbD i):x=y:=by
 apply UInt32.toBitVec_inj.1
 exact BitVec.eq_of_getLsbD_eq λi hi=>h i hi
theorem not_bit (x:UInt32) (i:Nat) (hi:i < 32):(notW x).toBitVec.getLsbD i = !x.toBitVec.getLsbD i:=by
 have e:(notW x).toBitVec = ~~~ x.toBitVec:=by
  unfold notW
  rw [UInt32.toBitVec_xor]
  show BitVec.allOnes 32 ^^^ x.toBitVec=_
  rw [BitVec.allOnes_xor]
 rw [e,BitVec.getLsbD_not]
 simp [hi]
theorem ch_or (e f g:UInt32):e &&& f ||| notW e &&& g=(e &&& f) ^^^ (notW e &&& g):=w_ext λi hi=>by
 simp only [UInt32.toBitVec_or,UInt32.toBitVec_and,UInt32.toBitVec_xor,BitVec.getLsbD_or,BitVec.getLsbD_and,BitVec.getLsbD_xor,not_bit _ _ hi]
 cases e.toBitVec.getLsbD i<;>cases f.toBitVec.getLsbD i<;>cases g.toBitVec.getLsbD i<;>rfl
theorem maj_or (a b c:UInt32):a &&& b ||| a &&& c ||| b &&& c=(a &&& b) ^^^ (a &&& c) ^^^ (b &&& c):=w_ext λi hi=>by
 simp only [UInt32.toBitVec_or,UInt32.toBitVec_and,UInt32.toBitVec_xor,BitVec.getLsbD_or,BitVec.getLsbD_and,BitVec.getLsbD_xor]
 cases a.toBitVec.getLsbD i<;>cases b.toBitVec.getLsbD i<;>cases c.toBitVec.getLsbD i<;>rfl
def refNext (a b x y:UInt32):UInt32:=a+b+(rotW x 7 ^^^ rotW x 18 ^^^ shrW x 3)+(rotW y 17 ^^^ rotW y 19 ^^^ shrW y 10)
theorem next_ref (n:Nat) (ws:List UInt32):nextW n ws=refNext (gW ws n) (gW ws (n+9)) (gW ws (n+1)) (gW ws (n+14)):=by
 unfold nextW sumW refNext mixW lowM highM
 simp only [List.foldl_cons,List.foldl_nil,if_true]
 rw [UInt32.zero_add]
def refP (h:List UInt32) (k w:UInt32):UInt32:=gW h 7+(rotW (gW h 4) 6 ^^^ rotW (gW h 4) 11 ^^^ rotW (gW h 4) 25)+(gW h 4 &&& gW h 5 ||| notW (gW h 4) &&& gW h 6)+k+w
def refQ (h:List UInt32):UInt32:=(rotW (gW h 0) 2 ^^^ rotW (gW h 0) 13 ^^^ rotW (gW h 0) 22)+(gW h 0 &&& gW h 1 ||| gW h 0 &&& gW h 2 ||| gW h 1 &&& gW h 2)
theorem temp_ref (W h:List UInt32) (i:Nat):tempA W h i=refP h (gW constW i) (gW W i):=by
 unfold tempA roundA sumW refP mixW
 simp only [List.foldl_cons,List.foldl_nil,if_false,Bool.false_eq_true]
 rw [UInt32.zero_add,UInt32.zero_add,ch_or]
theorem roundB_ref (h:List UInt32):roundB h=refQ h:=by
 unfold roundB sumW refQ mixW
 simp only [List.foldl_cons,List.foldl_nil,if_false,Bool.false_eq_true]
 rw [UInt32.zero_add,maj_or]
def refStep (h:List UInt32) (p q:UInt32):List UInt32:=[p+q,gW h 0,gW h 1,gW h 2,gW h 3+p,gW h 4,gW h 5,gW h 6]
theorem step_ref (W:List UInt32) (i:Nat) {h:List UInt32} (h8:h.length=8):stepW W i h=refStep h (tempA W h i) (roundB h):=by
 match h,h8 with
 | [a,b,c,d,e,f,g,k],_ =>
  unfold stepW shiftW refStep sumW
  generalize tempA W [a,b,c,d,e,f,g,k] i=p
  generalize roundB [a,b,c,d,e,f,g,k]=q
  simp [gW]
theorem store_w8 {w:World} {B0:Nat} {H:Heap} {I:World->Prop} {id b:Nat} {ws:List UInt32} (ws':List UInt32) (h8':ws'.length=8) (h8:ws.length=8) (hst:St tb B0 H I w) (hH:loH H id=wsE b 226 ws) :
  ∃ w',(storeVar 226 ⟨b,0,none⟩ (wsV ws')).run Tryz.prog w = .ok () w'/\w.heap.size ≤ w'.heap.size/\St tb B0 ((id,wsE b 226 ws') :: H) I w':=by
 have ho:=hst.holds id _ hH
 have hc:(wsV ws').cells=wsC ws':=rfl
 obtain ⟨w',q1,q2,q3,q4⟩:=run_storeAt (P:=Tryz.prog) tk (vok_w8 h8') (o:=0) ho.2 (by rw [hc];unfold wsC;simp [h8,h8'])
 refine ⟨w',q1,by rw [q4];exact Nat.le_refl _,?_⟩
 have e:((wsC ws).toList.take 0 ++ (wsV ws').cells.toList ++ (wsC ws).toList.drop (0+(wsV ws').cells.size)).toArray=wsC ws':=by
  rw [hc];unfold wsC;simp [h8,h8',List.drop_eq_nil_of_le]
 rw [e] at q2
 exact hst.turn (w':=w') id (.obj b (.cells (wsC ws) 226)) (.obj b (.cells (wsC ws') 226)) hH (q3.mono λj _ hj=>by rw [hj];rfl) ⟨ho.1,q2⟩ λj hj=>.inl hj
def addR (v:List UInt32) (n:Nat) (h:List UInt32):List UInt32:=iterN (λi h=>h.set i (gW h i+gW v i)) n h
theorem addR_len (v:List UInt32) (n:Nat) {h:List UInt32} (h8:h.length=8):(addR v n h).length=8:=iterN_inv (p:=λl:List UInt32=>l.length=8) (λn x hx=>by rw [List.length_set];exact hx) n h h8
theorem addR_all {v h:List UInt32} (h8:h.length=8) (v8:v.length=8):addR v 8 h=addW h 8 v:=by
 match h,h8,v,v8 with
 | [a,b,c,d,e,f,g,k],_,[a',b',c',d',e',f',g',k'],_=>simp [addR,addW,iterN,gW,sumW,UInt32.add_comm]
set_option maxHeartbeats 1000000 in
theorem Taken_spec (w:World) (old:List UInt32) (h8:old.length=8) (A:Option Addr) (c:Nat) (blk:List UInt8) (hb:Sl kBy w A c blk) (h64:blk.length=64):Gives Tryz.prog 256 [wsV old,.slice A blk.length c] w (.av (.val (wsV (takenW old blk)))):=by
 have hl:lim=140737488351232:=rfl
 have hcap:=hb.cap
 have hptr:=hb.ptr (i:=0) (by omega)
 refine enterH tk [(0,.av (.val (wsV old))),(1,slE A blk.length c)] Tryz.func256 rfl Tryz.ntmps256 rfl rfl ?_
 have hz8:(Tryz.t226).size=8:=by kernel_rfl
 have hz64:(Tryz.t367).size=64:=by kernel_rfl
 refine RH.adv tk [] rfl rfl (by simp [hz8,hz64];exact ⟨by unfold wsC;simp [h8],λu hu=>wsC_one old u (by simpa using hu)⟩) ?_
 refine RH.boxObj (id:=2) (wsC (firstW blk 0)) rfl (by show boxCells [.val (.agg (wsC (List.replicate 64 0)))]=_;exact boxCells_ws _) ?_
 have hz:(Tryz.t225).size=1:=by kernel_rfl
 refine RH.loop (α:=Nat) (λi=>[(1,slE A blk.length c),(2,.av (.box 0 w.heap.size 0)),(4,.av (.box 1 (w.heap.size+1) 0)),(5,.av (.box 2 (w.heap.size+1+1) 0)),(6,intE i)])
  (λi=>[(0,some (.box w.heap.size [.val (wsV old)] 226)),(1,some (.box (w.heap.size+1) [.val (wsV (List.replicate 8 0))] 226)),(2,wsE (w.heap.size+1+1) 367 (firstW blk i))]) (λi u=>Ext w u/\i ≤ 16) (λi=>16 - i) 0 rfl rfl (λu hu=>⟨hu,by decide⟩) ?_
 intro i m
 refine RH.pure (λu hu=>hu.2) λhi=>?_
 by_cases hlt:i < 16
 ·refine RH.a [true] ?_
  refine RH.loop (α:=Nat) (λj=>[(1,slE A blk.length c),(2,.av (.box 0 w.heap.size 0)),(4,.av (.box 1 (w.heap.size+1) 0)),(5,.av (.box 2 (w.heap.size+1+1) 0)),(6,intE i),(7,intE j)])
   (λj=>[(0,some (.box w.heap.size [.val (wsV old)] 226)),(1,some (.box (w.heap.size+1) [.val (wsV (List.replicate 8 0))] 226)),(2,wsE (w.heap.size+1+1) 367 (innW blk i j (firstW blk i)))]) (λj u=>Ext w u/\j ≤ 4) (λj=>4 - j) 0 rfl rfl (λu hu=>⟨hu.1,by decide⟩) ?_
  intro j m1
  refine RH.pure (λu hu=>hu.2) λhj=>?_
  have hlen:(innW blk i j (firstW blk i)).length=64:=by rw [innW_len,firstW_len]
  have hnext:(innW blk i j (firstW blk i)).set i (shlW (gW (innW blk i j (firstW blk i)) i) 8 ||| b2w (byteAt blk (4*i+j)))=innW blk i (j+1) (firstW blk i):=rfl
  by_cases hjt:j < 4
  ·generalize innW blk i j (firstW blk i)=W at *
   refine RH.a [true] ?_
   refine RH.w [(2,wsE (w.heap.size+1+1) 367 W)] 16 ?_
   refine RD.b [] rfl rfl (by simp;exact ⟨hptr,⟨by omega,by omega⟩,⟨by omega,by omega⟩,⟨by omega,by omega⟩,by omega⟩) ?_
   refine RD.lg 3 (u32E (gW W i)) rfl rfl (λu hu=>load_wsAt (hu.holds 2 _ rfl).2 i (by omega) _ (by show (i:Int).toNat*1=i*1;omega)) ?_
   refine RD.ld 11 (byE (byteAt blk (4*i+j))) rfl rfl (λu hu=>?_) ?_
   ·have h1:=(hb.ext hu.1).load (i:=4*i+j) (by omega)
    have e5:byteAt blk (4*i+j)=blk[4*i+j]:=by unfold byteAt;simp [h64,show 4*i+j < 64 by omega]
    rw [show ((4:Int)*i+j).toNat=4*i+j by omega,e5]
    exact h1
   refine RD.a [] ?_
   refine RD.lastW (i:=15) (id:=2) (ws:=W) i (shlW (gW W i) 8 ||| b2w (byteAt blk (4*i+j))) rfl (by kernel_rfl) rfl (by kernel_rfl) (by kernel_rfl) rfl rfl rfl (by omega) rfl (by unfold u32V;rw [w_or,w_shl _ 8 (by decide),w_byte];rfl) ?_
   intro m2 hm2
   rw [hnext]
   refine RH.a [] ?_
   exact RH.again (j+1) (.head _) rfl rfl (by show 4 - (j+1) < 4 - j;omega) λu hu=>⟨hu.1,hjt⟩
  ·have hj4:j=4:=by omega
   subst hj4
   refine RH.a [false] ?_
   exact RH.again (i+1) (.tail _ (.head _)) rfl rfl (by show 16 - (i+1) < 16 - i;omega) λu hu=>⟨hu.1,hlt⟩
 ·have hi16:i=16:=by omega
  subst hi16
  refine RH.a [false] ?_
  refine RH.loop (α:=Nat) (λn=>[(2,.av (.box 0 w.heap.size 0)),(4,.av (.box 1 (w.heap.size+1) 0)),(5,.av (.box 2 (w.heap.size+1+1) 0)),(8,intE (n+16:Nat))])
   (λn=>[(0,some (.box w.heap.size [.val (wsV old)] 226)),(1,some (.box (w.heap.size+1) [.val (wsV (List.replicate 8 0))] 226)),(2,wsE (w.heap.size+1+1) 367 (extW n (firstW blk 16)))]) (λn u=>Ext w u/\n ≤ 48) (λn=>48 - n) 0 rfl rfl (λu hu=>⟨hu.1,by decide⟩) ?_
  intro n m2
  refine RH.pure (λu hu=>hu.2) λhn=>?_
  have hlen:(extW n (firstW blk 16)).length=64:=by rw [extW_len,firstW_len]
  have hnext:(extW n (firstW blk 16)).set (n+16) (nextW n (extW n (firstW blk 16)))=extW (n+1) (firstW blk 16):=rfl
  by_cases hnt:n < 48
  ·generalize hW:extW n (firstW blk 16)=W at *
   refine RH.a [true] ?_
   refine RH.w [(2,wsE (w.heap.size+1+1) 367 W)] 10 ?_
   refine RD.a [] ?_
   refine RD.lg 3 (u32E (gW W (n+1))) rfl rfl (λu hu=>load_wsAt (hu.holds 2 _ rfl).2 (n+1) (by omega) _ (by show (((n+16:Nat):Int) - 15).toNat*1=(n+1)*1;omega)) ?_
   refine RD.a [] ?_
   refine RD.lg 7 (u32E (gW W (n+14))) rfl rfl (λu hu=>load_wsAt (hu.holds 2 _ rfl).2 (n+14) (by omega) _ (by show (((n+16:Nat):Int) - 2).toNat*1=(n+14)*1;omega)) ?_
   refine RD.a [] ?_
   refine RD.e ?_
   generalize hx:gW W (n+1)=x
   generalize hy:gW W (n+14)=y
   refine RH.w [(2,wsE (w.heap.size+1+1) 367 W)] 30 ?_
   refine RD.a [] ?_
   refine RD.lg 4 (u32E (gW W n)) rfl rfl (λu hu=>load_wsAt (hu.holds 2 _ rfl).2 n (by omega) _ (by show (((n+16:Nat):Int) - 16).toNat*1=n*1;omega)) ?_
   refine RD.a [] ?_
   refine RD.lg 8 (u32E (gW W (n+9))) rfl rfl (λu hu=>load_wsAt (hu.holds 2 _ rfl).2 (n+9) (by omega) _ (by show (((n+16:Nat):Int) - 7).toNat*1=(n+9)*1;omega)) ?_
   refine RD.a [] ?_
   refine RD.gv 11 (u32E (rotW x 7)) rfl rfl rfl Tryz.call284 (λu _=>turn_spec u x 7 (by decide) (by decide)) ?_
   intro m3 hm3
   refine RD.a [] ?_
   refine RD.gv 13 (u32E (rotW x 18)) rfl rfl rfl Tryz.call284 (λu _=>turn_spec u x 18 (by decide) (by decide)) ?_
   intro m4 hm4
   refine RD.a [] ?_
   refine RD.gv 20 (u32E (rotW y 17)) rfl rfl rfl Tryz.call284 (λu _=>turn_spec u y 17 (by decide) (by decide)) ?_
   intro m5 hm5
   refine RD.a [] ?_
   refine RD.gv 22 (u32E (rotW y 19)) rfl rfl rfl Tryz.call284 (λu _=>turn_spec u y 19 (by decide) (by decide)) ?_
   intro m6 hm6
   refine RD.a [] ?_
   refine RD.lastW (i:=29) (id:=2) (ws:=W) (n+16) (nextW n W) rfl (by kernel_rfl) rfl (by kernel_rfl) (by kernel_rfl) rfl rfl rfl (by omega) rfl ?_ ?_
   ·rw [next_ref,hx,hy]
    unfold refNext u32V
    rw [w_add,w_add,w_add,w_xor,w_xor,w_xor,w_xor,w_shr x 3 (by decide),w_shr y 10 (by decide)]
    rfl
   intro m7 hm7
   rw [hnext]
   refine RH.a [] ?_
   exact RH.again (n+1) (.head _) rfl rfl (by show 48 - (n+1) < 48 - n;omega) λu hu=>⟨hu.1,hnt⟩
  ·have hn48:n=48:=by omega
   subst hn48
   have hWl:=spreadW_len blk
   have htk:takenW old blk=addW old 8 (roundsW (spreadW blk) 64 old):=rfl
   rw [htk]
   change RH _ _ _ _ _ _ _ _ _ [(0,some (.box w.heap.size [.val (wsV old)] 226)),(1,some (.box (w.heap.size+1) [.val (wsV (List.replicate 8 0))] 226)),(2,wsE (w.heap.size+1+1) 367 (spreadW blk))] _ _ _
   generalize spreadW blk=W at *
   refine RH.adv tk [false] rfl rfl (by simp [hz8];exact ⟨by unfold wsC;simp [h8],λu hu=>wsC_one old u (by simpa using hu)⟩) ?_
   refine RH.boxObj (id:=3) (wsC old) rfl (boxCells_ws old) ?_
   refine RH.loop (α:=Nat) (λi=>[(2,.av (.box 0 w.heap.size 0)),(4,.av (.box 1 (w.heap.size+1) 0)),(5,.av (.box 2 (w.heap.size+1+1) 0)),(11,.av (.box 3 m2 0)),(12,intE i)])
    (λi=>[(0,some (.box w.heap.size [.val (wsV old)] 226)),(1,some (.box (w.heap.size+1) [.val (wsV (List.replicate 8 0))] 226)),(2,wsE (w.heap.size+1+1) 367 W),(3,wsE m2 226 (roundsW W i old))]) (λi u=>Ext w u/\i ≤ 64) (λi=>64 - i) 0 rfl rfl (λu hu=>⟨hu.1,by decide⟩) ?_
   intro i m3
   refine RH.pure (λu hu=>hu.2) λhi=>?_
   by_cases hlt:i < 64
   ·have hh8:(roundsW W i old).length=8:=roundsW_len W i h8
    have hnext:stepW W i (roundsW W i old)=roundsW W (i+1) old:=rfl
    generalize roundsW W i old=h at *
    refine RH.a [true] ?_
    refine RH.w [(3,wsE m2 226 h)] 18 ?_
    refine RD.a [] ?_
    refine RD.lg 1 (u32E (gW h 0)) rfl rfl (λu hu=>load_wsAt (hu.holds 3 _ rfl).2 0 (by omega) _ rfl) ?_
    refine RD.a [] ?_
    refine RD.lg 3 (u32E (gW h 1)) rfl rfl (λu hu=>load_wsAt (hu.holds 3 _ rfl).2 1 (by omega) _ rfl) ?_
    refine RD.a [] ?_
    refine RD.lg 5 (u32E (gW h 2)) rfl rfl (λu hu=>load_wsAt (hu.holds 3 _ rfl).2 2 (by omega) _ rfl) ?_
    refine RD.a [] ?_
    refine RD.lg 7 (u32E (gW h 4)) rfl rfl (λu hu=>load_wsAt (hu.holds 3 _ rfl).2 4 (by omega) _ rfl) ?_
    refine RD.a [] ?_
    refine RD.lg 9 (u32E (gW h 5)) rfl rfl (λu hu=>load_wsAt (hu.holds 3 _ rfl).2 5 (by omega) _ rfl) ?_
    refine RD.a [] ?_
    refine RD.lg 11 (u32E (gW h 6)) rfl rfl (λu hu=>load_wsAt (hu.holds 3 _ rfl).2 6 (by omega) _ rfl) ?_
    refine RD.a [] ?_
    refine RD.e ?_
    refine RH.a [] ?_
    refine RH.w [(2,wsE (w.heap.size+1+1) 367 W),(3,wsE m2 226 h)] 28 ?_
    refine RD.a [] ?_
    refine RD.lg 1 (u32E (gW h 7)) rfl rfl (λu hu=>load_wsAt (hu.holds 3 _ rfl).2 7 (by omega) _ rfl) ?_
    refine RD.a [] ?_
    refine RD.lg 25 (u32E (gW W i)) rfl rfl (λu hu=>load_wsAt (hu.holds 2 _ rfl).2 i (by omega) _ (by show (i:Int).toNat*1=i*1;omega)) ?_
    refine RD.a [] ?_
    refine RD.gv 3 (u32E (rotW (gW h 4) 6)) rfl rfl rfl Tryz.call284 (λu _=>turn_spec u (gW h 4) 6 (by decide) (by decide)) ?_
    intro q1 hq1
    refine RD.a [] ?_
    refine RD.gv 5 (u32E (rotW (gW h 4) 11)) rfl rfl rfl Tryz.call284 (λu _=>turn_spec u (gW h 4) 11 (by decide) (by decide)) ?_
    intro q2 hq2
    refine RD.a [] ?_
    refine RD.gv 8 (u32E (rotW (gW h 4) 25)) rfl rfl rfl Tryz.call284 (λu _=>turn_spec u (gW h 4) 25 (by decide) (by decide)) ?_
    intro q3 hq3
    refine RD.a [] ?_
    refine RD.gv 21 (u32E (gW constW i)) rfl rfl rfl Tryz.call285 (λu _=>constant_spec u i hlt) ?_
    intro q4 hq4
    refine RD.a [] ?_
    refine RD.e ?_
    refine V.RH.slotE 19 (u32E (tempA W h i)) rfl ?_ ?_
    ·show _=Value.int .u32 ((tempA W h i).toNat:Int)
     rw [temp_ref]
     unfold refP
     rw [w_add,w_add,w_add,w_add,w_xor,w_xor,w_or,w_and,w_and,w_not]
     rfl
    have hst:=step_ref W i hh8
    rw [hnext] at hst
    have hqq:=roundB_ref h
    generalize tempA W h i=p at *
    refine RH.a [] ?_
    refine RH.gv (u32E (rotW (gW h 0) 2)) rfl rfl rfl Tryz.call284 (λu _=>turn_spec u (gW h 0) 2 (by decide) (by decide)) ?_
    intro q5 hq5
    refine RH.a [] ?_
    refine RH.gv (u32E (rotW (gW h 0) 13)) rfl rfl rfl Tryz.call284 (λu _=>turn_spec u (gW h 0) 13 (by decide) (by decide)) ?_
    intro q6 hq6
    refine RH.a [] ?_
    refine RH.gv (u32E (rotW (gW h 0) 22)) rfl rfl rfl Tryz.call284 (λu _=>turn_spec u (gW h 0) 22 (by decide) (by decide)) ?_
    intro q7 hq7
    refine RH.a [] ?_
    refine V.RH.slotE 152 (u32E (p+roundB h)) rfl ?_ ?_
    ·show _=Value.int .u32 ((p+roundB h).toNat:Int)
     rw [hqq]
     unfold refQ
     rw [w_add,w_add,w_xor,w_xor,w_or,w_or,w_and,w_and,w_and]
     rfl
    refine RH.loadS (u32E (gW h 0)) rfl rfl rfl rfl (λu hu=>load_wsAt (hu.holds 3 _ rfl).2 0 (by omega) _ rfl) ?_
    refine RH.a [] ?_
    refine RH.loadS (u32E (gW h 1)) rfl rfl rfl rfl (λu hu=>load_wsAt (hu.holds 3 _ rfl).2 1 (by omega) _ rfl) ?_
    refine RH.a [] ?_
    refine RH.loadS (u32E (gW h 2)) rfl rfl rfl rfl (λu hu=>load_wsAt (hu.holds 3 _ rfl).2 2 (by omega) _ rfl) ?_
    refine RH.a [] ?_
    refine RH.loadS (u32E (gW h 3)) rfl rfl rfl rfl (λu hu=>load_wsAt (hu.holds 3 _ rfl).2 3 (by omega) _ rfl) ?_
    refine RH.a [] ?_
    refine V.RH.slotE 162 (u32E (gW h 3+p)) rfl ?_ ?_
    ·show _=Value.int .u32 ((gW h 3+p).toNat:Int)
     rw [w_add];rfl
    refine RH.loadS (u32E (gW h 4)) rfl rfl rfl rfl (λu hu=>load_wsAt (hu.holds 3 _ rfl).2 4 (by omega) _ rfl) ?_
    refine RH.a [] ?_
    refine RH.loadS (u32E (gW h 5)) rfl rfl rfl rfl (λu hu=>load_wsAt (hu.holds 3 _ rfl).2 5 (by omega) _ rfl) ?_
    refine RH.a [] ?_
    refine RH.loadS (u32E (gW h 6)) rfl rfl rfl rfl (λu hu=>load_wsAt (hu.holds 3 _ rfl).2 6 (by omega) _ rfl) ?_
    refine RH.a [] ?_
    refine RH.read (.av (.val (wsV (refStep h p (roundB h))))) rfl rfl rfl rfl (λu q _ ha=>?_) ?_
    ·have a1:q.eval (.tmp 152)=u32V (p+roundB h):=ev_run (e:=u32E (p+roundB h)) ha rfl
     have a2:q.eval (.tmp 154)=u32V (gW h 0):=ev_run (e:=u32E (gW h 0)) ha rfl
     have a3:q.eval (.tmp 156)=u32V (gW h 1):=ev_run (e:=u32E (gW h 1)) ha rfl
     have a4:q.eval (.tmp 158)=u32V (gW h 2):=ev_run (e:=u32E (gW h 2)) ha rfl
     have a5:q.eval (.tmp 162)=u32V (gW h 3+p):=ev_run (e:=u32E (gW h 3+p)) ha rfl
     have a6:q.eval (.tmp 164)=u32V (gW h 4):=ev_run (e:=u32E (gW h 4)) ha rfl
     have a7:q.eval (.tmp 166)=u32V (gW h 5):=ev_run (e:=u32E (gW h 5)) ha rfl
     have a8:q.eval (.tmp 168)=u32V (gW h 6):=ev_run (e:=u32E (gW h 6)) ha rfl
     simp only [execOp,List.map_toArray,List.map_cons,List.map_nil,a1,a2,a3,a4,a5,a6,a7,a8,Sem.run_bind]
     rw [run_build u _ _ (wsC (refStep h p (roundB h))) (by kernel_rfl)]
     rfl
    refine RH.a [] ?_
    rw [← hst]
    refine RH.storeS [(0,some (.box w.heap.size [.val (wsV old)] 226)),(1,some (.box (w.heap.size+1) [.val (wsV (List.replicate 8 0))] 226)),(2,wsE (w.heap.size+1+1) 367 W),(3,wsE m2 226 (roundsW W (i+1) old))] rfl rfl rfl rfl (λw _ hst=>?_) ?_
    ·obtain ⟨w',z1,z2,z3⟩:=store_w8 (roundsW W (i+1) old) (roundsW_len W (i+1) h8) hh8 hst (id:=3) rfl
     exact ⟨w',z1,z2,z3.out [] rfl rfl λ_ h=>h⟩
    intro m9 hm9
    refine RH.a [] ?_
    exact RH.again (i+1) (.head _) rfl rfl (by show 64 - (i+1) < 64 - i;omega) λu hu=>⟨hu.1,hlt⟩
   ·have hi64:i=64:=by omega
    subst hi64
    refine RH.a [false] ?_
    have hR8:(roundsW W 64 old).length=8:=roundsW_len W 64 h8
    generalize roundsW W 64 old=Rr at *
    refine RH.boxObj (id:=0) (wsC old) rfl (boxCells_ws old) ?_
    refine RH.loop (α:=Nat) (λi=>[(2,.av (.box 0 w.heap.size 0)),(4,.av (.box 1 (w.heap.size+1) 0)),(11,.av (.box 3 m2 0)),(21,intE i)])
     (λi=>[(0,wsE w.heap.size 226 (addR Rr i old)),(1,some (.box (w.heap.size+1) [.val (wsV (List.replicate 8 0))] 226)),(3,wsE m2 226 Rr)]) (λi u=>Ext w u/\i ≤ 8) (λi=>8 - i) 0 rfl rfl (λu hu=>⟨hu.1,by decide⟩) ?_
    intro i m5
    refine RH.pure (λu hu=>hu.2) λhi=>?_
    have hc8:(addR Rr i old).length=8:=addR_len Rr i h8
    by_cases hlt2:i < 8
    ·have hnext:(addR Rr i old).set i (gW (addR Rr i old) i+gW Rr i)=addR Rr (i+1) old:=rfl
     generalize addR Rr i old=cu at *
     refine RH.a [true] ?_
     refine RH.w [(0,wsE w.heap.size 226 cu),(3,wsE m2 226 Rr)] 9 ?_
     refine RD.a [] ?_
     refine RD.lg 2 (u32E (gW cu i)) rfl rfl (λu hu=>load_wsAt (hu.holds 0 _ rfl).2 i (by omega) _ (by show (i:Int).toNat*1=i*1;omega)) ?_
     refine RD.lg 5 (u32E (gW Rr i)) rfl rfl (λu hu=>load_wsAt (hu.holds 3 _ rfl).2 i (by omega) _ (by show (i:Int).toNat*1=i*1;omega)) ?_
     refine RD.a [] ?_
     refine RD.lastW (i:=8) (id:=0) (ws:=cu) i (gW cu i+gW Rr i) rfl (by kernel_rfl) rfl (by kernel_rfl) (by kernel_rfl) rfl rfl rfl (by omega) rfl (by unfold u32V;rw [w_add];rfl) ?_
     intro m7 hm7
     rw [hnext]
     refine RH.a [] ?_
     exact RH.again (i+1) (.head _) rfl rfl (by show 8 - (i+1) < 8 - i;omega) λu hu=>⟨hu.1,hlt2⟩
    ·have hi8:i=8:=by omega
     subst hi8
     have hfin:=addR_all h8 hR8
     rw [hfin] at hc8 ⊢
     refine RH.objBox (id:=0) [.val (wsV (addW old 8 Rr))] rfl (boxCells_ws _).symm ⟨_,rfl,vok_w8 hc8⟩ ?_
     refine RH.adv tk [false] rfl rfl (by simp [hz8];exact ⟨by unfold wsC;simp [hc8],λu hu=>wsC_one _ u (by simpa using hu)⟩) ?_
     exact RH.retBox tk (.av (.val (wsV (addW old 8 Rr)))) Tryz.func256 rfl rfl rfl rfl λw' hst=>⟨rfl,hst.fact.1⟩
set_option maxHeartbeats 400000 in
theorem All_spec (h:List UInt32) (h8:h.length=8) (A:Option Addr) (c:Nat) (b:List UInt8) (hb:b.length ≤ 1000000) :
  Does Tryz.prog tb 191 [wsV h,.slice A b.length c] [] (λu=>Sl kBy u A c b) (λy:Option Addr × Nat=>.tuple #[wsV (blocksW h b (b.length / 64)),.slice y.1 (tailB b).length y.2]) (λ_=>[])
   (λy=>Late (λu=>Sl kBy u A c b) (λu=>Sl kBy u y.1 y.2 (tailB b))):=by
 have hl:lim=140737488351232:=rfl
 have hz8:(Tryz.t226).size=8:=by kernel_rfl
 have hz5:(Tryz.t5).size=1:=by kernel_rfl
 refine V.Does.enter0 [(0,.av (.val (wsV h))),(1,slE A b.length c)] Tryz.func191 rfl Tryz.ntmps191 rfl rfl 0 ?_
 intro m0 K
 refine RH.adv tk [] rfl rfl (by simp [hz8];exact ⟨by unfold wsC;simp [h8],λu hu=>wsC_one h u (by simpa using hu)⟩) ?_
 refine RH.loop (α:=Nat × (Option Addr × Nat)) (λy=>[(1,slE y.2.1 (b.drop (64*y.1)).length y.2.2),(2,.av (.box 0 m0 0)),(4,.av (.box 1 (m0+1) 0))])
  (λy=>[(0,some (.box m0 [.val (wsV (blocksW h b y.1))] 226)),(1,some (.box (m0+1) [.val (wsV (List.replicate 8 0))] 226))])
  (λy u=>((K u/\Sl kBy u A c b)/\Late (λu=>Sl kBy u A c b) (λu=>Sl kBy u y.2.1 y.2.2 (b.drop (64*y.1))) m0 u)/\64*y.1 ≤ b.length) (λy=>b.length - 64*y.1) (0,(A,c)) rfl rfl (λu hu=>⟨⟨hu,λv _ hp=>hp⟩,Nat.zero_le _⟩) ?_
 rintro ⟨k,A1,c1⟩ m1
 refine RH.pure (λu hu=>hu.2) λhk=>?_
 refine V.RH.know (λu=>(K u/\Sl kBy u A c b)/\Late (λu=>Sl kBy u A c b) (λu=>Sl kBy u A1 c1 (b.drop (64*k))) m0 u) (λu h=>h.1) ?_
 dsimp only at hk ⊢
 have hw8:=blocksW_len (ws:=h) b k h8
 have hnext:=blocksW_succ h b k
 have hdl:(b.drop (64*k)).length=b.length - 64*k:=List.length_drop
 by_cases hlt:64 ≤ (b.drop (64*k)).length
 ·refine RH.pure (λu hu=>((hu.2.now hu.1.2).cap:(b.drop (64*k)).length ≤ c1)) λhcap=>?_
  have hdd:(b.drop (64*k)).drop 64=b.drop (64*(k+1)):=by rw [List.drop_drop];rfl
  have htl:((b.drop (64*k)).take 64).length=64:=by rw [List.length_take];omega
  generalize hws:blocksW h b k=ws at *
  refine RH.adv tk [true] rfl rfl (by simp [hlt]<;>omega) ?_
  refine RH.w [] 5 ?_
  refine RD.b [] rfl rfl (by simp;omega) ?_
  refine RD.step tk (nx:=3) (i:=0) rfl (by kernel_rfl) rfl rfl rfl ?_ rfl (λ_ h=>h) ⟨rfl,rfl⟩ ?_
  ·first|trivial|(simp [hz8];done)
  refine RD.a [] ?_
  refine RD.gv 3 (.av (.val (wsV (takenW ws ((b.drop (64*k)).take 64))))) rfl rfl rfl Tryz.call256 (λu hu=>by
   have h:=Taken_spec u ws hw8 A1 c1 ((b.drop (64*k)).take 64) (Sl.take (hu.fact.2.now hu.fact.1.2) 64 hlt) htl
   rw [htl] at h
   exact h) ?_
  intro m2 hm2
  have hnl:=takenW_len ((b.drop (64*k)).take 64) hw8
  generalize takenW ws ((b.drop (64*k)).take 64)=ws' at hnl hnext ⊢
  refine RD.step tk (nx:=3) (i:=4) rfl (by kernel_rfl) rfl rfl rfl ?_ rfl (λ_ h=>h) rfl ?_
  ·first|trivial|(simp [hz8];exact ⟨by unfold wsC;simp [hnl],λu hu=>wsC_one _ u (by simpa using hu)⟩)
  refine RD.a [] ?_
  refine RD.e ?_
  refine RH.adv tk [] rfl rfl (by simp;omega) ?_
  rw [hz5]
  rw [hnext]
  refine RH.again (k+1,(V.subA A1 64 c1 1,c1 - 64)) (.head _) ?_ rfl (by show b.length - 64*(k+1) < b.length - 64*k;omega) λu hu=>⟨⟨hu.1,λv hv hp=>?_⟩,by show 64*(k+1) ≤ b.length;omega⟩
  ·rw [show (b.drop (64*(k+1))).length=(b.drop (64*k)).length - 64 by rw [← hdd,List.length_drop]]
   rfl
  ·have h2:=Sl.dropA (hu.2 v hv hp) 64 hlt
   rw [hdd] at h2
   exact h2
 ·have hkk:k=b.length / 64:=by omega
  have htb:b.drop (64*k)=tailB b:=by unfold tailB;rw [hkk]
  rw [htb]
  rw [hkk] at hw8 ⊢
  generalize blocksW h b (b.length / 64)=ws at *
  rw [htb] at hlt
  refine RH.adv tk [false] rfl rfl (by simp [hz8];exact ⟨⟨by unfold wsC;simp [hw8],λu hu=>wsC_one _ u (by simpa using hu)⟩,by omega⟩) ?_
  exact RH.retBoxT tk (.av (.val (wsV ws))) Tryz.func191 rfl rfl rfl rfl rfl λw' hst=>⟨(A1,c1),rfl,hst.out [] rfl rfl λu h=>⟨h.1.1,h.2⟩⟩
theorem byteL_ref (L t:Nat) (hL:L ≤ 1000000) (ht:t < 8):(((L:Int) % 18446744073709551616*8) % 18446744073709551616).fdiv (2 ^ (min ((8:Int)*(7 - t)).toNat IntKind.u64.bits)) % 256=((byteL L t).toNat:Int):=by
 rw [← byte_raw L t ht]
 have e1:((L:Int) % 18446744073709551616*8) % 18446744073709551616=8*(L:Int):=by omega
 have e2:((8:Int)*(7 - t))=56 - 8*t:=by omega
 rw [e1,e2]
theorem byteW_ref (ws:List UInt32) (i:Nat):(((gW ws (i / 4)).toNat:Int).fdiv (2 ^ (min ((24:Int) - 8*((i:Int) % 4)).toNat IntKind.u32.bits))) % 256=((byteW ws i).toNat:Int):=by
 rw [← byteW_raw,show (8:Int)*((i:Int) % 4)=(i:Int) % 4*8 by omega]
set_option maxHeartbeats 400000 in
theorem ended_spec (w:World) (h:List UInt32) (h8:h.length=8) (A:Option Addr) (c:Nat) (rest:List UInt8) (hA:Sl kBy w A c rest) (hn:rest.length < 64) (L:Nat) (hL:L ≤ 1000000) :
  Gives Tryz.prog 193 [wsV h,.slice A rest.length c,intV L] w (sumE (endW h rest L)):=by
 have hl:lim=140737488351232:=rfl
 have hz8:(Tryz.t226).size=8:=by kernel_rfl
 refine enterH tk [(0,.av (.val (wsV h))),(1,slE A rest.length c),(2,intE L)] Tryz.func193 rfl Tryz.ntmps193 rfl rfl ?_
 refine RH.adv tk [] rfl rfl (by simp [hz8];exact ⟨by unfold wsC;simp [h8],λu hu=>wsC_one h u (by simpa using hu)⟩) ?_
 refine RH.apK (κ:=kBy) (id:=2) (l:=[]) (r:=rest) rfl rfl rfl rfl rfl rfl elt_byte rfl rfl (λw hst=>(hA.ext hst.fact).lies) (by simp;omega) (by simp;omega) ?_
 intro A1 c1 m1 hm1
 refine RH.a [] ?_
 refine RH.apK (κ:=kBy) (id:=2) (l:=[] ++ rest) (r:=[128]) rfl rfl rfl rfl rfl rfl elt_byte rfl rfl (λu hu=>hu.liR (κ:=kBy) (l:=[128]) (id:=3) rfl (by simp [hl])) (by simp;omega) (by simp;omega) ?_
 intro A2 c2 m2 hm2
 rw [show [] ++ rest ++ [128]=rest ++ padZ 0 by simp [padZ]]
 refine RH.a [] ?_
 have hpn:=padN_lt rest.length
 refine RH.toNx 10 ?_
 refine RH.loop (α:=Nat × (Option Addr × Nat)) (λy=>[(2,intE L),(3,.av (.box 0 w.heap.size 0)),(6,.av (.box 1 (w.heap.size+1) 0)),(7,rowS 2 y.2.1 (rest ++ padZ y.1).length y.2.2)])
  (λy=>[(0,some (.box w.heap.size [.val (wsV h)] 226)),(1,some (.box (w.heap.size+1) [.val (sumV Sum.zero)] 40)),(2,rowE kBy y.2.1 y.2.2 (rest ++ padZ y.1))])
  (λy u=>Ext w u/\y.1 ≤ padN rest.length) (λy=>padN rest.length - y.1) (0,(A2,c2)) rfl rfl (λu hu=>⟨hu,Nat.zero_le _⟩) ?_
 rintro ⟨j,A3,c3⟩ m3
 refine RH.pure (λu hu=>hu.2) λhj=>?_
 dsimp only at hj ⊢
 have hpl:=padZ_len j
 have hrl:(rest ++ padZ j).length=rest.length+(1+j):=by rw [List.length_append,hpl]
 by_cases hlt:j < padN rest.length
 ·have hne:=padN_at rest.length j hlt
  refine RH.adv tk [true] rfl rfl (by simp [hrl];omega) ?_
  refine RH.apK (κ:=kBy) (id:=2) (l:=rest ++ padZ j) (r:=[0]) rfl rfl rfl rfl rfl rfl elt_byte rfl rfl (λu hu=>hu.liR (κ:=kBy) (l:=[0]) (id:=10) rfl (by simp [hl])) (by simp;omega) (by simp;omega) ?_
  intro A4 c4 m4 hm4
  rw [List.append_assoc,padZ_snoc]
  refine RH.a [] ?_
  exact RH.again (j+1,(A4,c4)) (.head _) rfl rfl (by show padN rest.length - (j+1) < padN rest.length - j;omega) λu hu=>⟨hu.1,hlt⟩
 ·have hj':j=padN rest.length:=by omega
  subst hj'
  have heq:=padN_end rest.length
  refine RH.adv tk [false] rfl rfl (by simp [hrl];omega) ?_
  generalize hP0:padZ (padN rest.length)=P0 at *
  have hll:∀ t,(lensL L t).length=t:=λt=>by unfold lensL;simp
  have hpb:padB rest.length L=P0 ++ lensL L 8:=by unfold padB;rw [hP0]
  have hend:endW h rest L=digW (blocksW h (rest ++ P0 ++ lensL L 8) ((rest ++ P0 ++ lensL L 8).length / 64)):=by unfold endW;rw [hpb,List.append_assoc]
  rw [hend]
  have hql:(rest ++ P0).length ≤ 200:=by omega
  clear hend hpb hrl hpl heq hP0
  generalize rest ++ P0=Q0 at *
  refine RH.loop (α:=Nat × (Option Addr × Nat)) (λy=>[(2,intE L),(3,.av (.box 0 w.heap.size 0)),(6,.av (.box 1 (w.heap.size+1) 0)),(7,rowS 2 y.2.1 (Q0 ++ lensL L y.1).length y.2.2),(8,intE (7 - (y.1:Int)))])
   (λy=>[(0,some (.box w.heap.size [.val (wsV h)] 226)),(1,some (.box (w.heap.size+1) [.val (sumV Sum.zero)] 40)),(2,rowE kBy y.2.1 y.2.2 (Q0 ++ lensL L y.1))])
   (λy u=>Ext w u/\y.1 ≤ 8) (λy=>8 - y.1) (0,(A3,c3)) (by show V.Sub [(2,intE L),(3,.av (.box 0 w.heap.size 0)),(6,.av (.box 1 (w.heap.size+1) 0)),(7,rowS 2 A3 (Q0 ++ []).length c3),(8,intE (7 - ((0:Nat):Int)))] _;rw [List.append_nil];rfl) (by show SubH [(0,some (.box w.heap.size [.val (wsV h)] 226)),(1,some (.box (w.heap.size+1) [.val (sumV Sum.zero)] 40)),(2,rowE kBy A3 c3 (Q0 ++ []))] _;rw [List.append_nil];rfl) (λu hu=>⟨hu.1,Nat.zero_le _⟩) ?_
  rintro ⟨t,A4,c4⟩ m4
  refine RH.pure (λu hu=>hu.2) λht=>?_
  dsimp only at ht ⊢
  by_cases hlt2:t < 8
  ·refine RH.a [true] ?_
   rw [byteL_ref L t hL hlt2]
   have hl1:=hll t
   refine RH.apK (κ:=kBy) (id:=2) (l:=Q0 ++ lensL L t) (r:=[byteL L t]) rfl rfl rfl rfl rfl rfl elt_byte rfl rfl (λu hu=>hu.liR (κ:=kBy) (l:=[byteL L t]) (id:=10) rfl (by simp [hl])) (by rw [List.length_append,hll];simp;omega) (by rw [List.length_append,hll];simp;omega) ?_
   intro A5 c5 m5 hm5
   rw [List.append_assoc,lensL_snoc]
   refine RH.a [] ?_
   refine RH.again (t+1,(A5,c5)) (.head _) ?_ rfl (by show 8 - (t+1) < 8 - t;omega) λu hu=>⟨hu.1,hlt2⟩
   have e:(7:Int) - ((t+1:Nat):Int)=7 - (t:Int) - 1:=by omega
   simp only [e]
   rfl
  ·have ht8:t=8:=by omega
   subst ht8
   have hbl:(Q0 ++ lensL L 8).length ≤ 300:=by rw [List.length_append,hll];omega
   generalize Q0 ++ lensL L 8=bb at *
   have hw8:=blocksW_len (ws:=h) bb (bb.length / 64) h8
   refine RH.a [false] ?_
   refine RH.dd [] 12 (λy:Option Addr × Nat=>.av (.val (.tuple #[wsV (blocksW h bb (bb.length / 64)),.slice y.1 (tailB bb).length y.2]))) rfl rfl rfl Tryz.call191 (All_spec h h8 A4 c4 bb (by omega)) (λu hu=>Sl.own (B:=w.heap.size) (hu.row (κ:=kBy) (id:=2) (l:=bb) rfl) (by omega)) ?_
   rintro ⟨A5,c5⟩ m5 hm5
   refine RH.drop ?_
   generalize tailB bb=tl at *
   generalize blocksW h bb (bb.length / 64)=W1 at *
   refine RH.adv tk [] rfl rfl (by simp [hz8];exact ⟨by unfold wsC;simp [hw8],λu hu=>wsC_one _ u (by simpa using hu)⟩) ?_
   refine RH.boxObj (id:=0) (wsC W1) rfl (boxCells_ws W1) ?_
   refine RH.boxObj (id:=12) (bsC (outB W1 0)) rfl (by show boxCells [.val (.agg (bsC (List.replicate 32 0)))]=_;unfold boxCells;simp [flat,AV.v,Value.cells];rfl) ?_
   refine RH.loop (α:=Nat) (λi=>[(3,.av (.box 0 w.heap.size 0)),(6,.av (.box 1 (w.heap.size+1) 0)),(9,.av (.box 12 m5 0)),(10,intE i)])
    (λi=>[(0,wsE w.heap.size 226 W1),(1,some (.box (w.heap.size+1) [.val (sumV Sum.zero)] 40)),(12,bsE m5 (outB W1 i))]) (λi u=>Ext w u/\i ≤ 32) (λi=>32 - i) 0 rfl rfl (λu hu=>⟨hu.1,Nat.zero_le _⟩) ?_
   intro i m6
   refine RH.pure (λu hu=>hu.2) λhi=>?_
   have hol:=outB_len W1 i
   by_cases hlt3:i < 32
   ·have hnext:(outB W1 i).set i (byteW W1 i)=outB W1 (i+1):=rfl
    have e:(((i:Nat):Int) / 4).toNat=i / 4:=by omega
    refine RH.a [true] ?_
    refine RH.loadS (u32E (gW W1 (i / 4))) rfl rfl rfl rfl (λu hu=>load_wsAt (hu.holds 0 _ rfl).2 (i / 4) (by omega) _ (by show (((i:Nat):Int) / 4).toNat*1=i / 4*1;omega)) ?_
    refine RH.a [] ?_
    refine RH.storeB (id:=12) (l:=outB W1 i) i (byteW W1 i) rfl rfl rfl rfl rfl (by omega) rfl (by unfold u8V;rw [← byteW_ref];rfl) ?_
    intro m7 hm7
    rw [hnext]
    refine RH.a [] ?_
    exact RH.again (i+1) (.head _) rfl rfl (by show 32 - (i+1) < 32 - i;omega) λu hu=>⟨hu.1,hlt3⟩
   ·have hi32:i=32:=by omega
    subst hi32
    refine RH.objBox (id:=12) [.val (sumV (digW W1))] rfl (by unfold boxCells sumV digW bsC;simp [flat,AV.v,Value.cells]) ⟨_,rfl,vok_sum _⟩ ?_
    refine RH.a [false] ?_
    exact RH.retBox tk (.av (.val (sumV (digW W1)))) Tryz.func193 rfl rfl rfl rfl λw hst=>⟨rfl,hst.fact.1⟩
theorem rOf_spec (w:World) (A:Option Addr) (c:Nat) (b:List UInt8) (hb:Sl kBy w A c b) (hn:b.length ≤ 1000000):Gives Tryz.prog 110 [.slice A b.length c] w (.av (.val (sumV (shaW b)))):=by
 have hz8:(Tryz.t226).size=8:=by kernel_rfl
 refine enterH tk [(0,slE A b.length c)] Tryz.func110 rfl Tryz.ntmps110 rfl rfl ?_
 refine RH.adv tk [] rfl rfl ?_ ?_
 ·first|exact ⟨⟨rfl,List.all_eq_true.1 (by kernel_rfl)⟩,trivial⟩|(simp;done)
 refine RH.gv (.av (.val (wsV beginW))) rfl rfl rfl Tryz.call192 (λu _=>First_spec u) ?_
 intro m1 hm1
 have h8:beginW.length=8:=rfl
 have hsh:shaW b=endW (blocksW beginW b (b.length / 64)) (tailB b) b.length:=rfl
 rw [hsh]
 have hw8:=blocksW_len (ws:=beginW) b (b.length / 64) rfl
 have htl:=tailB_lt b
 generalize hB:beginW=B at *
 refine RH.a [] ?_
 refine RH.dd [] 4 (λy:Option Addr × Nat=>.av (.val (.tuple #[wsV (blocksW B b (b.length / 64)),.slice y.1 (tailB b).length y.2]))) rfl rfl rfl Tryz.call191 (All_spec B h8 A c b hn) (λu hu=>hb.ext hu.fact) ?_
 rintro ⟨A1,c1⟩ m2 hm2
 generalize tailB b=tl at *
 generalize blocksW B b (b.length / 64)=W1 at *
 refine RH.adv tk [] rfl rfl (by simp [hz8];exact ⟨by unfold wsC;simp [hw8],λu hu=>wsC_one _ u (by simpa using hu)⟩) ?_
 refine RH.gv (.av (.val (sumV (endW W1 tl b.length)))) rfl rfl rfl Tryz.call193 (λu hst=>ended_spec u W1 hw8 A1 c1 tl (hst.fact.2.now (hb.ext hst.fact.1)) htl b.length hn) ?_
 intro m3 hm3
 refine RH.a [] ?_
 exact RH.retBox tk (.av (.val (sumV (endW W1 tl b.length)))) Tryz.func110 rfl rfl rfl rfl λu hu=>⟨rfl,hu.fact.1⟩
end Go.Proofs.YtbfjmimiigjenaaGreatDoor
