/-
Lemmas. No condition.
-/
import Derived.Test.YtbfjmimiigjenaaGreatDoorKVDraw
set_option linter.unusedVariables false
set_option linter.unusedSectionVars false
set_option linter.unusedSimpArgs false
namespace Go.Proofs.YtbfjmimiigjenaaGreatDoor.V
open Go Go.RowKit
def HE.key:HE->HE
 | .box b fs T=>.box b (fs.map λa=>.val a.v) T
 | .row v e sz n xs=>.row v e sz n xs
 | .obj b o=>.obj b o
section
variable {tb:TT} {B0:Nat} {w:World}
theorem HE.key_blk (x:HE):x.key.blk=x.blk:=by cases x<;>rfl
theorem map_key (fs:List AV):(fs.map λa=>AV.val a.v).map AV.v=fs.map AV.v:=by
 rw [List.map_map];rfl
theorem Lay.key:∀ {fds:List Field} {fs:List AV} {off:Nat},Lay tb fds (fs.map λa=>.val a.v) off ↔ Lay tb fds fs off
 | [],[],_=>Iff.rfl
 | [],_ :: _,_=>Iff.rfl
 | _ :: _,[],_=>Iff.rfl
 | f :: r,a :: s,off=>by
  simp only [List.map_cons,Lay]
  rw [Lay.key (fds:=r) (fs:=s)]
  exact Iff.rfl
theorem Fit.key {T:TypeId} {fs:List AV}:Fit tb T (fs.map λa=>.val a.v) ↔ Fit tb T fs:=by
 unfold Fit
 split
 ·rw [Lay.key,map_key]
 ·constructor
  ·rintro ⟨a,ha,hv⟩
   cases fs with
   | nil=>cases ha
   | cons x r =>
    cases r with
    | nil =>
     simp only [List.map_cons,List.map_nil,List.cons.injEq,and_true] at ha
     subst ha
     exact ⟨x,rfl,hv⟩
    | cons y s=>simp at ha
  ·rintro ⟨a,rfl,hv⟩
   exact ⟨.val a.v,rfl,hv⟩
 ·exact Iff.rfl
theorem HE.key_holds (x:HE):x.key.holds tb B0 w ↔ x.holds tb B0 w:=by
 cases x with
 | box b fs T =>
  simp only [HE.key,HE.holds,boxCells,map_key,Fit.key]
 | row v e sz n xs=>exact Iff.rfl
 | obj b o=>exact Iff.rfl
theorem HE.holds_of_key {x y:HE} (h:x.key=y.key) (hx:x.holds tb B0 w):y.holds tb B0 w:=by rw [← HE.key_holds,← h,HE.key_holds];exact hx
theorem HE.blk_of_key {x y:HE} (h:x.key=y.key):x.blk=y.blk:=by rw [← HE.key_blk x,h,HE.key_blk]
structure Sel (G H:Heap) (τ:Nat->Nat):Prop where
 look:∀ i x,loH G i=some x->∃ y,loH H (τ i)=some y/\y.key=x.key
 inj:∀ i j x y,loH G i=some x->loH G j=some y->τ i=τ j->i=j
theorem St.sel {G H:Heap} {I:World->Prop} {τ:Nat->Nat} (h:St tb B0 H I w) (hs:Sel G H τ):St tb B0 G I w where
 base:=h.base
 holds i x hx:=by
  obtain ⟨y,hy,hk⟩:=hs.look i x hx
  exact HE.holds_of_key hk (h.holds _ y hy)
 apart i j x y hij hx hy b hb hc:=by
  obtain ⟨x',hx',hkx⟩:=hs.look i x hx
  obtain ⟨y',hy',hky⟩:=hs.look j y hy
  exact h.apart (τ i) (τ j) x' y' (λe=>hij (hs.inj i j x y hx hy e)) hx' hy' b (by rw [HE.blk_of_key hkx];exact hb) (by rw [HE.blk_of_key hky];exact hc)
 keeps u ha:=h.keeps u (ha.mono λk _=>by
  rintro ⟨i,x,hx,hb⟩
  obtain ⟨y,hy,hk⟩:=hs.look i x hx
  exact ⟨τ i,y,hy,by rw [HE.blk_of_key hk];exact hb⟩)
def ren (σ:List (Nat × Nat)) (i:Nat):Nat:=match σ with
 | []=>i
 | (a,b) :: r=>bif Nat.beq a i then b else ren r i
def SelEq (G H:Heap) (σ:List (Nat × Nat)):Prop:=G.map (λp=>(loH H (ren σ p.1)).map HE.key)=G.map (λp=>p.2.map HE.key)
theorem SelEq.look:∀ {G H:Heap} {σ:List (Nat × Nat)},SelEq G H σ->∀ i x,loH G i=some x->∃ y,loH H (ren σ i)=some y/\y.key=x.key
 | [],_,_,_,_,_,h=>by cases h
 | (j,y) :: r,H,σ,hs,i,x,h=>by
  unfold SelEq at hs
  simp only [List.map_cons,List.cons.injEq] at hs
  rw [lookH_cons] at h
  by_cases e:j=i
  ·subst e
   rw [if_pos rfl] at h
   subst h
   have h1:=hs.1
   simp only [Option.map_some,Option.map_eq_some_iff] at h1
   exact h1
  ·rw [if_neg e] at h
   exact SelEq.look (G:=r) hs.2 i x h
def nodupN:List Nat->Bool
 | []=>true
 | x :: r=>!(r.any (Nat.beq x)) && nodupN r
theorem nodupN_nodup:∀ {l:List Nat},nodupN l=true->l.Nodup
 | [],_=>List.nodup_nil
 | x :: r,h=>by
  simp only [nodupN,Bool.and_eq_true,Bool.not_eq_true',List.any_eq_false] at h
  refine List.nodup_cons.2 ⟨λhm=>h.1 x hm (by simp),nodupN_nodup h.2⟩
theorem lookH_mem:∀ {G:Heap} {i:Nat} {x:HE},loH G i=some x->i ∈ G.map (·.1)
 | [],_,_,h=>by cases h
 | (j,y) :: r,i,x,h=>by
  rw [lookH_cons] at h
  by_cases e:j=i
  ·subst e;simp
  ·rw [if_neg e] at h
   exact List.mem_cons_of_mem _ (lookH_mem h)
theorem inj_of_nodup {f:Nat->Nat}:∀ {l:List Nat},(l.map f).Nodup->∀ i ∈ l,∀ j ∈ l,f i=f j->i=j
 | [],_,_,h,_,_,_=>by cases h
 | x :: r,hn,i,hi,j,hj,e=>by
  rw [List.map_cons,List.nodup_cons] at hn
  rcases List.mem_cons.1 hi with rfl|hi
  ·rcases List.mem_cons.1 hj with rfl|hj
   ·rfl
   ·exact absurd (List.mem_map.2 ⟨j,hj,e.symm⟩) hn.1
  ·rcases List.mem_cons.1 hj with hj|hj
   ·rw [hj] at e;exact absurd (List.mem_map.2 ⟨i,hi,e⟩) hn.1
   ·exact inj_of_nodup hn.2 i hi j hj e
theorem Sel.of {G H:Heap} (σ:List (Nat × Nat)) (h:SelEq G H σ) (hn:nodupN (G.map λp=>ren σ p.1)=true):Sel G H (ren σ) where
 look:=h.look
 inj i j x y hx hy e:=by
  have:=nodupN_nodup hn
  rw [show (G.map λp=>ren σ p.1)=(G.map (·.1)).map (ren σ) by rw [List.map_map];rfl] at this
  exact inj_of_nodup this i (lookH_mem hx) j (lookH_mem hy) e
def rest (G H:Heap) (σ:List (Nat × Nat)):Heap:=(G.map λp=>(ren σ p.1,none)) ++ H
theorem rest_some {G H:Heap} {σ:List (Nat × Nat)} {k:Nat} {z:HE} (h:loH (rest G H σ) k=some z):loH H k=some z/\∀ p ∈ G,ren σ p.1 ≠ k:=by
 unfold rest at h
 induction G with
 | nil=>exact ⟨h,λp hp=>by cases hp⟩
 | cons p r ih =>
  rw [List.map_cons,List.cons_append,lookH_cons] at h
  by_cases e:ren σ p.1=k
  ·rw [if_pos e] at h;cases h
  ·rw [if_neg e] at h
   obtain ⟨h1,h2⟩:=ih h
   refine ⟨h1,λq hq=>?_⟩
   rcases List.mem_cons.1 hq with rfl|hq
   ·exact e
   ·exact h2 q hq
variable {I:World->Prop} {G H:Heap}
theorem St.lend (h:St tb B0 H I w) (σ:List (Nat × Nat)) (hs:Sel G H (ren σ)):St tb B0 G (λu=>w.heap.size ≤ u.heap.size/\St tb B0 (rest G H σ) I u) w where
 base:=h.base
 holds:=(h.sel hs).holds
 apart:=(h.sel hs).apart
 keeps u ha:=by
  have hr:∀ {k:Nat} {z:HE},loH (rest G H σ) k=some z->∀ b,z.blk=some b->¬ own G b:=by
   rintro k z hz b hb ⟨i,x,hx,hxb⟩
   obtain ⟨h1,h2⟩:=rest_some hz
   obtain ⟨y,hy,hk⟩:=hs.look i x hx
   obtain ⟨p,hp,hpi⟩:=List.mem_map.1 (lookH_mem hx)
   exact h.apart (ren σ i) k y z (by rw [← hpi];exact h2 p hp) hy h1 b (by rw [HE.blk_of_key hk];exact hxb) hb
  refine ⟨ha.size,Nat.le_trans h.base ha.size,?_,?_,?_⟩
  ·intro k z hz
   have h1:=(rest_some hz).1
   exact HE.kept (h.holds k z h1) λb hb=>ha.block b (HE.lt (h.holds k z h1) hb).2 (hr hz b hb)
  ·intro i j x y hij hx hy
   exact h.apart i j x y hij (rest_some hx).1 (rest_some hy).1
  ·intro u' ha'
   refine h.keeps u' (Agr.trans (b:=u) (ha.mono λk _=>?_) (ha'.mono λk _=>?_))
   ·rintro ⟨i,x,hx,hb⟩
    obtain ⟨y,hy,hk⟩:=hs.look i x hx
    exact ⟨_,y,hy,by rw [HE.blk_of_key hk];exact hb⟩
   ·rintro ⟨i,x,hx,hb⟩
    exact ⟨i,x,(rest_some hx).1,hb⟩
def comb (G R:Heap):Heap:=G.map (λp=>(2*p.1,p.2)) ++ R.map (λp=>(2*p.1+1,p.2))
theorem lookH_append:∀ (A B:Heap) (k:Nat),(∀ p ∈ A,p.1 ≠ k)->loH (A ++ B) k=loH B k
 | [],_,_,_=>rfl
 | p :: r,B,k,h=>by
  rw [List.cons_append,lookH_cons,if_neg (h p (.head _)),lookH_append r B k λq hq=>h q (.tail _ hq)]
theorem lookH_even:∀ (G R:Heap) (i:Nat),loH (comb G R) (2*i)=loH G i
 | [],R,i=>by
  unfold comb
  rw [List.map_nil,List.nil_append]
  induction R with
  | nil=>rfl
  | cons p r ih=>rw [List.map_cons,lookH_cons,if_neg (by omega)];exact ih
 | p :: r,R,i=>by
  have ih:=lookH_even r R i
  unfold comb at ih ⊢
  rw [List.map_cons,List.cons_append,lookH_cons,lookH_cons,ih]
  by_cases e:p.1=i
  ·rw [if_pos e,if_pos (by omega)]
  ·rw [if_neg e,if_neg (by omega)]
theorem lookH_odd (G R:Heap) (i:Nat):loH (comb G R) (2*i+1)=loH R i:=by
 unfold comb
 rw [lookH_append]
 ·induction R with
  | nil=>rfl
  | cons p r ih =>
   rw [List.map_cons,lookH_cons,lookH_cons,ih]
   by_cases e:p.1=i
   ·rw [if_pos e,if_pos (by omega)]
   ·rw [if_neg e,if_neg (by omega)]
 ·intro p hp
  obtain ⟨q,_,rfl⟩:=List.mem_map.1 hp
  show 2*q.1 ≠ 2*i+1
  omega
theorem lookH_comb {G R:Heap} {k:Nat} {x:HE} (h:loH (comb G R) k=some x):(∃ i,k=2*i/\loH G i=some x) ∨ (∃ i,k=2*i+1/\loH R i=some x):=by
 rcases Nat.mod_two_eq_zero_or_one k with e|e
 ·have:k=2*(k / 2):=by omega
  rw [this,lookH_even] at h
  exact .inl ⟨_,this,h⟩
 ·have:k=2*(k / 2)+1:=by omega
  rw [this,lookH_odd] at h
  exact .inr ⟨_,this,h⟩
def other:Option Obj->Obj
 | some (.deferred none)=>.cells #[] 0 (0,0)
 | _=>.deferred none
theorem other_ne (o:Obj):other (some o) ≠ o:=by
 unfold other
 split
 ·rename_i h;injection h with h;subst h;intro e;cases e
 ·rename_i h;intro e;exact h (by rw [e])
def spoil (w:World) (b:Nat):World:={ w with heap:=w.heap.setIfInBounds b (other w.heap[b]?) }
theorem HE.not_spoilt {x:HE} {b:Nat} (hb:x.blk=some b) (hlt:b < w.heap.size) (hw:x.holds tb B0 w):¬ x.holds tb B0 (spoil w b):=by
 intro h
 have hs:(spoil w b).heap[b]? = some (other w.heap[b]?):=by simp [spoil,hlt]
 cases x with
 | box c fs T =>
  injection hb with hb;subst hb
  rw [h.2.1,hw.2.1] at hs;cases hs
 | row v e sz n xs =>
  rcases h.2 with ⟨rfl,_⟩|⟨g,cap,cur,rfl,_,hg,_⟩
  ·cases hb
  ·have:g=b:=by simpa [HE.blk,Value.ownBlock] using hb
   subst this
   rcases hw.2 with ⟨h0,_⟩|⟨g2,cap2,cur2,h0,_,hg2,_⟩
   ·cases h0
   ·injection h0 with h0
    injection h0 with h0
    injection h0 with h0
    subst h0
    rw [hg,hg2] at hs;cases hs
 | obj c o =>
  injection hb with hb;subst hb
  rw [h.2,hw.2] at hs
  injection hs with hs
  exact other_ne o hs.symm
theorem St.back {R:Heap} {J:Nat->World->Prop} [From J] {m:Nat} (hm:∀ k z,loH R k=some z->∀ b,z.blk=some b->b < m)
  (h:St tb B0 G (λu=>(m ≤ u.heap.size/\St tb B0 R I u)/\J m u) w):St tb B0 (comb G R) (λu=>I u/\J m u) w:=by
 have hr:=h.fact.1.2
 have hmix:∀ i k x z,loH G i=some x->loH R k=some z->∀ b,x.blk=some b->z.blk ≠ some b:=by
  intro i k x z hx hz b hb hzb
  have hlt:=(HE.lt (h.holds i x hx) hb).2
  have ha:Agr (own G) w (spoil w b):=by
   refine ⟨rfl,rfl,rfl,by simp [spoil],λj _ hj=>?_⟩
   have hne:b ≠ j:=λe=>hj (by rw [← e];exact ⟨i,x,hx,hb⟩)
   simp [spoil,Array.getElem?_setIfInBounds_ne hne]
  exact HE.not_spoilt hzb hlt (hr.holds k z hz) ((h.keeps _ ha).1.2.holds k z hz)
 refine ⟨h.base,?_,?_,?_⟩
 ·intro k x hx
  rcases lookH_comb hx with ⟨i,_,hi⟩|⟨i,_,hi⟩
  ·exact h.holds i x hi
  ·exact hr.holds i x hi
 ·intro k l x y hkl hx hy b hb
  rcases lookH_comb hx with ⟨i,ei,hi⟩|⟨i,ei,hi⟩<;>rcases lookH_comb hy with ⟨j,ej,hj⟩|⟨j,ej,hj⟩
  ·exact h.apart i j x y (by omega) hi hj b hb
  ·exact hmix i j x y hi hj b hb
  ·exact λhc=>hmix j i y x hj hi b hc hb
  ·exact hr.apart i j x y (by omega) hi hj b hb
 ·intro u ha
  classical
  let v:World:={ u with heap:=Array.ofFn (n:=u.heap.size) λk=>if own R k/\k < w.heap.size then (w.heap[k.1]?).getD u.heap[k] else u.heap[k] }
  have hvs:v.heap.size=u.heap.size:=by simp [v]
  have hv:∀ k,k < u.heap.size->v.heap[k]? = if own R k/\k < w.heap.size then w.heap[k]? else u.heap[k]?:=by
   intro k hk
   have h1:v.heap[k]? = some (if own R k/\k < w.heap.size then (w.heap[k]?).getD u.heap[k] else u.heap[k]):=by
    simp only [v,Array.getElem?_ofFn,hk,dite_true];rfl
   rw [h1]
   by_cases c:own R k/\k < w.heap.size
   ·rw [if_pos c,if_pos c,Array.getElem?_eq_getElem c.2];rfl
   ·rw [if_neg c,if_neg c,Array.getElem?_eq_getElem hk]
  have hR:∀ k,own R k->k < m:=by rintro k ⟨i,z,hz,hb⟩;exact hm i z hz k hb
  have h1:Agr (own G) w v:=by
   refine ⟨ha.os,ha.tape,ha.output,by rw [hvs];exact ha.size,λk hk hno=>?_⟩
   have hku:=Nat.lt_of_lt_of_le hk ha.size
   rw [hv k hku]
   by_cases c:own R k
   ·rw [if_pos ⟨c,hk⟩]
   ·rw [if_neg (λe=>c e.1)]
    refine ha.block k hk ?_
    rintro ⟨j,x,hx,hb⟩
    rcases lookH_comb hx with ⟨i,_,hi⟩|⟨i,_,hi⟩
    ·exact hno ⟨i,x,hi,hb⟩
    ·exact c ⟨i,x,hi,hb⟩
  obtain ⟨⟨h2,h3⟩,h4⟩:=h.keeps v h1
  have h5:∀ X:Nat->Prop,(∀ k,own R k->X k)->Agr X v u:=by
   intro X hX
   refine ⟨rfl,rfl,rfl,by rw [hvs];exact Nat.le_refl _,λk hk hno=>?_⟩
   rw [hvs] at hk
   rw [hv k hk,if_neg λc=>hno (hX k c.1)]
  exact ⟨h3.keeps u (h5 _ λ_ c=>c),From.keeps m v u h2 (h5 _ hR) h4⟩
theorem St.free (h:St tb B0 H I w) {i:Nat} {x:HE} (hx:loH H i=some x):St tb B0 ((i,none) :: H) (λu=>I u/\x.holds tb B0 u) w:=by
 refine (h.give i).mono λu ha hi=>⟨hi,HE.kept (h.holds i x hx) λb hb=>ha.block b (HE.lt (h.holds i x hx) hb).2 ?_⟩
 rintro ⟨j,y,hy,hyb⟩
 rw [lookH_cons] at hy
 by_cases e:i=j
 ·rw [if_pos e] at hy;cases hy
 ·rw [if_neg e] at hy
  exact h.apart i j x y e hx hy b hb hyb
end
instance From.row {e:TypeId} {sz n:Nat} {v:Value} {xs:List Value}:From (λb w=>w.ownsRow b e sz v n xs):=⟨by
 intro b w w' hb ha h
 refine ⟨h.1,?_⟩
 rcases h.2 with h2|⟨g,cap,cur,hv,hg,hh,r⟩
 ·exact .inl h2
 ·have hlt:g < w.heap.size:=(Array.getElem?_eq_some_iff.1 hh).1
  exact .inr ⟨g,cap,cur,hv,hg,by rw [ha.block g hlt (by omega)];exact hh,r⟩⟩
end Go.Proofs.YtbfjmimiigjenaaGreatDoor.V
