/- A part of the proof of the law that the last of these texts states, for every input; no conditions. -/
import Derived.Test.YtmgfoalfimpkjaaGreatMrA
set_option linter.unusedVariables false
set_option linter.unusedSimpArgs false
open Bool renaming and_eq_true->a0z,or_eq_true->atz,not_eq_true'->aNz
open List renaming mem_append->a1z,getElem?_eq_some_iff->a2z,eq_nil_of_length_eq_zero->a3z,mem_map->a4z,length_append->a7z,append_assoc->a8z,take_append_drop->a9z,mem_singleton->abz,mem_append_right->acz,length_take->adz,all_eq_true->agz,mem_append_left->ahz,any_eq_true->ajz,length_drop->alz,getD_eq_getElem?_getD->amz,map_congr_left->anz,nodup_append->aoz,take_left'->arz,mem_of_getElem?->asz,flatten_append->auz,getElem?_append_right->avz,replicate->aBz,mem_of_mem_drop->aGz,mem_of_mem_take->aHz,mem_range->aIz,append_nil->aLz,pairwise_append->aOz,map_toArray->aPz,mem_of_find?_eq_some->aQz,mem_or_eq_of_mem_set->aSz,getElem?_append_left->aTz,nodup_cons->aUz,mem_filter->aVz,getElem?_take->aWz,getElem?_cons_zero->aZz,filter_eq_nil_iff->b2z,mem_cons->b3z,find?_some->b6z,length_nil->b8z,toList_toArray->b9z,filter_eq_self->baz,map_cons->bbz,take_one->bcz,getElem?_eq_getElem->bez,eq_of_mem_replicate->bfz,drop_left'->biz,contains_iff_mem->bjz,getElem?_toArray->bkz,getElem?_eq_none->blz,drop_drop->bnz,take_set_of_le->bpz,drop_set_of_lt->bqz,find?_eq_none->btz,flatten_cons->bwz,flatten_nil->byz,head?_drop->bAz,all_cons->bKz
open Go.Builtin renaming firstCells->a5z,lenOf->azz,append_->aFz,zeroCells->b1z,clear_->boz,copy_->bJz,len_->bLz,cap_->bMz
open Go.Op renaming operands->a6z,eqFields->bmz,equalIn->bDz
open Option renaming getD_some->aaz,isSome_iff_exists->aez,bind_some->bxz
open Array renaming getD_eq_getD_getElem?->afz,length_toList->apz,getElem?_toList->awz,getElem?_eq_getElem->aRz,getElem?_setIfInBounds_ne->b4z,toArray_toList->b5z,toList_append->bsz,replicate->bBz
open Nat renaming mul_le_mul_right->aiz,lt_of_lt_of_le->aCz,le_refl->aDz,add_mul->aJz,zero_le->aMz,le_trans->aXz,add_zero->aYz,min_eq_left->b7z,le_of_lt->bhz,not_lt->brz,sub_self->buz,mul_ne_zero->bCz,testBit_or->bFz
open Go.Result renaming andThen_ok->akz
open Go.Instr renaming sliceBounds->aqz,sliceAt->ayz,sliceBound->aAz,slice->aKz,sureAddr->b0z,loadAt->bvz,makeFunc->bEz,storeAt->bGz,indexAt->bIz
open Go.Sem renaming run_bind->axz,run_pure->aEz,run->bHz
open Classical renaming byContradiction->bdz
open Go.IntKind renaming wrap_i64->bgz
open ByteArray renaming empty->bzz
namespace Go.Proofs.YtmgfoalfimpkjaaGreat
namespace AM
open Go
def a1aq (l:List (Nat×Nat)):List (Nat×Nat)->Option (List (Nat×Nat))
 | []=>some []
 | p::r=>match a1q l p.1,a1aq l r with
  | some k,some cs=>some ((k,p.2)::cs)
  | _,_=>none
def l4q (l:List (Nat×Nat)):At->At
 | .ol o=>match a1q l o with | some k=>.ol k | none=>.junk
 | .op o off=>match a1q l o with | some k=>.op k off | none=>.junk
 | .clo f caps=>match a1aq l caps with | some cs=>.clo f cs | none=>.junk
 | .ps o es lo n=>match a1q l o with | some k=>.ps k es lo n | none=>.junk
 | x=>x
def n9q (l:List (Nat×Nat)):List (Nat×Ob)->List (Nat×Ob)
 | []=>[]
 | (i,X)::r=>((a1q l i).getD i,X.map (l4q l))::n9q l r
theorem l2q (l:List (Nat×Nat)) (I:List (Nat×Ob)):n9q l I=I.map fun p=>((a1q l p.1).getD p.1,p.2.map (l4q l)):=by
 induction I with
 | nil=>rfl
 | cons p r ih=>obtain ⟨i,X⟩:=p; simp [n9q,ih]
section
variable {w:World} {S:Nat->Prop} {β β':Nat->OLoc} {l:List (Nat×Nat)}
theorem a3Gq (h:∀o k,a1q l o=some k->β' k=β o):∀(caps cs:List (Nat×Nat)),a1aq l caps=some cs->cs.map (G2q β')=caps.map (G2q β)
 | [],cs,e=>by simp [a1aq] at e; subst e; rfl
 | p::r,cs,e=>by
  simp only [a1aq] at e
  split at e
  ·rename_i k cs' hk hc
   simp at e; subst e
   simp only [bbz,a3Gq h r cs' hc,G2q,h _ _ hk]
  ·simp at e
theorem RepA.ren (h:∀o k,a1q l o=some k->β' k=β o) (x:At) (v:Value) (hx:RepA w S β x v):RepA w S β' (l4q l x) v:=by
 cases hx with
 | d h=>exact .d h
 | e0=>exact .e0
 | @ol o =>
  simp only [l4q]
  split
  ·rename_i k hk; rw [<-h _ _ hk]; exact .ol
  ·exact .junk
 | @op o off =>
  simp only [l4q]
  split
  ·rename_i k hk; rw [<-h _ _ hk]; exact .op
  ·exact .junk
 | ep h1 h2 h3=>exact .ep h1 h2 h3
 | @clo f caps =>
  simp only [l4q]
  split
  ·rename_i cs hk; rw [<-a3Gq h _ _ hk]; exact .clo
  ·exact .junk
 | @ps o es lo n a c h1 h2 h3 =>
  simp only [l4q]
  split
  ·rename_i k hk
   rw [<-h _ _ hk] at h2 h3
   exact .ps h1 h2 h3
  ·exact .junk
 | raw=>exact .raw
 | junk=>exact .junk
theorem ObRep.ren (h:∀o k,a1q l o=some k->β' k=β o) {L:OLoc} {X:Ob} (hX:ObRep w S β L X):ObRep w S β' L (X.map (l4q l)):=by
 cases X with
 | var cs =>
  obtain ⟨h1,c,E,h2,h3⟩:=hX
  exact ⟨h1,c,E,h2,h3.map (RepA.ren h)⟩
 | lst E es xs=>exact hX
 | tr E es xs=>exact hX
 | tk xs=>exact hX
 | mt E es xs=>exact hX
 | mu E es xs m q a n c=>exact hX
 | fu E es xs c=>exact hX
end
def D1q (l1 l2:List (Nat×Nat)) (I' O:List (Nat×Ob)) (mv:List Nat):Bool :=
 (l1.all fun p=>a1q l2 p.2==some p.1)&&(l2.all fun p=>l2.all fun q=>p.2 != q.2||p.1==q.1)&&(mv.all fun m=>(a1q l2 m).isSome)&&(I'.all fun p=>(a1q l1 p.1).isSome)&&(O.all fun p=>(a1q l2 p.1).isSome)
theorem a2Iq {P:Program} {f:FuncId} {xs ys:List AV} {r r':AV} {I I' O O':List (Nat×Ob)} {mv mv':List Nat} (l1 l2:List (Nat×Nat)) (h:XCall P f xs r I O mv) (e1:AV.mapT (l4q l1) ys=xs) (e2:n9q l1 I'=I)
  (e3:r.map (l4q l2)=r') (e4:n9q l2 O=O') (e5:(mv.map fun m=>(a1q l2 m).getD m)=mv') (hok:D1q l1 l2 I' O mv=true):XCall P f ys r' I' O' mv':=by
 subst e1; subst e2; subst e3; subst e4; subst e5
 simp only [D1q,a0z,agz,beq_iff_eq,atz,bne_iff_ne,ne_eq] at hok
 obtain ⟨⟨⟨⟨k1,k2⟩,k3⟩,k4⟩,k5⟩:=hok
 have hinj:∀a b k,a1q l2 a=some k->a1q l2 b=some k->a=b:=by
  intro a b k ha hb
  rcases k2 (a,k) (g2q ha) (b,k) (g2q hb) with h | h
  ·exact absurd rfl h
  ·exact h
 intro w S β vs hlt hr hin
 let βc:Nat->OLoc:=fun o=>match a1q l2 o with | some k=>β k | none=>β o
 have hc:∀o k,a1q l1 o=some k->βc k=β o:=by
  intro o k ho
  have:=k1 (o,k) (g2q ho)
  simp only [βc,this]
 have hloc:∀p∈I',∃k,a1q l1 p.1=some k/\βc k=β p.1:=by
  intro p hp
  obtain ⟨k,hk⟩:=aez.1 (k4 p hp)
  exact ⟨k,hk,hc _ _ hk⟩
 have hpass:∀b,i9q (n9q l1 I') βc b↔i9q I' β b:=by
  intro b
  rw [l2q]
  constructor
  ·rintro ⟨q,hq,h1⟩
   obtain ⟨p,hp,rfl⟩:=a4z.1 hq
   obtain ⟨k,hk,hkb⟩:=hloc p hp
   simp only [hk,aaz,hkb] at h1
   exact ⟨p,hp,h1⟩
  ·rintro ⟨p,hp,h1⟩
   obtain ⟨k,hk,hkb⟩:=hloc p hp
   exact ⟨_,a4z.2 ⟨p,hp,rfl⟩,by simp only [hk,aaz,hkb]; exact h1⟩
 have hpc:∀b,C5q (n9q l1 I') βc b↔C5q I' β b:=by
  intro b
  rw [l2q]
  constructor
  ·rintro ⟨q,hq,h1⟩
   obtain ⟨p,hp,rfl⟩:=a4z.1 hq
   obtain ⟨k,hk,hkb⟩:=hloc p hp
   simp only [hk,aaz,hkb] at h1
   exact ⟨p,hp,h1⟩
  ·rintro ⟨p,hp,h1⟩
   obtain ⟨k,hk,hkb⟩:=hloc p hp
   exact ⟨_,a4z.2 ⟨p,hp,rfl⟩,by simp only [hk,aaz,hkb]; exact h1⟩
 have hin':R9q w S βc (n9q l1 I'):=by
  rw [l2q]
  refine ⟨fun q hq => ?_,fun q hq => ?_,fun q hq q' hq' => ?_,fun q hq => ?_,fun q hq q' hq' => ?_⟩
  ·obtain ⟨p,hp,rfl⟩:=a4z.1 hq
   obtain ⟨k,hk,hkb⟩:=hloc p hp
   simp only [hk,aaz,hkb]
   exact (hin.ob p hp).ren hc
  ·obtain ⟨p,hp,rfl⟩:=a4z.1 hq
   obtain ⟨k,hk,hkb⟩:=hloc p hp
   simp only [hk,aaz,hkb]
   exact hin.own p hp
  ·obtain ⟨p,hp,rfl⟩:=a4z.1 hq
   obtain ⟨p',hp',rfl⟩:=a4z.1 hq'
   obtain ⟨k,hk,hkb⟩:=hloc p hp
   obtain ⟨k',hk',hkb'⟩:=hloc p' hp'
   simp only [hk,hk',aaz,hkb,hkb']
   intro b h1 h2
   have:=hin.sep p hp p' hp' b h1 h2
   rw [this,hk'] at hk
   simpa using hk.symm
  ·obtain ⟨p,hp,rfl⟩:=a4z.1 hq
   obtain ⟨k,hk,hkb⟩:=hloc p hp
   simp only [hk,aaz,hkb]
   exact hin.clm p hp
  ·obtain ⟨p,hp,rfl⟩:=a4z.1 hq
   obtain ⟨p',hp',rfl⟩:=a4z.1 hq'
   obtain ⟨k,hk,hkb⟩:=hloc p hp
   obtain ⟨k',hk',hkb'⟩:=hloc p' hp'
   simp only [hk,hk',aaz,hkb,hkb']
   intro b h1 h2
   have:=hin.sepc p hp p' hp' b h1 h2
   rw [this,hk'] at hk
   simpa using hk.symm
 refine (h w S βc vs hlt (hr.map (RepA.ren hc) fun _ _ h=>h) hin').mono ?_
 rintro e w' ⟨v,S',βf,rfl,hG,hrep⟩
 let β2:Nat->OLoc:=fun k=>match mv.find? fun m=>a1q l2 m==some k with | some m=>βf m | none=>β k
 have hf:∀o k,a1q l2 o=some k->β2 k=βf o:=by
  intro o k ho
  simp only [β2]
  split
  ·rename_i m hm
   have h1:=b6z hm
   simp only [beq_iff_eq] at h1
   rw [hinj _ _ _ h1 ho]
  ·rename_i hm
   have hom:o∉mv:=by
    intro hmem
    have:=btz.1 hm o hmem
    simp [ho] at this
   rw [hG.loc o hom]
   simp only [βc,ho]
 have hlocO:∀p∈O,∃k,a1q l2 p.1=some k/\β2 k=βf p.1:=by
  intro p hp
  obtain ⟨k,hk⟩:=aez.1 (k5 p hp)
  exact ⟨k,hk,hf _ _ hk⟩
 refine ⟨v,S',β2,rfl,⟨hG.os,hG.tape,hG.output,hG.size,fun b hb hp=>hG.block b hb fun h=>hp ((hpass b).1 h),hG.sub,fun b hb=>⟨(hG.sup b hb).1,(hG.sup b hb).2.imp id fun h=>h.imp id (hpass b).1⟩,fun k hk => ?_,fun q hq => ?_,fun q hq => ?_,fun q hq q' hq' => ?_,fun q hq => ?_,fun q hq q' hq' => ?_⟩,hrep.map (RepA.ren hf) fun _ _ h=>h⟩
 ·simp only [β2]
  split
  ·rename_i m hm
   have h1:=b6z hm
   have h2:=aQz hm
   simp only [beq_iff_eq] at h1
   exact absurd (a4z.2 ⟨m,h2,by simp [h1]⟩) hk
  ·rfl
 ·rw [l2q] at hq
  obtain ⟨p,hp,rfl⟩:=a4z.1 hq
  obtain ⟨k,hk,hkb⟩:=hlocO p hp
  simp only [hk,aaz,hkb]
  exact (hG.ob p hp).ren hf
 ·rw [l2q] at hq
  obtain ⟨p,hp,rfl⟩:=a4z.1 hq
  obtain ⟨k,hk,hkb⟩:=hlocO p hp
  simp only [hk,aaz,hkb]
  intro b hh
  obtain ⟨h1,h2,h3⟩:=hG.own p hp b hh
  exact ⟨h1,h2,h3.imp id (hpass _).1⟩
 ·rw [l2q] at hq hq'
  obtain ⟨p,hp,rfl⟩:=a4z.1 hq
  obtain ⟨p',hp',rfl⟩:=a4z.1 hq'
  obtain ⟨k,hk,hkb⟩:=hlocO p hp
  obtain ⟨k',hk',hkb'⟩:=hlocO p' hp'
  simp only [hk,hk',aaz,hkb,hkb']
  intro b h1 h2
  have:=hG.sep p hp p' hp' b h1 h2
  rw [this,hk'] at hk
  simpa using hk.symm
 ·rw [l2q] at hq
  obtain ⟨p,hp,rfl⟩:=a4z.1 hq
  obtain ⟨k,hk,hkb⟩:=hlocO p hp
  simp only [hk,aaz,hkb]
  intro b hh
  obtain ⟨h1,h3⟩:=hG.clm p hp b hh
  exact ⟨h1,h3.imp id (Or.imp (hpass _).1 (hpc _).1)⟩
 ·rw [l2q] at hq hq'
  obtain ⟨p,hp,rfl⟩:=a4z.1 hq
  obtain ⟨p',hp',rfl⟩:=a4z.1 hq'
  obtain ⟨k,hk,hkb⟩:=hlocO p hp
  obtain ⟨k',hk',hkb'⟩:=hlocO p' hp'
  simp only [hk,hk',aaz,hkb,hkb']
  intro b h1 h2
  have:=hG.sepc p hp p' hp' b h1 h2
  rw [this,hk'] at hk
  simpa using hk.symm
def a0Tq (av:Operand->Option AV):List Operand->Option (List (Nat×Nat))
 | []=>some []
 | x::r=>match av x,a0Tq av r with
  | some (.one (.op k off)),some cs=>some ((k,off)::cs)
  | _,_=>none
theorem a4Wq {w:World} {S:Nat->Prop} {β:Nat->OLoc} {ρ:Operand->Value} {av:Operand->Option AV}:∀(xs:List Operand) (cs:List (Nat×Nat)),(∀x X,av x=some X->x∈xs->RepV w S β X (ρ x))->a0Tq av xs=some cs->xs.map ρ=cs.map (G2q β)
 | [],cs,_,e=>by simp [a0Tq] at e; subst e; rfl
 | x::r,cs,h,e=>by
  simp only [a0Tq] at e
  split at e
  ·rename_i k off cs' h1 h2
   simp at e; subst e
   have h3:=(h x _ h1 (by simp)).one_inv
   simp only [bbz,a4Wq r cs' (fun x X hx hm=>h x X hx (by simp [hm])) h2]
   generalize hv:ρ x=v at h3
   cases h3
   rfl
  ·simp at e
section
variable {P:Program} {o:Oper} {s s0:St}
theorem aadq {f:FuncId} {cap:List Operand} {cs:List (Nat×Nat)} (ho:o.op = .makeFunc (.func f) #[] cap.toArray) (hc:a0Tq s.ev cap=some cs):OpS P o s s0 (.one (.clo f cs)) []:=by
 refine d2q (c0q fun a w S β _ hr _ => ?_)
 have h1:=a4Wq (w:=w) (S:=S) (β:=β) (ρ:=a.eval) cap cs (fun x X hx hm=>hr x X hx (by simp [ho,a6z,hm])) hc
 refine ⟨.func (.func f) #[] (cs.map (G2q β)).toArray,?_,RepV.one .clo⟩
 simp only [execOp,ho,bEz,aPz,h1]
 simp
theorem a97q {f:FuncId} (ho:o.op = .makeFunc (.func f) #[] #[]):OpS P o s s0 (.one (.d (.fn f))) []:=by
 refine d2q (c0q fun a w S β _ hr _=>⟨.func (.func f) #[] #[],?_,RepV.one (.d (.fn_ f))⟩)
 simp [execOp,ho,bEz]
end
def RoOk (I:List (Nat×Ob)):Prop:=(∀p∈I,a1q I p.1=some p.2)/\∀o∈(I.map fun p=>p.1::p.2.ids).flatten,2000<=o/\∃p∈I,p.1=o
theorem RoOk.nil:RoOk []:=⟨by simp,by simp⟩
theorem RoOk.one {k:Nat} {cs:List At} (h:2000<=k) (hc:AV.idsL cs=[]):RoOk [(k,.var cs)]:=by
 refine ⟨by simp [a1q],fun o ho => ?_⟩
 simp [Ob.ids,hc] at ho
 subst ho
 exact ⟨h,(_,_),abz.2 rfl,rfl⟩
theorem RoOk.lst {k E es:Nat} {xs:List (List Da)} (h:2000<=k):RoOk [(k,.lst E es xs)]:=by
 refine ⟨by simp [a1q],fun o ho => ?_⟩
 simp [Ob.ids] at ho
 subst ho
 exact ⟨h,(_,_),abz.2 rfl,rfl⟩
section
variable {Γ:Cx} {P:Program} {ops:Array Oper} {rest:List Oper} {o:Oper} {K:St->Prop} {s:St} {I:List (Nat×Ob)} {r:AV}
end
section
variable {Γ:Cx} {P:Program} {ops:Array Oper} {rest:List Oper} {o:Oper} {K:St->Prop} {s:St}
theorem Sim.junk {a:Act} {w:World} {S:Nat->Prop} {β:Nat->OLoc} {dst:Option Nat} (hs:Sim Γ (s.drop dst) a w S β) (hd:dst.all (· < Γ.n)=true):Sim Γ (s.upd dst (.one .junk) []) a w S β:=by
 refine ⟨hs.defers,hs.sz,fun i x hi => ?_,?_⟩
 ·rw [z3q] at hi
  by_cases hdi:dst=some i
  ·rw [if_pos hdi] at hi
   simp at hi; subst hi; subst hdi
   simp at hd
   have hlt:i<a.tmps.size:=by rw [hs.sz]; exact hd
   exact ⟨a.tmps[i],aRz hlt,RepV.one .junk⟩
  ·rw [if_neg hdi] at hi
   refine hs.tm i x ?_
   rw [a8oq,if_neg hdi]; exact hi
 ·have e:(s.upd dst (.one .junk) []).gob=(s.drop dst).gob:=funext fun q=>by rw [I9q,a9Bq]; simp [a1q]
  rw [e]; exact hs.mem
theorem Sim.undef {a:Act} {w:World} {S:Nat->Prop} {β:Nat->OLoc} {dst:Option Nat} (hs:Sim Γ s a w S β) (hd:dst.all (· < Γ.n)=true):Sim Γ (s.upd dst (.tup []) []) (a.put dst undef) w S β :=
 hs.upd (Grow.refl hs.mem.lt) (RepVs.tup .nil .nil) hd rfl
theorem ae8q {j d:Nat} {want:Bool} (hg:o.guard=some (j,want)) (hj:(ops[j]?).bind (·.dst)=some d) (hb:s.get d=some (B (!want))) (hd:o.dst.all (· < Γ.n)=true) (hr:d8q Γ P ops rest K (s.upd o.dst (.tup []) [])):d8q Γ P ops (o::rest) K s:=by
 intro a w S β R hs hR
 have hyl:=a1vq (Γ:=Γ) hj (.inr hs) hb
 refine wpList_step fun K' hK => ?_
 have hw:Region.wanted o (yielded ops a.tmps)=false:=by simp only [Region.wanted,hg,hyl]; cases want <;> rfl
 rw [hw,if_neg (by simp)]
 exact hK _ _ (hr _ _ _ _ R (hs.undef hd) hR)
theorem adxq {j d:Nat} {want:Bool} (hg:o.guard=some (j,want)) (hj:(ops[j]?).bind (·.dst)=some d) (hb:s.get d=some (.tup [])) (hd:o.dst.all (· < Γ.n)=true) (hr:d8q Γ P ops rest K (s.upd o.dst (.tup []) [])):d8q Γ P ops (o::rest) K s:=by
 intro a w S β R hs hR
 obtain ⟨v,hv,hrep⟩:=hs.tm d _ hb
 obtain ⟨us,rfl,hus⟩:=RepV.tup_inv hrep
 have hyl:yielded ops a.tmps j=none:=by simp [yielded,hj,hv]
 refine wpList_step fun K' hK => ?_
 have hw:Region.wanted o (yielded ops a.tmps)=false:=by simp only [Region.wanted,hg,hyl]; rfl
 rw [hw,if_neg (by simp)]
 exact hK _ _ (hr _ _ _ _ R (hs.undef hd) hR)
end
theorem XCall.fresh {P:Program} {f:FuncId} {xs:List AV} {r:AV} {O:List (Nat×Ob)} {mv:List Nat} (h:XCall P f xs r [] O mv) (hm:(mv.all fun m=>O.any (·.1==m))=true):ACall P f xs r O:=by
 intro w S β vs hlt hr
 refine (h w S β vs hlt hr ⟨by simp,by simp,by simp,by simp,by simp⟩).mono ?_
 rintro e w' ⟨v,S',β',rfl,hG,hrep⟩
 have hno:∀b,¬i9q [] β b:=fun b ⟨p,hp,_⟩=>by simp at hp
 refine ⟨v,S',β',rfl,⟨hG.os,hG.tape,hG.output,hG.size,fun b hb=>hG.block b hb (hno b),hG.sub,fun b hb=>⟨(hG.sup b hb).1,(hG.sup b hb).2.imp id fun h=>h.resolve_right (hno b)⟩,fun o ho=>hG.loc o fun hmem => ?_,hG.ob,fun p hp b hh => ?_,hG.sep,fun p hp b hh=>⟨(hG.clm p hp b hh).1,(hG.clm p hp b hh).2.resolve_right fun h=>h.elim (hno b) fun ⟨p,hp,_⟩=>by simp at hp⟩,hG.sepc⟩,hrep⟩
 ·have:=agz.1 hm o hmem
  obtain ⟨p,hp,he⟩:=ajz.1 this
  exact ho p hp (by simpa using he)
 ·obtain ⟨h1,h2,h3⟩:=hG.own p hp b hh
  exact ⟨h3.resolve_right (hno _),h1,h2⟩
def St.nilOb (s:St) (t d E es:Nat):St:={ tm:=(t,.one (.ol d))::s.tm,ob:=(d,.tr E es [])::s.ob }
section
variable {Γ:Cx} {P:Program} {ops:Array Oper} {rest:List Oper} {K:St->Prop} {s:St} {fn:Func} {r:AV} {I O:List (Nat×Ob)} {mv:List Nat}
theorem Sim.nilOb {t d E es:Nat} {a:Act} {w:World} {S:Nat->Prop} {β:Nat->OLoc} (hs:Sim Γ s a w S β) (ht:s.get t=some (.one .e0)) (hf:s.fresh [(d,.lst E es [])]=true):∃β',Sim Γ (s.nilOb t d E es) a w S β':=by
 let l0:OLoc:=⟨0,none,0,0,false,[],[]⟩
 have hl0:∀b,¬l0.Own b:=fun b hb=>by rcases hb with ⟨h,_⟩ | h <;> simp [l0] at h
 let β':Nat->OLoc:=fun o=>if o=d then l0 else β o
 have hlow:=I1q hf _ (abz.2 rfl)
 have hβ:∀o,o≠d->β' o=β o:=fun o ho=>if_neg ho
 have hd:β' d=l0:=if_pos rfl
 have hT:∀q X,(s.nilOb t d E es).gob q=some X->(q=d/\X = .tr E es [])\/(q≠d/\s.gob q=some X):=by
  intro q X hq
  simp only [St.nilOb,St.gob,a1q] at hq
  by_cases e:d=q
  ·subst e; simp at hq; exact .inl ⟨rfl,hq.symm⟩
  ·simp [e] at hq; exact .inr ⟨fun h=>e h.symm,hq⟩
 refine ⟨β',hs.defers,hs.sz,fun i x hi => ?_,⟨hs.mem.lt,fun q X hq => ?_,fun q X hq b hh => ?_,fun q q' X X' hq hq' b hh hh' => ?_,hs.mem.os,hs.mem.tape,hs.mem.output,hs.mem.size,hs.mem.block,hs.mem.sub,hs.mem.sup,fun q l hl => ?_,fun q X hq b hh => ?_,fun q q' X X' hq hq' b hh hh' => ?_⟩⟩
 ·have key:∀y,s.get i=some y->∃v,a.tmps[i]?=some v/\RepV w S β' y v:=by
   intro y hy
   obtain ⟨v,hv,hr⟩:=hs.tm i y hy
   exact ⟨v,hv,hr.mono (fun _ _=>rfl) (fun _ h=>h) fun o ho=>hβ o fun e=>O2q hf hy o ho _ (abz.2 rfl) e.symm⟩
  simp only [St.nilOb,St.get,a1q] at hi
  by_cases e:t=i
  ·subst e
   simp at hi
   subst hi
   obtain ⟨v,hv,hr⟩:=hs.tm t _ ht
   cases hr.one_inv
   refine ⟨_,hv,RepV.one ?_⟩
   have:(.slice none 0 0:Value)=(β' d).sv:=by rw [hd]; rfl
   rw [this]; exact .ol
  ·simp [e] at hi; exact key x hi
 ·rcases hT q X hq with ⟨rfl,rfl⟩ | ⟨hne,hq⟩
  ·rw [hd]
   exact .inl ⟨rfl,by simp,by simp,[],[],⟨by simp,.inl ⟨rfl,rfl⟩⟩,.nil,by simp,by simp⟩
  ·rw [hβ q hne]
   exact (hs.mem.ob q X hq).mono (fun _ _=>rfl) (fun _ _=>rfl) (fun _ h=>h) fun o ho=>hβ o fun e=>(v7q hf hq).2 o ho _ (abz.2 rfl) e.symm
 ·rcases hT q X hq with ⟨rfl,rfl⟩ | ⟨hne,hq⟩
  ·rw [hd] at hh; exact (hl0 b hh).elim
  ·rw [hβ q hne] at hh; exact hs.mem.own q X hq b hh
 ·rcases hT q X hq with ⟨rfl,rfl⟩ | ⟨hne,hq⟩
  ·rw [hd] at hh; exact (hl0 b hh).elim
  ·rcases hT q' X' hq' with ⟨rfl,rfl⟩ | ⟨hne',hq'⟩
   ·rw [hd] at hh'; exact (hl0 b hh').elim
   ·rw [hβ q hne] at hh; rw [hβ q' hne'] at hh'
    exact hs.mem.sep q q' X X' hq hq' b hh hh'
 ·obtain ⟨h1,h2⟩:=hs.mem.fix q l hl
  exact ⟨h1,(hβ q (by omega)).trans h2⟩
 ·rcases hT q X hq with ⟨rfl,rfl⟩ | ⟨hne,hq⟩
  ·rw [hd] at hh; cases hh
  ·rw [hβ q hne] at hh; exact hs.mem.clm q X hq b hh
 ·rcases hT q X hq with ⟨rfl,rfl⟩ | ⟨hne,hq⟩
  ·rw [hd] at hh; cases hh
  ·rcases hT q' X' hq' with ⟨rfl,rfl⟩ | ⟨hne',hq'⟩
   ·rw [hd] at hh'; cases hh'
   ·rw [hβ q hne] at hh; rw [hβ q' hne'] at hh'
    exact hs.mem.sepc q q' X X' hq hq' b hh hh'
end
theorem a1Uq (ns:List Int):(strOfNums ns).size=ns.length:=by
 simp [strOfNums,ByteArray.size]
theorem acRq (ns:List Int):(ns.map fun n=>[Da.int .u8 n]).flatten=ns.map (Da.int .u8):=by induction ns <;> simp_all
theorem a6Tq {w:World} {S:Nat->Prop}:∀{ns:List Int} {vs:List Value},RepDs w S (ns.map (Da.int .u8)) vs->vs=ns.map (Value.int .u8)
 | [],vs,h=>h.nil_inv
 | n::ns,vs,h=>by
  obtain ⟨v,vs',rfl,h1,h2⟩:=RepDs.cons_inv h
  rw [h1.int_inv,a6Tq h2]; rfl
section
variable {P:Program} {o:Oper} {av:Operand->Option AV} {x:Operand} {src dst:TypeId}
theorem aaUq {k E:Nat} {ns:List Int} {e:TypeId} (ho:o.op = .convert src dst x) (hs:P.underlying src=some (.slice e)) (he:P.underlying e=some (.int .u8)) (hd:P.underlying dst=some .string) (hx:av x=some (.one (.ol k))) :
  OpP P o av [(k,.lst E 1 (ns.map fun n=>[.int .u8 n]))] (T (strOfNums ns)) []:=by
 refine c0q fun a w S β _ hr hu => ?_
 have h:=(hr x _ hx (by simp [ho,a6z])).one_inv
 rcases hu (k,.lst E 1 (ns.map fun n=>[.int .u8 n])) (by simp) with ⟨hob,hsm,_,vs,hown,hrep⟩ | ⟨_,h0,ad,hz0⟩
 rotate_left
 ·have hn:ns=[]:=by simpa using h0
  subst hn
  generalize hv:a.eval x=v at h
  cases h
  refine ⟨.string bzz,?_,RepV.str _ (by decide)⟩
  dsimp only at hz0
  have:=run_convert_bytes_string (P:=P) w src dst e ad 0 0 hs he hd
  have e2:(Conv.bytesToString (.slice ad 0 0)).run P w = .ok (.string bzz) w:=by
   cases ad with
   | none=>simp [Conv.bytesToString]
   | some b=>simp [Conv.bytesToString,loadCells,loadCellsFrom]
  rw [e2] at this
  simp [execOp,ho,hv,hz0,this]
 simp only [acRq] at hrep
 have hvs:=a6Tq hrep
 subst hvs
 generalize hv:a.eval x=v at h
 cases h
 refine ⟨.string (strOfNums ns),?_,RepV.str _ (by rw [a1Uq]; simpa using hsm)⟩
 have hlen:(ns.map fun n=>[Da.int .u8 n]).length=ns.length:=by simp
 rcases hown.2 with ⟨hsv,h0⟩ | ⟨g,cap,cur,hsv,_⟩
 ·have hn:ns=[]:=by rw [hlen] at h0; exact List.length_eq_zero_iff.1 h0
  subst hn
  have:=run_convert_bytes_nil (P:=P) w src e hs he 0 0 dst hd
  dsimp only at hsv
  simp [execOp,ho,hv,hsv,this]
  rfl
 ·dsimp only at hsv
  have hown':w.ownsRow 0 E 1 (.slice (some ⟨g,0,none⟩) (ns.map fun n=>[Da.int .u8 n]).length cap) (ns.map fun n=>[Da.int .u8 n]).length (ns.map (Value.int .u8)):=by rw [<-hsv]; exact hown
  have hc:=World.ownsRow.cells hown' (g:=g) rfl
  have:=run_convert_bytes_arg (P:=P) w src e hs he g 0 ns.length cap ns rfl (fun i hi=>by
   have:=hc i (.int .u8 ns[i]) (by simp [hi])
   rw [o7q] at this
   rw [this]; simp [List.getD,hi]) dst hd
  rw [hlen] at hsv
  simp [execOp,ho,hv,hsv,this]
end
section
variable {P:Program} {tab:List (Nat×TI)} {o:Oper} {s s0:St} {x:Operand} {i i2 i3:TI} {src dst:TypeId}
theorem abYq (hT:TabOk P tab) {tr:Bool} {k E e:Nat} {ns:List Int} (ho:o.op = .convert src dst x) (hx:s.ev x=some (.one (.ol k))) (hk:s0.gob k=some (mkL tr E 1 (ns.map fun n=>[.int .u8 n]))) (hs:a1q tab src=some i) (hp:i.pr=4) (he:i.el=some e) (h2:a1q tab e=some i2) (hik:i2.ik=some .u8) (hd:a1q tab dst=some i3) (hp3:i3.pr=2):OpS P o s s0 (T (strOfNums ns)) []:=by
 obtain ⟨d1,j1,hd1,hj1,a1,a2,a3,a4,a5,a6,a7⟩:=b2q (hT src i hs)
 obtain ⟨d2,j2,hd2,hj2,b1,b2,b3,b4,b5,b6,b7⟩:=b2q (hT e i2 h2)
 obtain ⟨d3,j3,hd3,hj3,c1,c2,c3,c4,c5,c6,c7⟩:=b2q (hT dst i3 hd)
 have:=h5q (a4.trans he) (a6.trans hp); subst this
 have:=a8Tq (b7.trans hik); subst this
 have:=E1q (c6.trans hp3); subst this
 exact ⟨_,(aaUq ho hd1 hd2 hd3 hx).tr,hk,trivial⟩
end
theorem a7gq {P:Program} {o:Oper} {av:Operand->Option AV} {x z:Operand} {ts:Array TypeId} {f:FuncId} {fn:Func} {q:ByteArray} {c:Int} (ho:o.op = .call { callee:=.value (.func f),args := #[x,z],argTypes:=ts }) (hf:P.funcs[f]?=some fn)
  (hname:(fn.name == "runtime.NumGoroutine")=false) (hb:fn.body.isNone=true) (hn:Extern.findNext fn=none) (he:Extern.find fn=some Extern.BytealgIndexByte.indexByte) (hx:av x=some (T q)) (hz:av z=some (I .u8 c)):OpP P o av [] (Z (firstIdx q c.toNat.toUInt8)) []:=by
 refine c0q fun a w S β _ hr _=>⟨.int .i64 (firstIdx q c.toNat.toUInt8),?_,RepV.int _ _⟩
 have h1:=(hr x _ hx (by simp [ho,a6z,Call.operands])).str_inv.1
 have h2:=(hr z _ hz (by simp [ho,a6z,Call.operands])).int_inv
 have hfe:a.eval (.func f) = .func (.func f) #[] #[]:=rfl
 simp only [execOp,ho,resolve,hfe,Deferred.ofValue,axz,aEz,akz,invoke]
 rw [show (#[]:Array Value)++Array.map a.eval #[x,z] ++ #[] = #[.string q,.int .u8 c] by simp [h1,h2]]
 rw [run_callFunc_extern hf hname hb hn he,run_indexByte_string]
 rfl
section
variable {w w':World} {S S':Nat->Prop} {β β':Nat->OLoc}
theorem a72q {l:OLoc} {E es:Nat} {xs:List (List Da)} (h:ObRep w S β l (.tr E es xs)):∃fp,RepT w [.sl xs] [l.sv] fp/\(∀b∈fp,(S b/\b∈l.clm)\/(l.has=true/\b=l.blk))/\((l.has=true->∀b∈l.clm,b≠l.blk)->fp.Nodup):=by
 rcases h with ⟨h1,h2,h3,vs,fp,h4,h5,h6,h7⟩ | ⟨_,rfl,ad,hz0⟩
 rotate_left
 ·rw [hz0]; exact ⟨[],.sl0 .nil,by simp,by simp⟩
 rcases h4.2 with ⟨hsv,h0⟩ | ⟨g,cap,cur,hsv,_,hg,hcap,hcm,hcsz,htk⟩
 ·have:=a3z h0
  subst this
  rw [hsv]
  exact ⟨[],.sl0 .nil,by simp,by simp⟩
 ·by_cases hn:xs.length=0
  ·have:=a3z hn
   subst this
   rw [hsv]
   exact ⟨[],.sl0 .nil,by simp,by simp⟩
  ·rw [hsv] at h1 ⊢
   have hbh:l.has=true/\g=l.blk:=by
    simp only [Value.ownBlock] at h1
    split at h1
    ·rename_i e; exact ⟨e,by simpa using h1⟩
    ·simp at h1
   refine ⟨g::(fp++[]),.sl1 h5 rfl (by omega) hcap h2 h3 hg htk.symm .nil,fun b hb => ?_,fun hne => ?_⟩
   ·simp only [aLz,b3z] at hb
    rcases hb with rfl | hb
    ·exact .inr hbh
    ·exact .inl (h6 b hb)
   ·simp only [aLz,aUz]
    exact ⟨fun hm=>hne hbh.1 g (h6 g hm).2 hbh.2,h7⟩
end
def OLoc.blkL (l:OLoc):List Nat:=if l.has then [l.blk] else []
def OLoc.seal (l:OLoc):OLoc:={ l with has:=false,sub:=[],clm:=l.blkL++l.clm }
def a0aq (k:Nat):At->At
 | .op o off=>if o==k then .junk else .op o off
 | .clo f caps=>if (caps.map (·.1)).contains k then .junk else .clo f caps
 | .ps o es lo n=>if o==k then .junk else .ps o es lo n
 | x=>x
def St.seal (s:St) (k:Nat) (xs:List (List Da)):St :=
 let s1:=s.map (a0aq k)
 { s1 with ob:=(k,.tk xs)::s1.ob }
section
variable {Γ:Cx} {P:Program} {ops:Array Oper} {rest:List Oper} {o:Oper} {K:St->Prop} {s:St} {Q:Exit->St->Prop} {t:TypeId} {x z:Operand}
theorem Sim.seal {k E es:Nat} {xs:List (List Da)} (hk:s.gob k=some (.tr E es xs)) (hlow:k<2000) {a:Act} {w:World} {S:Nat->Prop} {β:Nat->OLoc} (hs:Sim Γ s a w S β):∃S' β',Sim Γ (s.seal k xs) a w S' β':=by
 obtain ⟨fp,t1,t2,t3⟩:=a72q (hs.mem.ob k _ hk)
 have hsm:=(a1fq (tr:=true) (hs.mem.ob k _ hk)).1
 let S':Nat->Prop:=fun b=>S b\/((β k).has=true/\b=(β k).blk)
 have hsub:∀b,S b->S' b:=fun b hb=>.inl hb
 let β':Nat->OLoc:=fun o=>if o=k then (β k).seal else β o
 have hβ:∀o,o≠k->β' o=β o:=fun o h=>if_neg h
 have hβk:β' k=(β k).seal:=if_pos rfl
 have hsv:(β' k).sv=(β k).sv:=by rw [hβk]; rfl
 have hkown:∀b,(β k).has=true->b=(β k).blk->(β k).Own b:=fun b h1 h2=>.inl ⟨h1,h2.symm⟩
 have hbk:∀b∈(β k).blkL,(β k).has=true/\b=(β k).blk:=by
  intro b hb
  unfold OLoc.blkL at hb
  split at hb
  ·rename_i h; exact ⟨h,by simpa using hb⟩
  ·cases hb
 have hf:∀y v,RepA w S β y v->RepA w S' β' (a0aq k y) v:=by
  intro y v hy
  cases hy with
  | d h=>exact .d (h.mono (fun _ _=>rfl) hsub)
  | e0=>exact .e0
  | @ol o =>
   simp only [a0aq]
   by_cases e:o=k
   ·subst e; rw [<-hsv]; exact .ol
   ·rw [<-hβ o e]; exact .ol
  | @op o off =>
   simp only [a0aq]
   split
   ·exact .junk
   ·rename_i e; rw [<-hβ o (by simpa using e)]; exact .op
  | ep h1 h2 h3=>exact .ep (h1.mono (fun _ _=>rfl) hsub) (h2.imp id fun h=>⟨hsub _ h.1,h.2⟩) h3
  | @clo f caps =>
   simp only [a0aq]
   split
   ·exact .junk
   ·rename_i e
    have:caps.map (G2q β)=caps.map (G2q β'):=anz fun p hp=>by
     unfold G2q; rw [hβ p.1 (fun h=>e (by simp only [bjz,a4z]; exact ⟨p,hp,h⟩))]
    rw [this]; exact .clo
  | @ps o es lo n a c h1 h2 h3 =>
   simp only [a0aq]
   split
   ·exact .junk
   ·rename_i e
    rw [<-hβ o (by simpa using e)] at h2 h3
    exact .ps h1 h2 h3
  | raw=>exact .raw
  | junk=>exact .junk
 have hT:∀o X,(s.seal k xs).gob o=some X->(o=k/\X = .tk xs)\/(o≠k/\∃Y,s.gob o=some Y/\X=Y.map (a0aq k)):=by
  intro o X ho
  simp only [St.seal,St.gob,a1q,St.map,A7q] at ho
  by_cases e:k=o
  ·simp [e] at ho; exact .inl ⟨e.symm,ho.symm⟩
  ·simp [e] at ho
   obtain ⟨Y,hY,rfl⟩:=ho
   exact .inr ⟨fun h=>e h.symm,Y,hY,rfl⟩
 have hSown:∀b,S' b->∀o X,o≠k->s.gob o=some X->¬(β o).Own b:=by
  intro b hb o X hne ho hh
  rcases hb with hb | ⟨h1,h2⟩
  ·exact (hs.mem.own o X ho b hh).2.1 hb
  ·exact hne (hs.mem.sep o k X _ ho hk b hh (hkown b h1 h2))
 have hclk:∀b∈(β k).clm,b≠(β k).blk\/(β k).has=false:=by
  intro b hb
  cases hh:(β k).has with
  | false=>exact .inr rfl
  | true =>
   refine .inl fun e => ?_
   exact (hs.mem.own k _ hk b (hkown b hh e)).2.1 (hs.mem.clm k _ hk b hb).1
 have hck:∀b,b∈(β' k).clm->((β k).has=true/\b=(β k).blk)\/b∈(β k).clm:=by
  intro b hb
  rw [hβk] at hb
  rcases a1z.1 hb with hb | hb
  ·exact .inl (hbk b hb)
  ·exact .inr hb
 refine ⟨S',β',hs.defers,hs.sz,fun i y hi => ?_,⟨fun b hb => ?_,fun o X ho => ?_,fun o X ho b hh => ?_,fun o o' X X' ho ho' b hh hh' => ?_,hs.mem.os,hs.mem.tape,hs.mem.output,hs.mem.size,hs.mem.block,fun b hb=>hsub b (hs.mem.sub b hb),fun b hb => ?_,fun o l hl => ?_,fun o X ho b hh => ?_,fun o o' X X' ho ho' b hh hh' => ?_⟩⟩
 ·have e:(s.seal k xs).get i=(s.get i).map (·.map (a0aq k)):=s1q ..
  rw [e] at hi
  cases hY:s.get i with
  | none=>rw [hY] at hi; simp at hi
  | some Y =>
   rw [hY] at hi; simp at hi; subst hi
   obtain ⟨v,hv,hr⟩:=hs.tm i Y hY
   exact ⟨v,hv,hr.map hf fun xs cs h=>h.mono (fun _ _=>rfl) hsub⟩
 ·rcases hb with hb | ⟨h1,h2⟩
  ·exact hs.mem.lt b hb
  ·exact (hs.mem.own k _ hk b (hkown b h1 h2)).1
 ·rcases hT o X ho with ⟨rfl,rfl⟩ | ⟨hne,Y,hY,rfl⟩
  ·refine ⟨by rw [hβk]; rfl,hsm,fp,by rw [hsv]; exact t1,fun b hb => ?_,?_⟩
   ·rcases t2 b hb with ⟨h1,h2⟩ | ⟨h1,h2⟩
    ·exact ⟨hsub b h1,by rw [hβk]; exact acz _ h2⟩
    ·exact ⟨.inr ⟨h1,h2⟩,by rw [hβk]; exact ahz _ (by simp [OLoc.blkL,h1,h2])⟩
   ·exact t3 fun hh b hb=>(hclk b hb).resolve_right (by simp [hh])
  ·rw [hβ o hne]
   exact (hs.mem.ob o Y hY).map hf (fun _ _=>rfl) (fun _ _=>rfl) hsub
 ·rcases hT o X ho with ⟨rfl,rfl⟩ | ⟨hne,Y,hY,rfl⟩
  ·rw [hβk] at hh
   rcases hh with ⟨h1,_⟩ | hh
   ·cases h1
   ·cases hh
  ·rw [hβ o hne] at hh
   obtain ⟨h1,h2,h3⟩:=hs.mem.own o Y hY b hh
   exact ⟨h1,fun hb=>hSown b hb o Y hne hY hh,h3⟩
 ·rcases hT o X ho with ⟨rfl,rfl⟩ | ⟨hne,Y,hY,rfl⟩ <;> rcases hT o' X' ho' with ⟨rfl,rfl⟩ | ⟨hne',Y',hY',rfl⟩
  ·rfl
  ·rw [hβk] at hh; rw [hβ o' hne'] at hh'
   rcases hh with ⟨h1,_⟩ | hh
   ·cases h1
   ·cases hh
  ·rw [hβk] at hh'; rw [hβ o hne] at hh
   rcases hh' with ⟨h1,_⟩ | hh'
   ·cases h1
   ·cases hh'
  ·rw [hβ o hne] at hh; rw [hβ o' hne'] at hh'
   exact hs.mem.sep o o' Y Y' hY hY' b hh hh'
 ·rcases hb with hb | ⟨h1,h2⟩
  ·exact hs.mem.sup b hb
  ·exact .inr (hs.mem.own k _ hk b (hkown b h1 h2)).2.2
 ·obtain ⟨h1,h2⟩:=hs.mem.fix o l hl
  exact ⟨h1,(hβ o (by omega)).trans h2⟩
 ·rcases hT o X ho with ⟨rfl,rfl⟩ | ⟨hne,Y,hY,rfl⟩
  ·rcases hck b hh with ⟨h1,h2⟩ | h1
   ·exact ⟨.inr ⟨h1,h2⟩,(hs.mem.own o _ hk b (hkown b h1 h2)).2.2.imp id .inl⟩
   ·obtain ⟨m1,m2⟩:=hs.mem.clm o _ hk b h1
    exact ⟨hsub b m1,m2⟩
  ·rw [hβ o hne] at hh
   obtain ⟨m1,m2⟩:=hs.mem.clm o Y hY b hh
   exact ⟨hsub b m1,m2⟩
 ·have hmix:∀o Y,o≠k->s.gob o=some Y->b∈(β' k).clm->b∈(β o).clm->False:=by
   intro o Y hne hY h1 h2
   rcases hck b h1 with ⟨h3,h4⟩ | h3
   ·exact (hs.mem.own k _ hk b (hkown b h3 h4)).2.1 (hs.mem.clm o Y hY b h2).1
   ·exact hne (hs.mem.sepc o k Y _ hY hk b h2 h3)
  rcases hT o X ho with ⟨rfl,rfl⟩ | ⟨hne,Y,hY,rfl⟩ <;> rcases hT o' X' ho' with ⟨rfl,rfl⟩ | ⟨hne',Y',hY',rfl⟩
  ·rfl
  ·rw [hβ o' hne'] at hh'
   exact (hmix o' Y' hne' hY' hh hh').elim
  ·rw [hβ o hne] at hh
   exact (hmix o Y hne hY hh' hh).elim
  ·rw [hβ o hne] at hh; rw [hβ o' hne'] at hh'
   exact hs.mem.sepc o o' Y Y' hY hY' b hh hh'
def St.mv (s:St) (f:At->At) (k:Nat) (ks:List Nat) (X:Ob):St:=⟨(s.map f).tm,(k,X)::F2q (s.map f).ob ks⟩
theorem ageq (f:At->At) (k:Nat) (ks:List Nat) (X:Ob) (o:Nat):(s.mv f k ks X).gob o=if o=k then some X else if o∈ks then none else (s.gob o).map (·.map f):=by
 simp only [St.mv,St.gob,a1q,H3q,St.map,A7q]
 by_cases h:k=o
 ·subst h; simp
 ·simp [h,Ne.symm h]
theorem Sim.mv {f:At->At} {k:Nat} {ks:List Nat} {X:Ob} {a:Act} {w w':World} {S:Nat->Prop} {β β':Nat->OLoc} (hs:Sim Γ s a w S β) (hf:∀y v,RepA w S β y v->RepA w' S β' (f y) v)
  (hos:w'.os=w.os/\w'.tape=w.tape/\w'.output=w.output/\w.heap.size<=w'.heap.size) (hkeep:∀b,b<w.heap.size->(∀X0,s.gob k=some X0->¬(β k).Own b)->w'.heap[b]?=w.heap[b]?)
  (hβ:∀o,o≠k->β' o=β o) (hfix:∀l,Γ.fix k l->β' k=l) (hX:ObRep w' S β' (β' k) X) (hown:∀b,(β' k).Own b->b<w'.heap.size/\((∃X0,s.gob k=some X0/\(β k).Own b)\/w.heap.size<=b))
  (hclm:∀b∈(β' k).clm,∃q X0,(q=k\/q∈ks)/\s.gob q=some X0/\b∈(β q).clm):Sim Γ (s.mv f k ks X) a w' S β':=by
 have hS:∀b,S b->w'.heap[b]?=w.heap[b]?:=fun b hb=>hkeep b (hs.mem.lt b hb) fun X0 h0 hh=>(hs.mem.own k X0 h0 b hh).2.1 hb
 have hT:∀o Y,(s.mv f k ks X).gob o=some Y->(o=k/\Y=X)\/(o≠k/\o∉ks/\∃Z,s.gob o=some Z/\Y=Z.map f):=by
  intro o Y ho
  rw [ageq] at ho
  by_cases e:o=k
  ·rw [if_pos e] at ho; simp at ho; exact .inl ⟨e,ho.symm⟩
  ·rw [if_neg e] at ho
   by_cases e2:o∈ks
   ·rw [if_pos e2] at ho; simp at ho
   ·rw [if_neg e2] at ho
    cases hY:s.gob o with
    | none=>rw [hY] at ho; simp at ho
    | some Z=>rw [hY] at ho; simp at ho; exact .inr ⟨e,e2,Z,rfl,ho.symm⟩
 refine ⟨hs.defers,hs.sz,fun i y hi => ?_,⟨fun b hb=>aCz (hs.mem.lt b hb) hos.2.2.2,fun o Y ho => ?_,fun o Y ho b hh => ?_,fun o o' Y Y' ho ho' b hh hh' => ?_,hos.1.trans hs.mem.os,hos.2.1.trans hs.mem.tape,hos.2.2.1.trans hs.mem.output,aXz hs.mem.size hos.2.2.2,fun b hb hp => ?_,hs.mem.sub,hs.mem.sup,fun o l hl => ?_,fun o Y ho b hh => ?_,fun o o' Y Y' ho ho' b hh hh' => ?_⟩⟩
 ·have e:(s.mv f k ks X).get i=(s.get i).map (·.map f):=s1q ..
  rw [e] at hi
  cases hY:s.get i with
  | none=>rw [hY] at hi; simp at hi
  | some Y =>
   rw [hY] at hi; simp at hi; subst hi
   obtain ⟨v,hv,hr⟩:=hs.tm i Y hY
   exact ⟨v,hv,hr.map hf fun xs cs h=>h.mono hS fun _ h=>h⟩
 ·rcases hT o Y ho with ⟨rfl,rfl⟩ | ⟨hne,_,Z,hZ,rfl⟩
  ·exact hX
  ·rw [hβ o hne]
   exact (hs.mem.ob o Z hZ).map hf (fun b hh=>hkeep b (hs.mem.own o Z hZ b hh).1 fun X0 h0 hk=>hne (hs.mem.sep o k Z X0 hZ h0 b hh hk)) hS fun _ h=>h
 ·rcases hT o Y ho with ⟨rfl,rfl⟩ | ⟨hne,_,Z,hZ,rfl⟩
  ·obtain ⟨h1,h2⟩:=hown b hh
   rcases h2 with ⟨X0,h0,h2⟩ | h2
   ·obtain ⟨_,m2,m3⟩:=hs.mem.own o X0 h0 b h2
    exact ⟨h1,m2,m3⟩
   ·exact ⟨h1,fun hb=>by have:=hs.mem.lt b hb; omega,.inl (aXz hs.mem.size h2)⟩
  ·rw [hβ o hne] at hh
   obtain ⟨m1,m2,m3⟩:=hs.mem.own o Z hZ b hh
   exact ⟨aCz m1 hos.2.2.2,m2,m3⟩
 ·have hmix:∀o Z,o≠k->s.gob o=some Z->(β' k).Own b->(β o).Own b->False:=by
   intro o Z hne hZ h1 h2
   rcases (hown b h1).2 with ⟨X0,h0,h3⟩ | h3
   ·exact hne (hs.mem.sep o k Z X0 hZ h0 b h2 h3)
   ·have:=(hs.mem.own o Z hZ b h2).1; omega
  rcases hT o Y ho with ⟨rfl,rfl⟩ | ⟨hne,_,Z,hZ,rfl⟩ <;> rcases hT o' Y' ho' with ⟨rfl,rfl⟩ | ⟨hne',_,Z',hZ',rfl⟩
  ·rfl
  ·rw [hβ o' hne'] at hh'; exact (hmix o' Z' hne' hZ' hh hh').elim
  ·rw [hβ o hne] at hh; exact (hmix o Z hne hZ hh' hh).elim
  ·rw [hβ o hne] at hh; rw [hβ o' hne'] at hh'
   exact hs.mem.sep o o' Z Z' hZ hZ' b hh hh'
 ·refine (hkeep b (aCz hb hs.mem.size) fun X0 h0 hk => ?_).trans (hs.mem.block b hb hp)
  rcases (hs.mem.own k X0 h0 b hk).2.2 with h1 | h1
  ·omega
  ·exact hp h1
 ·obtain ⟨h1,h2⟩:=hs.mem.fix o l hl
  refine ⟨h1,?_⟩
  by_cases e:o=k
  ·subst e; exact hfix l hl
  ·exact (hβ o e).trans h2
 ·rcases hT o Y ho with ⟨rfl,rfl⟩ | ⟨hne,_,Z,hZ,rfl⟩
  ·obtain ⟨q,X0,_,h0,h1⟩:=hclm b hh
   exact hs.mem.clm q X0 h0 b h1
  ·rw [hβ o hne] at hh
   exact hs.mem.clm o Z hZ b hh
 ·have hmix:∀o Z,o≠k->o∉ks->s.gob o=some Z->b∈(β' k).clm->b∈(β o).clm->False:=by
   intro o Z hne hn hZ h1 h2
   obtain ⟨q,X0,hq,h0,h3⟩:=hclm b h1
   have:=hs.mem.sepc o q Z X0 hZ h0 b h2 h3
   subst this
   exact hq.elim hne hn
  rcases hT o Y ho with ⟨rfl,rfl⟩ | ⟨hne,hn,Z,hZ,rfl⟩ <;> rcases hT o' Y' ho' with ⟨rfl,rfl⟩ | ⟨hne',hn',Z',hZ',rfl⟩
  ·rfl
  ·rw [hβ o' hne'] at hh'; exact (hmix o' Z' hne' hn' hZ' hh hh').elim
  ·rw [hβ o hne] at hh; exact (hmix o Z hne hn hZ hh' hh).elim
  ·rw [hβ o hne] at hh; rw [hβ o' hne'] at hh'
   exact hs.mem.sepc o o' Z Z' hZ hZ' b hh hh'
def l5q (s:St):List At->Option (List Da×List Nat)
 | []=>some ([],[])
 | .d x::r=>match x.flat,l5q s r with
  | true,some p=>some (x::p.1,p.2)
  | _,_=>none
 | .e0::r=>match l5q s r with
  | some p=>some (.sl []::p.1,p.2)
  | none=>none
 | .ol k::r=>match s.gob k,l5q s r with
  | some (.tk xs),some p=>some (.sl xs::p.1,k::p.2)
  | _,_=>none
 | _=>none
theorem R1q {a:Act} {w:World} {S:Nat->Prop} {β:Nat->OLoc} (hs:Sim Γ s a w S β):∀{cs:List At} {vs:List Value} {ds:List Da} {ks:List Nat},RepAs w S β cs vs->l5q s cs=some (ds,ks)->ks.Nodup->∃fp,RepT w ds vs fp/\(∀b∈fp,S b/\∃k X,k∈ks/\s.gob k=some X/\b∈(β k).clm)/\fp.Nodup
 | [],vs,ds,ks,h,hd,_=>by
  simp [l5q] at hd
  obtain ⟨rfl,rfl⟩:=hd
  cases h
  exact ⟨[],.nil,by simp,by simp⟩
 | c::r,vs,ds,ks,h,hd,hn=>by
  cases h with
  | @cons _ v _ us h1 h2 =>
  cases c with
  | d x =>
   simp only [l5q] at hd
   split at hd
   ·rename_i p hx hp
    simp at hd
    obtain ⟨rfl,rfl⟩:=hd
    obtain ⟨fp,a1,a2,a3⟩:=R1q hs h2 (show l5q s r=some (p.1,p.2) by rw [hp]) hn
    cases h1 with
    | d h1 =>
     obtain ⟨f0,h1,_⟩:=h1
     have:=(h1.flatT (by simpa using hx)).app a1
     exact ⟨fp,by simpa using this,a2,a3⟩
   ·simp at hd
  | e0 =>
   simp only [l5q] at hd
   split at hd
   ·rename_i p hp
    simp at hd
    obtain ⟨rfl,rfl⟩:=hd
    obtain ⟨fp,a1,a2,a3⟩:=R1q hs h2 (show l5q s r=some (p.1,p.2) by rw [hp]) hn
    cases h1
    exact ⟨fp,.sl0 a1,a2,a3⟩
   ·simp at hd
  | ol k =>
   simp only [l5q] at hd
   split at hd
   ·rename_i xs p hk hp
    simp at hd
    obtain ⟨rfl,rfl⟩:=hd
    have hn':=aUz.1 hn
    obtain ⟨fp,a1,a2,a3⟩:=R1q hs h2 (show l5q s r=some (p.1,p.2) by rw [hp]) hn'.2
    cases h1
    obtain ⟨_,_,f0,b1,b2,b3⟩:=hs.mem.ob k _ hk
    have:=b1.app a1
    refine ⟨f0++fp,this,fun b hb => ?_,aoz.2 ⟨b3,a3,fun b hb b' hb' e => ?_⟩⟩
    ·rcases a1z.1 hb with hb | hb
     ·exact ⟨(b2 b hb).1,k,_,by simp,hk,(b2 b hb).2⟩
     ·obtain ⟨m1,q,X,m2,m3,m4⟩:=a2 b hb
      exact ⟨m1,q,X,by simp [m2],m3,m4⟩
    ·subst e
     obtain ⟨m1,q,X,m2,m3,m4⟩:=a2 b hb'
     have:=hs.mem.sepc k q _ X hk m3 b (b2 b hb).2 m4
     subst this
     exact hn'.1 m2
   ·simp at hd
  | _=>simp [l5q] at hd
def clmL (β:Nat->OLoc):List Nat->List Nat
 | []=>[]
 | k::r=>(β k).clm++clmL β r
theorem X6q {β:Nat->OLoc} {b:Nat}:∀{ks:List Nat},b∈clmL β ks↔∃k∈ks,b∈(β k).clm
 | []=>by simp [clmL]
 | k::r=>by simp [clmL,X6q (ks:=r)]
theorem ae9q {nob:List (Nat×Ob)} (h:s.fresh nob=true) {p:Nat×Ob} (hp:p∈nob):s.gob p.1=none/\p.1<2000:=by
 refine ⟨?_,I1q h p hp⟩
 cases hk:s.gob p.1 with
 | none=>rfl
 | some X=>exact absurd rfl ((v7q h hk).1 p hp)
theorem adfq {d n e : Nat} {ps : List (Nat × Operand)} {i : TypeInfo} {zv : Value} {cs out : List At} {ds : List Da} {ks : List Nat} {pa : List (Nat × List At)} (ho : o.op = .buildSlice t n ps.toArray) (hg : o.guard = none) (hdst : o.dst = some d) (hdn : d < Γ.n) (ht : P.underlying t = some (.slice e)) (hi : P.info? e = some i) (hz : i.zero = some zv) (hzs : zv.cells.size = i.size) (hpos : 0 < i.size)
    (hc : o3q zv.cells.toList = some cs) (hsm : n * i.size ≤ 16777216) (has : s6q s.ev ps = some pa) (hf : y5q (fun q => some (q * i.size, i.size)) (List.replicate n cs).flatten pa = some out) (hd : l5q s out = some (ds, ks)) (hn : ks.Nodup) (hfr : s.fresh [(d, .lst e i.size [])] = true)
    (h : d8q Γ P ops rest K (s.appd (some d) d ks (.tr e i.size (x1q i.size n ds)))) : d8q Γ P ops (o :: rest) K s := by
  intro a w S β R hs hR
  refine wpList_plain hg fun K' hK => ?_
  obtain ⟨ov, he, hrep, e2⟩ := a0Yq (ρa := a) (w := w) (S := S) (β := β) ho ht hi hz hzs hpos hc hsm has hf fun x X hx _ => hs.eval hx
  obtain ⟨fp, r1, r2, r3⟩ := R1q hs hrep hd hn
  have hlen : ds.length = n * i.size := by have e1 := r1.len; simp at e1; omega
  obtain ⟨g1, g2, g3⟩ := a4Kq n ds hlen
  obtain ⟨hgn, hlow⟩ := ae9q hfr (List.mem_singleton.2 rfl)
  dsimp only at hgn hlow
  have hnn : n ≤ n * i.size := Nat.le_mul_of_pos_right n hpos
  unfold Oper.wp
  rw [he, Oper.upon_value]
  let l' : OLoc := ⟨w.heap.size, some ⟨w.heap.size, 0, none⟩, n, n, true, [], clmL β ks⟩
  let β' : Nat → OLoc := fun q => if q = d then l' else β q
  have hβ : ∀ q, q ≠ d → β' q = β q := fun q h => if_neg h
  have hβd : β' d = l' := if_pos rfl
  have hold : ∀ b, b < w.heap.size → (w.alloc (.cells ov e)).heap[b]? = w.heap[b]? := fun b hb => Go.RowKit.Below.heap_alloc w _ b hb
  have hSo : ∀ b, S b → (w.alloc (.cells ov e)).heap[b]? = w.heap[b]? := fun b hb => hold b (hs.mem.lt b hb)
  have hmv := hs.mv (w' := w.alloc (.cells ov e)) (β' := β') (f := killL (d :: ks)) (k := d) (ks := ks) (X := .tr e i.size (x1q i.size n ds))
    (fun y v hy => RepA.killL hSo (fun _ h => h) (fun q hq => hβ q fun e => hq (by simp [e])) y v hy) ⟨rfl, rfl, rfl, by simp⟩ (fun b hb _ => hold b hb) hβ
    (fun l hl => by have := (hs.mem.fix d l hl).1; omega) (by
      rw [hβd]
      refine .inl ⟨rfl, by rw [g2]; omega, g3, ov.toList, fp, ?_, ?_, fun b hb => ?_, r3⟩
      · have := a0xq (w := w) (E := e) (es := i.size) (n := n) (cap := n) (c := ov) e2 (Nat.le_refl _) (by unfold maxLen; omega)
        rw [List.take_of_length_le (by simp [e2])] at this
        simpa [g2, l', OLoc.sv] using this
      · rw [g1]; exact r1.keep fun b hb => hSo b (r2 b hb).1
      · obtain ⟨m1, k, X, m2, m3, m4⟩ := r2 b hb
        exact ⟨m1, X6q.2 ⟨k, m2, m4⟩⟩)
    (fun b hb => by
      rw [hβd] at hb
      rcases hb with ⟨_, rfl⟩ | hb
      · exact ⟨by simp [l'], .inr (Nat.le_refl _)⟩
      · cases hb)
    (fun b hb => by
      rw [hβd] at hb
      obtain ⟨k, hk, hb⟩ := X6q.1 hb
      have : (s.gob k).isSome := by
        clear hf has he hR h hK r1 r2 r3 hlen g1 hrep
        have key : ∀ (cs : List At) (ds : List Da) (ks : List Nat), l5q s cs = some (ds, ks) → ∀ k ∈ ks, (s.gob k).isSome := by
          intro cs
          induction cs with
          | nil => intro ds ks h; simp [l5q] at h; obtain ⟨rfl, rfl⟩ := h; simp
          | cons c r ih =>
            intro ds ks h
            cases c <;> simp only [l5q] at h <;> first | (split at h) | skip
            all_goals first
              | (simp at h; done)
              | (rename_i p hp; simp at h; obtain ⟨rfl, rfl⟩ := h; exact ih _ _ (show l5q s r = some (p.1, p.2) by rw [hp]))
              | (rename_i p hx hp; simp at h; obtain ⟨rfl, rfl⟩ := h; exact ih _ _ (show l5q s r = some (p.1, p.2) by rw [hp]))
              | (rename_i xs p hx hp; simp at h; obtain ⟨rfl, rfl⟩ := h
                 intro k hk
                 rcases List.mem_cons.1 hk with rfl | hk
                 · simp [hx]
                 · exact ih _ _ (show l5q s r = some (p.1, p.2) by rw [hp]) k hk)
        exact key _ _ _ hd k hk
      obtain ⟨X, hX⟩ := Option.isSome_iff_exists.1 this
      exact ⟨k, X, .inr hk, hX, hb⟩)
  have hput := hmv.upd (dst := some d) (y := .one (.ol d)) (v := .slice (some ⟨w.heap.size, 0, none⟩) n n) (nob := []) (Grow.refl hmv.mem.lt) (RepV.one (by
    have e3 : (Value.slice (some ⟨w.heap.size, 0, none⟩) n n) = (β' d).sv := by rw [hβd]; rfl
    rw [e3]; exact .ol)) (by simpa using hdn) rfl
  rw [hdst]
  exact hK _ _ (h _ _ S β' R hput hR)
theorem RepA.locs {w w':World} {S S':Nat->Prop} {β β':Nat->OLoc} {y:At} {v:Value} (hk:∀b,S b->w'.heap[b]?=w.heap[b]?) (hs:∀b,S b->S' b) (hβ:∀o∈y.ids,(β' o).sv=(β o).sv/\(β' o).blk=(β o).blk) (h:RepA w S β y v):RepA w' S' β' y v:=by
 cases h with
 | d h=>exact .d (h.mono hk hs)
 | e0=>exact .e0
 | @ol o=>rw [<-(hβ o (by simp [At.ids])).1]; exact .ol
 | @op o off=>rw [<-(hβ o (by simp [At.ids])).2]; exact .op
 | ep h1 h2 h3=>exact (RepA.ep (β:=β) h1 h2 h3).mono hk hs (by simp [At.ids])
 | @clo f caps =>
  have:caps.map (G2q β)=caps.map (G2q β'):=anz fun p hp=>by
   unfold G2q; rw [(hβ p.1 (by simp only [At.ids,a4z]; exact ⟨p,hp,rfl⟩)).2]
  rw [this]; exact .clo
 | @ps o es lo n a c h1 h2 h3 =>
  obtain ⟨e1,e2⟩:=hβ o (by simp [At.ids])
  simp only [OLoc.sv,Value.slice.injEq] at e1
  rw [<-e1.2.2] at h2
  rw [<-e2] at h3
  exact .ps h1 h2 h3
 | raw=>exact .raw
 | junk=>exact .junk
theorem a1lq {w w':World} {S S':Nat->Prop} {β β':Nat->OLoc} {ks:List Nat} {y:At} {v:Value} (hk:∀b,S b->w'.heap[b]?=w.heap[b]?) (hs:∀b,S b->S' b) (hβ:∀o,o∉ks->(β' o).sv=(β o).sv/\(β' o).blk=(β o).blk) (h:RepA w S β y v):RepA w' S' β' (killL ks y) v:=by
 unfold killL
 split
 ·exact .junk
 ·rename_i hc
  exact h.locs hk hs fun o ho=>hβ o fun hm=>hc (ajz.2 ⟨o,ho,by simpa using hm⟩)
theorem adSq {cs : List At} : ∀ {ds : List Da} {ks : List Nat}, l5q s cs = some (ds, ks) → ∀ k ∈ ks, (s.gob k).isSome := by
  induction cs with
  | nil => intro ds ks h; simp [l5q] at h; obtain ⟨rfl, rfl⟩ := h; simp
  | cons c r ih =>
    intro ds ks h
    cases c <;> simp only [l5q] at h <;> first | (split at h) | skip
    all_goals first
      | (simp at h; done)
      | (rename_i p hp; simp at h; obtain ⟨rfl, rfl⟩ := h; exact ih (show l5q s r = some (p.1, p.2) by rw [hp]))
      | (rename_i p hx hp; simp at h; obtain ⟨rfl, rfl⟩ := h; exact ih (show l5q s r = some (p.1, p.2) by rw [hp]))
      | (rename_i xs p hx hp; simp at h; obtain ⟨rfl, rfl⟩ := h
         intro k hk
         rcases List.mem_cons.1 hk with rfl | hk
         · simp [hx]
         · exact ih (show l5q s r = some (p.1, p.2) by rw [hp]) k hk)
theorem a9Tq {k off n q E es:Nat} {Z:AV} {zs:List At} {ds c:List Da} {ks:List Nat} {xs:List (List Da)} {j:TypeInfo} (ho:o.op = .store t x z) (hg:o.guard=none) (hd:o.dst=none) (hx:s.ev x=some (.one (.op k off))) (hz:s.ev z=some Z) (hc:Z.cells=some zs) (hds:l5q s zs=some (ds,ks)) (hnd:ks.Nodup) (hkn:k∉ks) (hlow:ks=[]\/k<2000)
  (hk:s.gob k=some (.tr E es xs)) (hj:P.info? t=some j) (hsz:j.size=ds.length) (hn:xs[n]?=some c) (hoff:off=n*es+q) (hq:q+ds.length<=c.length) (hpos:0<ds.length)
  (h:d8q Γ P ops rest K (s.mv (killL ks) k ks (.tr E es (xs.set n (c.take q++ds++c.drop (q+ds.length)))))):d8q Γ P ops (o::rest) K s:=by
 intro a w S β R hs hR
 refine wpList_plain hg fun K' hK => ?_
 have h1:=(hs.eval hx).one_inv
 have h2:=hs.eval hz
 obtain ⟨fz,z1,z2,z3⟩:=R1q hs (h2.cells hc) hds hnd
 have hone:=z1.repF.len
 have hcs:RepDs w S ds (a.eval z).cells.toList:=⟨fz,z1.repF,fun b hb=>(z2 b hb).1⟩
 have hnl0:n<xs.length:=(a2z.1 hn).1
 obtain ⟨hob,hsm,hle,vs,fp,hown,hrep,hfp,hfn⟩:=ObRep.posT (hs.mem.ob k _ hk) (by omega)
 generalize hv:a.eval x=v at h1
 cases h1
 have hnl:n<xs.length:=(a2z.1 hn).1
 have hcl:c.length=es:=hle c (asz hn)
 rcases hown.2 with ⟨_,h0⟩ | ⟨g,cap,cur,hsv,_,hgb,hcap,hcm,hcsz,htk⟩
 ·omega
 have hbh:(β k).has=true/\g=(β k).blk:=by
  rw [hsv] at hob
  simp only [Value.ownBlock] at hob
  split at hob
  ·rename_i e; exact ⟨e,by simpa using hob⟩
  ·simp at hob
 obtain ⟨hh,rfl⟩:=hbh
 have hsplit:xs.flatten=((xs.take n).flatten++c.take q)++(((c.drop q).take ds.length)++(c.drop (q+ds.length)++(xs.drop (n+1)).flatten)):=by
  rw [p1q hn]
  conv=>lhs; rw [show c=c.take q++((c.drop q).take ds.length++c.drop (q+ds.length)) by rw [<-bnz,a9z,a9z]]
  simp [a8z]
 rw [hsplit] at hrep
 obtain ⟨v1,v2,f1,f2,rfl,rfl,d1,d2⟩:=hrep.split
 obtain ⟨v3,v4,f3,f4,rfl,rfl,d3,d4⟩:=d2.split
 have hl1:v1.length=off:=by rw [d1.len,a7z,i6q hle (bhz hnl),adz,hcl]; omega
 have hl3:v3.length=ds.length:=by rw [d3.len,adz,alz,hcl]; omega
 have hlz:=hcs.len
 simp only [apz] at hlz
 have hne:n*es+es<=xs.length*es:=by rw [<-Nat.succ_mul]; exact aiz _ hnl
 have hxc:xs.length*es<=cap*es:=aiz _ hcap
 have hst:=run_storeCells_at P (β k).blk off E (a.eval z).cells.toList 0 cur w hgb (by simp; omega) hcs.oneCells
 simp only [aYz,apz] at hst
 have he:(execOp a.eval o).run P w = .ok .skip (w.setRow (β k).blk (cur.toList.take off++(a.eval z).cells.toList++cur.toList.drop (off+(a.eval z).cells.size)).toArray):=by
  have hszz:(a.eval z).cells.size=j.size:=by omega
  simp only [execOp,ho,hv,bGz,b0z,storeVar,sizeOf,typeInfo,program,axz,bHz,aEz,akz,hj,hszz,ne_eq,not_true_eq_false,if_false]
  rw [hszz] at hst
  simp [hst]
 unfold Oper.wp
 rw [he,Oper.upon_skip,hd]
 generalize hcnew:(cur.toList.take off++(a.eval z).cells.toList++cur.toList.drop (off+(a.eval z).cells.size)).toArray=cnew
 have hlen:(xs.set n (c.take q++ds++c.drop (q+ds.length))).length=xs.length:=by simp
 have hcl':(c.take q++ds++c.drop (q+ds.length)).length=es:=by simp; omega
 have hSo:∀b,S b->(w.setRow (β k).blk cnew).heap[b]?=w.heap[b]?:=fun b hb=>setRow_other w _ b _ fun e=>(hs.mem.own k _ hk _ (.inl ⟨hh,rfl⟩)).2.1 (e ▸ hb)
 let l':OLoc:={ β k with clm:=(β k).clm++clmL β ks }
 let β':Nat->OLoc:=fun r=>if r=k then l' else β r
 have hβ:∀r,r≠k->β' r=β r:=fun r h=>if_neg h
 have hβk:β' k=l':=if_pos rfl
 have hl'sv:l'.sv=(β k).sv:=rfl
 refine hK _ _ (h _ _ S β' R (hs.mv (f:=killL ks) (fun y v hy=>a1lq hSo (fun _ h=>h) (fun r _ => ?_) hy) ⟨rfl,rfl,rfl,by simp [World.setRow]⟩ (fun b hb hno => ?_) hβ (fun l hl => ?_) ?_ (fun b hb => ?_) fun b hb => ?_) hR)
 ·by_cases e:r=k
  ·subst e; rw [hβk]; exact ⟨rfl,rfl⟩
  ·rw [hβ r e]; exact ⟨rfl,rfl⟩
 ·exact setRow_other w _ b _ fun e=>hno _ hk (.inl ⟨hh,e.symm⟩)
 ·obtain ⟨m1,m2⟩:=hs.mem.fix k l hl
  rw [hβk,<-m2]
  rcases hlow with rfl | hlow
  ·simp [l',clmL]
  ·omega
 ·rw [hβk]
  refine .inl ⟨hob,by simpa using hsm,fun y hy => ?_,v1++((a.eval z).cells.toList++v4),f1++(fz++f4),⟨?_,.inr ⟨_,cap,_,by rw [hl'sv,hsv,hlen],aMz _,setRow_heap w _ cur _ E _ hgb,by simpa using hcap,hcm,by rw [<-hcnew]; simp; omega,?_⟩⟩,?_,fun b hb => ?_,?_⟩
  ·rcases aSz hy with hy | hy
   ·exact hle y hy
   ·rw [hy]; exact hcl'
  ·have:=hown.1
   simp only [a7z,apz,hlen] at this ⊢
   omega
  ·have hcur:cur.toList=(v1++(v3++v4))++cur.toList.drop (xs.length*es):=by rw [<-htk]; exact (a9z _ _).symm
   have h4:=hown.1
   simp only [a7z] at h4
   rw [hlen,<-hcnew,hcur]
   have e1:((v1++(v3++v4))++cur.toList.drop (xs.length*es)).take off=v1:=by
    rw [a8z]; exact arz hl1
   have e2:((v1++(v3++v4))++cur.toList.drop (xs.length*es)).drop (off+(a.eval z).cells.size)=v4++cur.toList.drop (xs.length*es):=by
    rw [<-a8z v1,a8z (v1++v3)]
    exact biz (by simp; omega)
   simp only [b9z]
   rw [e1,e2]
   rw [show v1++(a.eval z).cells.toList++(v4++cur.toList.drop (xs.length*es))=(v1++((a.eval z).cells.toList++v4))++cur.toList.drop (xs.length*es) by simp [a8z]]
   apply arz
   simp only [a7z,apz]
   omega
  ·have hfl:(xs.set n (c.take q++ds++c.drop (q+ds.length))).flatten=((xs.take n).flatten++c.take q)++(ds++(c.drop (q+ds.length)++(xs.drop (n+1)).flatten)):=by
    have:=p1q (xs:=xs.set n (c.take q++ds++c.drop (q+ds.length))) (n:=n) (c:=c.take q++ds++c.drop (q+ds.length)) (by simp [hnl])
    rw [this,bpz (aDz n),bqz (by omega)]
    simp [a8z]
   rw [hfl]
   refine (d1.app (z1.app d4)).keep fun b hb=>hSo b ?_
   rcases a1z.1 hb with hb | hb
   ·exact (hfp b (by simp [hb])).1
   ·rcases a1z.1 hb with hb | hb
    ·exact (z2 b hb).1
    ·exact (hfp b (by simp [hb])).1
  ·rcases a1z.1 hb with hb | hb
   ·exact ⟨(hfp b (by simp [hb])).1,ahz _ (hfp b (by simp [hb])).2⟩
   ·rcases a1z.1 hb with hb | hb
    ·obtain ⟨m1,r,X,m2,m3,m4⟩:=z2 b hb
     exact ⟨m1,acz _ (X6q.2 ⟨r,m2,m4⟩)⟩
    ·exact ⟨(hfp b (by simp [hb])).1,ahz _ (hfp b (by simp [hb])).2⟩
  ·have hz:∀b∈fz,b∉f1++(f3++f4):=by
    intro b hb hb2
    obtain ⟨m1,r,X,m2,m3,m4⟩:=z2 b hb
    have:=hs.mem.sepc r k X _ m3 hk b m4 (hfp b hb2).2
    subst this
    exact hkn m2
   have n1:=aoz.1 hfn
   have n2:=aoz.1 n1.2.1
   refine aoz.2 ⟨n1.1,aoz.2 ⟨z3,n2.2.1,fun b hb b' hb' e => ?_⟩,fun b hb b' hb' e => ?_⟩
   ·subst e; exact hz b hb (by simp [hb'])
   ·subst e
    rcases a1z.1 hb' with hb' | hb'
    ·exact hz b hb' (by simp [hb])
    ·exact n1.2.2 b hb b (by simp [hb']) rfl
 ·rw [hβk] at hb
  have hb':(β k).Own b:=hb
  exact ⟨by have:=(hs.mem.own k _ hk b hb').1; simpa [World.setRow] using this,.inl ⟨_,hk,hb'⟩⟩
 ·rw [hβk] at hb
  rcases a1z.1 hb with hb | hb
  ·exact ⟨k,_,.inl rfl,hk,hb⟩
  ·obtain ⟨r,hr,hb⟩:=X6q.1 hb
   obtain ⟨X,hX⟩:=aez.1 (adSq hds r hr)
   exact ⟨r,X,.inr hr,hX,hb⟩
theorem a6gq {n:Nat} {zd:List Da} (h:zd.all Da.flat=true):x6q (aBz n zd):=by
 intro y hy
 rw [(List.mem_replicate.1 hy).2]; exact h
theorem OpP.up {av:Operand->Option AV} {us:List (Nat×Ob)} {y:AV} {d E es:Nat} {rows:List (List Da)} (h:OpP P o av us y [(d,.lst E es rows)]) {b:Bool} (hf:b=true->x6q rows):OpP P o av us y [(d,mkL b E es rows)]:=by
 cases b with
 | false=>exact h
 | true =>
  intro a w S β hlt hr hu K' Q hK
  refine h a w S β hlt hr hu K' Q fun v w' S' β' hG hy=>hK v w' S' β' ⟨hG.os,hG.tape,hG.output,hG.size,hG.block,hG.sub,hG.sup,fun q hq=>hG.loc q fun p hp => ?_,fun p hp => ?_,fun p hp => ?_,fun p hp q hq => ?_,fun p hp => ?_,fun p hp q hq => ?_⟩ hy
  ·simp at hp; subst hp; exact hq (d,mkL true E es rows) (by simp)
  ·simp at hp; subst hp; exact (hG.ob (d,.lst E es rows) (by simp)).tr_of_flat (hf rfl)
  ·simp at hp; subst hp; exact hG.own (d,.lst E es rows) (by simp)
  ·simp at hp hq; subst hp; subst hq; intros; rfl
  ·simp at hp; subst hp; exact hG.clm (d,.lst E es rows) (by simp)
  ·simp at hp hq; subst hp; subst hq; intros; rfl
theorem OpS.up {s0:St} {y:AV} {d E es:Nat} {rows:List (List Da)} (h:OpS P o s s0 y [(d,.lst E es rows)]) {b:Bool} (hf:b=true->x6q rows):OpS P o s s0 y [(d,mkL b E es rows)]:=by
 obtain ⟨us,h1,h2⟩:=h
 exact ⟨us,h1.up hf,h2⟩
theorem Sim.frzK {k:Nat} {xs:List (List Da)} (hk:s.gob k=some (.tk xs)\/∃E es,s.gob k=some (.mt E es xs)) {a:Act} {w:World} {S:Nat->Prop} {β:Nat->OLoc} (hs:Sim Γ s a w S β):∃S',(∀b,S b->S' b)/\Sim Γ (s.frz k xs) a w S' β:=by
 have main:∃X fp,s.gob k=some X/\RepT w [.sl xs] [(β k).sv] fp/\∀b∈fp,S b\/(β k).Own b:=by
  rcases hk with hk | ⟨E,es,hk⟩
  ·obtain ⟨_,_,fp,h1,h2,_⟩:=hs.mem.ob k _ hk
   exact ⟨_,fp,hk,h1,fun b hb=>.inl (h2 b hb).1⟩
  ·obtain ⟨_,_,_,_,fp,h1,h2,_⟩:=hs.mem.ob k _ hk
   exact ⟨_,fp,hk,h1,fun b hb=>.inr (.inr (h2 b hb))⟩
 obtain ⟨X0,fp,hk0,ht,hfp⟩:=main
 let S':Nat->Prop:=fun b=>S b\/(β k).Own b
 have hsub:∀b,S b->S' b:=fun b hb=>.inl hb
 have hd:RepDs w S' [.sl xs] [(β k).sv]:=⟨fp,ht.repF,hfp⟩
 have hf:∀y v,RepA w S β y v->RepA w S' β (u1q k xs y) v:=by
  intro y v hy
  have hm:=hy.mono (w':=w) (S':=S') (β':=β) (fun _ _=>rfl) hsub (fun _ _=>rfl)
  cases y with
  | ol o =>
   simp only [u1q]
   split
   ·rename_i e
    simp at e
    subst e
    cases hy
    exact .d hd
   ·exact hm
  | op o off=>simp only [u1q]; split; exact .junk; exact hm
  | clo f caps=>simp only [u1q]; split; exact .junk; exact hm
  | _=>exact hm
 have hT:∀o' X,(s.frz k xs).gob o'=some X->o'≠k/\∃Y,s.gob o'=some Y/\X=Y.map (u1q k xs):=by
  intro o' X h
  simp only [St.frz,St.gob,E2q,St.map,A7q] at h
  split at h
  ·simp at h
  ·rename_i e
   cases hY:s.gob o' with
   | none=>simp only [St.gob] at hY; rw [hY] at h; simp at h
   | some Y=>have hY2:=hY; simp only [St.gob] at hY2; rw [hY2] at h; simp at h; exact ⟨fun e2=>e e2.symm,Y,rfl,h.symm⟩
 refine ⟨S',hsub,hs.defers,hs.sz,fun i y hi => ?_,?_⟩
 ·have:(s.frz k xs).get i=(s.get i).map (·.map (u1q k xs)):=s1q ..
  rw [this] at hi
  cases hY:s.get i with
  | none=>rw [hY] at hi; simp at hi
  | some Y =>
   rw [hY] at hi; simp at hi; subst hi
   obtain ⟨v,hv,hr⟩:=hs.tm i Y hY
   exact ⟨v,hv,hr.map hf fun xs cs h=>h.mono (fun _ _=>rfl) hsub⟩
 ·refine ⟨fun b hb => ?_,fun o' X ho' => ?_,fun o' X ho' b hh => ?_,fun o1 o2 X1 X2 h1 h2 => ?_,hs.mem.os,hs.mem.tape,hs.mem.output,hs.mem.size,hs.mem.block,fun b hb=>.inl (hs.mem.sub b hb),fun b hb => ?_,hs.mem.fix,fun o' X ho' b hh => ?_,fun o1 o2 X1 X2 h1 h2 => ?_⟩
  ·rcases hb with hb | hb
   ·exact hs.mem.lt b hb
   ·exact (hs.mem.own k _ hk0 b hb).1
  ·obtain ⟨hne,Y,hY,rfl⟩:=hT o' X ho'
   exact (hs.mem.ob o' Y hY).map hf (fun _ _=>rfl) (fun _ _=>rfl) hsub
  ·obtain ⟨hne,Y,hY,rfl⟩:=hT o' X ho'
   obtain ⟨m1,m2,m3⟩:=hs.mem.own o' Y hY b hh
   refine ⟨m1,fun hb => ?_,m3⟩
   rcases hb with hb | hb
   ·exact m2 hb
   ·exact hne (hs.mem.sep o' k Y _ hY hk0 b hh hb)
  ·obtain ⟨hne,Y,hY,rfl⟩:=hT o1 X1 h1
   obtain ⟨hne2,Y2,hY2,rfl⟩:=hT o2 X2 h2
   exact hs.mem.sep o1 o2 Y Y2 hY hY2
  ·rcases hb with hb | hb
   ·exact hs.mem.sup b hb
   ·exact .inr (hs.mem.own k _ hk0 b hb).2.2
  ·obtain ⟨hne,Y,hY,rfl⟩:=hT o' X ho'
   obtain ⟨m1,m2⟩:=hs.mem.clm o' Y hY b hh
   exact ⟨hsub b m1,m2⟩
  ·obtain ⟨hne,Y,hY,rfl⟩:=hT o1 X1 h1
   obtain ⟨hne2,Y2,hY2,rfl⟩:=hT o2 X2 h2
   exact hs.mem.sepc o1 o2 Y Y2 hY hY2
theorem Sim.view {k:Nat} {xs:List (List Da)} (hk:s.gob k=some (.tk xs)) {a:Act} {w:World} {S:Nat->Prop} {β:Nat->OLoc} (hs:Sim Γ s a w S β):Sim Γ (s.frz k xs) a w S β:=by
 obtain ⟨_,_,fp,h1,h2,_⟩:=hs.mem.ob k _ hk
 have hd:RepDs w S [.sl xs] [(β k).sv]:=⟨fp,h1.repF,fun b hb=>(h2 b hb).1⟩
 have hf:∀y v,RepA w S β y v->RepA w S β (u1q k xs y) v:=by
  intro y v hy
  cases y with
  | ol o =>
   simp only [u1q]
   split
   ·rename_i e
    simp at e
    subst e
    cases hy
    exact .d hd
   ·exact hy
  | op o off=>simp only [u1q]; split; exact .junk; exact hy
  | clo f caps=>simp only [u1q]; split; exact .junk; exact hy
  | _=>exact hy
 have hT:∀o' X,(s.frz k xs).gob o'=some X->∃Y,s.gob o'=some Y/\X=Y.map (u1q k xs):=by
  intro o' X h
  simp only [St.frz,St.gob,E2q,St.map,A7q] at h
  split at h
  ·simp at h
  ·cases hY:s.gob o' with
   | none=>simp only [St.gob] at hY; rw [hY] at h; simp at h
   | some Y=>have hY2:=hY; simp only [St.gob] at hY2; rw [hY2] at h; simp at h; exact ⟨Y,rfl,h.symm⟩
 refine ⟨hs.defers,hs.sz,fun i y hi => ?_,⟨hs.mem.lt,fun o' X ho' => ?_,fun o' X ho' => ?_,fun o1 o2 X1 X2 h1 h2 => ?_,hs.mem.os,hs.mem.tape,hs.mem.output,hs.mem.size,hs.mem.block,hs.mem.sub,hs.mem.sup,hs.mem.fix,fun o' X ho' => ?_,fun o1 o2 X1 X2 h1 h2 => ?_⟩⟩
 ·have:(s.frz k xs).get i=(s.get i).map (·.map (u1q k xs)):=s1q ..
  rw [this] at hi
  cases hY:s.get i with
  | none=>rw [hY] at hi; simp at hi
  | some Y =>
   rw [hY] at hi; simp at hi; subst hi
   obtain ⟨v,hv,hr⟩:=hs.tm i Y hY
   exact ⟨v,hv,hr.map hf fun xs cs h=>h⟩
 ·obtain ⟨Y,hY,rfl⟩:=hT o' X ho'
  exact (hs.mem.ob o' Y hY).map hf (fun _ _=>rfl) (fun _ _=>rfl) fun _ h=>h
 ·obtain ⟨Y,hY,rfl⟩:=hT o' X ho'; exact hs.mem.own o' Y hY
 ·obtain ⟨Y,hY,rfl⟩:=hT o1 X1 h1
  obtain ⟨Y2,hY2,rfl⟩:=hT o2 X2 h2
  exact hs.mem.sep o1 o2 Y Y2 hY hY2
 ·obtain ⟨Y,hY,rfl⟩:=hT o' X ho'; exact hs.mem.clm o' Y hY
 ·obtain ⟨Y,hY,rfl⟩:=hT o1 X1 h1
  obtain ⟨Y2,hY2,rfl⟩:=hT o2 X2 h2
  exact hs.mem.sepc o1 o2 Y Y2 hY hY2
end
theorem RepT.sl_inv {w:World} {xs:List (List Da)} {v:Value} {fp:List Nat} (h:RepT w [.sl xs] [v] fp) (hp:0<xs.length):∃us fi b cap es c E,v = .slice (some ⟨b,0,none⟩) xs.length cap/\RepT w xs.flatten us fi/\xs.length<=cap/\xs.length<=281474976710656 /\
  (∀y∈xs,y.length=es)/\w.heap[b]?=some (.cells c E (0,0))/\us=c.toList.take (xs.length*es)/\fp=b::fi:=by
 cases h with
 | sl0 _=>simp at hp
 | sl1 h0 h1 h2 h3 h4 h5 h6 h7 h8 =>
  cases h8
  subst h1
  exact ⟨_,_,_,_,_,_,_,rfl,h0,h3,h4,h5,h6,h7,by simp⟩
theorem RepT.sl_form {w:World} {xs:List (List Da)} {v:Value} {fp:List Nat} (h:RepT w [.sl xs] [v] fp):∃a cap,v = .slice a xs.length cap:=by
 cases h with
 | sl0 _=>exact ⟨_,_,rfl⟩
 | sl1 h0 h1=>subst h1; exact ⟨_,_,rfl⟩
theorem RepT.one {w:World} {x:Da} {vs:List Value} {fp:List Nat} (h:RepT w [x] vs fp):∃v,vs=[v]:=by
 have:=h.len
 match vs,this with
 | [v],_=>exact ⟨v,rfl⟩
theorem RepT.flat_fp {w:World} {xs:List Da} {vs:List Value} {fp:List Nat} (h:RepT w xs vs fp) (hf:xs.all Da.flat=true):fp=[]:=by
 induction h with
 | nil=>rfl
 | int _ ih=>exact ih (by simpa [Da.flat] using hf)
 | bool _ ih=>exact ih (by simpa [Da.flat] using hf)
 | str _ _ ih=>exact ih (by simpa [Da.flat] using hf)
 | sl0 _ ih=>exact ih (by simpa [Da.flat] using hf)
 | @sl1 ys _ _ _ _ _ _ _ _ _ _ _ _ h1 h2 _ _ _ _ _ _ _ _ =>
  cases ys with
  | nil=>simp at h1; omega
  | cons y ys=>simp [Da.flat] at hf
theorem V5q {xs:List (List Da)} {es n q l:Nat} {c:List Da} (hes:∀y∈xs,y.length=es) (hn:xs[n]?=some c):xs.flatten=((xs.take n).flatten++c.take q)++(((c.drop q).take l)++(c.drop (q+l)++(xs.drop (n+1)).flatten)):=by
 rw [p1q hn]
 conv=>lhs; rw [show c=c.take q++((c.drop q).take l++c.drop (q+l)) by rw [<-bnz,a9z,a9z]]
 simp [a8z]
theorem a8tq {xs:List (List Da)} {n q l:Nat} {c ds:List Da} (hn:xs[n]?=some c):(xs.set n (c.take q++ds++c.drop (q+l))).flatten=((xs.take n).flatten++c.take q)++(ds++(c.drop (q+l)++(xs.drop (n+1)).flatten)):=by
 have hnl:n<xs.length:=(a2z.1 hn).1
 have:=p1q (xs:=xs.set n (c.take q++ds++c.drop (q+l))) (n:=n) (c:=c.take q++ds++c.drop (q+l)) (by simp [hnl])
 rw [this,bpz (aDz n),bqz (by omega)]
 simp [a8z]
section
variable {Γ:Cx} {P:Program} {ops:Array Oper} {rest:List Oper} {o:Oper} {K:St->Prop} {s s0:St} {t:TypeId} {x z:Operand} {av:Operand->Option AV}
theorem aedq {k E es:Nat} {xs:List (List Da)} {e:TypeId} (ho:o.op = .call { callee:=.builtin .len,args := #[x],argTypes := #[t] }) (ht:P.underlying t=some (.slice e)) (hx:av x=some (.one (.ol k))):OpP P o av [(k,.mt E es xs)] (Z xs.length) []:=by
 refine c0q fun a w S β _ hr hu=>⟨goInt xs.length,?_,RepV.int _ _⟩
 have h:=(hr x _ hx (by simp [ho,a6z,Call.operands])).one_inv
 obtain ⟨_,_,_,_,fp,h1,_⟩:=hu (k,.mt E es xs) (by simp)
 obtain ⟨ad,cap,hsv⟩:=h1.sl_form
 generalize hv:a.eval x=v at h
 cases h
 dsimp only at hsv
 rw [hsv] at hv
 simp [execOp,ho,resolve,invoke,builtin,hv,bLz,run_underlying ht]
theorem abJq {k' E es:Nat} {xs:List (List Da)} {k:IntKind} {n:Nat} {e:TypeId} {j:TypeInfo} (ho:o.op = .indexAddr t x z) (ht:P.underlying t=some (.slice e)) (hj:P.info? e=some j) (hes:j.size=es) (hx:av x=some (.one (.ol k'))) (hz:av z=some (I k (n:Int)))
  (hn:n<xs.length):OpP P o av [(k',.mt E es xs)] (.one (.op k' (n*es))) []:=by
 refine c0q fun a w S β _ hr hu=>⟨.pointer (some ⟨(β k').blk,n*es,none⟩),?_,RepV.one .op⟩
 have ez:=(hr z _ hz (by simp [ho,a6z])).int_inv
 have h:=(hr x _ hx (by simp [ho,a6z])).one_inv
 obtain ⟨_,_,_,h2,fp,h1,_⟩:=hu (k',.mt E es xs) (by simp)
 obtain ⟨us,fi,b,cap,es',c,E',hsv,_⟩:=h1.sl_inv (by omega)
 dsimp only at hsv h2
 have hb:=h2 _ _ _ hsv (by omega)
 generalize hv:a.eval x=v at h
 cases h
 rw [hsv] at hv
 simp only [Addr.mk.injEq] at hb
 subst hes
 simp [execOp,ho,hv,ez,bIz,run_underlying ht,asIntOf,sizeOf,typeInfo,hj,hn,Nat.not_le.2 hn,o7q,hb.1]
theorem a9Nq {k off n q E es:Nat} {Z:AV} {zs:List At} {ds c:List Da} {xs:List (List Da)} {j:TypeInfo} (ho:o.op = .store t x z) (hg:o.guard=none) (hd:o.dst=none) (hx:s.ev x=some (.one (.op k off))) (hz:s.ev z=some Z) (hc:Z.cells=some zs) (hds:toDs zs=some ds) (hfl:ds.all Da.flat=true)
  (hk:s.gob k=some (.mt E es xs)) (hj:P.info? t=some j) (hsz:j.size=ds.length) (hn:xs[n]?=some c) (hoff:off=n*es+q) (hq:q+ds.length<=c.length) (hold:((c.drop q).take ds.length).all Da.flat=true) (hpos:0<ds.length)
  (h:d8q Γ P ops rest K (s.mv (killL []) k [] (.mt E es (xs.set n (c.take q++ds++c.drop (q+ds.length)))))):d8q Γ P ops (o::rest) K s:=by
 intro a w S β R hs hR
 refine wpList_plain hg fun K' hK => ?_
 have h1:=(hs.eval hx).one_inv
 have h2:=hs.eval hz
 have hcs:=(h2.cells hc).toDs hds
 have hnl:n<xs.length:=(a2z.1 hn).1
 obtain ⟨m1,m2,hle,m3,fp,hrep,hsub,hnd⟩:=hs.mem.ob k _ hk
 have hcl:c.length=es:=hle c (asz hn)
 obtain ⟨us,fi,b,cap,es',cur,E',hsv,hrows,hcap,h48,hes',hgb,hus,hfpe⟩:=hrep.sl_inv (by omega)
 have hb:=m3 _ _ _ hsv (by omega)
 simp only [Addr.mk.injEq,and_true] at hb
 subst hb
 have hee:es'=es:=by rw [<-hes' c (asz hn),hcl]
 subst hee
 subst hfpe
 generalize hv:a.eval x=v at h1
 cases h1
 rw [V5q (q:=q) (l:=ds.length) hle hn] at hrows
 obtain ⟨v1,v2,f1,f2,hus2,rfl,d1,d2⟩:=hrows.split
 obtain ⟨v3,v4,f3,f4,rfl,rfl,d3,d4⟩:=d2.split
 have hf3:=d3.flat_fp hold
 subst hf3
 have hbn:=aUz.1 hnd
 have hl1:v1.length=off:=by rw [d1.len,a7z,i6q hle (bhz hnl),adz,hcl]; omega
 have hl3:v3.length=ds.length:=by rw [d3.len,adz,alz,hcl]; omega
 have hlz:=hcs.len
 simp only [apz] at hlz
 have hne:n*es'+es'<=xs.length*es':=by rw [<-Nat.succ_mul]; exact aiz _ hnl
 have hul:us.length=xs.length*es':=by rw [hus2]; have:=(d1.app (d3.app d4)).len; rw [<-V5q (q:=q) (l:=ds.length) hle hn,s0q hle] at this; exact this
 have hcz:xs.length*es'<=cur.size:=by
  have:=congrArg List.length hus
  rw [adz,hul] at this
  have h6:cur.toList.length=cur.size:=apz
  omega
 have hst:=run_storeCells_at P (β k).blk off E' (a.eval z).cells.toList 0 cur w hgb (by simp; omega) hcs.oneCells
 simp only [aYz,apz] at hst
 have he:(execOp a.eval o).run P w = .ok .skip (w.setRow (β k).blk (cur.toList.take off++(a.eval z).cells.toList++cur.toList.drop (off+(a.eval z).cells.size)).toArray):=by
  have hszz:(a.eval z).cells.size=j.size:=by omega
  simp only [execOp,ho,hv,bGz,b0z,storeVar,sizeOf,typeInfo,program,axz,bHz,aEz,akz,hj,hszz,ne_eq,not_true_eq_false,if_false]
  rw [hszz] at hst
  simp [hst]
 unfold Oper.wp
 rw [he,Oper.upon_skip,hd]
 generalize hcnew:(cur.toList.take off++(a.eval z).cells.toList++cur.toList.drop (off+(a.eval z).cells.size)).toArray=cnew
 have hkb:(β k).Own (β k).blk:=.inr (hsub _ (by simp))
 have hother:∀b',b'≠(β k).blk->(w.setRow (β k).blk cnew).heap[b']?=w.heap[b']?:=fun b' hb'=>setRow_other w _ b' _ hb'
 have hSo:∀b',S b'->(w.setRow (β k).blk cnew).heap[b']?=w.heap[b']?:=fun b' hb'=>hother b' fun e=>(hs.mem.own k _ hk _ hkb).2.1 (e ▸ hb')
 have hfo:∀b'∈f1++([]++f4),b'≠(β k).blk:=fun b' hb' e=>hbn.1 (by rw [<-e]; exact hb')
 refine hK _ _ (h _ _ S β R (hs.mv (f:=killL []) (fun y v hy=>a1lq hSo (fun _ h=>h) (fun _ _=>⟨rfl,rfl⟩) hy) ⟨rfl,rfl,rfl,by simp [World.setRow]⟩ (fun b' hb' hno=>hother b' fun e=>hno _ hk (e ▸ hkb)) (fun _ _=>rfl) (fun l hl=>(hs.mem.fix k l hl).2) ?_ (fun b' hb'=>⟨by have:=(hs.mem.own k _ hk b' hb').1; simpa [World.setRow] using this,.inl ⟨_,hk,hb'⟩⟩) fun b' hb'=>⟨k,_,.inl rfl,hk,hb'⟩) hR)
 have hcl':(c.take q++ds++c.drop (q+ds.length)).length=es':=by simp; omega
 have hle':∀y∈xs.set n (c.take q++ds++c.drop (q+ds.length)),y.length=es':=fun y hy=>by
  rcases aSz hy with hy | hy
  ·exact hle y hy
  ·rw [hy]; exact hcl'
 refine ⟨m1,by simpa using m2,hle',m3,(β k).blk::(f1++f4),?_,fun b' hb'=>hsub b' (by simpa using hb'),by simpa using hnd⟩
 have hz1:RepT w ds (a.eval z).cells.toList []:=by obtain ⟨f0,hcs,_⟩:=hcs; exact hcs.flatT hfl
 have hnew:RepT (w.setRow (β k).blk cnew) (xs.set n (c.take q++ds++c.drop (q+ds.length))).flatten (v1++((a.eval z).cells.toList++v4)) (f1++([]++f4)):=by
  rw [a8tq hn]
  exact (d1.app (hz1.app d4)).keep fun b' hb'=>hother b' (hfo b' hb')
 rw [hsv]
 have:=RepT.sl1 (w:=w.setRow (β k).blk cnew) (ys:=xs.set n (c.take q++ds++c.drop (q+ds.length))) (n:=xs.length) (cap:=cap) (es:=es') (c:=cnew) (E:=E') (b:=(β k).blk) hnew (by simp) (by omega) hcap h48 hle' (setRow_heap w _ cur _ E' _ hgb) ?_ .nil
 ·simpa using this
 ·have hcur:cur.toList=(v1++(v3++v4))++cur.toList.drop (xs.length*es'):=by rw [<-hus2,hus]; exact (a9z _ _).symm
  have h4:=hul
  rw [hus2] at h4
  simp only [a7z] at h4
  rw [<-hcnew,hcur]
  have e1:((v1++(v3++v4))++cur.toList.drop (xs.length*es')).take off=v1:=by
   rw [a8z]; exact arz hl1
  have e2:((v1++(v3++v4))++cur.toList.drop (xs.length*es')).drop (off+(a.eval z).cells.size)=v4++cur.toList.drop (xs.length*es'):=by
   rw [<-a8z v1,a8z (v1++v3)]
   exact biz (by simp; omega)
  simp only [b9z]
  rw [e1,e2]
  rw [show v1++(a.eval z).cells.toList++(v4++cur.toList.drop (xs.length*es'))=(v1++((a.eval z).cells.toList++v4))++cur.toList.drop (xs.length*es') by simp [a8z]]
  refine (arz ?_).symm
  simp only [a7z,apz]
  omega
theorem ab9q {k off m q E es d:Nat} {xs ys:List (List Da)} {c:List Da} {de:TypeDesc} (ho:o.op = .load t x) (hg:o.guard=none) (hdst:o.dst=some d) (hdn:d<Γ.n) (ht:P.underlying t=some de) (hde:E9q de=false) (hx:s.ev x=some (.one (.op k off))) (hk:s.gob k=some (.mt E es xs)) (hn:xs[m]?=some c) (hq:c[q]?=some (.sl ys)) (hoff:off=m*es+q)
  (h:∀a n cc,d8q Γ P ops rest K ((s.setOb k (.mu E es xs m q a n cc)).upd (some d) (.one (.raw a n cc)) [])):d8q Γ P ops (o::rest) K s:=by
 intro a w S β R hs hR
 refine wpList_plain hg fun K' hK => ?_
 have h1:=(hs.eval hx).one_inv
 have hnl:m<xs.length:=(a2z.1 hn).1
 obtain ⟨m1,m2,hle,m3,fp,hrep,hsub,hnd⟩:=hs.mem.ob k _ hk
 have hcl:c.length=es:=hle c (asz hn)
 have hql:q<c.length:=(a2z.1 hq).1
 obtain ⟨us,fi,b,cap,es',cur,E',hsv,hrows,hcap,h48,hes',hgb,hus,hfpe⟩:=hrep.sl_inv (by omega)
 have hb:=m3 _ _ _ hsv (by omega)
 simp only [Addr.mk.injEq,and_true] at hb
 subst hb
 have hee:es'=es:=by rw [<-hes' c (asz hn),hcl]
 subst hee
 subst hfpe
 generalize hv:a.eval x=v at h1
 cases h1
 have hmid:(c.drop q).take 1=[.sl ys]:=by rw [bcz,bAz,hq]; rfl
 rw [V5q (q:=q) (l:=1) hle hn,hmid] at hrows
 obtain ⟨v1,v2,f1,f2,hus2,rfl,d1,d2⟩:=hrows.split
 obtain ⟨v3,v4,f3,f4,rfl,rfl,d3,d4⟩:=d2.split
 obtain ⟨u,rfl⟩:=d3.one
 have hl1:v1.length=off:=by rw [d1.len,a7z,i6q hle (bhz hnl),adz,hcl]; omega
 obtain ⟨ua,uc,rfl⟩:=d3.sl_form
 have hcell:w.cell? ⟨(β k).blk,off,none⟩=some (.slice ua ys.length uc):=by
  rw [p0q hgb,<-awz]
  have h5:us[off]?=some (.slice ua ys.length uc):=by rw [hus2,avz (by omega),hl1,buz]; rfl
  rw [hus,aWz] at h5
  split at h5
  ·exact h5
  ·simp at h5
 have he:(execOp a.eval o).run P w = .ok (.value (.slice ua ys.length uc)) w:=by
  simp [execOp,ho,hv,bvz,b0z,loadVar,o6q ht,hde,run_load,hcell]
 unfold Oper.wp
 rw [he,Oper.upon_value,hdst]
 have hs1:Sim Γ (s.setOb k (.mu E es' xs m q ua ys.length uc)) a w S β:=hs.setX hk fun hX=>⟨hX,hsub _ (by simp),⟨c,ys,hn,hq⟩,by rw [<-hoff]; exact hcell⟩
 exact hK _ _ (h ua ys.length uc _ _ S β R (hs1.upd (Grow.refl hs1.mem.lt) (RepV.one .raw) (by simpa using hdn) rfl) hR)
theorem RepVs.noObs {w:World} {S:Nat->Prop} {β β':Nat->OLoc} {ys:List AV} {vs:List Value} (h:RepVs w S β ys vs) (hi:AV.idsT ys=[]):RepVs w S β' ys vs:=h.mono (fun _ _=>rfl) (fun _ h=>h) (by simp [hi])
def agJq:Option Addr->Nat
 | some ad=>ad.block
 | none=>0
theorem aaKq {k E es m q n0 c0 E' es':Nat} {a0:Option Addr} {xs ys0 ys1:List (List Da)} {row:List Da} {c:Operand} {ag:List Operand} {ts:Array TypeId} {f:FuncId} {fn:Func} {zs:List AV} {r:AV} (ho:o.op = .call { callee:=.value c,args:=ag.toArray,argTypes:=ts }) (hg:o.guard=none) (hd:o.dst.all (· < Γ.n)=true)
  (hc:s.ev c=some (.one (.d (.fn f)))) (has:p7q s.ev ag=some (.one (.raw a0 n0 c0)::zs)) (hzs:AV.idsT zs=[]) (hk:s.gob k=some (.mu E es xs m q a0 n0 c0)) (hn:xs[m]?=some row) (hq:row[q]?=some (.sl ys0)) (hes0:∀y∈ys0,y.length=es')
  (hf:P.funcs[f]?=some fn) (hb:fn.body.isNone=false) (hname:(fn.name == "runtime.NumGoroutine")=false) (hx:XCall P f (.one (.ol 2000)::zs) r [(2000,.mt E' es' ys0)] [(2000,.mt E' es' ys1)] []) (hr:∀(w w':World) (S S':Nat->Prop) (β β':Nat->OLoc) (v:Value),RepV w S β r v->RepV w' S' β' r v)
  (h:d8q Γ P ops rest K ((s.mv (killL []) k [] (.mt E es (xs.set m (row.take q++[Da.sl ys1]++row.drop (q+1))))).upd o.dst r [])):d8q Γ P ops (o::rest) K s:=by
 intro a w S β R hs hR
 refine wpList_plain hg fun K' hK => ?_
 have hev:=(hs.eval hc).fn_inv
 have h1:=a2Oq (w:=w) (S:=S) (β:=β) (ρ:=a.eval) ag _ (fun x X hx _=>hs.eval hx) has
 have hnl:m<xs.length:=(a2z.1 hn).1
 obtain ⟨⟨m1,m2,hle,m3,fp,hrep,hsub,hnd⟩,hbs,_,hcell⟩:=hs.mem.ob k _ hk
 have hcl:row.length=es:=hle row (asz hn)
 have hql:q<row.length:=(a2z.1 hq).1
 obtain ⟨us,fi,b,cap,es2,cur,E2,hsv,hrows,hcap,h48,hes2,hgb,hus,hfpe⟩:=hrep.sl_inv (by omega)
 have hbb:=m3 _ _ _ hsv (by omega)
 simp only [Addr.mk.injEq,and_true] at hbb
 subst hbb
 have hee:es2=es:=by rw [<-hes2 row (asz hn),hcl]
 subst hee
 subst hfpe
 have hmid:(row.drop q).take 1=[.sl ys0]:=by rw [bcz,bAz,hq]; rfl
 rw [V5q (q:=q) (l:=1) hle hn,hmid] at hrows
 obtain ⟨v1,v2,f1,f2,hus2,rfl,d1,d2⟩:=hrows.split
 obtain ⟨v3,v4,f3,f4,rfl,rfl,d3,d4⟩:=d2.split
 obtain ⟨u,rfl⟩:=d3.one
 have hl1:v1.length=m*es2+q:=by rw [d1.len,a7z,i6q hle (bhz hnl),adz,hcl]; omega
 have hu:u = .slice a0 n0 c0:=by
  rw [p0q hgb,<-awz] at hcell
  have h5:us[m*es2+q]?=some u:=by rw [hus2,avz (by omega),hl1,buz]; rfl
  rw [hus,aWz] at h5
  split at h5
  ·rw [h5] at hcell; simpa using hcell
  ·simp at h5
 subst hu
 have hbn:=aUz.1 hnd
 have hn1:=aoz.1 hbn.2
 have hn2:=aoz.1 hn1.2.1
 let lc:OLoc:={ blk:=agJq a0,sa:=a0,sn:=n0,sc:=c0,has:=false,sub:=f3,clm:=[] }
 have hlsv:lc.sv = .slice a0 n0 c0:=rfl
 let βc:Nat->OLoc:=fun p=>if p=2000 then lc else β p
 have hβ2:βc 2000=lc:=if_pos rfl
 have hf3own:∀b∈f3,(β k).Own b:=fun b hb=>.inr (hsub b (by simp [hb]))
 have hys:ys0.length<=281474976710656:=by
  by_cases h0:0<ys0.length
  ·obtain ⟨_,_,_,_,_,_,_,_,_,_,h,_⟩:=d3.sl_inv h0; exact h
  ·omega
 have hargs:RepVs w S βc (.one (.ol 2000)::zs) (ag.map a.eval):=by
  generalize hvs:ag.map a.eval=vs at h1
  cases h1 with
  | one h5 h6 =>
   cases h5
   refine .one ?_ (h6.noObs hzs)
   have:(Value.slice a0 n0 c0)=(βc 2000).sv:=by rw [hβ2]; rfl
   rw [this]; exact .ol
 have hown:∀b,lc.Own b->b∈f3:=fun b hb=>by
  rcases hb with ⟨h,_⟩ | hb
  ·simp [lc] at h
  ·exact hb
 have hin:R9q w S βc [(2000,.mt E' es' ys0)]:=by
  refine ⟨fun p hp => ?_,fun p hp b hb => ?_,fun p hp p' hp' _ _ _ => ?_,fun p hp b hb => ?_,fun p hp p' hp' _ _ _ => ?_⟩
  ·simp at hp; subst hp
   rw [hβ2]
   refine ⟨rfl,hys,hes0,fun ad nn cc hsv hpos => ?_,f3,d3,fun b hb=>hb,hn2.1⟩
   rw [hlsv] at hsv
   cases hsv
   cases d3 with
   | sl0 _=>omega
   | sl1=>rfl
  ·simp at hp; subst hp
   rw [hβ2] at hb
   have:=hs.mem.own k _ hk b (hf3own b (hown b hb))
   exact ⟨this.1,this.2.1⟩
  ·simp at hp hp'; subst hp; subst hp'; rfl
  ·simp at hp; subst hp; rw [hβ2] at hb; cases hb
  ·simp at hp hp'; subst hp; subst hp'; rfl
 have hpass:∀b,i9q [(2000,.mt E' es' ys0)] βc b->b∈f3:=fun b ⟨p,hp,hb⟩=>by
  simp at hp; subst hp; rw [hβ2] at hb; exact hown b hb
 have he:(execOp a.eval o).run P w = .ok (.enter f (ag.map a.eval).toArray) w:=by
  simp only [execOp,ho,resolve,hev,Deferred.ofValue,axz,aEz,akz,invoke,aPz]
  rw [show (#[]:Array Value)++(ag.map a.eval).toArray ++ #[]=(ag.map a.eval).toArray by simp]
  exact S8q hf hb hname _ _
 unfold Oper.wp
 rw [he,Oper.upon_enter]
 refine (hx w S βc _ hs.mem.lt hargs hin).mono ?_
 rintro e w' ⟨v,S',β',rfl,hG,hrv⟩
 have hkeep:∀b,b<w.heap.size->b∉f3->w'.heap[b]?=w.heap[b]?:=fun b hb hn=>hG.block b hb fun hp=>hn (hpass b hp)
 have hlt:∀b,(β k).Own b->b<w.heap.size:=fun b hb=>(hs.mem.own k _ hk b hb).1
 have hS:∀b,S b->w'.heap[b]?=w.heap[b]?:=fun b hb=>hkeep b (hs.mem.lt b hb) fun hm=>(hs.mem.own k _ hk b (hf3own b hm)).2.1 hb
 have hloc:β' 2000=lc:=by rw [hG.loc 2000 (by simp),hβ2]
 obtain ⟨_,_,hley,_,f5,hrep5,hsub5,hnd5⟩:=hG.ob (2000,.mt E' es' ys1) (by simp)
 dsimp only at hrep5 hsub5
 rw [hloc] at hrep5 hsub5
 have hsub5':∀b∈f5,b∈f3:=hsub5
 have hmv:=hs.mv (w':=w') (β':=β) (f:=killL []) (k:=k) (ks:=[]) (X:=.mt E es2 (xs.set m (row.take q++[Da.sl ys1]++row.drop (q+1)))) (fun y v hy=>a1lq hS (fun _ h=>h) (fun _ _=>⟨rfl,rfl⟩) hy) ⟨hG.os,hG.tape,hG.output,hG.size⟩
  (fun b hb hno=>hkeep b hb fun hm=>hno _ hk (hf3own b hm)) (fun _ _=>rfl) (fun l hl=>(hs.mem.fix k l hl).2) (by
   have hcl':(row.take q++[Da.sl ys1]++row.drop (q+1)).length=es2:=by simp; omega
   have hle':∀y∈xs.set m (row.take q++[Da.sl ys1]++row.drop (q+1)),y.length=es2:=fun y hy=>by
    rcases aSz hy with hy | hy
    ·exact hle y hy
    ·rw [hy]; exact hcl'
   refine ⟨m1,by simpa using m2,hle',m3,(β k).blk::(f1++(f5++f4)),?_,fun b hb=>hsub b ?_,?_⟩
   ·have hnew:RepT w' (xs.set m (row.take q++[Da.sl ys1]++row.drop (q+1))).flatten (v1++([.slice a0 n0 c0]++v4)) (f1++(f5++f4)):=by
     rw [a8tq (l:=1) hn]
     refine (d1.keep fun b hb=>hkeep b (hlt b (.inr (hsub b (by simp [hb])))) fun hm => ?_).app (hrep5.app (d4.keep fun b hb=>hkeep b (hlt b (.inr (hsub b (by simp [hb])))) fun hm => ?_))
     ·exact hn1.2.2 b hb b (by simp [hm]) rfl
     ·exact hn2.2.2 b hm b hb rfl
    have hgb':w'.heap[(β k).blk]?=some (.cells cur E2 (0,0)):=(hkeep _ (hlt _ (.inr hbs)) fun hm=>hbn.1 (by simp [hm])).trans hgb
    have h9:=RepT.sl1 (cap:=cap) (es:=es2) (c:=cur) (E:=E2) (b:=(β k).blk) (n:=xs.length) hnew (by simp) (by omega) hcap h48 hle' hgb' (by rw [<-hus,hus2]) RepT.nil
    rw [hsv]
    simpa using h9
   ·simp only [b3z,a1z] at hb ⊢
    rcases hb with hb | hb | hb | hb
    ·exact .inl hb
    ·exact .inr (.inl hb)
    ·exact .inr (.inr (.inl (hsub5' b hb)))
    ·exact .inr (.inr (.inr hb))
   ·refine aUz.2 ⟨fun hm=>hbn.1 ?_,aoz.2 ⟨hn1.1,aoz.2 ⟨hnd5,hn2.2.1,fun b hb b' hb' e=>hn2.2.2 b (hsub5' b hb) b' hb' e⟩,fun b hb b' hb' e => ?_⟩⟩
    ·simp only [a1z] at hm ⊢
     rcases hm with hm | hm | hm
     ·exact .inl hm
     ·exact .inr (.inl (hsub5' _ hm))
     ·exact .inr (.inr hm)
    ·rcases a1z.1 hb' with hb' | hb'
     ·exact hn1.2.2 b hb b' (by simp [hsub5' _ hb']) e
     ·exact hn1.2.2 b hb b' (by simp [hb']) e)
  (fun b hb=>⟨aCz (hlt b hb) hG.size,.inl ⟨_,hk,hb⟩⟩) fun b hb=>⟨k,_,.inl rfl,hk,hb⟩
 have hput:=hmv.upd (dst:=o.dst) (y:=r) (v:=v) (nob:=[]) (Grow.refl hmv.mem.lt) (hr _ _ _ _ _ _ _ hrv) hd rfl
 exact hK _ _ (h _ _ S β R hput hR)
section
variable {tab:List (Nat×TI)} {i:TI}
theorem afFq (hT:TabOk P tab) {k E es:Nat} {xs:List (List Da)} {e:Nat} (ho:o.op = .call { callee:=.builtin .len,args := #[x],argTypes := #[t] }) (hx:s.ev x=some (.one (.ol k))) (hk:s0.gob k=some (.mt E es xs)) (ht:a1q tab t=some i) (hp:i.pr=4) (he:i.el=some e):OpS P o s s0 (Z xs.length) []:=by
 obtain ⟨d,j,hd,hj,h1,h2,h3,h4,h5,h6,h7⟩:=b2q (hT t i ht)
 have:=h5q (h4.trans he) (h6.trans hp); subst this
 exact ⟨_,aedq ho hd hx,hk,trivial⟩
theorem acrq (hT:TabOk P tab) {k' E es:Nat} {xs:List (List Da)} {k:IntKind} {n:Nat} {e:Nat} {i2:TI} (ho:o.op = .indexAddr t x z) (ht:a1q tab t=some i) (hp:i.pr=4) (he:i.el=some e) (ht2:a1q tab e=some i2) (hx:s.ev x=some (.one (.ol k'))) (hk:s0.gob k'=some (.mt E es xs)) (h2:i2.n=es) (hz:s.ev z=some (I k (n:Int))) (hn:n<xs.length):OpS P o s s0 (.one (.op k' (n*es))) []:=by
 obtain ⟨d,j,hd,hj,g1,g2,g3,g4,g5,g6,g7⟩:=b2q (hT t i ht)
 obtain ⟨d2,j2,hd2,hj2,f1,f2,f3,f4,f5,f6,f7⟩:=b2q (hT e i2 ht2)
 have:=h5q (g4.trans he) (g6.trans hp); subst this
 exact ⟨_,abJq ho hd hj2 (f2.trans h2) hx hz hn,hk,trivial⟩
end
theorem acKq {d:Nat} {xs:List (List Da)} {e t':TypeId} (ho:o.op = .binOp .eql t x z t') (hg:o.guard=none) (hdst:o.dst=some d) (hdn:d<Γ.n) (ht:P.underlying t=some (.slice e)) (hx:s.ev x=some (L xs)) (hz:s.ev z=some (.one .e0))
  (h1:xs.flatten=[]->d8q Γ P ops rest K (s.upd (some d) (B true) [])) (h2:d8q Γ P ops rest K (s.upd (some d) (B false) [])):d8q Γ P ops (o::rest) K s:=by
 intro a w S β R hs hR
 refine wpList_plain hg fun K' hK => ?_
 have hX:=(hs.eval hx).one_inv
 have hZ:=(hs.eval hz).one_inv
 generalize hv:a.eval x=v at hX
 generalize hw:a.eval z=u at hZ
 cases hZ
 cases hX with
 | d hX =>
  obtain ⟨ad,cap,rfl,_,_,hc⟩:=hX.sl_inv
  have he:(execOp a.eval o).run P w = .ok (.value (.bool ad.isNone)) w:=by
   have hb:∀p q,binOp .eql t p q=(do pure (.bool (<-Op.equal t p q)))\/True:=fun _ _=>.inr trivial
   simp [execOp,ho,hv,hw,binOp,eqGuard,run_equal_slice_nil w t e ad xs.length cap ht]
  unfold Oper.wp
  rw [he,Oper.upon_value,hdst]
  cases ad with
  | none =>
   rcases hc with hc | ⟨_,_,_,_,hc,_⟩
   ·exact hK _ _ (h1 hc _ _ S β R (hs.upd (Grow.refl hs.mem.lt) (RepV.bool _) (by simpa using hdn) rfl) hR)
   ·cases hc
  | some ad=>exact hK _ _ (h2 _ _ S β R (hs.upd (Grow.refl hs.mem.lt) (RepV.bool _) (by simpa using hdn) rfl) hR)
end
mutual
def AV.kill (ks:List Nat):AV->AV
 | .one x=>.one (killL ks x)
 | .dat xs=>.dat xs
 | .agg xs=>.agg (xs.map (killL ks))
 | .tup ys=>.tup (AV.killT ks ys)
def AV.killT (ks:List Nat):List AV->List AV
 | []=>[]
 | y::r=>y.kill ks::AV.killT ks r
end
def Ob.kill (ks:List Nat):Ob->Ob
 | .var cs=>.var (cs.map (killL ks))
 | X=>X
theorem a0rq (a b:List Nat) (x:At):killL b (killL a x)=killL (a++b) x:=by
 unfold killL
 by_cases h1:x.ids.any a.contains=true
 ·rw [if_pos h1]
  have h2:x.ids.any (a++b).contains=true:=by
   obtain ⟨o,ho,h⟩:=ajz.1 h1
   exact ajz.2 ⟨o,ho,by simp at h ⊢; exact .inl h⟩
  rw [if_pos h2]; simp [At.ids]
 ·rw [if_neg h1]
  by_cases h2:x.ids.any b.contains=true
  ·have h3:x.ids.any (a++b).contains=true:=by
    obtain ⟨o,ho,h⟩:=ajz.1 h2
    exact ajz.2 ⟨o,ho,by simp at h ⊢; exact .inr h⟩
   rw [if_pos h2,if_pos h3]
  ·have h3:¬x.ids.any (a++b).contains=true:=fun h=>by
    obtain ⟨o,ho,h⟩:=ajz.1 h
    simp at h
    rcases h with h | h
    ·exact h1 (ajz.2 ⟨o,ho,by simpa using h⟩)
    ·exact h2 (ajz.2 ⟨o,ho,by simpa using h⟩)
   rw [if_neg h2,if_neg h3]
theorem a0zq {a b:List Nat} (h:∀o,o∈a↔o∈b) (x:At):killL a x=killL b x:=by
 unfold killL
 have:x.ids.any a.contains=x.ids.any b.contains:=by
  congr 1
  funext o
  rw [Bool.eq_iff_iff]
  simpa using h o
 rw [this]
theorem a3Vq {ks:List Nat} {x:At} (h:∀o∈x.ids,o∉ks):killL ks x=x:=by
 unfold killL
 rw [if_neg]
 intro hc
 obtain ⟨o,ho,h2⟩:=ajz.1 hc
 exact h o ho (by simpa using h2)
theorem AV.mem_idsL {xs:List At} {o:Nat}:o∈AV.idsL xs↔∃x∈xs,o∈x.ids:=by
 induction xs with
 | nil=>simp [AV.idsL]
 | cons x r ih=>simp [AV.idsL,ih]
mutual
theorem AV.kill_kill (a b:List Nat):∀(x:AV),(x.kill a).kill b=x.kill (a++b)
 | .one x=>by simp only [AV.kill,a0rq]
 | .dat xs=>rfl
 | .agg xs=>by simp only [AV.kill,List.map_map]; congr 1; exact anz fun x _=>a0rq a b x
 | .tup ys=>by simp only [AV.kill,AV.killT_killT a b ys]
theorem AV.killT_killT (a b:List Nat):∀(ys:List AV),AV.killT b (AV.killT a ys)=AV.killT (a++b) ys
 | []=>rfl
 | y::r=>by simp only [AV.killT,AV.kill_kill a b y,AV.killT_killT a b r]
end
mutual
theorem AV.kill_congr {a b:List Nat} (h:∀o,o∈a↔o∈b):∀(x:AV),x.kill a=x.kill b
 | .one x=>by simp only [AV.kill,a0zq h]
 | .dat xs=>rfl
 | .agg xs=>by simp only [AV.kill]; congr 1; exact anz fun x _=>a0zq h x
 | .tup ys=>by simp only [AV.kill,AV.killT_congr h ys]
theorem AV.killT_congr {a b:List Nat} (h:∀o,o∈a↔o∈b):∀(ys:List AV),AV.killT a ys=AV.killT b ys
 | []=>rfl
 | y::r=>by simp only [AV.killT,AV.kill_congr h y,AV.killT_congr h r]
end
mutual
theorem AV.kill_id {ks:List Nat}:∀{x:AV},(∀o∈x.ids,o∉ks)->x.kill ks=x
 | .one x,h=>by simp only [AV.kill]; rw [a3Vq h]
 | .dat xs,_=>rfl
 | .agg xs,h=>by
  simp only [AV.kill]
  congr 1
  have:∀x∈xs,killL ks x=x:=fun x hx=>a3Vq fun o ho=>h o (by simp only [AV.ids]; exact AV.mem_idsL.2 ⟨x,hx,ho⟩)
  calc xs.map (killL ks)=xs.map id:=anz this
   _=xs:=by simp
 | .tup ys,h=>by simp only [AV.kill]; rw [AV.killT_id h]
theorem AV.killT_id {ks:List Nat}:∀{ys:List AV},(∀o∈AV.idsT ys,o∉ks)->AV.killT ks ys=ys
 | [],_=>rfl
 | y::r,h=>by simp only [AV.killT]; rw [AV.kill_id fun o ho=>h o (by simp [AV.idsT,ho]),AV.killT_id fun o ho=>h o (by simp [AV.idsT,ho])]
end
theorem AV.kill_swap (a b:List Nat) (x:AV):(x.kill a).kill b=(x.kill b).kill a:=by
 rw [AV.kill_kill,AV.kill_kill]
 exact AV.kill_congr (fun o=>by simp [or_comm]) x
theorem Ob.kill_kill (a b:List Nat) (X:Ob):(X.kill a).kill b=X.kill (a++b):=by
 cases X <;> simp only [Ob.kill]
 simp only [List.map_map]; congr 1; exact anz fun x _=>a0rq a b x
theorem Ob.kill_congr {a b:List Nat} (h:∀o,o∈a↔o∈b) (X:Ob):X.kill a=X.kill b:=by
 cases X <;> simp only [Ob.kill]
 congr 1; exact anz fun x _=>a0zq h x
theorem Ob.kill_swap (a b:List Nat) (X:Ob):(X.kill a).kill b=(X.kill b).kill a:=by
 rw [Ob.kill_kill,Ob.kill_kill]
 exact Ob.kill_congr (fun o=>by simp [or_comm]) X
theorem Ob.kill_id {ks:List Nat} {X:Ob} (h:∀o∈X.ids,o∉ks):X.kill ks=X:=by
 cases X with
 | var cs =>
  simp only [Ob.kill]
  congr 1
  have:∀x∈cs,killL ks x=x:=fun x hx=>a3Vq fun o ho=>h o (by simp only [Ob.ids]; exact AV.mem_idsL.2 ⟨x,hx,ho⟩)
  calc cs.map (killL ks)=cs.map id:=anz this
   _=cs:=by simp
 | _=>rfl
section
variable {w w':World} {S S':Nat->Prop} {β β':Nat->OLoc} {ks:List Nat}
theorem RepAs.killA (hk:∀b,S b->w'.heap[b]?=w.heap[b]?) (hs:∀b,S b->S' b) (hβ:∀o,o∉ks->β' o=β o) {xs:List At} {vs:List Value} (h:RepAs w S β xs vs):RepAs w' S' β' (xs.map (killL ks)) vs :=
 h.map (RepA.killL hk hs hβ)
theorem RepVs.killV (hk:∀b,S b->w'.heap[b]?=w.heap[b]?) (hs:∀b,S b->S' b) (hβ:∀o,o∉ks->β' o=β o) {ys:List AV} {vs:List Value} (h:RepVs w S β ys vs):RepVs w' S' β' (AV.killT ks ys) vs:=by
 induction h with
 | nil=>exact .nil
 | one h _ ih=>exact .one (RepA.killL hk hs hβ _ _ h) ih
 | dat h _ ih=>exact .dat (h.mono hk hs) ih
 | agg h _ ih=>exact .agg (h.killA hk hs hβ) ih
 | tup _ _ ih1 ih2=>exact .tup ih1 ih2
theorem RepV.killV (hk:∀b,S b->w'.heap[b]?=w.heap[b]?) (hs:∀b,S b->S' b) (hβ:∀o,o∉ks->β' o=β o) {y:AV} {v:Value} (h:RepV w S β y v):RepV w' S' β' (y.kill ks) v:=RepVs.killV hk hs hβ h
theorem ObRep.killO {l:OLoc} {X:Ob} (hb:∀b,l.Own b->w'.heap[b]?=w.heap[b]?) (hk:∀b,S b->w'.heap[b]?=w.heap[b]?) (hs:∀b,S b->S' b) (hβ:∀o,o∉ks->β' o=β o) (h:ObRep w S β l X):ObRep w' S' β' l (X.kill ks):=by
 cases X with
 | var cs =>
  obtain ⟨h1,c,E,h2,h3⟩:=h
  exact ⟨h1,c,E,(hb _ (.inl ⟨h1,rfl⟩)).trans h2,h3.killA hk hs hβ⟩
 | _=>exact h.mono hb hk hs (by simp [Ob.ids])
end
def OpX (n:Nat) (P:Program) (o:Oper) (av:Operand->Option AV) (us I:List (Nat×Ob)) (y:AV) (O:List (Nat×Ob)) (mv:List Nat):Prop :=
 ∀(a:Act) (w:World) (S:Nat->Prop) (β:Nat->OLoc),a.defers=[]->a.tmps.size=n->(∀b,S b->b<w.heap.size)->(∀x X,av x=some X->x∈o.op.operands->RepV w S β X (a.eval x))->R9q w S β (us++I) ->
  ∀(K:Act->World->Prop) (Q:Exit->Act->World->Prop),(∀v w' S' β',GrowX w S β I O mv w' S' β'->RepV w' S' β' y v->K (a.put o.dst v) w')->o.wp P a w K Q
inductive EX where
 | run (av:Operand->Option AV) (us I:List (Nat×Ob)) (y:AV) (O:List (Nat×Ob)) (mv:List Nat)
 | skip
def EX.y:EX->AV
 | .run _ _ _ y _ _=>y
 | .skip=>.tup []
def EX.O:EX->List (Nat×Ob)
 | .run _ _ _ _ O _=>O
 | .skip=>[]
def EX.I:EX->List (Nat×Ob)
 | .run _ _ I _ _ _=>I
 | .skip=>[]
def EX.us:EX->List (Nat×Ob)
 | .run _ us _ _ _ _=>us
 | .skip=>[]
def EX.mv:EX->List Nat
 | .run _ _ _ _ _ mv=>mv
 | .skip=>[]
def EX.drop (e:EX):List Nat:=j3q e.I e.O
def EX.ks (e:EX):List Nat:=e.mv++e.drop
def EX.tch (e:EX):List Nat:=e.I.map (·.1)++(e.O.map (·.1)++e.mv)
def H5q:List (Nat×Ob)->List Nat
 | []=>[]
 | p::r=>p.1::(p.2.ids++H5q r)
def a58q (av:Operand->Option AV):List Operand->List Nat
 | []=>[]
 | x::r=>(match av x with
  | some X=>X.ids
  | none=>[])++a58q av r
def EX.keys:EX->List Nat
 | .run _ us I _ O mv=>us.map (·.1)++(I.map (·.1)++(O.map (·.1)++mv))
 | .skip=>[]
def EX.all (o:Oper) (e:EX):List Nat:=match e with
 | .run av us I y O mv=>H5q us++(H5q I++(H5q O++(mv++(y.ids++a58q av o.op.operands.toList))))
 | .skip=>[]
theorem J3q {l:List (Nat×Ob)} {p:Nat×Ob} (h:p∈l):p.1∈H5q l/\∀o∈p.2.ids,o∈H5q l:=by
 induction l with
 | nil=>cases h
 | cons q r ih =>
  rcases b3z.1 h with rfl | h
  ·exact ⟨by simp [H5q],fun o ho=>by simp [H5q,ho]⟩
  ·exact ⟨by simp [H5q,(ih h).1],fun o ho=>by simp [H5q,(ih h).2 o ho]⟩
theorem ac4q {av:Operand->Option AV} {x:Operand} {X:AV} {l:List Operand} (hx:x∈l) (h:av x=some X):∀o∈X.ids,o∈a58q av l:=by
 induction l with
 | nil=>cases hx
 | cons y r ih =>
  intro o ho
  rcases b3z.1 hx with rfl | hx
  ·simp [a58q,h,ho]
  ·simp [a58q,ih hx o ho]
def gE (o:Oper) (e:EX) (g:Nat->Option AV):Nat->Option AV:=fun t=>if o.dst=some t then some e.y else (g t).map (·.kill e.ks)
def TE (e:EX) (T:Nat->Option Ob):Nat->Option Ob:=fun q=>(a1q e.O q).or (if q∈e.drop then none else (T q).map (·.kill e.ks))
structure OInst (n:Nat) (P:Program) (o:Oper) (e:EX):Prop where
 dst:o.dst.all (· < n)=true
 run:∀av us I y O mv,e = .run av us I y O mv->OpX n P o av us I y O mv/\(∀m∈mv,m<2000)/\∀p∈O,(∃q∈I,q.1=p.1)\/p.1∈mv
structure App (ops:Array Oper) (o:Oper) (e:EX) (g:Nat->Option AV) (T:Nat->Option Ob):Prop where
 run:∀av us I y O mv,e = .run av us I y O mv->(o.guard=none\/∃j want d,o.guard=some (j,want)/\(ops[j]?).bind (·.dst)=some d/\g d=some (B want)) /\
  (∀x X,av x=some X->x∈o.op.operands->∃K Z,evF g x=some Z/\Z.kill K=X)/\(∀p∈us++I,∃K Z,T p.1=some Z/\Z.kill K=p.2)/\∀m∈mv,(∃p∈I,p.1=m)\/T m=none
 skip:e = .skip->∃j want d,o.guard=some (j,want)/\(ops[j]?).bind (·.dst)=some d/\(g d=some (B (!want))\/g d=some (.tup []))
structure a3gq (ops:Array Oper) (o1:Oper) (e1:EX) (o2:Oper) (e2:EX):Prop where
 s1:∀t,o1.dst=some t->t∉h6q ops o2
 s2:∀t,o2.dst=some t->t∉h6q ops o1
 t1:∀q∈e1.tch,q∉e2.keys
 t2:∀q∈e2.tch,q∉e1.keys
 k1:∀q∈e1.ks,q∉e2.all o2
 k2:∀q∈e2.ks,q∉e1.all o1
theorem EX.ks_tch {e:EX} {q:Nat} (h:q∈e.ks):q∈e.tch:=by
 rcases a1z.1 h with h | h
 ·exact acz _ (acz _ h)
 ·unfold EX.drop j3q at h
  exact ahz _ (aVz.1 h).1
theorem EX.tch_keys {e:EX} {q:Nat} (h:q∈e.tch):q∈e.keys:=by
 cases e with
 | skip=>simp [EX.tch,EX.I,EX.O,EX.mv] at h
 | run av us I y O mv =>
  simp only [EX.tch,EX.I,EX.O,EX.mv,a1z] at h
  simp only [EX.keys,a1z]
  exact .inr h
theorem ad7q {Z:AV} {K:List Nat} {b:Bool} (h:Z.kill K=B b):Z=B b:=by
 cases Z with
 | one x =>
  simp only [AV.kill,AV.one.injEq] at h
  unfold killL at h
  split at h
  ·cases h
  ·rw [h]
 | _=>simp [AV.kill] at h
theorem a9Zq {Z:AV} {K:List Nat} (h:Z.kill K = .tup []):Z = .tup []:=by
 cases Z with
 | tup ys =>
  simp only [AV.kill,AV.tup.injEq] at h
  cases ys with
  | nil=>rfl
  | cons y r=>simp [AV.killT] at h
 | _=>simp [AV.kill] at h
section
variable {ops:Array Oper} {o1 o2:Oper} {e1 e2:EX} {g:Nat->Option AV} {T:Nat->Option Ob}
theorem z8q {o:Oper} {j d:Nat} {want:Bool} (hg:o.guard=some (j,want)) (hj:(ops[j]?).bind (·.dst)=some d):d∈h6q ops o:=by
 simp only [h6q,a1kq,hg,hj]; simp
theorem App.ahead (hap:a3gq ops o1 e1 o2 e2) (h:App ops o2 e2 (gE o1 e1 g) (TE e1 T)):App ops o2 e2 g T:=by
 have hg0:∀t∈h6q ops o2,gE o1 e1 g t=(g t).map (·.kill e1.ks):=fun t ht=>if_neg fun hd=>hap.s1 t hd ht
 have hT0:∀q∈e2.keys,TE e1 T q=(T q).map (·.kill e1.ks):=fun q hq=>by
  have h1:a1q e1.O q=none:=Z1q fun p hp hpe=>hap.t1 q (by
   subst hpe; exact acz _ (ahz _ (a4z.2 ⟨p,hp,rfl⟩))) hq
  have h2:q∉e1.drop:=fun hd=>hap.t1 q (EX.ks_tch (acz _ hd)) hq
  simp [TE,h1,h2]
 have hB:∀d b,d∈h6q ops o2->gE o1 e1 g d=some (B b)->g d=some (B b):=fun d b hd hh=>by
  rw [hg0 d hd] at hh
  cases hz:g d with
  | none=>rw [hz] at hh; simp at hh
  | some Z=>rw [hz] at hh; simp at hh; rw [ad7q hh]
 have hU:∀d,d∈h6q ops o2->gE o1 e1 g d=some (.tup [])->g d=some (.tup []):=fun d hd hh=>by
  rw [hg0 d hd] at hh
  cases hz:g d with
  | none=>rw [hz] at hh; simp at hh
  | some Z=>rw [hz] at hh; simp at hh; rw [a9Zq hh]
 refine ⟨fun av us I y O mv he => ?_,fun he => ?_⟩
 ·obtain ⟨h1,h2,h3,h4⟩:=h.run av us I y O mv he
  subst he
  refine ⟨h1.imp id fun ⟨j,want,d,a,b,c⟩=>⟨j,want,d,a,b,hB d want (z8q a b) c⟩,fun x X hx hxm => ?_,fun p hp => ?_,fun m hm=>(h4 m hm).imp id fun hn => ?_⟩
  ·obtain ⟨K,Z,hz,hk⟩:=h2 x X hx hxm
   cases x with
   | tmp t =>
    have htn:t∈h6q ops o2:=by simp only [h6q,a1z]; exact .inl (.inr (a1Eq hxm))
    simp only [evF] at hz ⊢
    rw [hg0 t htn] at hz
    cases hgt:g t with
    | none=>rw [hgt] at hz; simp at hz
    | some Z0 =>
     rw [hgt] at hz; simp at hz
     exact ⟨e1.ks++K,Z0,rfl,by rw [<-AV.kill_kill,hz,hk]⟩
   | _=>exact ⟨K,Z,hz,hk⟩
  ·obtain ⟨K,Z,hz,hk⟩:=h3 p hp
   have hq:p.1∈EX.keys (.run av us I y O mv):=by
    simp only [EX.keys,a1z,a4z]
    rcases a1z.1 hp with hp | hp
    ·exact .inl ⟨p,hp,rfl⟩
    ·exact .inr (.inl ⟨p,hp,rfl⟩)
   rw [hT0 _ hq] at hz
   cases hgt:T p.1 with
   | none=>rw [hgt] at hz; simp at hz
   | some Z0 =>
    rw [hgt] at hz; simp at hz
    exact ⟨e1.ks++K,Z0,rfl,by rw [<-Ob.kill_kill,hz,hk]⟩
  ·rw [hT0 m (by simp only [EX.keys,a1z]; exact .inr (.inr (.inr hm)))] at hn
   simpa using hn
 ·obtain ⟨j,want,d,a,b,c⟩:=h.skip he
  exact ⟨j,want,d,a,b,c.imp (hB d _ (z8q a b)) (hU d (z8q a b))⟩
theorem App.behind (hap:a3gq ops o1 e1 o2 e2) (h:App ops o1 e1 g T):App ops o1 e1 (gE o2 e2 g) (TE e2 T):=by
 have hg0:∀t∈h6q ops o1,gE o2 e2 g t=(g t).map (·.kill e2.ks):=fun t ht=>if_neg fun hd=>hap.s2 t hd ht
 have hT0:∀q∈e1.keys,TE e2 T q=(T q).map (·.kill e2.ks):=fun q hq=>by
  have h1:a1q e2.O q=none:=Z1q fun p hp hpe=>hap.t2 q (by
   subst hpe; exact acz _ (ahz _ (a4z.2 ⟨p,hp,rfl⟩))) hq
  have h2:q∉e2.drop:=fun hd=>hap.t2 q (EX.ks_tch (acz _ hd)) hq
  simp [TE,h1,h2]
 have hB:∀d b,d∈h6q ops o1->g d=some (B b)->gE o2 e2 g d=some (B b):=fun d b hd hh=>by rw [hg0 d hd,hh]; rfl
 have hU:∀d,d∈h6q ops o1->g d=some (.tup [])->gE o2 e2 g d=some (.tup []):=fun d hd hh=>by rw [hg0 d hd,hh]; rfl
 refine ⟨fun av us I y O mv he => ?_,fun he => ?_⟩
 ·obtain ⟨h1,h2,h3,h4⟩:=h.run av us I y O mv he
  subst he
  refine ⟨h1.imp id fun ⟨j,want,d,a,b,c⟩=>⟨j,want,d,a,b,hB d want (z8q a b) c⟩,fun x X hx hxm => ?_,fun p hp => ?_,fun m hm=>(h4 m hm).imp id fun hn => ?_⟩
  ·obtain ⟨K,Z,hz,hk⟩:=h2 x X hx hxm
   have hXd:X.kill e2.ks=X:=AV.kill_id fun q hq hqk=>hap.k2 q hqk (by
    simp only [EX.all,a1z]; exact .inr (.inr (.inr (.inr (.inr (ac4q (by simpa using hxm) hx q hq))))))
   cases x with
   | tmp t =>
    have htn:t∈h6q ops o1:=by simp only [h6q,a1z]; exact .inl (.inr (a1Eq hxm))
    simp only [evF] at hz ⊢
    rw [hg0 t htn,hz]
    exact ⟨K,_,rfl,by rw [AV.kill_swap,hk,hXd]⟩
   | _=>exact ⟨K,Z,hz,hk⟩
  ·obtain ⟨K,Z,hz,hk⟩:=h3 p hp
   have hq:p.1∈EX.all o1 (.run av us I y O mv)/\∀q∈p.2.ids,q∈EX.all o1 (.run av us I y O mv):=by
    simp only [EX.all,a1z]
    rcases a1z.1 hp with hp | hp
    ·exact ⟨.inl (J3q hp).1,fun q hq=>.inl ((J3q hp).2 q hq)⟩
    ·exact ⟨.inr (.inl (J3q hp).1),fun q hq=>.inr (.inl ((J3q hp).2 q hq))⟩
   have hXd:p.2.kill e2.ks=p.2:=Ob.kill_id fun q hqq hqk=>hap.k2 q hqk (hq.2 q hqq)
   have hq1:p.1∈EX.keys (.run av us I y O mv):=by
    simp only [EX.keys,a1z,a4z]
    rcases a1z.1 hp with hp | hp
    ·exact .inl ⟨p,hp,rfl⟩
    ·exact .inr (.inl ⟨p,hp,rfl⟩)
   rw [hT0 _ hq1,hz]
   exact ⟨K,_,rfl,by rw [Ob.kill_swap,hk,hXd]⟩
  ·rw [hT0 m (by simp only [EX.keys,a1z]; exact .inr (.inr (.inr hm))),hn]; rfl
 ·obtain ⟨j,want,d,a,b,c⟩:=h.skip he
  exact ⟨j,want,d,a,b,c.imp (hB d _ (z8q a b)) (hU d (z8q a b))⟩
theorem EX.y_all {o:Oper} {e:EX}:∀q∈e.y.ids,q∈e.all o:=by
 intro q hq
 cases e with
 | skip=>simp [EX.y,AV.ids,AV.idsT] at hq
 | run av us I y O mv=>simp only [EX.all,a1z]; exact .inr (.inr (.inr (.inr (.inl hq))))
theorem EX.O_all {o:Oper} {e:EX} {p:Nat×Ob} (hp:p∈e.O):p.1∈e.all o/\∀q∈p.2.ids,q∈e.all o:=by
 cases e with
 | skip=>cases hp
 | run av us I y O mv =>
  simp only [EX.all,a1z]
  exact ⟨.inr (.inr (.inl (J3q hp).1)),fun q hq=>.inr (.inr (.inl ((J3q hp).2 q hq)))⟩
theorem afQq (hap:a3gq ops o1 e1 o2 e2):gE o2 e2 (gE o1 e1 g)=gE o1 e1 (gE o2 e2 g):=by
 funext t
 have y1:e1.y.kill e2.ks=e1.y:=AV.kill_id fun q hq hk=>hap.k2 q hk (EX.y_all q hq)
 have y2:e2.y.kill e1.ks=e2.y:=AV.kill_id fun q hq hk=>hap.k1 q hk (EX.y_all q hq)
 by_cases h1:o1.dst=some t
 ·have h2:o2.dst≠some t:=fun h2=>hap.s1 t h1 (by simp [h6q,h2])
  simp [gE,h1,h2,y1]
 ·by_cases h2:o2.dst=some t
  ·simp [gE,h1,h2,y2]
  ·simp only [gE,h1,h2,if_false]
   cases g t with
   | none=>rfl
   | some Z=>simp [AV.kill_swap e1.ks e2.ks Z]
theorem afiq (hap:a3gq ops o1 e1 o2 e2):TE e2 (TE e1 T)=TE e1 (TE e2 T):=by
 funext q
 have key:∀{oa ob:Oper} {ea eb:EX},(∀q∈ea.tch,q∉eb.keys)->(∀q∈eb.ks,q∉ea.all oa)->∀X,a1q ea.O q=some X->a1q eb.O q=none/\q∉eb.drop/\X.kill eb.ks=X:=by
  intro oa ob ea eb h1 h2 X hX
  have hm:=g2q hX
  have hq:q∈ea.tch:=acz _ (ahz _ (a4z.2 ⟨_,hm,rfl⟩))
  refine ⟨Z1q fun p hp hpe=>h1 q hq ?_,fun hd=>h1 q hq (EX.tch_keys (EX.ks_tch (acz _ hd))),Ob.kill_id fun r hr hk=>h2 r hk ((EX.O_all hm).2 r hr)⟩
  subst hpe
  exact EX.tch_keys (acz _ (ahz _ (a4z.2 ⟨p,hp,rfl⟩)))
 cases h1:a1q e1.O q with
 | some X =>
  obtain ⟨a,b,c⟩:=key (oa:=o1) (ob:=o2) hap.t1 hap.k2 X h1
  simp [TE,h1,a,b,c]
 | none =>
  cases h2:a1q e2.O q with
  | some X =>
   obtain ⟨a,b,c⟩:=key (oa:=o2) (ob:=o1) hap.t2 hap.k1 X h2
   simp [TE,h1,h2,a,b,c]
  | none =>
   by_cases d1:q∈e1.drop <;> by_cases d2:q∈e2.drop <;> simp [TE,h1,h2,d1,d2]
   cases T q with
   | none=>rfl
   | some Z=>simp [Ob.kill_swap e1.ks e2.ks Z]
end
inductive Chain (ops:Array Oper):List (Nat×Oper×EX)->(Nat->Option AV)->(Nat->Option Ob)->(Nat->Option AV)->(Nat->Option Ob)->Prop
 | nil {g T}:Chain ops [] g T g T
 | cons {i o e r g T g' T'}:App ops o e g T->Chain ops r (gE o e g) (TE e T) g' T'->Chain ops ((i,o,e)::r) g T g' T'
theorem Chain.front {ops:Array Oper} {x:Nat×Oper×EX} {B:List (Nat×Oper×EX)}:∀{A:List (Nat×Oper×EX)} {g T g' T'},Chain ops (A++x::B) g T g' T'->(∀a∈A,a3gq ops a.2.1 a.2.2 x.2.1 x.2.2)->Chain ops (x::(A++B)) g T g' T'
 | [],_,_,_,_,h,_=>h
 | a::A,g,T,g',T',h,hap=>by
  obtain ⟨i,o,e⟩:=a
  obtain ⟨j,ox,ex⟩:=x
  cases h with
  | cons h1 h2 =>
   have ih:=Chain.front h2 fun b hb=>hap b (List.mem_cons_of_mem _ hb)
   cases ih with
   | cons h3 h4 =>
    have hp:=hap (i,o,e) (List.mem_cons_self ..)
    rw [afQq hp,afiq hp] at h4
    exact .cons (h3.ahead hp) (.cons (h1.behind hp) h4)
section
variable {Γ:Cx} {P:Program} {ops:Array Oper} {o:Oper} {g:Nat->Option AV} {T:Nat->Option Ob}
theorem GrowX.simF {I O:List (Nat×Ob)} {mv:List Nat} {r:AV} {us:List (Nat×Ob)} {av:Operand->Option AV} {a:Act} {w w':World} {S S':Nat->Prop} {β β':Nat->OLoc} {v:Value} (hG:GrowX w S β I O mv w' S' β') (hr:RepV w' S' β' r v) (hs:SimF Γ g T a w S β) (hd:o.dst.all (· < Γ.n)=true)
  (hI:∀p∈I,∃Z,T p.1=some Z) (hlow:∀m∈mv,m<2000) (hOin:∀p∈O,(∃q∈I,q.1=p.1)\/p.1∈mv) (hmv:∀m∈mv,(∃p∈I,p.1=m)\/T m=none):SimF Γ (gE o (.run av us I r O mv) g) (TE (.run av us I r O mv) T) (a.put o.dst v) w' S' β':=by
 have hpass:∀b,i9q I β b->∃p∈I,∃Z,T p.1=some Z/\(β p.1).Own b:=fun b ⟨p,hp,h1⟩=>by
  obtain ⟨Z,hZ⟩:=hI p hp
  exact ⟨p,hp,Z,hZ,h1⟩
 have hSn:∀b,S b->¬i9q I β b:=by
  intro b hb hp
  obtain ⟨p,_,Z,hg,h1⟩:=hpass b hp
  exact (hs.mem.own p.1 Z hg b h1).2.1 hb
 have hk:∀b,S b->w'.heap[b]?=w.heap[b]?:=fun b hb=>hG.block b (hs.mem.lt b hb) (hSn b hb)
 have hβ:∀q,q∉mv++j3q I O->β' q=β q:=fun q hq=>hG.loc q fun h=>hq (ahz _ h)
 have hT:∀q X,TE (.run av us I r O mv) T q=some X->(q,X)∈O\/(q∉mv/\(∀p∈I,p.1≠q)/\∃Y,T q=some Y/\∀l:OLoc,(∀b,l.Own b->w'.heap[b]?=w.heap[b]?)->ObRep w S β l Y->ObRep w' S' β' l X):=by
  intro q X hq
  have hq:(a1q O q).or (if q∈j3q I O then none else (T q).map (·.kill (mv++j3q I O)))=some X:=hq
  cases hl:a1q O q with
  | some Y=>rw [hl] at hq; simp at hq; subst hq; exact .inl (g2q hl)
  | none =>
   rw [hl] at hq
   simp only [Option.none_or] at hq
   by_cases hnd:q∈j3q I O
   ·rw [if_pos hnd] at hq; cases hq
   ·rw [if_neg hnd] at hq
    cases hY:T q with
    | none=>rw [hY] at hq; simp at hq
    | some Y =>
     rw [hY] at hq; simp at hq; subst hq
     have hnO:∀p∈O,p.1≠q:=fun p hp e=>I4q O hp (e ▸ hl)
     have hnI:∀p∈I,p.1≠q:=by
      intro p hp e
      refine hnd ?_
      simp only [j3q,aVz,a4z,aNz,List.any_eq_false,beq_iff_eq]
      exact ⟨⟨p,hp,e⟩,fun p' hp'=>hnO p' hp'⟩
     refine .inr ⟨fun hm => ?_,hnI,Y,rfl,fun l hb hx=>hx.killO hb hk hG.sub hβ⟩
     rcases hmv q hm with ⟨p,hp,e⟩ | h
     ·exact hnI p hp e
     ·rw [hY] at h; simp at h
 have hapart:∀q Y,T q=some Y->(∀p∈I,p.1≠q)->∀b,(β q).Own b->¬i9q I β b:=by
  intro q Y hY hn b hh hp
  obtain ⟨p,hpI,Z,hg,h1⟩:=hpass _ hp
  exact hn p hpI (hs.mem.sep p.1 q _ _ hg hY b h1 hh)
 refine ⟨?_,?_,fun i x hi => ?_,⟨fun b hb=>(hG.sup b hb).1,fun q X hq => ?_,fun q X hq b hh => ?_,fun q q' X X' hq hq' b hh hh' => ?_,hG.os.trans hs.mem.os,hG.tape.trans hs.mem.tape,hG.output.trans hs.mem.output,aXz hs.mem.size hG.size,fun b hb hp => ?_,fun b hb=>hG.sub b (hs.mem.sub b hb),fun b hb => ?_,fun q l hl => ?_,fun q X hq b hh => ?_,fun q q' X X' hq hq' b hh hh' => ?_⟩⟩
 ·cases o.dst <;> simp [Act.put,hs.defers]
 ·cases o.dst <;> simp [Act.put,hs.sz]
 ·simp only [gE,EX.y,EX.ks,EX.mv,EX.drop,EX.I,EX.O] at hi
  by_cases hdi:o.dst=some i
  ·rw [if_pos hdi] at hi
   simp at hi
   subst hi
   rw [hdi] at hd ⊢
   simp at hd
   exact ⟨v,by simp [Act.put,hs.sz,hd],hr⟩
  ·rw [if_neg hdi] at hi
   cases hy:g i with
   | none=>rw [hy] at hi; simp at hi
   | some y =>
    rw [hy] at hi; simp at hi; subst hi
    obtain ⟨u,hu,hur⟩:=hs.tm i y hy
    refine ⟨u,?_,hur.killV hk hG.sub hβ⟩
    cases hdd:o.dst with
    | none=>exact hu
    | some d =>
     simp only [Act.put]
     rw [b4z (fun e=>hdi (by rw [hdd,e]))]
     exact hu
 ·rcases hT q X hq with hm | ⟨hnm,hnI,Y,hY,hYr⟩
  ·exact hG.ob _ hm
  ·rw [hG.loc q hnm]
   exact hYr _ (fun b hh=>hG.block _ (hs.mem.own q Y hY b hh).1 (hapart q Y hY hnI b hh)) (hs.mem.ob q Y hY)
 ·rcases hT q X hq with hm | ⟨hnm,hnI,Y,hY,hYr⟩
  ·obtain ⟨h1,h2,h3⟩:=hG.own _ hm b hh
   refine ⟨h1,h2,?_⟩
   rcases h3 with h3 | h3
   ·exact .inl (aXz hs.mem.size h3)
   ·obtain ⟨p,_,Z,hg,h4⟩:=hpass _ h3
    exact (hs.mem.own p.1 Z hg b h4).2.2
  ·rw [hG.loc q hnm] at hh
   obtain ⟨h1,h2,h3⟩:=hs.mem.own q Y hY b hh
   refine ⟨aCz h1 hG.size,fun hb => ?_,h3⟩
   rcases (hG.sup _ hb).2 with hb | hb | hb
   ·exact h2 hb
   ·omega
   ·exact hapart q Y hY hnI b hh hb
 ·have hmix:∀q q' X Y',(q,X)∈O->q'∉mv->(∀p∈I,p.1≠q')->T q'=some Y'->∀b,(β' q).Own b->(β' q').Own b->False:=by
   intro q q' X Y' hm hnm hnI hY' b hh hh'
   rw [hG.loc q' hnm] at hh'
   rcases (hG.own _ hm b hh).2.2 with h3 | h3
   ·have:=(hs.mem.own q' Y' hY' b hh').1
    omega
   ·exact hapart q' Y' hY' hnI b hh' h3
  rcases hT q X hq with hm | ⟨hnm,hnI,Y,hY,hYr⟩ <;> rcases hT q' X' hq' with hm' | ⟨hnm',hnI',Y',hY',hYr'⟩
  ·exact hG.sep _ hm _ hm' b hh hh'
  ·exact (hmix q q' X Y' hm hnm' hnI' hY' b hh hh').elim
  ·exact (hmix q' q X' Y hm' hnm hnI hY b hh' hh).elim
  ·rw [hG.loc q hnm] at hh
   rw [hG.loc q' hnm'] at hh'
   exact hs.mem.sep q q' Y Y' hY hY' b hh hh'
 ·refine (hG.block b (aCz hb hs.mem.size) fun hpb => ?_).trans (hs.mem.block b hb hp)
  obtain ⟨p,_,Z,hg,h1⟩:=hpass b hpb
  rcases (hs.mem.own p.1 Z hg b h1).2.2 with h3 | h3
  ·omega
  ·exact hp h3
 ·rcases (hG.sup b hb).2 with hb | hb | hb
  ·exact hs.mem.sup b hb
  ·exact .inr (.inl (aXz hs.mem.size hb))
  ·obtain ⟨p,_,Z,hg,h1⟩:=hpass b hb
   exact .inr (hs.mem.own p.1 Z hg b h1).2.2
 ·obtain ⟨h1,h2⟩:=hs.mem.fix q l hl
  exact ⟨h1,(hG.loc q fun hm=>by have:=hlow q hm; omega).trans h2⟩
 ·rcases hT q X hq with hm | ⟨hnm,hnI,Y,hY,hYr⟩
  ·obtain ⟨h1,h3⟩:=hG.clm _ hm b hh
   refine ⟨h1,?_⟩
   rcases h3 with h3 | h3 | h3
   ·exact .inl (aXz hs.mem.size h3)
   ·obtain ⟨p,_,Z,hg,h4⟩:=hpass _ h3
    exact (hs.mem.own p.1 Z hg b h4).2.2.imp id .inl
   ·obtain ⟨p,hp,h4⟩:=h3
    obtain ⟨Z,hZ⟩:=hI p hp
    exact (hs.mem.clm p.1 Z hZ b h4).2
  ·rw [hG.loc q hnm] at hh
   obtain ⟨h1,h2⟩:=hs.mem.clm q Y hY b hh
   exact ⟨hG.sub b h1,h2⟩
 ·have hmix:∀q q' X Y',(q,X)∈O->q'∉mv->(∀p∈I,p.1≠q')->T q'=some Y'->∀b,b∈(β' q).clm->b∈(β' q').clm->False:=by
   intro q q' X Y' hm hnm hnI hY' b hh hh'
   rw [hG.loc q' hnm] at hh'
   have hSb:=(hs.mem.clm q' Y' hY' b hh').1
   rcases (hG.clm _ hm b hh).2 with h3 | h3 | h3
   ·have:=hs.mem.lt b hSb
    omega
   ·exact hSn b hSb h3
   ·obtain ⟨p,hp,h4⟩:=h3
    obtain ⟨Z,hZ⟩:=hI p hp
    exact hnI p hp (hs.mem.sepc p.1 q' _ _ hZ hY' b h4 hh')
  rcases hT q X hq with hm | ⟨hnm,hnI,Y,hY,hYr⟩ <;> rcases hT q' X' hq' with hm' | ⟨hnm',hnI',Y',hY',hYr'⟩
  ·exact hG.sepc _ hm _ hm' b hh hh'
  ·exact (hmix q q' X Y' hm hnm' hnI' hY' b hh hh').elim
  ·exact (hmix q' q X' Y hm' hnm hnI hY b hh' hh).elim
  ·rw [hG.loc q hnm] at hh
   rw [hG.loc q' hnm'] at hh'
   exact hs.mem.sepc q q' Y Y' hY hY' b hh hh'
theorem AV.kill_nil (x:AV):x.kill []=x:=AV.kill_id fun _ _ h=>by cases h
theorem Ob.kill_nil (X:Ob):X.kill []=X:=Ob.kill_id fun _ _ h=>by cases h
theorem OInst.step {e:EX} {a:Act} {w:World} {S:Nat->Prop} {β:Nat->OLoc} {l:List Oper} {K:Act->World->Prop} {Q:Exit->Act->World->Prop} {i:Nat} (hi:OInst Γ.n P o e) (ha:App l.toArray o e g T) (hs:SimF Γ g T a w S β) (ho:l.toArray[i]?=some o)
  (hK:∀a' w' S' β',SimF Γ (gE o e g) (TE e T) a' w' S' β'->K a' w'):wpOp P l.toArray Q i K a w:=by
 unfold wpOp
 rw [ho]
 dsimp only
 have hyield:∀(j:Nat) (d:Nat) (b:Bool),(l.toArray[j]?).bind (·.dst)=some d->g d=some (B b)->yielded l.toArray a.tmps j=some b:=by
  intro j d b hj hv
  obtain ⟨v,hv1,hv2⟩:=hs.tm d _ hv
  rw [hv2.bool_inv] at hv1
  simp only [yielded,hj,bxz,hv1]
 cases e with
 | skip =>
  obtain ⟨j,want,d,hg,hj,hv⟩:=ha.skip rfl
  have hw:Region.wanted o (yielded l.toArray a.tmps)=false:=by
   rcases hv with hv | hv
   ·have hy:=hyield j d _ hj hv
    simp only [Region.wanted,hg,hy]; cases want <;> rfl
   ·obtain ⟨v,hv1,hv2⟩:=hs.tm d _ hv
    obtain ⟨us,rfl,hu⟩:=hv2.tup_inv
    cases hu
    have hyl:yielded l.toArray a.tmps j=none:=by simp only [yielded,hj,bxz,hv1]
    simp only [Region.wanted,hg,hyl]; rfl
  rw [hw,if_neg (by simp)]
  refine hK _ _ S β ?_
  have hG:GrowX w S β [] [] [] w S β:=⟨rfl,rfl,rfl,aDz _,fun _ _ _=>rfl,fun _ h=>h,fun b hb=>⟨hs.mem.lt b hb,.inl hb⟩,fun _ _=>rfl,by simp,by simp,by simp,by simp,by simp⟩
  have:=GrowX.simF (us:=[]) (av:=fun _=>none) (r:=.tup []) (v:=undef) hG (RepVs.tup .nil .nil) hs hi.dst (by simp) (by simp) (by simp) (by simp)
  exact this
 | run av us I y O mv =>
  obtain ⟨hop,hlow,hOin⟩:=hi.run av us I y O mv rfl
  obtain ⟨hg,hrd,hob,hmv⟩:=ha.run av us I y O mv rfl
  have hw:Region.wanted o (yielded l.toArray a.tmps)=true:=by
   rcases hg with hg | ⟨j,want,d,hg,hj,hv⟩
   ·simp [Region.wanted,hg]
   ·have hy:=hyield j d _ hj hv
    simp [Region.wanted,hg,hy]
  rw [hw,if_pos rfl]
  left
  have hob2:∀p∈us++I,∃Z,T p.1=some Z/\(ObRep w S β (β p.1) Z->ObRep w S β (β p.1) p.2):=fun p hp=>by
   obtain ⟨K,Z,hz,hk⟩:=hob p hp
   exact ⟨Z,hz,fun h=>hk ▸ h.killO (fun _ _=>rfl) (fun _ _=>rfl) (fun _ h=>h) fun _ _=>rfl⟩
  refine hop a w S β hs.defers hs.sz hs.mem.lt (fun x X hx hxm => ?_) ⟨fun p hp => ?_,fun p hp b hh => ?_,fun p hp q hq b hh hh' => ?_,fun p hp b hh => ?_,fun p hp q hq b hh hh' => ?_⟩ _ _ fun v w' S' β' hG hy=>hK _ _ S' β' (hG.simF hy hs hi.dst (fun p hp => ?_) hlow hOin hmv)
  ·obtain ⟨K,Z,hz,hk⟩:=hrd x X hx hxm
   have hr:RepV w S β Z (a.eval x):=by
    cases x with
    | tmp t =>
     obtain ⟨v,hv,hr⟩:=hs.tm t Z hz
     have:a.eval (.tmp t)=v:=by simp [Act.eval,afz,hv]
     rw [this]; exact hr
    | const v=>exact Q6q hz
    | func f=>simp only [evF,Option.some.injEq] at hz; subst hz; exact RepV.one (.d (.fn_ f))
    | global g=>simp [evF] at hz
   rw [<-hk]
   exact hr.killV (fun _ _=>rfl) (fun _ h=>h) fun _ _=>rfl
  ·obtain ⟨Z,hz,h⟩:=hob2 p hp
   exact h (hs.mem.ob p.1 Z hz)
  ·obtain ⟨Z,hz,h⟩:=hob2 p hp
   exact ⟨(hs.mem.own p.1 Z hz b hh).1,(hs.mem.own p.1 Z hz b hh).2.1⟩
  ·obtain ⟨Z,hz,_⟩:=hob2 p hp
   obtain ⟨Z',hz',_⟩:=hob2 q hq
   exact hs.mem.sep p.1 q.1 Z Z' hz hz' b hh hh'
  ·obtain ⟨Z,hz,h⟩:=hob2 p hp
   exact (hs.mem.clm p.1 Z hz b hh).1
  ·obtain ⟨Z,hz,_⟩:=hob2 p hp
   obtain ⟨Z',hz',_⟩:=hob2 q hq
   exact hs.mem.sepc p.1 q.1 Z Z' hz hz' b hh hh'
  ·obtain ⟨Z,hz,_⟩:=hob2 p (acz _ hp)
   exact ⟨Z,hz⟩
def a9vq (o1:Oper) (e1:EX) (o2:Oper) (e2:EX):Prop:=(∀q∈e1.tch,q∉e2.keys)/\(∀q∈e2.tch,q∉e1.keys)/\(∀q∈e1.ks,q∉e2.all o2)/\∀q∈e2.ks,q∉e1.all o1
def a31q (ops:Array Oper) (a x:Nat×Oper×EX):Prop:=F9q ops ops.size x.1 a.1=true\/a9vq a.2.1 a.2.2 x.2.1 x.2.2
end
theorem acSq {Γ:Cx} {P:Program} {l:List Oper} {s s':St} {L:List (Nat×Oper×EX)} {id:Nat} {Q:Exit->St->Prop} (hm:P.follows .mixedOrders=true) (hok:K7q l.toArray=true) (hL:L.map (fun x=>x.1)=List.range l.length) (hLo:∀x∈L,l[x.1]?=some x.2.1) (hinst:∀x∈L,OInst Γ.n P x.2.1 x.2.2) (hpair:L.Pairwise (a31q l.toArray)) (hch:Chain l.toArray L s.get s.gob s'.get s'.gob) (hQ:Q .normal s'):awp Γ P (.region id l.toArray true) Q s:=by
 intro a w S β hs
 have hn:l.toArray.size=l.length:=by simp
 simp only [K7q,agz,aIz,hn] at hok
 have hlow:∀(i:Nat) (o:Oper),l[i]?=some o->∀e∈o.after,Region.binds .any e=true->e.on<i:=by
  intro i o hi e he hb
  have h1:=hok i (a2z.1 hi).1
  simp only [bkz,hi,a0z] at h1
  have h2:=Array.all_eq_true_iff_forall_mem.1 h1.1 e he
  simpa [hb] using h2
 have hord:∀(i j:Nat) (oi oj:Oper),l[i]?=some oi->l[j]?=some oj->j<i->F9q l.toArray l.length i j=false->(∀t,oj.dst=some t->t∉h6q l.toArray oi)/\∀t,oi.dst=some t->t∉h6q l.toArray oj:=by
  intro i j oi oj hi hj hji hr
  have h1:=hok i (a2z.1 hi).1
  simp only [bkz,hi,a0z,agz,aIz] at h1
  have h2:=h1.2 j (a2z.1 hj).1
  simp only [hj,atz,aNz,decide_eq_false_iff_not,a0z,agz,List.contains_eq_mem] at h2
  rcases h2 with (h2 | h2) | h2
  ·exact absurd hji h2
  ·exact ⟨fun t ht=>h2.1 t (by simp [ht]),fun t ht=>h2.2 t (by simp [ht])⟩
  ·rw [hr] at h2; cases h2
 refine wp_region_any hm ?_
 have hready:∀(listed:Array Bool),listed.size=l.length->Region.ready .any l.toArray listed=[]->∀j,j<l.length->listed.getD j false=true:=by
  intro listed hsz hr j hj
  apply bdz
  intro hne
  obtain ⟨m,⟨hm1,hm2⟩,hmin⟩:=aexq (fun j=>j<l.length/\listed.getD j false≠true) ⟨j,hj,hne⟩
  have hmem:m∈Region.ready .any l.toArray listed:=by
   rw [mem_ready]
   refine ⟨?_,l[m],by simp [hm1],fun e he hb => ?_⟩
   ·have:m<listed.size:=by omega
    simp only [afz,aRz this,aaz] at hm2 ⊢
    simpa using hm2
   ·have hlt:=hlow m l[m] (bez hm1) e he hb
    apply bdz
    intro hn2
    have:=hmin e.on ⟨by omega,hn2⟩
    omega
  rw [hr] at hmem
  simp at hmem
 have hsorted:L.Pairwise fun a b=>a.1<b.1:=by
  have:(L.map fun x=>x.1).Pairwise (· < ·):=by rw [hL]; exact List.pairwise_lt_range
  exact List.pairwise_map.1 this
 have hhas:∀i,i<l.length->∃x∈L,x.1=i:=fun i hi=>by
  have:i∈L.map fun x=>x.1:=by rw [hL]; exact aIz.2 hi
  obtain ⟨x,hx,e⟩:=a4z.1 this
  exact ⟨x,hx,e⟩
 have hdone:∀(M:List (Nat×Oper×EX)) (listed:Array Bool) (g:Nat->Option AV) (T:Nat->Option Ob) (a:Act) (w:World) (S:Nat->Prop) (β:Nat->OLoc),M=L.filter (fun x => !listed.getD x.1 false)->Chain l.toArray M g T s'.get s'.gob->(∀j,j<l.length->listed.getD j false=true)->SimF Γ g T a w S β->∃s' S' β',Q .normal s'/\Sim Γ s' a w S' β':=by
  intro M listed g T a w S β hM hc hall hsim
  have:M=[]:=by
   rw [hM,b2z]
   intro x hx
   have:x.1<l.length:=aIz.1 (hL ▸ a4z.2 ⟨x,hx,rfl⟩)
   simp only [hall _ this]; simp
  subst this
  generalize hg':s'.get=g' at hc
  generalize hT':s'.gob=T' at hc
  cases hc
  subst hg'; subst hT'
  exact ⟨s',S,β,hQ,hsim⟩
 have key:∀(fuel:Nat) (listed:Array Bool) (M:List (Nat×Oper×EX)) (g:Nat->Option AV) (T:Nat->Option Ob) (a:Act) (w:World) (S:Nat->Prop) (β:Nat->OLoc),listed.size=l.length->a4Uq l.toArray (fun j=>listed.getD j false) ->
   M=L.filter (fun x => !listed.getD x.1 false)->Chain l.toArray M g T s'.get s'.gob->SimF Γ g T a w S β->M.length<=fuel ->
   wpAny P .any l.toArray (fun e a' w'=>∃s' S' β',Q e s'/\Sim Γ s' a' w' S' β') fuel listed a w:=by
  intro fuel
  induction fuel with
  | zero =>
   intro listed M g T a w S β hsz hc hM hch hsim hfu
   have hnil:=a3z (Nat.le_zero.1 hfu)
   have hall:∀j,j<l.length->listed.getD j false=true:=by
    intro j hj
    obtain ⟨x,hx,rfl⟩:=hhas j hj
    rw [hnil] at hM
    have:=b2z.1 hM.symm x hx
    simpa using this
   refine ⟨?_,hdone M listed g T a w S β hM hch hall hsim⟩
   simp only [Region.ready]
   rw [b2z]
   intro j hj
   simp only [aIz,hn] at hj
   have h1:=hall j hj
   have h2:listed.getD j true=true:=by
    simp only [afz] at h1 ⊢
    cases hx:listed[j]? with
    | none=>rw [hx] at h1; simp at h1
    | some b=>rw [hx] at h1; simpa using h1
   simp [h2]
  | succ fuel ih =>
   intro listed M g T a w S β hsz hc hM hch hsim hfu
   refine ⟨fun hr=>hdone M listed g T a w S β hM hch (hready listed hsz hr) hsim,fun i hi => ?_⟩
   rw [mem_ready] at hi
   obtain ⟨hil,o,ho,hpre⟩:=hi
   have ho':l[i]?=some o:=by simpa using ho
   have hin:i<l.length:=(a2z.1 ho').1
   have hisz:i<listed.size:=by omega
   have hDi:listed.getD i false=false:=by
    simp only [afz,aRz hisz,aaz] at hil ⊢
    exact hil
   obtain ⟨x,hxL,hxi⟩:=hhas i hin
   have hxo:x.2.1=o:=by
    have:=hLo x hxL
    rw [hxi,ho'] at this
    exact (Option.some.inj this).symm
   have hxM:x∈M:=by rw [hM]; exact aVz.2 ⟨hxL,by simp [hxi,hDi]⟩
   obtain ⟨A,C,hAC⟩:=List.append_of_mem hxM
   have hMs:M.Pairwise fun a b=>a.1<b.1:=by rw [hM]; exact hsorted.filter _
   have hMp:M.Pairwise (a31q l.toArray):=by rw [hM]; exact hpair.filter _
   rw [hAC] at hch hMs hMp
   have hA:∀b∈A,a3gq l.toArray b.2.1 b.2.2 x.2.1 x.2.2:=by
    intro b hb
    have hbM:b∈M:=by rw [hAC]; simp [hb]
    rw [hM] at hbM
    obtain ⟨hbL,hbl⟩:=aVz.1 hbM
    have hlt:b.1<x.1:=(aOz.1 hMs).2.2 b hb x (by simp)
    have hnr:F9q l.toArray l.length i b.1=false:=by
     cases hr:F9q l.toArray l.length i b.1 with
     | false=>rfl
     | true =>
      exfalso
      have:=M5q hc _ i b.1 hr fun o' ho'' e he hb'=>by
       rw [ho] at ho''; cases ho''
       exact hpre e he hb'
      simp [this] at hbl
    have hT:a9vq b.2.1 b.2.2 x.2.1 x.2.2:=by
     rcases (aOz.1 hMp).2.2 b hb x (by simp) with h | h
     ·rw [hxi,hn,hnr] at h; cases h
     ·exact h
    obtain ⟨h1,h2⟩:=hord x.1 b.1 _ _ (hLo x hxL) (hLo b hbL) hlt (by rw [hxi]; exact hnr)
    exact ⟨h1,h2,hT.1,hT.2.1,hT.2.2.1,hT.2.2.2⟩
   have hfr:=Chain.front hch hA
   obtain ⟨xi,xo,xe⟩:=x
   subst hxi; subst hxo
   cases hfr with
   | cons happ hrest =>
    refine OInst.step (hinst _ hxL) happ hsim ho fun a' w' S' β' hsim' => ?_
    have hset:∀j,(listed.setIfInBounds xi true).getD j false=if j=xi then true else listed.getD j false:=by
     intro j
     by_cases h:j=xi
     ·subst h; simp [afz,hisz]
     ·simp only [afz,if_neg h]; rw [b4z (Ne.symm h)]
    refine ih _ (A++C) _ _ a' w' S' β' (by simpa using hsz) ?_ ?_ hrest hsim' (by rw [hAC] at hfu; simp at hfu ⊢; omega)
    ·intro j oj hj hoj e' he' hb'
     dsimp only at hj ⊢
     rw [hset] at hj ⊢
     by_cases hji:j=xi
     ·subst hji
      rw [ho] at hoj; cases hoj
      have:=hpre e' he' hb'
      rw [this]; simp
     ·rw [if_neg hji] at hj
      have:=hc j oj hj hoj e' he' hb'
      dsimp only at this
      rw [this]; simp
    ·have h1:L.filter (fun y => !(listed.setIfInBounds xi true).getD y.1 false)=(L.filter fun y => !listed.getD y.1 false).filter fun y=>y.1 != xi:=by
      rw [List.filter_filter]
      apply List.filter_congr
      intro y hy
      rw [hset]
      by_cases h:y.1=xi
      ·simp [h]
      ·simp [h]
     rw [h1,<-hM,hAC]
     have hneA:∀b∈A,b.1≠xi:=fun b hb e=>by
      have:=(aOz.1 hMs).2.2 b hb (xi,xo,xe) (by simp)
      simp at this; omega
     have hneC:∀b∈C,b.1≠xi:=fun b hb e=>by
      have:=(List.pairwise_cons.1 (aOz.1 hMs).2.1).1 b hb
      simp at this; omega
     rw [List.filter_append,List.filter_cons]
     rw [if_neg (by simp)]
     rw [baz.2 fun b hb=>by simpa using hneA b hb,baz.2 fun b hb=>by simpa using hneC b hb]
 have h0:∀j,(bBz l.length false).getD j false=false:=by
  intro j
  simp only [afz,Array.getElem?_replicate]
  split <;> rfl
 rw [hn]
 refine key l.length (bBz l.length false) L s.get s.gob a _ S β (by simp) (fun i o h=>by dsimp only at h; rw [h0] at h; cases h) ?_ hch ?_ ?_
 ·symm
  rw [baz]
  intro x _
  rw [h0]; rfl
 ·exact ⟨hs.defers,hs.sz,fun i x hi=>by
   obtain ⟨v,hv,hr⟩:=hs.tm i x hi
   exact ⟨v,hv,hr.mono (fun _ _=>rfl) (fun _ h=>h) fun _ _=>rfl⟩,
   ⟨hs.mem.lt,fun o X ho=>(hs.mem.ob o X ho).mono (fun _ _=>rfl) (fun _ _=>rfl) (fun _ h=>h) fun _ _=>rfl,hs.mem.own,hs.mem.sep,hs.mem.os,hs.mem.tape,hs.mem.output,hs.mem.size,hs.mem.block,hs.mem.sub,hs.mem.sup,hs.mem.fix,hs.mem.clm,hs.mem.sepc⟩⟩
 ·have:=congrArg List.length hL
  simp at this
  omega
def PRep (w:World) (S:Nat->Prop) (l:OLoc) (E es:Nat) (xs:List (List Da)):Prop :=
 xs.length<=l.sc/\(xs.length<=281474976710656/\l.sc<=maxLen)/\(∀x∈xs,x.length=es) /\
  ((l.has=true/\∃cur,w.heap[l.blk]?=some (.cells cur E (0,0))/\cur.size=l.sc*es/\RepDs w S xs.flatten (cur.toList.take (xs.length*es)))\/(l.has=false/\l.sc=0))
def mkP (c:Option Nat) (E es:Nat) (xs:List (List Da)):Ob:=match c with
 | none=>.lst E es xs
 | some c=>.fu E es xs c
def ah0q (c:Option Nat) (l:OLoc) (n:Nat):Prop:=match c with
 | none=>l.sn=n/\(l.has=true->l.sa=some ⟨l.blk,0,none⟩)
 | some c=>l.sc=c
theorem a3cq {w:World} {S:Nat->Prop} {β:Nat->OLoc} {l:OLoc} {E es:Nat} {xs:List (List Da)}:ObRep w S β l (.lst E es xs)↔PRep w S l E es xs/\l.sn=xs.length/\(l.has=true->l.sa=some ⟨l.blk,0,none⟩):=by
 constructor
 ·rintro (⟨h1,h2,h3,vs,h4,h5⟩ | ⟨h1,rfl,a,h2⟩)
  ·rcases h4.2 with ⟨hn,h0⟩ | ⟨g,cap,cur,hsv,_,hg,hcap,hcm,hcs,htk⟩
   ·rw [hn] at h1
    simp only [OLoc.sv,Value.slice.injEq] at hn
    obtain ⟨e1,e2,e3⟩:=hn
    have hh:l.has=false:=by
     cases e:l.has
     ·rfl
     ·rw [e] at h1; simp [Value.ownBlock] at h1
    exact ⟨⟨by omega,⟨h2,by rw [e3]; exact aMz _⟩,h3,.inr ⟨hh,e3⟩⟩,by omega,by simp [hh]⟩
   ·rw [hsv] at h1
    simp only [OLoc.sv,Value.slice.injEq] at hsv
    obtain ⟨e1,e2,e3⟩:=hsv
    simp only [Value.ownBlock] at h1
    split at h1
    ·rename_i hh
     simp at h1
     subst h1
     exact ⟨⟨by omega,⟨h2,by omega⟩,h3,.inl ⟨hh,cur,hg,by rw [hcs,e3],by rw [htk]; exact h5⟩⟩,e2,fun _=>e1⟩
    ·simp at h1
  ·simp only [OLoc.sv,Value.slice.injEq] at h2
   exact ⟨⟨by simp,⟨by simp,by rw [h2.2.2]; exact aMz _⟩,by simp,.inr ⟨h1,h2.2.2⟩⟩,by simpa using h2.2.1,by simp [h1]⟩
 ·rintro ⟨⟨h1,⟨h2,h2'⟩,h3,h4⟩,h5,h6⟩
  rcases h4 with ⟨hh,cur,hg,hcs,hr⟩ | ⟨hh,h0⟩
  ·have hsv:l.sv = .slice (some ⟨l.blk,0,none⟩) xs.length l.sc:=by simp [OLoc.sv,h6 hh,h5]
   refine .inl ⟨by rw [hsv,hh]; rfl,h2,h3,_,⟨?_,.inr ⟨l.blk,l.sc,cur,hsv,aMz _,hg,h1,h2',hcs,rfl⟩⟩,hr⟩
   have hz:cur.toList.length=l.sc*es:=by simpa using hcs
   rw [adz,hz]
   exact b7z (aiz _ h1)
  ·have:xs=[]:=a3z (by omega)
   subst this
   exact .inr ⟨hh,rfl,l.sa,by simp [OLoc.sv,h0,h5]⟩
theorem p5q {c:Option Nat} {w:World} {S:Nat->Prop} {β:Nat->OLoc} {l:OLoc} {E es:Nat} {xs:List (List Da)}:ObRep w S β l (mkP c E es xs)↔PRep w S l E es xs/\ah0q c l xs.length:=by
 cases c with
 | none=>exact a3cq
 | some c =>
  constructor
  ·rintro ⟨h1,h2,h3,h4,h5⟩
   subst h1
   exact ⟨⟨h2,h3,h4,h5⟩,rfl⟩
  ·rintro ⟨⟨h2,h3,h4,h5⟩,h1⟩
   have h1:l.sc=c:=h1
   subst h1
   exact ⟨rfl,h2,h3,h4,h5⟩
theorem a8Pq {xs:List (List Da)} {lo m:Nat}:xs.flatten=(xs.take lo).flatten++(((xs.drop lo).take m).flatten++(xs.drop (lo+m)).flatten):=by
 rw [<-auz,<-auz]
 congr 1
 rw [<-bnz,a9z,a9z]
theorem PRep.part {w:World} {S:Nat->Prop} {l:OLoc} {E es lo m:Nat} {xs:List (List Da)} (h:PRep w S l E es xs) (hlo:lo+m<=xs.length) :
  ∃vs:List Value,vs.length=m*es/\RepDs w S ((xs.drop lo).take m).flatten vs/\(0<m->l.has=true)/\∀j u,vs[j]?=some u->w.cell? ⟨l.blk,lo*es+j,none⟩=some u:=by
 obtain ⟨h1,_,h3,h4⟩:=h
 by_cases hm:m=0
 ·subst hm
  exact ⟨[],by simp,by simpa using RepDs.nil,by omega,by simp⟩
 ·rcases h4 with ⟨hh,cur,hg,hcs,hr⟩ | ⟨_,h0⟩
  ·rw [a8Pq (lo:=lo) (m:=m)] at hr
   obtain ⟨v1,v2,e,d1,d2⟩:=hr.split
   obtain ⟨v3,v4,rfl,d3,d4⟩:=d2.split
   have l1:v1.length=lo*es:=by rw [d1.len,i6q h3 (by omega)]
   have l3:v3.length=m*es:=by
    rw [d3.len,s0q (es:=es) (fun y hy=>h3 y (aGz (aHz hy))),adz,alz,b7z (by omega)]
   refine ⟨v3,l3,d3,fun _=>hh,fun j u hu => ?_⟩
   have hj:j<v3.length:=(a2z.1 hu).1
   rw [p0q hg,<-awz]
   have:(cur.toList.take (xs.length*es))[lo*es+j]?=some u:=by
    rw [e,avz (by omega),l1,Nat.add_sub_cancel_left,aTz hj]; exact hu
   rw [aWz] at this
   split at this
   ·exact this
   ·cases this
  ·omega
theorem PRep.put {w:World} {S:Nat->Prop} {l:OLoc} {E es lo:Nat} {xs ys:List (List Da)} {us:List Value} {cur:Array Value} (h:PRep w S l E es xs) (hh:l.has=true) (hg:w.heap[l.blk]?=some (.cells cur E (0,0))) (hnS:¬S l.blk) (hlo:lo<=xs.length) (hc:lo+ys.length<=l.sc) (h48:lo+ys.length<=281474976710656) (hes:∀y∈ys,y.length=es) (hr:RepDs w S ys.flatten us) :
  PRep (w.setRow l.blk (cur.toList.take (lo*es)++us++cur.toList.drop (lo*es+us.length)).toArray) S l E es (xs.take lo++ys++xs.drop (lo+ys.length)):=by
 obtain ⟨h1,⟨h2,h2'⟩,h3,h4⟩:=h
 rcases h4 with ⟨_,cur',hg',hcs,hd⟩ | ⟨hf,_⟩
 rotate_left
 ·rw [hh] at hf; cases hf
 have:cur'=cur:=by rw [hg] at hg'; simpa using hg'.symm
 subst this
 have hS:∀b,S b->(w.setRow l.blk (cur'.toList.take (lo*es)++us++cur'.toList.drop (lo*es+us.length)).toArray).heap[b]?=w.heap[b]?:=fun b hb=>setRow_other w _ b _ fun e=>hnS (e ▸ hb)
 have lus:us.length=ys.length*es:=by rw [hr.len,s0q hes]
 have hlen:(xs.take lo++ys++xs.drop (lo+ys.length)).length=max xs.length (lo+ys.length):=by
  simp only [a7z,adz,alz]; omega
 have hall:∀x∈xs.take lo++ys++xs.drop (lo+ys.length),x.length=es:=fun x hx=>by
  rcases a1z.1 hx with hx | hx
  ·rcases a1z.1 hx with hx | hx
   ·exact h3 x (aHz hx)
   ·exact hes x hx
  ·exact h3 x (aGz hx)
 have hcz:cur'.toList.length=l.sc*es:=by simpa using hcs
 have e1:lo*es<=l.sc*es:=aiz _ (by omega)
 have e2:lo*es+ys.length*es<=l.sc*es:=by rw [<-aJz]; exact aiz _ hc
 refine ⟨by rw [hlen]; omega,⟨by rw [hlen]; omega,h2'⟩,hall,.inl ⟨hh,_,setRow_heap w _ cur' _ E _ hg,?_,?_⟩⟩
 ·simp only [List.size_toArray,a7z,adz,alz,hcz,lus]; omega
 ·simp only [b9z]
  rw [hlen]
  rw [a8Pq (lo:=lo) (m:=ys.length)] at hd
  obtain ⟨v1,v2,e,d1,d2⟩:=hd.split
  obtain ⟨v3,v4,rfl,d3,d4⟩:=d2.split
  have l1:v1.length=lo*es:=by rw [d1.len,i6q h3 hlo]
  have l3:v3.length=(min ys.length (xs.length-lo))*es:=by
   rw [d3.len,s0q (es:=es) (fun y hy=>h3 y (aGz (aHz hy))),adz,alz]
  have l4:v4.length=(xs.length-(lo+ys.length))*es:=by
   rw [d4.len,s0q (es:=es) (fun y hy=>h3 y (aGz hy)),alz]
  have e3:xs.length*es<=l.sc*es:=aiz _ h1
  have hcur:cur'.toList=v1++(v3++v4)++cur'.toList.drop (xs.length*es):=by rw [<-e]; exact (a9z _ _).symm
  have key:(cur'.toList.take (lo*es)++us++cur'.toList.drop (lo*es+us.length)).take (max xs.length (lo+ys.length)*es)=v1++us++v4:=by
   have t1:cur'.toList.take (lo*es)=v1:=by
    rw [hcur,a8z]
    exact arz l1
   rw [t1]
   by_cases hb:lo+ys.length<=xs.length
   ·have m1:max xs.length (lo+ys.length)=xs.length:=by omega
    have l3':v3.length=ys.length*es:=by rw [l3,b7z (by omega)]
    have t2:cur'.toList.drop (lo*es+us.length)=v4++cur'.toList.drop (xs.length*es):=by
     conv=>lhs; rw [hcur]
     rw [a8z,<-a8z v1,a8z,<-a8z,a8z]
     rw [show v1++(v3++v4++cur'.toList.drop (xs.length*es))=(v1++v3)++(v4++cur'.toList.drop (xs.length*es)) by simp [a8z]]
     exact biz (by rw [a7z,l1,l3',lus])
    rw [t2,m1,<-a8z]
    refine arz ?_
    have hle:xs.length=lo+(ys.length+(xs.length-(lo+ys.length))):=by omega
    rw [a7z,a7z,l1,lus,l4]
    conv=>rhs; rw [hle]
    rw [aJz,aJz,Nat.add_assoc]
   ·have m1:max xs.length (lo+ys.length)=lo+ys.length:=by omega
    have:v4=[]:=a3z (by rw [l4,show xs.length-(lo+ys.length)=0 by omega]; simp)
    rw [this,m1,aLz]
    refine arz ?_
    rw [a7z,l1,lus,aJz]
  rw [key,auz,auz]
  exact ((d1.app hr).app d4).mono hS fun _ h=>h
section
variable {Γ:Cx} {P:Program} {ops:Array Oper} {rest:List Oper} {o:Oper} {K:St->Prop} {s:St} {t:TypeId} {x z:Operand} {av:Operand->Option AV}
theorem ae5q {k es lo n:Nat} {e:TypeId} (ho:o.op = .call { callee:=.builtin .len,args := #[x],argTypes := #[t] }) (ht:P.underlying t=some (.slice e)) (hx:av x=some (.one (.ps k es lo n))):OpP P o av [] (Z n) []:=by
 refine c0q fun a w S β _ hr hu=>⟨goInt n,?_,RepV.int _ _⟩
 have h:=(hr x _ hx (by simp [ho,a6z,Call.operands])).one_inv
 generalize hv:a.eval x=v at h
 cases h
 simp [execOp,ho,resolve,invoke,builtin,hv,bLz,run_underlying ht]
theorem aekq {k E es es' lo n c:Nat} {xs:List (List Da)} {e:TypeId} (ho:o.op = .call { callee:=.builtin .cap,args := #[x],argTypes := #[t] }) (ht:P.underlying t=some (.slice e)) (hx:av x=some (.one (.ps k es lo n))):OpP P o av [(k,.fu E es' xs c)] (Z ((c-lo:Nat):Int)) []:=by
 refine c0q fun a w S β _ hr hu=>⟨goInt (c-lo:Nat),?_,RepV.int _ _⟩
 have h:=(hr x _ hx (by simp [ho,a6z,Call.operands])).one_inv
 have hc:(β k).sc=c:=(hu (k,.fu E es' xs c) (by simp)).1
 generalize hv:a.eval x=v at h
 cases h with
 | ps h1 h2 h3 =>
  rename_i c'
  have:c'=c-lo:=by omega
  subst this
  simp [execOp,ho,resolve,invoke,builtin,hv,bMz,run_underlying ht]
theorem ae6q {e:TypeId} (ho:o.op = .call { callee:=.builtin .cap,args := #[x],argTypes := #[t] }) (ht:P.underlying t=some (.slice e)) (hx:av x=some (.one .e0)):OpP P o av [] (Z 0) []:=by
 refine c0q fun a w S β _ hr hu=>⟨goInt 0,?_,RepV.int _ _⟩
 have h:=(hr x _ hx (by simp [ho,a6z,Call.operands])).one_inv
 generalize hv:a.eval x=v at h
 cases h
 simp [execOp,ho,resolve,invoke,builtin,hv,bMz,run_underlying ht]
theorem aaWq {k' es lo m:Nat} {k:IntKind} {n:Nat} {e:TypeId} {j:TypeInfo} (ho:o.op = .indexAddr t x z) (ht:P.underlying t=some (.slice e)) (hj:P.info? e=some j) (hes:j.size=es) (hx:av x=some (.one (.ps k' es lo m))) (hz:av z=some (I k (n:Int)))
  (hn:n<m):OpP P o av [] (.one (.op k' ((lo+n)*es))) []:=by
 refine c0q fun a w S β _ hr hu=>⟨.pointer (some ⟨(β k').blk,(lo+n)*es,none⟩),?_,RepV.one .op⟩
 have ez:=(hr z _ hz (by simp [ho,a6z])).int_inv
 have h:=(hr x _ hx (by simp [ho,a6z])).one_inv
 generalize hv:a.eval x=v at h
 cases h with
 | ps h1 h2 h3 =>
  have ha:=h3 (by omega)
  subst ha
  subst hes
  simp [execOp,ho,hv,ez,bIz,run_underlying ht,asIntOf,sizeOf,typeInfo,hj,hn,Nat.not_le.2 hn,o7q,aJz]
theorem M3q {k0 es lo n:Nat} {lo' hi:Option Operand} {k k':IntKind} {l h c:Nat} {X0:Ob} {e:TypeId} {j:TypeInfo} (hX:∀w S β,ObRep w S β (β k0) X0->c<=(β k0).sc) (ho:o.op = .slice t x lo' hi none) (ht:P.underlying t=some (.slice e)) (hj:P.info? e=some j) (hes:j.size=es) {X:AV} (hx:av x=some X) (hxr:∀w S β v,ObRep w S β (β k0) X0->RepV w S β X v->RepA w S β (.ps k0 es lo n) v)
  (hlo:(lo'=none/\l=0)\/∃u,lo'=some u/\av u=some (I k (l:Int))) (hhi:(hi=none/\h=n)\/∃u,hi=some u/\av u=some (I k' (h:Int))) (hlh:l<=h) (hs:h<=n\/lo+h<=c):OpP P o av [(k0,X0)] (.one (.ps k0 es (lo+l) (h-l))) []:=by
 refine c0q fun a w S β _ hr hu => ?_
 have h0:=hxr _ _ _ _ (hu (k0,X0) (by simp)) (hr x _ hx (by simp [ho,a6z]))
 have hcs:=hX w S β (hu (k0,X0) (by simp))
 generalize hv0:a.eval x=v at h0
 cases h0 with
 | @ps _ _ _ _ ad cap h1 h2 h3 =>
  have hc:h<=cap:=by omega
  refine ⟨.slice (if cap=l then ad else ad.map (·.add (l*j.size))) (h-l) (cap-l),?_,RepV.one (.ps (by omega) (by omega) fun hp => ?_)⟩
  ·rcases hlo with ⟨rfl,rfl⟩ | ⟨u,rfl,hu⟩ <;> rcases hhi with ⟨rfl,rfl⟩ | ⟨v,rfl,hv⟩
   ·simp [execOp,ho,hv0,ayz,aKz,run_underlying ht,aqz,sizeOf,typeInfo,hj]
   ·have e3:=(hr v _ hv (by simp [ho,a6z])).int_inv
    simp [execOp,ho,hv0,e3,ayz,aKz,run_underlying ht,aqz,aAz,asIntOf,hc,brz.2 hc,sizeOf,typeInfo,hj]
   ·have e2:=(hr u _ hu (by simp [ho,a6z])).int_inv
    simp [execOp,ho,hv0,e2,ayz,aKz,run_underlying ht,aqz,aAz,asIntOf,hlh,brz.2 hlh,sizeOf,typeInfo,hj]
   ·have e2:=(hr u _ hu (by simp [ho,a6z])).int_inv
    have e3:=(hr v _ hv (by simp [ho,a6z])).int_inv
    simp [execOp,ho,hv0,e2,e3,ayz,aKz,run_underlying ht,aqz,aAz,asIntOf,hc,hlh,brz.2 hc,brz.2 hlh,sizeOf,typeInfo,hj]
  ·have ha:=h3 (by omega)
   subst ha
   rw [if_neg (by omega)]
   simp [o7q,hes,aJz]
theorem ab0q {k0 es lo n:Nat} {lo' hi mx:Operand} {k k' k2:IntKind} {l h m:Nat} {e:TypeId} {j:TypeInfo} (ho:o.op = .slice t x (some lo') (some hi) (some mx)) (ht:P.underlying t=some (.slice e)) (hj:P.info? e=some j) (hx:av x=some (.one (.ps k0 es lo n)))
  (h1:av lo'=some (I k (l:Int))) (h2:av hi=some (I k' (h:Int))) (h3:av mx=some (I k2 (m:Int))) (hlh:l<=h) (hhm:h<=m) (hm:m<=n):OpP P o av [] (.one .junk) []:=by
 refine c0q fun a w S β _ hr _ => ?_
 have h0:=(hr x _ hx (by simp [ho,a6z])).one_inv
 generalize hv0:a.eval x=v at h0
 cases h0 with
 | @ps _ _ _ _ ad cap g1 g2 g3 =>
  have hc:m<=cap:=by omega
  have e1:=(hr lo' _ h1 (by simp [ho,a6z])).int_inv
  have e2:=(hr hi _ h2 (by simp [ho,a6z])).int_inv
  have e3:=(hr mx _ h3 (by simp [ho,a6z])).int_inv
  refine ⟨.slice (if m=l then ad else ad.map (·.add (l*j.size))) (h-l) (m-l),?_,RepV.one .junk⟩
  simp [execOp,ho,hv0,e1,e2,e3,ayz,aKz,run_underlying ht,aqz,aAz,asIntOf,hc,hlh,hhm,sizeOf,typeInfo,hj]
theorem abwq {lo' hi:Option Operand} {k k':IntKind} {e:TypeId} {j:TypeInfo} (ho:o.op = .slice t x lo' hi none) (ht:P.underlying t=some (.slice e)) (hj:P.info? e=some j) (hx:av x=some (.one .e0))
  (hlo:lo'=none\/∃u,lo'=some u/\av u=some (I k 0)) (hhi:hi=none\/∃u,hi=some u/\av u=some (I k' 0)):OpP P o av [] (.one .e0) []:=by
 refine c0q fun a w S β _ hr hu => ?_
 have h0:=(hr x _ hx (by simp [ho,a6z])).one_inv
 generalize hv0:a.eval x=v at h0
 cases h0
 refine ⟨.slice none 0 0,?_,RepV.one .e0⟩
 rcases hlo with rfl | ⟨u,rfl,hu⟩ <;> rcases hhi with rfl | ⟨v,rfl,hv⟩
 ·simp [execOp,ho,hv0,ayz,aKz,run_underlying ht,aqz,sizeOf,typeInfo,hj]
 ·have e3:=(hr v _ hv (by simp [ho,a6z])).int_inv
  simp [execOp,ho,hv0,e3,ayz,aKz,run_underlying ht,aqz,aAz,asIntOf,sizeOf,typeInfo,hj]
 ·have e2:=(hr u _ hu (by simp [ho,a6z])).int_inv
  simp [execOp,ho,hv0,e2,ayz,aKz,run_underlying ht,aqz,aAz,asIntOf,sizeOf,typeInfo,hj]
 ·have e2:=(hr u _ hu (by simp [ho,a6z])).int_inv
  have e3:=(hr v _ hv (by simp [ho,a6z])).int_inv
  simp [execOp,ho,hv0,e2,e3,ayz,aKz,run_underlying ht,aqz,aAz,asIntOf,sizeOf,typeInfo,hj]
theorem RepA.ps_of_ol {w:World} {S:Nat->Prop} {β:Nat->OLoc} {k E es:Nat} {xs:List (List Da)} {v:Value} (hX:ObRep w S β (β k) (.lst E es xs)) (h:RepA w S β (.ol k) v):RepA w S β (.ps k es 0 xs.length) v:=by
 cases h
 obtain ⟨⟨h1,_,_,h4⟩,h5,h6⟩:=a3cq.1 hX
 simp only [OLoc.sv]
 rw [h5]
 refine .ps h1 (by omega) fun hp => ?_
 rcases h4 with ⟨hh,_⟩ | ⟨_,h0⟩
 ·rw [h6 hh]; simp
 ·omega
end
theorem s9q (P:Program) (w:World) (a:Addr):(loadCells a 0).run P w = .ok #[] w:=by
 have:=run_loadCells_list (P:=P) w a [] (by simp)
 simpa using this
theorem a2qq (P:Program) (w:World) (a:Addr) (i:Nat):(storeCells a [] i).run P w = .ok () w:=by
 simp [storeCells]
theorem Src.of_part {w:World} {S:Nat->Prop} {β:Nat->OLoc} {k E es lo n:Nat} {c:Option Nat} {xs:List (List Da)} {v:Value} (hX:ObRep w S β (β k) (mkP c E es xs)) (h:RepA w S β (.ps k es lo n) v) (hl:lo+n<=xs.length) :
  Src w (RepDs w S ((xs.drop lo).take n).flatten) es ((xs.drop lo).take n).length v:=by
 obtain ⟨hp,_⟩:=p5q.1 hX
 have hlen:((xs.drop lo).take n).length=n:=by rw [adz,alz]; omega
 obtain ⟨vs,h1,h2,h3,h4⟩:=hp.part hl
 cases h with
 | @ps _ _ _ _ a cap g1 g2 g3 =>
  rw [hlen]
  refine ⟨by have:=hp.2.1.1; omega,?_⟩
  by_cases hn:n=0
  ·subst hn
   exact .inl ⟨a,cap,rfl,rfl,by simpa using RepDs.nil⟩
  ·have ha:=g3 (by omega)
   subst ha
   exact .inr ⟨_,cap,vs,rfl,h1,⟨h2,h2.oneCells⟩,fun j u hu=>by rw [o7q]; exact h4 j u hu⟩
theorem Src.first {w:World} {S:Nat->Prop} {es m:Nat} {ys:List (List Da)} {v:Value} (h:Src w (RepDs w S ys.flatten) es ys.length v) (hes:∀y∈ys,y.length=es) (hm:m<=ys.length) :
  ∃us,us.length=m*es/\RepDs w S (ys.take m).flatten us/\∀P:Program,(azz v).run P w = .ok ys.length w/\(a5z es m v).run P w = .ok us.toArray w:=by
 rcases h.val with ⟨a,c,rfl,h0,_⟩ | ⟨a,c,us,rfl,h1,⟨h2,_⟩,h3⟩
 ·have:m=0:=by omega
  subst this
  refine ⟨[],by simp,by simpa using RepDs.nil,fun P=>⟨by simp [azz,h0],?_⟩⟩
  cases a with
  | none=>simp [a5z]
  | some a=>simpa [a5z] using s9q P w a
 ·have e:ys.flatten=(ys.take m).flatten++(ys.drop m).flatten:=by rw [<-auz,a9z]
  rw [e] at h2
  obtain ⟨v1,v2,rfl,d1,d2⟩:=h2.split
  have l1:v1.length=m*es:=by rw [d1.len,i6q hes hm]
  refine ⟨v1,l1,d1,fun P=>⟨by simp [azz],?_⟩⟩
  have:=run_loadCells_list (P:=P) w a v1 (fun j u hu=>h3 j u (by rw [aTz (a2z.1 hu).1]; exact hu))
  rw [l1] at this
  simpa [a5z] using this
theorem abCq {w:World} {S:Nat->Prop} {β:Nat->OLoc} {k E es lo n m:Nat} {c:Option Nat} {xs:List (List Da)} {v:Value} (hX:ObRep w S β (β k) (mkP c E es xs)) (h:RepA w S β (.ps k es lo n) v) (hl:lo+m<=xs.length) :
  ∃us,us.length=m*es/\RepDs w S ((xs.drop lo).take m).flatten us/\∀P:Program,(azz v).run P w = .ok n w/\(m<=n->(a5z es m v).run P w = .ok us.toArray w):=by
 obtain ⟨hp,_⟩:=p5q.1 hX
 obtain ⟨vs,h1,h2,h3,h4⟩:=hp.part hl
 cases h with
 | @ps _ _ _ _ a cap g1 g2 g3 =>
  refine ⟨vs,h1,h2,fun P=>⟨by simp [azz],fun hmn => ?_⟩⟩
  by_cases hm:m=0
  ·subst hm
   have:vs=[]:=a3z (by simpa using h1)
   subst this
   cases a with
   | none=>simp [a5z]
   | some a=>simpa [a5z] using s9q P w a
  ·have ha:=g3 (by omega)
   subst ha
   have:=run_loadCells_list (P:=P) w ⟨(β k).blk,lo*es,none⟩ vs (fun j u hu=>by rw [o7q]; exact h4 j u hu)
   rw [h1] at this
   simpa [a5z] using this
section
variable {Γ:Cx} {P:Program} {o:Oper} {s:St} {t t':TypeId} {x z:Operand}
theorem Sim.putP {a:Act} {w:World} {S:Nat->Prop} {β:Nat->OLoc} {k E es lo:Nat} {c:Option Nat} {xs ys:List (List Da)} {us:List Value} {ad:Option Addr} {n cap:Nat} (hs:Sim Γ s a w S β) (hk:s.gob k=some (mkP c E es xs)) (hv:RepA w S β (.ps k es lo n) (.slice ad n cap)) (hlo:lo<=xs.length) (hn:ys.length<=cap) (hroom:c=none->lo+ys.length<=xs.length) (h48:lo+ys.length<=281474976710656)
  (hes:∀y∈ys,y.length=es) (hr:RepDs w S ys.flatten us) (hl:us.length=ys.length*es):∃w',(∀b,ad=some b->(storeCells b us).run P w = .ok () w')/\(ad=none->w'=w)/\Sim Γ (s.setOb k (mkP c E es (xs.take lo++ys++xs.drop (lo+ys.length)))) a w' S β:=by
 have hX:=hs.mem.ob k _ hk
 obtain ⟨hp,hside⟩:=p5q.1 hX
 have same:ys.length=0->Sim Γ (s.setOb k (mkP c E es (xs.take lo++ys++xs.drop (lo+ys.length)))) a w S β:=fun h0=>by
  have:ys=[]:=a3z h0
  subst this
  simp only [aLz,b8z,aYz,a9z]
  exact hs.setX hk fun h=>h
 cases hv with
 | ps g1 g2 g3 =>
  by_cases h0:ys.length=0
  ·have hu:us=[]:=a3z (by rw [hl,h0]; simp)
   subst hu
   exact ⟨w,fun b _=>a2qq P w b 0,fun _=>rfl,same h0⟩
  ·have ha:=g3 (by omega)
   have hh:(β k).has=true:=by
    rcases hp.2.2.2 with ⟨hh,_⟩ | ⟨_,hz⟩
    ·exact hh
    ·omega
   obtain ⟨cur,hg,hcs⟩:∃cur,w.heap[(β k).blk]?=some (.cells cur E (0,0))/\cur.size=(β k).sc*es:=by
    rcases hp.2.2.2 with ⟨_,cur,h1,h2,_⟩ | ⟨_,hz⟩
    ·exact ⟨cur,h1,h2⟩
    ·omega
   have hnS:=(hs.mem.own k _ hk _ (.inl ⟨hh,rfl⟩)).2.1
   have hput:=hp.put hh hg hnS hlo (by omega) h48 hes hr
   refine ⟨_,fun b hb => ?_,fun hn => ?_,hs.setRow hk hh hg (p5q.2 ⟨hput,?_⟩)⟩
   ·rw [ha] at hb
    cases hb
    have e2:lo*es+us.length<=cur.size:=by rw [hl,hcs,<-aJz]; exact aiz _ (by omega)
    have:=run_storeCells_at P (β k).blk (lo*es) E us 0 cur w hg (by simpa using e2) hr.oneCells
    simpa using this
   ·rw [ha] at hn; cases hn
   ·cases c with
    | none =>
     have:=hroom rfl
     refine ⟨?_,hside.2⟩
     rw [hside.1]
     simp only [a7z,adz,alz]
     omega
    | some c=>exact hside
theorem a6Mq {k E es lo n nn:Nat} {c:Option Nat} {xs ys:List (List Da)} {i:TypeInfo} (ho:o.op = .call { callee:=.builtin .copy,args := #[x,z],argTypes := #[t,t'] }) (hd:o.dst.all (· < Γ.n)=true) (ht:P.underlying t=some (.slice E)) (hi:P.info? E=some i) (hes:i.size=es) (hx:s.ev x=some (.one (.ps k es lo n))) (hk:s.gob k=some (mkP c E es xs))
  (hsrc:∀a w S β,Sim Γ s a w S β->(∀y∈ys,y.length=es)/\∃us,us.length=min nn n*es/\RepDs w S ys.flatten us/\∀P:Program,(azz (a.eval z)).run P w = .ok nn w/\(a5z es (min nn n) (a.eval z)).run P w = .ok us.toArray w) (hyl:ys.length=min nn n) (hlo:lo<=xs.length) (hroom:c=none->lo+min nn n<=xs.length) (h48:lo+min nn n<=281474976710656) :
  XOp Γ P o s ((s.setOb k (mkP c E es (xs.take lo++ys++xs.drop (lo+min nn n)))).upd o.dst (Z ((min nn n:Nat):Int)) []):=by
 intro a w S β K' R hs hK
 have hv:=(hs.eval hx).one_inv
 obtain ⟨hyes,us,h1,h2,h3⟩:=hsrc a w S β hs
 obtain ⟨r1,r2⟩:=h3 P
 generalize hva:a.eval x=v at hv
 obtain ⟨ad,cap,rfl,hnc⟩:∃ad cap,v = .slice ad n cap/\n<=cap:=by cases hv; exact ⟨_,_,rfl,by assumption⟩
 obtain ⟨w',g1,g2,g3⟩:=hs.putP (P:=P) (ys:=ys) hk hv hlo (by rw [hyl]; omega) (by rw [hyl]; exact hroom) (by rw [hyl]; exact h48) hyes h2 (by rw [h1,hyl])
 rw [hyl] at g3
 have he:(execOp a.eval o).run P w = .ok (.value (goInt (min nn n:Nat))) w':=by
  have hm:Nat.min nn n=min nn n:=rfl
  have hz:(sizeOf E).run P w = .ok es w:=by simp [sizeOf,typeInfo,hi,hes]
  cases ad with
  | none =>
   have:=g2 rfl
   subst this
   simp [execOp,ho,resolve,invoke,builtin,hva,bJz,run_underlying ht,hz,r1,hm,r2]
  | some b =>
   have:=g1 b rfl
   simp [execOp,ho,resolve,invoke,builtin,hva,bJz,run_underlying ht,hz,r1,hm,r2,this]
 unfold Oper.wp
 rw [he,Oper.upon_value]
 exact hK _ _ S β (g3.upd (Grow.refl g3.mem.lt) (RepV.int _ _) hd rfl)
end
theorem a28q (z:Array Value) (hz:0<z.size) (n:Nat):(b1z z n).toList=(aBz n z.toList).flatten:=C8q z hz n
theorem a98q {P:Program} {w:World} {S:Nat->Prop} {e:TypeId} {n b m:Nat} {cs:List At} {zd:List Da} {j:TypeInfo} {zv:Value} (hz:zv.cells.size=n) (hpos:0<n) (hc:o3q zv.cells.toList=some cs) (hzd:toDs cs=some zd) :
  RepDs w S (aBz m zd).flatten (b1z zv.cells m).toList/\zd.length=n:=by
 have hzr:RepDs w S zd zv.cells.toList:=(z4q (w:=w) (S:=S) (β:=fun _=>⟨0,none,0,0,false,[],[]⟩) hc).toDs hzd
 refine ⟨?_,by have:=hzr.len; simp at this; omega⟩
 rw [a28q _ (by omega)]
 exact a14q hzr m
section
variable {Γ:Cx} {P:Program} {o:Oper} {s:St} {t t':TypeId} {x z:Operand}
theorem ab2q {k E es lo n b:Nat} {c:Option Nat} {xs:List (List Da)} {cs:List At} {zd:List Da} (hz:ZeroOk P E es b cs) (hzd:toDs cs=some zd) (hpos:0<es) (ho:o.op = .call { callee:=.builtin .clear,args := #[x],argTypes := #[t] }) (hd:o.dst.all (· < Γ.n)=true) (ht:P.underlying t=some (.slice E)) (hx:s.ev x=some (.one (.ps k es lo n))) (hk:s.gob k=some (mkP c E es xs))
  (hl:lo+n<=xs.length):XOp Γ P o s ((s.setOb k (mkP c E es (xs.take lo++aBz n zd++xs.drop (lo+n)))).upd o.dst (.tup []) []):=by
 intro a w S β K' R hs hK
 obtain ⟨j,zv,z1,z2,z3,z4,z5,z6⟩:=hz
 have hv:=(hs.eval hx).one_inv
 generalize hva:a.eval x=v at hv
 obtain ⟨ad,cap,rfl,hnc⟩:∃ad cap,v = .slice ad n cap/\n<=cap:=by cases hv; exact ⟨_,_,rfl,by assumption⟩
 obtain ⟨hzr,hzl⟩:=a98q (P:=P) (w:=w) (S:=S) (e:=E) (b:=b) (m:=n) (j:=j) z5 hpos z6 hzd
 have hp:=p5q.1 (hs.mem.ob k _ hk)
 obtain ⟨w',g1,g2,g3⟩:=hs.putP (P:=P) (ys:=aBz n zd) hk hv (by omega) (by simpa using hnc) (fun _=>by simpa using hl) (by have:=hp.1.2.1.1; simp; omega) (fun y hy=>by rw [bfz hy,hzl]) hzr (by simp [size_zeroCells,z5])
 simp only [List.length_replicate] at g3
 have he:(execOp a.eval o).run P w = .ok (.value (.tuple #[])) w':=by
  have hzv:∀w,(zeroValue E).run P w = .ok zv w:=fun w=>by simp [zeroValue,typeInfo,z1,z4]
  cases ad with
  | none =>
   have:=g2 rfl
   subst this
   simp [execOp,ho,resolve,invoke,builtin,hva,boz,run_underlying ht]
  | some b =>
   have h1:=g1 b rfl
   cases n with
   | zero =>
    have h0:(b1z zv.cells 0).toList=[]:=by simp [b1z]
    rw [h0] at h1
    have:w'=w:=by simpa [storeCells] using h1.symm
    subst this
    simp [execOp,ho,resolve,invoke,builtin,hva,boz,run_underlying ht]
   | succ n=>simp [execOp,ho,resolve,invoke,builtin,hva,boz,run_underlying ht,hzv,h1]
 unfold Oper.wp
 rw [he,Oper.upon_value]
 exact hK _ _ S β (g3.upd (Grow.refl g3.mem.lt) (RepVs.tup .nil .nil) hd rfl)
theorem acDq {av:Operand->Option AV} {k off n E es c:Nat} {xs:List (List Da)} {r:List Da} {d:TypeDesc} {j:TypeInfo} (ho:o.op = .load t x) (ht:P.underlying t=some d) (hd:E9q d=true) (hj:P.info? t=some j) (hx:av x=some (.one (.op k off))) (hn:xs[n]?=some r) (hoff:off=n*es) (hc:j.size=es):OpP P o av [(k,.fu E es xs c)] (.dat r) []:=by
 refine c0q fun a w S β _ hr hu => ?_
 have h:=(hr x _ hx (by simp [ho,a6z])).one_inv
 have hnl:n<xs.length:=(a2z.1 hn).1
 obtain ⟨vs,g1,g2,_,g4⟩:=(p5q (c:=some c).1 (hu (k,.fu E es xs c) (by simp))).1.part (lo:=n) (m:=1) (by omega)
 have hrow:(xs.drop n).take 1=[r]:=by
  rw [bcz]
  simp [hn]
 rw [hrow] at g2
 simp only [bwz,byz,aLz] at g2
 generalize hv:a.eval x=v at h
 cases h
 refine ⟨.agg vs.toArray,?_,RepVs.dat g2 RepVs.nil⟩
 have hld:=run_loadCells_list (P:=P) w ⟨(β k).blk,off,none⟩ vs (fun q u hu=>by rw [o7q,hoff]; exact g4 q u hu)
 rw [show vs.length=j.size by rw [g1,hc]; simp] at hld
 simp only [execOp,ho,hv,bvz,b0z,loadVar,axz,aEz,akz,o6q ht,hd,sizeOf,typeInfo,program,bHz,hj,hld,if_true]
theorem abUq {av:Operand->Option AV} {k off n E c:Nat} {xs:List (List Da)} {x0:Da} {d:TypeDesc} (ho:o.op = .load t x) (ht:P.underlying t=some d) (hd:E9q d=false) (hx:av x=some (.one (.op k off))) (hn:xs[n]?=some [x0]) (hoff:off=n):OpP P o av [(k,.fu E 1 xs c)] (.one (.d x0)) []:=by
 refine c0q fun a w S β _ hr hu => ?_
 have h:=(hr x _ hx (by simp [ho,a6z])).one_inv
 have hnl:n<xs.length:=(a2z.1 hn).1
 obtain ⟨vs,g1,g2,_,g4⟩:=(p5q (c:=some c).1 (hu (k,.fu E 1 xs c) (by simp))).1.part (lo:=n) (m:=1) (by omega)
 have hrow:(xs.drop n).take 1=[[x0]]:=by
  rw [bcz]
  simp [hn]
 rw [hrow] at g2
 simp only [bwz,byz,aLz] at g2
 obtain ⟨u,rfl⟩:∃u,vs=[u]:=by
  match vs,g1 with
  | [u],_=>exact ⟨u,rfl⟩
 generalize hv:a.eval x=v at h
 cases h
 refine ⟨u,?_,RepV.one (.d g2)⟩
 have hc:=g4 0 u rfl
 simp only [Nat.mul_one,aYz] at hc
 rw [<-hoff] at hc
 simp [execOp,ho,hv,bvz,b0z,loadVar,o6q ht,hd,run_load,hc]
end
section
variable {Γ:Cx} {P:Program} {o:Oper} {s:St} {t t':TypeId} {x z:Operand}
structure a0Jq (P : Program) (s : St) (t' : TypeId) (E es : Nat) (zv : Value) (z : Operand) (ys : List (List Da)) : Prop where
  h : ∀ (Γ : Cx) (a : Act) (w : World) (S : Nat → Prop) (β : Nat → OLoc), Sim Γ s a w S β → (∀ y ∈ ys, y.length = es) ∧ ∃ us : List Value, us.length = ys.length * es ∧ RepDs w S ys.flatten us ∧
    ((∃ e', P.underlying t' = some (.slice e') ∧ (Builtin.lenOf (a.eval z)).run P w = .ok ys.length w ∧ (∀ w' : World, (Builtin.lenOf (a.eval z)).run P w' = .ok ys.length w') ∧ (Builtin.firstCells es ys.length (a.eval z)).run P w = .ok us.toArray w ∧ (Builtin.firstCells es ys.length (a.eval z)).run P w.drew = .ok us.toArray w.drew) ∨
     ∃ kn kq, P.underlying t' = some (.int kn) ∧ a.eval z = .int kq ys.length ∧ us = (Builtin.zeroCells zv.cells ys.length).toList)
theorem Src.firstD {w:World} {S:Nat->Prop} {es:Nat} {ys:List (List Da)} {v:Value} (h:Src w (RepDs w S ys.flatten) es ys.length v) :
  ∃us,us.length=ys.length*es/\RepDs w S ys.flatten us/\∀P:Program,(∀w':World,(azz v).run P w' = .ok ys.length w')/\(a5z es ys.length v).run P w = .ok us.toArray w/\(a5z es ys.length v).run P w.drew = .ok us.toArray w.drew:=by
 rcases h.val with ⟨a,c,rfl,h0,h1⟩ | ⟨a,c,us,rfl,h1,⟨h2,_⟩,h3⟩
 ·refine ⟨[],by simp [h0],h1,fun P=>⟨fun w'=>by simp [azz,h0],?_⟩⟩
  rw [h0]
  cases a with
  | none=>simp [a5z]
  | some a=>exact ⟨by simpa [a5z] using s9q P w a,by simpa [a5z] using s9q P w.drew a⟩
 ·refine ⟨us,h1,h2,fun P=>⟨fun w'=>by simp [azz],?_⟩⟩
  have:=run_loadCells_list (P:=P) w a us (fun j u hu=>h3 j u hu)
  have this2:=run_loadCells_list (P:=P) w.drew a us (fun j u hu=>by simpa using h3 j u hu)
  rw [h1] at this this2
  exact ⟨by simpa [a5z] using this,by simpa [a5z] using this2⟩
theorem ad5q {E es e':Nat} {zv:Value} {ys:List (List Da)} (ht':P.underlying t'=some (.slice e')) (h:∀(Γ:Cx) a w S β,Sim Γ s a w S β->(∀y∈ys,y.length=es)/\Src w (RepDs w S ys.flatten) es ys.length (a.eval z)):a0Jq P s t' E es zv z ys:=⟨fun Γ a w S β hs=>by
 obtain ⟨hyes,h⟩:=h Γ a w S β hs
 obtain ⟨us,h1,h2,h3⟩:=h.firstD
 obtain ⟨r1,r2,r3⟩:=h3 P
 exact ⟨hyes,us,h1,h2,.inl ⟨e',ht',r1 w,r1,r2,r3⟩⟩⟩
theorem a8Kq {E es b m:Nat} {kn kq:IntKind} {zv:Value} {cs:List At} {zd:List Da} (ht':P.underlying t'=some (.int kn)) (hz:zv.cells.size=es) (hpos:0<es) (hc:o3q zv.cells.toList=some cs) (hzd:toDs cs=some zd) (hz1:s.ev z=some (I kq (m:Int))):a0Jq P s t' E es zv z (aBz m zd):=⟨fun Γ a w S β hs=>by
 obtain ⟨h1,h2⟩:=a98q (P:=P) (w:=w) (S:=S) (e:=E) (b:=b) (m:=m) (j:=default) hz hpos hc hzd
 have:=(hs.eval hz1).int_inv
 exact ⟨fun y hy=>by rw [bfz hy,h2],_,by simp [size_zeroCells,hz],h1,.inr ⟨kn,kq,ht',by simpa using this,by simp⟩⟩⟩
theorem a6Yq {k E es lo n b:Nat} {c:Option Nat} {xs ys:List (List Da)} {zv:Value} {i:TypeInfo} (ho:o.op = .call { callee:=.builtin .append,args := #[x,z],argTypes := #[t,t'] }) (hd:o.dst.all (· < Γ.n)=true) (ht:P.underlying t=some (.slice E)) (hi:P.info? E=some i) (hes:i.size=es) (hz:i.zero=some zv) (hx:s.ev x=some (.one (.ps k es lo n))) (hk:s.gob k=some (mkP c E es xs))
  (hsrc:a0Jq P s t' E es zv z ys) (hlo:lo+n<=xs.length) (hpos:0<es) (hroom:lo+n+ys.length<=(c.getD xs.length)) (h48:lo+n+ys.length<=281474976710656) (hb:ys.length*i.bytes<=281474976710656) :
  XOp Γ P o s ((s.setOb k (mkP c E es (xs.take (lo+n)++ys++xs.drop (lo+n+ys.length)))).upd o.dst (.one (.ps k es lo (n+ys.length))) []):=by
 intro a w S β K' R hs hK
 have hv:=(hs.eval hx).one_inv
 obtain ⟨hyes,us,h1,h2,h3⟩:=hsrc.h Γ a w S β hs
 obtain ⟨hp,hside⟩:=p5q.1 (hs.mem.ob k _ hk)
 generalize hva:a.eval x=v at hv
 have hcap:c.getD xs.length<=(β k).sc:=by
  cases c with
  | none=>exact hp.1
  | some c=>have:(β k).sc=c:=hside; simp [this]
 cases hv with
 | @ps _ _ _ _ ad cap g1 g2 g3 =>
  have hpar:RepA w S β (.ps k es (lo+n) (cap-n)) (.slice (ad.map (·.add (n*es))) (cap-n) (cap-n)):=.ps (aDz _) (by omega) fun hp=>by rw [g3 (by omega)]; simp [o7q,aJz]
  obtain ⟨w',p1,p2,p3⟩:=hs.putP (P:=P) (ys:=ys) hk hpar hlo (by omega) (fun e=>by subst e; simpa using hroom) h48 hyes h2 h1
  have hroom':n+ys.length<=cap:=by omega
  have he:(execOp a.eval o).run P w = .ok (.value (.slice ad (n+ys.length) cap)) w':=by
   have hsz:(sizeOf E).run P w = .ok es w:=by simp [sizeOf,typeInfo,hi,hes]
   have hst:ad=none->w'=w:=fun e=>p2 (by rw [e]; rfl)
   rcases h3 with ⟨e',ht',r0,r1,r2,_⟩ | ⟨kn,kq,ht',hz1,hzu⟩
   ·cases ad with
    | none =>
     have:=hst rfl
     subst this
     simp [execOp,ho,resolve,invoke,builtin,hva,aFz,run_underlying ht,run_underlying ht',hsz,r0,hroom',r2]
    | some b =>
     have:=p1 _ rfl
     simp [execOp,ho,resolve,invoke,builtin,hva,aFz,run_underlying ht,run_underlying ht',hsz,r0,hroom',r2,this]
   ·have hw:IntKind.i64.wrap (ys.length:Int)=ys.length:=by rw [bgz]; omega
    have hneg:¬((ys.length:Int)<0):=by omega
    have h48i:¬(281474976710656<(ys.length:Int)*(i.bytes:Int)):=by rw [<-Int.natCast_mul]; omega
    have hzv:(zeroValue E).run P w = .ok zv w:=by simp [zeroValue,typeInfo,hi,hz]
    have hti:(typeInfo E).run P w = .ok i w:=by simp [typeInfo,hi]
    by_cases h0:ys.length=0
    ·have hys:ys=[]:=a3z h0
     subst hys
     simp only [b8z,Nat.zero_mul] at h1 hw hneg h48i
     have hus:us=[]:=a3z h1
     subst hus
     have hw0:IntKind.i64.wrap (0:Int)=0:=by rw [bgz]; rfl
     cases ad with
     | none =>
      have:=hst rfl
      subst this
      simp [execOp,ho,resolve,invoke,builtin,hva,hz1,aFz,run_underlying ht,run_underlying ht',hsz,asInt,asIntOf,hw0,hti,g1]
     | some b =>
      have:=p1 _ rfl
      simp [execOp,ho,resolve,invoke,builtin,hva,hz1,aFz,run_underlying ht,run_underlying ht',hsz,asInt,asIntOf,hw0,hti,g1,this]
    ·have hns:¬(ys.length*es=0):=bCz h0 (by omega)
     rw [hzu] at p1
     have hne:ys≠[]:=fun e=>h0 (by rw [e]; rfl)
     have hes0:es≠0:=by omega
     cases ad with
     | none=>exact absurd (g3 (by omega)) (by simp)
     | some b =>
      have:=p1 _ rfl
      simp [execOp,ho,resolve,invoke,builtin,hva,hz1,aFz,run_underlying ht,run_underlying ht',hsz,asInt,asIntOf,hw,hneg,hti,h48i,hns,hne,hes0,hroom',hzv,this]
  unfold Oper.wp
  rw [he,Oper.upon_value]
  refine hK _ _ S β (p3.upd (Grow.refl p3.mem.lt) (RepV.one (.ps hroom' g2 g3)) hd rfl)
end
section
variable {Γ:Cx} {P:Program} {o:Oper} {s:St} {t t':TypeId} {x z:Operand}
theorem a51q {w : World} {S : Nat → Prop} {E es n cap : Nat} {ad : Option Addr} {zv : Value} {i : TypeInfo} {olds ys : List (List Da)} {vs us : List Value} {vz : Value} (ty : TypeId) (ht : P.underlying t = some (.slice E)) (hi : P.info? E = some i) (hes : i.size = es) (hz : i.zero = some zv) (hzs : zv.cells.size = es) (hpos : 0 < es)
    (hvl : vs.length = n * es) (hold : (Builtin.firstCells es n (.slice ad n cap)).run P w.drew = .ok vs.toArray w.drew) (hul : us.length = ys.length * es)
    (h3 : (∃ e', P.underlying t' = some (.slice e') ∧ (Builtin.lenOf vz).run P w = .ok ys.length w ∧ (∀ w' : World, (Builtin.lenOf vz).run P w' = .ok ys.length w') ∧ (Builtin.firstCells es ys.length vz).run P w = .ok us.toArray w ∧ (Builtin.firstCells es ys.length vz).run P w.drew = .ok us.toArray w.drew) ∨
     ∃ kn kq, P.underlying t' = some (.int kn) ∧ vz = .int kq ys.length ∧ us = (Builtin.zeroCells zv.cells ys.length).toList) (hone : ∀ u ∈ us, u.oneCell' = true) (hg : cap < n + ys.length) (hnc : n ≤ cap) (hb : (n + ys.length) * i.bytes ≤ 140737488355328) (h48 : n + ys.length ≤ 281474976710656) :
    ∃ (g : Nat) (rest : Array Value), n + ys.length ≤ g ∧ g ≤ maxLen ∧ (vs.toArray ++ us.toArray ++ rest).size = g * es ∧ (Builtin.append_ #[t, t'] ty #[.slice ad n cap, vz]).run P w = .ok (.slice (some ⟨w.heap.size, 0, none⟩) (n + ys.length) g) (w.drew.alloc (.cells (vs.toArray ++ us.toArray ++ rest) E)) := by
  refine ⟨grownCap w (n + ys.length) cap E, Builtin.zeroCells zv.cells (grownCap w (n + ys.length) cap E - (n + ys.length)), grownCap_ge .., grownCap_le_maxLen _ _ _ _ (by unfold maxLen; omega), ?_, ?_⟩
  · have := grownCap_ge w (n + ys.length) cap E
    simp only [Array.size_append, List.size_toArray, size_zeroCells, hzs, hvl, hul]
    rw [← Nat.add_mul, ← Nat.add_mul]
    congr 1; omega
  · subst hes
    have hfit := growslice_fits (bytes := i.bytes) hg hb
    rcases h3 with ⟨e', ht', r0, r1, r2, r3⟩ | ⟨kn, kq, ht', rfl, rfl⟩
    · have := run_append_grow_src (P := P) w t t' ty E i zv ht hi hz ad n cap vs hold vz ys.length us ⟨.inl ⟨e', ht'⟩, r1, r2, r3, hul, hone⟩ hg (by omega) hfit
      rw [this]
      simp
    · have hkb : ys.length * i.bytes ≤ 281474976710656 := Nat.le_trans (Nat.mul_le_mul_right _ (Nat.le_add_left _ n)) (by omega)
      have := Lib.run_append_grow_zeros (P := P) w t t' ty E i zv kq kn ht ht' hi hz ad n cap vs hold ys.length (by omega) hpos hg (by omega) hkb hfit
      rw [this]
theorem Grow.drew {w w':World} {S S':Nat->Prop} {β β':Nat->OLoc} {nob:List (Nat×Ob)} (h:Grow w.drew S β nob w' S' β'):Grow w S β nob w' S' β':=⟨h.os,h.tape,h.output,h.size,h.block,h.sub,h.sup,h.loc,h.ob,h.own,h.sep,h.clm,h.sepc⟩
theorem abfq {k E es lo n c d:Nat} {xs ys:List (List Da)} {zv:Value} {i:TypeInfo} (ho:o.op = .call { callee:=.builtin .append,args := #[x,z],argTypes := #[t,t'] }) (ht:P.underlying t=some (.slice E)) (hi:P.info? E=some i) (hes:i.size=es) (hz:i.zero=some zv) (hzs:zv.cells.size=es) (hx:s.ev x=some (.one (.ps k es lo n))) (hk:s.gob k=some (.fu E es xs c))
  (hsrc:a0Jq P s t' E es zv z ys) (hlo:lo+n<=xs.length) (hpos:0<es) (hroom:c<lo+n+ys.length) (h48:n+ys.length<=281474976710656) (hb:(n+ys.length)*i.bytes<=140737488355328):OpL P o s (.one (.ol d)) [(d,.lst E es ((xs.drop lo).take n++ys))]:=by
 intro Γ a w S β hs K R hK
 have hv:=(hs.eval hx).one_inv
 obtain ⟨hyes,us,h1,h2,h3⟩:=hsrc.h Γ a w S β hs
 obtain ⟨hp,hside⟩:=(p5q (c:=some c)).1 (hs.mem.ob k _ hk)
 have hside:(β k).sc=c:=hside
 obtain ⟨vs,v1,v2,_,v4⟩:=hp.part hlo
 have hlen:((xs.drop lo).take n).length=n:=by rw [adz,alz]; omega
 generalize hva:a.eval x=v at hv
 cases hv with
 | @ps _ _ _ _ ad cap g1 g2 g3 =>
  have hold:(a5z es n (.slice ad n cap)).run P w.drew = .ok vs.toArray w.drew:=by
   by_cases hn:n=0
   ·subst hn
    have:vs=[]:=a3z (by simpa using v1)
    subst this
    cases ad with
    | none=>simp [a5z]
    | some a=>simpa [a5z] using s9q P w.drew a
   ·have ha:=g3 (by omega)
    subst ha
    have:=run_loadCells_list (P:=P) w.drew ⟨(β k).blk,lo*es,none⟩ vs (fun j u hu=>by rw [o7q]; simpa using v4 j u hu)
    rw [v1] at this
    simpa [a5z] using this
  obtain ⟨g,rest,r1,r2,r3,r4⟩:=a51q (w:=w) (S:=S) (olds:=(xs.drop lo).take n) (ys:=ys) (vs:=vs) (us:=us) (vz:=a.eval z) o.type ht hi hes hz hzs hpos v1 hold h1 h3 h2.oneCells (by omega) g1 hb h48
  have he:(execOp a.eval o).run P w = .ok (.value (.slice (some ⟨w.heap.size,0,none⟩) (n+ys.length) g)) (w.drew.alloc (.cells (vs.toArray++us.toArray++rest) E)):=by
   simp only [execOp,ho,resolve,invoke,builtin,axz,aEz,akz,aPz,bbz,List.map_nil,hva,r4]
  have hL:=a32q (w:=w.drew) (S:=S) (β:=β) (d:=d) (E:=E) (es:=es) (cap:=g) (xs:=(xs.drop lo).take n++ys) (c:=vs.toArray++us.toArray++rest) hs.mem.lt r3 (by simp only [a7z,hlen]; exact r1) r2 (fun y hy=>by
   rcases a1z.1 hy with hy | hy
   ·exact hp.2.2.1 y (aGz (aHz hy))
   ·exact hyes y hy) (by simp only [a7z,hlen]; exact h48) (by
    have e:(vs.toArray++us.toArray++rest).toList.take (((xs.drop lo).take n++ys).length*es)=vs++us:=by
     simp only [bsz,a7z,hlen]
     exact arz (by simp [v1,h1,aJz])
    rw [e,auz]
    exact (v2.app h2).mono (fun _ _=>rfl) fun _ h=>h)
  simp only [a7z,hlen] at hL
  unfold Oper.wp
  rw [he,Oper.upon_value]
  exact hK _ _ S _ hL.1.drew hL.2
theorem adjq {E es d:Nat} {ys:List (List Da)} {zv:Value} {i:TypeInfo} (ho:o.op = .call { callee:=.builtin .append,args := #[x,z],argTypes := #[t,t'] }) (ht:P.underlying t=some (.slice E)) (hi:P.info? E=some i) (hes:i.size=es) (hz:i.zero=some zv) (hzs:zv.cells.size=es) (hx:s.ev x=some (.one .e0))
  (hsrc:a0Jq P s t' E es zv z ys) (hpos:0<es) (h48:ys.length<=281474976710656) (hb:ys.length*i.bytes<=140737488355328):OpL P o s (.one (.ol d)) [(d,.lst E es ys)]:=by
 intro Γ a w S β hs K R hK
 have hv:=(hs.eval hx).one_inv
 obtain ⟨hyes,us,h1,h2,h3⟩:=hsrc.h Γ a w S β hs
 generalize hva:a.eval x=v at hv
 cases hv
 by_cases h0:ys.length=0
 ·have hys:ys=[]:=a3z h0
  subst hys
  have hsz:(sizeOf E).run P w = .ok es w:=by simp [sizeOf,typeInfo,hi,hes]
  have hti:(typeInfo E).run P w = .ok i w:=by simp [typeInfo,hi]
  have hw0:IntKind.i64.wrap (0:Int)=0:=by rw [bgz]; rfl
  have hus:us=[]:=a3z (by simpa using h1)
  subst hus
  have he:(execOp a.eval o).run P w = .ok (.value (.slice none 0 0)) w:=by
   rcases h3 with ⟨e',ht',r0,r1,r2,_⟩ | ⟨kn,kq,ht',hz1,hzu⟩
   ·simp only [b8z] at r0 r2
    simp [execOp,ho,resolve,invoke,builtin,hva,aFz,run_underlying ht,run_underlying ht',hsz,r0,r2]
   ·simp only [b8z] at hz1
    simp [execOp,ho,resolve,invoke,builtin,hva,hz1,aFz,run_underlying ht,run_underlying ht',hsz,asInt,asIntOf,hw0,hti]
  unfold Oper.wp
  rw [he,Oper.upon_value]
  let l0:OLoc:=⟨0,none,0,0,false,[],[]⟩
  have hl0:∀b,¬l0.Own b:=fun b hb=>by rcases hb with ⟨h,_⟩ | h <;> simp [l0] at h
  refine hK _ _ S (fun q=>if q=d then l0 else β q) ⟨rfl,rfl,rfl,aDz _,fun _ _=>rfl,fun _ h=>h,fun b hb=>⟨hs.mem.lt b hb,.inl hb⟩,fun q hq=>if_neg fun e=>hq _ (abz.2 rfl) e.symm,fun p hp => ?_,fun p hp b hb => ?_,fun p hp q hq b hb => ?_,fun p hp b hb => ?_,fun p hp q hq b hb => ?_⟩ ?_
  ·rw [abz.1 hp]
   exact .inr ⟨by simp [l0],rfl,none,by simp [l0,OLoc.sv]⟩
  ·rw [abz.1 hp] at hb; simp only [if_pos] at hb; exact (hl0 b hb).elim
  ·rw [abz.1 hp] at hb; simp only [if_pos] at hb; exact (hl0 b hb).elim
  ·rw [abz.1 hp] at hb; simp [l0] at hb
  ·rw [abz.1 hp] at hb; simp [l0] at hb
  ·refine RepV.one ?_
   have:(.slice none 0 0:Value)=((fun q=>if q=d then l0 else β q) d).sv:=by simp [l0,OLoc.sv]
   rw [this]; exact .ol
 ·obtain ⟨g,rest,r1,r2,r3,r4⟩:=a51q (w:=w) (S:=S) (olds:=[]) (ys:=ys) (vs:=[]) (us:=us) (vz:=a.eval z) (n:=0) (cap:=0) (ad:=none) o.type ht hi hes hz hzs hpos (by simp) (by simp [a5z]) h1 h3 h2.oneCells (by omega) (aDz _) (by simpa using hb) (by simpa using h48)
  simp only [Nat.zero_add] at r1 r4
  have he:(execOp a.eval o).run P w = .ok (.value (.slice (some ⟨w.heap.size,0,none⟩) ys.length g)) (w.drew.alloc (.cells ([].toArray++us.toArray++rest) E)):=by
   simp only [execOp,ho,resolve,invoke,builtin,axz,aEz,akz,aPz,bbz,List.map_nil,hva,r4]
  have hL:=a32q (w:=w.drew) (S:=S) (β:=β) (d:=d) (E:=E) (es:=es) (cap:=g) (xs:=ys) (c:=[].toArray++us.toArray++rest) hs.mem.lt r3 r1 r2 hyes h48 (by
    have e:([].toArray++us.toArray++rest).toList.take (ys.length*es)=us:=by
     simp only [bsz,List.nil_append]
     exact arz h1
    rw [e]
    exact h2.mono (fun _ _=>rfl) fun _ h=>h)
  unfold Oper.wp
  rw [he,Oper.upon_value]
  exact hK _ _ S _ hL.1.drew hL.2
end
section
variable {Γ:Cx} {P:Program} {o:Oper} {s:St} {t t':TypeId} {x z:Operand}
def aeFq (P:Program) (f:FuncId):Prop:=∃fn tS tR e size,P.funcs[f]?=some fn/\(fn.name == "runtime.NumGoroutine")=false/\fn.body.isNone=true/\Extern.findNext fn=none/\Extern.find fn=some (Extern.SlicesOverlaps.overlaps #[tS,tS] #[tR])/\P.underlying tS=some (.slice e)/\(P.info? e).map (·.size)=some size
theorem a0Wq {w:World} {b:Nat} {cur:Array Value} {E:TypeId} (hg:w.heap[b]?=some (.cells cur E (0,0))):w.shape? b=some (E,cur.size):=by
 simp [World.shape?,hg]
theorem a0eq {w:World} {b i:Nat} {cur:Array Value} {E:TypeId} (hg:w.heap[b]?=some (.cells cur E (0,0))):w.frozen? ⟨b,i,none⟩=false:=by
 simp [World.frozen?,hg]
theorem adiq {P:Program} (w:World) (tS tR e:TypeId) (ht:P.underlying tS=some (.slice e)) (size:Nat) (hz:∀w,(Go.sizeOf e).run P w = .ok size w) (a b:Option Addr) (la ca lb cb:Nat) (h0:la=0\/lb=0) :
  (Extern.SlicesOverlaps.overlaps #[tS,tS] #[tR] #[.slice a la ca,.slice b lb cb]).run P w = .ok (.bool false) w:=by
 change bHz P (α:=Value) (do
  let some t:=(#[tS,tS]:Array TypeId)[0]? | stuck "slices.overlaps: no parameter types"
  let .slice elem <-underlying t | stuck "slices.overlaps: slice type expected"
  let size <-sizeOf elem
  match a,b with
  | some a,some b =>
   if la=0\/lb=0\/size=0 then pure (Value.bool false)
   else if a.block != b.block&&(<-frozen a)&&(<-frozen b) then unsupported .addressObserved
   else do
    if a.block != b.block then do
     noView a; noView b
     if <-mayBeOne a b then return Value.bool ((<-choose (.extern "sameAddr.stringBytes" 2))==1)
    pure (Value.bool (a.block==b.block&&a.off<b.off+lb*size&&b.off<a.off+la*size))
  | _,_=>pure (Value.bool false)) w=_
 have h1:la=0\/lb=0\/size=0:=by rcases h0 with h | h <;> simp [h]
 cases a <;> cases b <;> simp [run_underlying ht,hz,h1]
theorem aeQq {k1 k2 E1 es1 lo1 n1 E2 es2 lo2 n2:Nat} {c1 c2:Option Nat} {xs1 xs2:List (List Da)} {ts:Array TypeId} {f:FuncId} (hf:aeFq P f) (ho:o.op = .call { callee:=.value (.func f),args := #[x,z],argTypes:=ts }) (hk1:s.gob k1=some (mkP c1 E1 es1 xs1)) (hk2:s.gob k2=some (mkP c2 E2 es2 xs2)) (hne:k1≠k2)
  (hx:s.ev x=some (.one (.ps k1 es1 lo1 n1))\/(s.ev x=some (.one (.ol k1))/\c1=none)) (hz:s.ev z=some (.one (.ps k2 es2 lo2 n2))) (hpos:0<es2):OpL P o s (B false) []:=by
 intro Γ a w S β hs K R hK
 obtain ⟨fn,tS,tR,e,size,f1,f2,f3,f4,f5,f6,f7⟩:=hf
 have hX1:=hs.mem.ob k1 _ hk1
 have hX2:=hs.mem.ob k2 _ hk2
 obtain ⟨p1,_⟩:=p5q.1 hX1
 obtain ⟨p2,_⟩:=p5q.1 hX2
 have hv1:∃es lo n,RepA w S β (.ps k1 es lo n) (a.eval x):=by
  rcases hx with hx | ⟨hx,rfl⟩
  ·exact ⟨_,_,_,(hs.eval hx).one_inv⟩
  ·exact ⟨es1,0,_,(RepA.ps_of_ol hX1 (hs.eval hx).one_inv)⟩
 obtain ⟨es1',lo1',n1',hv1⟩:=hv1
 have hv2:=(hs.eval hz).one_inv
 have hsz:∀w,(sizeOf e).run P w = .ok size w:=by
  intro w
  cases hi:P.info? e with
  | none=>rw [hi] at f7; simp at f7
  | some i =>
   rw [hi] at f7
   simp at f7
   simp [sizeOf,typeInfo,hi,f7]
 generalize hva:a.eval x=v1 at hv1
 generalize hvb:a.eval z=v2 at hv2
 cases hv1 with
 | @ps _ _ _ _ a1 cap1 g1 g2 g3 =>
  cases hv2 with
  | @ps _ _ _ _ a2 cap2 q1 q2 q3 =>
   have hrun:(Extern.SlicesOverlaps.overlaps #[tS,tS] #[tR] #[.slice a1 n1' cap1,.slice a2 n2 cap2]).run P w = .ok (.bool false) w:=by
    by_cases h0:n1'=0\/n2=0
    ·exact adiq w tS tR e f6 size hsz _ _ _ _ _ _ h0
    ·have e1:=g3 (by omega)
     have e2:=q3 (by omega)
     subst e1; subst e2
     have b1:(β k1).has=true/\∃cur,w.heap[(β k1).blk]?=some (.cells cur E1 (0,0)):=by
      rcases p1.2.2.2 with ⟨hh,cur,hg,_⟩ | ⟨_,hz⟩
      ·exact ⟨hh,cur,hg⟩
      ·omega
     have b2:(β k2).has=true/\∃cur,w.heap[(β k2).blk]?=some (.cells cur E2 (0,0))/\cur.size=(β k2).sc*es2:=by
      rcases p2.2.2.2 with ⟨hh,cur,hg,hc,_⟩ | ⟨_,hz⟩
      ·exact ⟨hh,cur,hg,hc⟩
      ·omega
     obtain ⟨h1,cur1,hg1⟩:=b1
     obtain ⟨h2,cur2,hg2,hc2⟩:=b2
     refine Lib.run_overlaps_apart w tS tR e f6 size hsz _ _ _ _ _ _ (fun e=>hne (hs.mem.sep k1 k2 _ _ hk1 hk2 _ (.inl ⟨h1,rfl⟩) (.inl ⟨h2,e.symm⟩))) _ _ _ _ (a0Wq hg1) (a0Wq hg2) ?_ (a0eq hg1) (a0eq hg1)
     rw [hc2]
     exact bCz (by omega) (by omega)
   have hfe:a.eval (.func f) = .func (.func f) #[] #[]:=rfl
   have he:(execOp a.eval o).run P w = .ok (.value (.bool false)) w:=by
    simp only [execOp,ho,resolve,hfe,Deferred.ofValue,axz,aEz,akz,invoke]
    rw [show (#[]:Array Value)++Array.map a.eval #[x,z] ++ #[] = #[.slice a1 n1' cap1,.slice a2 n2 cap2] by simp [hva,hvb]]
    rw [run_callFunc_extern f1 f2 f3 f4 f5,hrun]
    rfl
   unfold Oper.wp
   rw [he,Oper.upon_value]
   exact hK _ _ S β (Grow.refl hs.mem.lt) (RepV.bool _)
end
theorem OpL.xop {Γ:Cx} {P:Program} {o:Oper} {s:St} {y:AV} {nob:List (Nat×Ob)} (h:OpL P o s y nob) (hd:o.dst.all (· < Γ.n)=true) (hfr:s.fresh nob=true):XOp Γ P o s (s.upd o.dst y nob) :=
 fun a w S β K' R hs hK=>h Γ a w S β hs K' R fun v w' S' β' hG hy=>hK _ _ _ _ (hs.upd hG hy hd hfr)
def a9gq (k es n:Nat):At->At
 | .ol o=>if o==k then .ps k es 0 n else .ol o
 | x=>x
theorem aecq {Γ:Cx} {s:St} {a:Act} {w:World} {S:Nat->Prop} {β:Nat->OLoc} {k E es:Nat} {xs:List (List Da)} (hs:Sim Γ s a w S β) (hk:s.gob k=some (.lst E es xs)):∃c,xs.length<=c/\c<=maxLen/\Sim Γ (s.mv (a9gq k es xs.length) k [] (.fu E es xs c)) a w S β:=by
 have hX:=hs.mem.ob k _ hk
 obtain ⟨hp,_⟩:=a3cq.1 hX
 refine ⟨(β k).sc,hp.1,hp.2.1.2,hs.mv (fun y v hy => ?_) ⟨rfl,rfl,rfl,aDz _⟩ (fun _ _ _=>rfl) (fun _ _=>rfl) (fun l hl=>(hs.mem.fix k l hl).2) ((p5q (c:=some (β k).sc)).2 ⟨hp,rfl⟩) (fun b hb=>⟨(hs.mem.own k _ hk b hb).1,.inl ⟨_,hk,hb⟩⟩) (fun b hb=>⟨k,_,.inl rfl,hk,hb⟩)⟩
 cases y with
 | ol q =>
  simp only [a9gq]
  split
  ·rename_i e
   simp at e
   subst e
   exact RepA.ps_of_ol hX hy
  ·exact hy
 | _=>exact hy
theorem adtq {Γ:Cx} {s:St} {a:Act} {w:World} {S:Nat->Prop} {β:Nat->OLoc} {t k E es n:Nat} {c:Option Nat} {xs:List (List Da)} (hs:Sim Γ s a w S β) (hk:s.gob k=some (mkP c E es xs)) (hlow:k<2000) (ht:s.get t=some (.one (.ps k es 0 n))) (hn:n<=xs.length):∃β',Sim Γ (s.appd (some t) k [] (.lst E es (xs.take n))) a w S β':=by
 obtain ⟨hp,hside⟩:=p5q.1 (hs.mem.ob k _ hk)
 obtain ⟨v,hv,hr⟩:=hs.tm t _ ht
 have hr:=hr.one_inv
 have htl:(xs.take n).length=n:=by rw [adz]; omega
 cases hr with
 | @ps _ _ _ _ ad cap g1 g2 g3 =>
  let l':OLoc:={ β k with sa:=ad,sn:=n,sc:=cap,has:=(β k).has&&decide (0<cap) }
  let β':Nat->OLoc:=fun q=>if q=k then l' else β q
  have hβ:∀q,q≠k->β' q=β q:=fun q h=>if_neg h
  have hβk:β' k=l':=if_pos rfl
  have hc:cap=(β k).sc:=by omega
  have hX:ObRep w S β' l' (.lst E es (xs.take n)):=by
   refine a3cq.2 ⟨⟨?_,⟨?_,?_⟩,fun y hy=>hp.2.2.1 y (aHz hy),?_⟩,?_,fun hh => ?_⟩
   ·rw [htl]; exact g1
   ·rw [htl]; have:=hp.2.1.1; omega
   ·show cap<=maxLen; rw [hc]; exact hp.2.1.2
   ·rcases hp.2.2.2 with ⟨hh,cur,hg,hcs,hd⟩ | ⟨hh,hz⟩
    ·by_cases h0:0<cap
     ·refine .inl ⟨by simp [l',hh,h0],cur,hg,by show cur.size=cap*es; rw [hc]; exact hcs,?_⟩
      have e:xs.flatten=(xs.take n).flatten++(xs.drop n).flatten:=by rw [<-auz,a9z]
      rw [e] at hd
      obtain ⟨v1,v2,e2,d1,d2⟩:=hd.split
      have l1:v1.length=n*es:=by rw [d1.len,i6q hp.2.2.1 hn]
      have:cur.toList.take ((xs.take n).length*es)=v1:=by
       rw [htl]
       have e3:(cur.toList.take (xs.length*es)).take (n*es)=cur.toList.take (n*es):=by
        rw [List.take_take,b7z (aiz _ hn)]
       rw [<-e3,e2]
       exact arz l1
      rw [this]
      exact d1
     ·exact .inr ⟨by simp [l',h0],by show cap=0; omega⟩
    ·exact .inr ⟨by simp [l',hh],by show cap=0; omega⟩
   ·show n=(xs.take n).length
    rw [htl]
   ·have:0<cap:=by
     by_cases h0:0<cap
     ·exact h0
     ·simp [l',h0] at hh
    show ad=_
    rw [g3 this,Nat.zero_mul]
  have h2:=hs.mv (f:=killL [k]) (k:=k) (ks:=[]) (X:=.lst E es (xs.take n)) (w':=w) (β':=β') (RepA.killL (fun _ _=>rfl) (fun _ h=>h) fun o ho=>hβ o (by simpa using ho)) ⟨rfl,rfl,rfl,aDz _⟩ (fun _ _ _=>rfl) hβ (fun l hl=>by have:=(hs.mem.fix k l hl).1; omega) (by rw [hβk]; exact hX) (fun b hb => ?_) (fun b hb => ?_)
  ·refine ⟨β',h2.defers,h2.sz,fun i y hi => ?_,⟨h2.mem.lt,fun q Y hq => ?_,fun q Y hq => ?_,fun q q' Y Y' hq hq' => ?_,h2.mem.os,h2.mem.tape,h2.mem.output,h2.mem.size,h2.mem.block,h2.mem.sub,h2.mem.sup,h2.mem.fix,fun q Y hq => ?_,fun q q' Y Y' hq hq' => ?_⟩⟩
   ·rw [a8Eq] at hi
    by_cases e:some t=some i
    ·rw [if_pos e] at hi
     simp at e hi
     subst e; subst hi
     refine ⟨_,hv,RepV.one ?_⟩
     have:(.slice ad n cap:Value)=(β' k).sv:=by rw [hβk]; rfl
     rw [this]; exact .ol
    ·rw [if_neg e] at hi
     exact h2.tm i y (by simpa [St.mv,St.get,St.map,s1q] using hi)
   all_goals first
    | exact h2.mem.ob q Y hq
    | exact h2.mem.own q Y hq
    | exact h2.mem.sep q q' Y Y' hq hq'
    | exact h2.mem.clm q Y hq
    | exact h2.mem.sepc q q' Y Y' hq hq'
  ·rw [hβk] at hb
   have hb':(β k).Own b:=by
    rcases hb with ⟨h1,h2⟩ | h
    ·simp only [l',a0z] at h1
     exact .inl ⟨h1.1,h2⟩
    ·exact .inr h
   exact ⟨(hs.mem.own k _ hk b hb').1,.inl ⟨_,hk,hb'⟩⟩
  ·rw [hβk] at hb
   exact ⟨k,_,.inl rfl,hk,hb⟩
def a2zq (M:List Nat):List Edge->Nat
 | []=>0
 | e::r=>(match Region.binds .any e with
  | true=>2 ^ e.on ||| M.getD e.on 0
  | false=>0) ||| a2zq M r
def r1q:List Oper->List Nat->List Nat
 | [],M=>M
 | o::r,M=>r1q r (M++[a2zq M o.after.toList])
theorem a3vq {M:List Nat} {j:Nat}:∀{es:List Edge},(a2zq M es).testBit j=true->∃e∈es,Region.binds .any e=true/\(e.on=j\/(M.getD e.on 0).testBit j=true)
 | [],h=>by simp [a2zq] at h
 | e::r,h=>by
  simp only [a2zq,bFz,atz] at h
  rcases h with h | h
  ·split at h
   ·rename_i hb
    simp only [bFz,atz,Nat.testBit_two_pow,decide_eq_true_eq] at h
    exact ⟨e,by simp,hb,h⟩
   ·simp at h
  ·obtain ⟨e',h1,h2⟩:=a3vq h
   exact ⟨e',by simp [h1],h2⟩
theorem a1iq {ops:Array Oper}:∀(l pre:List Oper) (M:List Nat),ops.toList=pre++l->M.length=pre.length->(∀i j,(M.getD i 0).testBit j=true->∀f,i<f->F9q ops f i j=true) ->
  ∀i j,((r1q l M).getD i 0).testBit j=true->∀f,i<f->F9q ops f i j=true
 | [],pre,M,_,_,h=>h
 | o::r,pre,M,e,hl,h=>by
  refine a1iq r (pre++[o]) _ (by simp [e]) (by simp [hl]) fun i j hb f hf => ?_
  rcases Nat.lt_trichotomy i M.length with h1 | h1 | h1
  ·rw [amz,aTz h1,<-amz] at hb
   exact h i j hb f hf
  ·subst h1
   rw [amz,avz (aDz _)] at hb
   simp only [buz,aZz,aaz] at hb
   obtain ⟨e',h1,h2,h3⟩:=a3vq hb
   obtain ⟨f,rfl⟩:∃g,f=g+1:=⟨f-1,by omega⟩
   have ho:ops[M.length]?=some o:=by
    rw [<-awz,e,hl,avz (aDz _)]; simp
   simp only [F9q,ho,Array.any_eq_true']
   refine ⟨e',by simpa using h1,?_⟩
   simp only [a0z,atz,beq_iff_eq]
   refine ⟨h2,h3.imp id fun h3 => ?_⟩
   have hlt:e'.on<M.length:=by
    rcases Nat.lt_or_ge e'.on M.length with h4 | h4
    ·exact h4
    ·rw [amz,blz h4] at h3; simp at h3
   exact h _ j h3 f (by omega)
  ·rw [amz,blz (by simp; omega)] at hb
   simp at hb
structure ORow where
 d:Option Nat
 n:List Nat
 m:Nat
 lo:Bool
def a0pq (ops:Array Oper):List Oper->List Nat->Nat->List ORow
 | o::r,m::M,i=>⟨o.dst,h6q ops o,m,o.after.all fun e => !Region.binds .any e||decide (e.on<i)⟩::a0pq ops r M (i+1)
 | _,_,_=>[]
def offD (d:Option Nat) (n:List Nat):Bool:=match d with
 | none=>true
 | some t => !n.contains t
def W5q (x:ORow):List ORow->Nat->Bool
 | [],_=>true
 | y::r,j=>((offD y.d x.n&&offD x.d y.n)||x.m.testBit j)&&W5q x r (j+1)
def a2Wq (all:List ORow):List ORow->Nat->Bool
 | [],_=>true
 | x::r,i=>x.lo&&W5q x (all.take i) 0&&a2Wq all r (i+1)
def a6kq (ops:Array Oper):Bool :=
 let rs:=a0pq ops ops.toList (r1q ops.toList []) 0
 decide (rs.length=ops.size)&&a2Wq rs rs 0
theorem a2Qq {ops:Array Oper}:∀{l:List Oper} {M:List Nat} {k i:Nat} {x:ORow},(a0pq ops l M k)[i]?=some x->∃o m,l[i]?=some o/\M[i]?=some m/\x=⟨o.dst,h6q ops o,m,o.after.all fun e => !Region.binds .any e||decide (e.on<k+i)⟩
 | o::r,m::M,k,0,x,h=>by simp [a0pq] at h; exact ⟨o,m,rfl,rfl,h.symm⟩
 | o::r,m::M,k,i+1,x,h=>by
  simp only [a0pq,List.getElem?_cons_succ] at h
  obtain ⟨o',m',h1,h2,h3⟩:=a2Qq h
  exact ⟨o',m',h1,h2,by rw [h3]; simp only [ORow.mk.injEq,true_and]; congr 1; funext e; rw [show k+1+i=k+(i+1) by omega]⟩
 | [],_,_,i,x,h=>by simp [a0pq] at h
 | _::_,[],_,i,x,h=>by simp [a0pq] at h
theorem a3xq {x:ORow}:∀{l:List ORow} {k j:Nat} {y:ORow},W5q x l k=true->l[j]?=some y->((offD y.d x.n&&offD x.d y.n)||x.m.testBit (k+j))=true
 | y::r,k,0,y',h,hj=>by simp [W5q] at h hj; subst hj; simpa using h.1
 | y::r,k,j+1,y',h,hj=>by
  simp only [W5q,a0z] at h
  have:=a3xq h.2 (by simpa using hj)
  rwa [show k+1+j=k+(j+1) by omega] at this
 | [],_,j,y,h,hj=>by simp at hj
theorem a5cq {all:List ORow}:∀{l:List ORow} {k i:Nat} {x:ORow},a2Wq all l k=true->l[i]?=some x->x.lo=true/\W5q x (all.take (k+i)) 0=true
 | x::r,k,0,x',h,hj=>by simp [a2Wq] at h hj; subst hj; simpa using h.1
 | x::r,k,i+1,x',h,hj=>by
  simp only [a2Wq,a0z] at h
  have:=a5cq h.2 (by simpa using hj)
  rwa [show k+1+i=k+(i+1) by omega] at this
 | [],_,j,y,h,hj=>by simp at hj
theorem a6Hq {d:Option Nat} {n:List Nat} (h:offD d n=true):(d.toList.all fun t => !n.contains t)=true:=by
 cases d with
 | none=>rfl
 | some t=>simpa [offD] using h
theorem a6Qq {ops:Array Oper} (h:a6kq ops=true):K7q ops=true:=by
 simp only [a6kq,a0z,decide_eq_true_eq] at h
 obtain ⟨hlen,h⟩:=h
 have hm:=a1iq (ops:=ops) ops.toList [] [] (by simp) rfl (by simp)
 have get:∀i,i<ops.size->∃x,(a0pq ops ops.toList (r1q ops.toList []) 0)[i]?=some x:=fun i hi=>⟨_,bez (by rw [hlen]; exact hi)⟩
 unfold K7q
 rw [agz]
 intro i hi
 have hi:=aIz.1 hi
 obtain ⟨x,hx⟩:=get i hi
 obtain ⟨oi,mi,h1,h2,h3⟩:=a2Qq hx
 have ho:ops[i]?=some oi:=by rw [<-awz]; exact h1
 obtain ⟨k1,k2⟩:=a5cq h hx
 simp only [ho,a0z]
 refine ⟨?_,?_⟩
 ·rw [h3] at k1
  simpa using k1
 ·rw [agz]
  intro j hj
  have hj:=aIz.1 hj
  obtain ⟨y,hy⟩:=get j hj
  obtain ⟨oj,mj,g1,g2,g3⟩:=a2Qq hy
  have ho':ops[j]?=some oj:=by rw [<-awz]; exact g1
  simp only [ho']
  by_cases hji:j<i
  ·have:=a3xq k2 (j:=j) (y:=y) (by rw [aWz]; simp [hji,hy])
   rw [h3,g3] at this
   simp only [atz,a0z,Nat.zero_add] at this
   rcases this with ⟨t1,t2⟩ | t
   ·simp only [atz,a0z]
    exact .inl (.inr ⟨a6Hq t1,a6Hq t2⟩)
   ·have hb:((r1q ops.toList []).getD i 0).testBit j=true:=by rw [amz,h2]; exact t
    simp only [atz]
    exact .inr (hm i j hb _ hi)
  ·simp [hji]
def eqDa:Da->Da->Option Bool
 | .int k m,.int k' n=>if k=k' then some (decide (m=n)) else none
 | .bool b,.bool c=>some (decide (b=c))
 | .str p,.str q=>some (decide (p=q))
 | _,_=>none
def K1q:List Da->List Da->Option Bool
 | [],[]=>some true
 | [x],[y]=>eqDa x y
 | x::xs,y::ys=>match eqDa x y,K1q xs ys with
  | some a,some b=>some (a&&b)
  | _,_=>none
 | _,_=>none
def abOq (P:Program) (t:TypeId):Bool:=match P.underlying t with
 | some (.int _)=>true
 | some .bool=>true
 | some .string=>true
 | _=>false
def a4Gq (P:Program):List Field->Nat->Bool
 | [],_=>true
 | f::r,i=>f.name != "_" && (f.offset==i&&(abOq P f.type&&a4Gq P r (i+1)))
def eqOk (P:Program) (t:TypeId):Bool:=match P.underlying t with
 | some (.struct fs) => !P.stoodInHeld t&&(!P.eqGuardType P.depth t&&a4Gq P fs.toList 0)
 | _=>false
theorem aemq {P:Program} {w:World} {S S':Nat->Prop} {x y:Da} {u v:Value} {b:Bool} {t:TypeId} {d:Nat} (hx:RepDs w S [x] [u]) (hy:RepDs w S' [y] [v]) (h:eqDa x y=some b) (hf:abOq P t=true):(bDz (d+1) t u v).run P w = .ok b w\/¬(∃k m,x = .int k m/\∃k',P.underlying t=some (.int k'))/\¬(∃c,x = .bool c/\P.underlying t=some .bool)/\¬(∃q,x = .str q/\P.underlying t=some .string):=by
 unfold eqDa at h
 split at h
 ·rename_i k m k' n
  split at h
  ·rename_i hk
   subst hk
   simp at h
   subst h
   rw [hx.int_inv,hy.int_inv]
   by_cases hu:∃k',P.underlying t=some (.int k')
   ·obtain ⟨k',hu⟩:=hu
    left
    rw [run_equalIn_int w d t k k' m n hu]
    congr 1
   ·exact .inr ⟨fun ⟨_,_,_,hh⟩=>hu hh,fun ⟨_,e,_⟩=>(by cases e),fun ⟨_,e,_⟩=>(by cases e)⟩
  ·simp at h
 ·rename_i p q
  simp at h
  subst h
  rw [hx.bool_inv,hy.bool_inv]
  by_cases hu:P.underlying t=some .bool
  ·left
   rw [run_equalIn_bool' w d t p q hu]
   congr 1
  ·exact .inr ⟨fun ⟨_,_,e,_⟩=>(by cases e),fun ⟨_,_,e⟩=>hu e,fun ⟨_,e,_⟩=>(by cases e)⟩
 ·rename_i p q
  simp at h
  subst h
  rw [hx.str_inv.1,hy.str_inv.1]
  by_cases hu:P.underlying t=some .string
  ·left
   rw [run_equalIn_string w d t p q hu,<-beq_toListBytes]
   congr 1
   by_cases e:p=q
   ·subst e; rw [beq_toListBytes]; simp
   ·simp only [e,decide_false]
    rw [beq_toListBytes]
    simp only [beq_eq_false_iff_ne,ne_eq]
    intro h
    rw [ByteArray.toList_eq,ByteArray.toList_eq] at h
    exact e (ByteArray.ext (Array.ext' h))
  ·exact .inr ⟨fun ⟨_,_,e,_⟩=>(by cases e),fun ⟨_,e,_⟩=>(by cases e),fun ⟨_,_,e⟩=>hu e⟩
 ·simp at h
def w1q (P:Program):List Field->List Da->Bool
 | [],[]=>true
 | f::r,.int _ _::xs=>(match P.underlying f.type with | some (.int _)=>true | _=>false)&&w1q P r xs
 | f::r,.bool _::xs=>(match P.underlying f.type with | some .bool=>true | _=>false)&&w1q P r xs
 | f::r,.str _::xs=>(match P.underlying f.type with | some .string=>true | _=>false)&&w1q P r xs
 | _,_=>false
theorem aetq {P:Program} {f:Field} {r:List Field} {x:Da} {xs:List Da} (h:w1q P (f::r) (x::xs)=true):w1q P r xs=true/\((∃k m,x = .int k m/\∃k',P.underlying f.type=some (.int k'))\/(∃c,x = .bool c/\P.underlying f.type=some .bool)\/(∃q,x = .str q/\P.underlying f.type=some .string)):=by
 cases x with
 | int k m =>
  simp only [w1q,a0z] at h
  refine ⟨h.2,.inl ⟨k,m,rfl,?_⟩⟩
  have:=h.1
  split at this
  ·rename_i k' hk; exact ⟨k',hk⟩
  ·simp at this
 | bool c =>
  simp only [w1q,a0z] at h
  refine ⟨h.2,.inr (.inl ⟨c,rfl,?_⟩)⟩
  have:=h.1
  split at this
  ·assumption
  ·simp at this
 | str q =>
  simp only [w1q,a0z] at h
  refine ⟨h.2,.inr (.inr ⟨q,rfl,?_⟩)⟩
  have:=h.1
  split at this
  ·assumption
  ·simp at this
 | sl _=>simp [w1q] at h
 | fn _=>simp [w1q] at h
 | tg _ _=>simp [w1q] at h
theorem a8Vq {P:Program} {w:World} {S S':Nat->Prop} {d:Nat}:∀(fs:List Field) (k:Nat) (xs ys:List Da) (us vs:List Value) (U V:Array Value) (b:Bool),a4Gq P fs k=true->w1q P fs xs=true->K1q xs ys=some b->RepDs w S xs us->RepDs w S' ys vs->(∀i:Nat,U[k+i]?=us[i]?)->(∀i:Nat,V[k+i]?=vs[i]?) ->
  (bmz (d+1) U V fs).run P w = .ok b w:=by
 intro fs
 induction fs with
 | nil =>
  intro k xs ys us vs U V b _ hfit he _ _ _ _
  cases xs with
  | nil=>cases ys <;> simp [K1q] at he; subst he; simp [bmz]
  | cons x r=>cases x <;> simp [w1q] at hfit
 | cons f fs ih =>
  intro k xs ys us vs U V b hok hfit he hx hy hU hV
  simp only [a4Gq,a0z,bne_iff_ne,ne_eq,beq_iff_eq] at hok
  obtain ⟨hn,ho,ht,hok⟩:=hok
  cases xs with
  | nil=>simp [w1q] at hfit
  | cons x xs =>
   obtain ⟨hfit,hk⟩:=aetq hfit
   cases ys with
   | nil=>cases xs <;> simp [K1q] at he
   | cons y ys =>
    obtain ⟨u,us',rfl,hu,hus⟩:=hx.cons_inv
    obtain ⟨v,vs',rfl,hv,hvs⟩:=hy.cons_inv
    have hna:∃d,P.underlying f.type=some d/\E9q d=false:=by
     unfold abOq at ht
     split at ht
     ·rename_i e; exact ⟨_,e,rfl⟩
     ·rename_i e; exact ⟨_,e,rfl⟩
     ·rename_i e; exact ⟨_,e,rfl⟩
     ·simp at ht
    obtain ⟨dd,hd,hag⟩:=hna
    have hpU:(part f.type U f.offset).run P w = .ok u w:=by
     have:=hU 0
     simp only [aYz,aZz] at this
     simp [part,o6q hd,hag,ho,this]
    have hpV:(part f.type V f.offset).run P w = .ok v w:=by
     have:=hV 0
     simp only [aYz,aZz] at this
     simp [part,o6q hd,hag,ho,this]
    have hb:∃b1,eqDa x y=some b1/\((xs=[]/\ys=[]/\b=b1)\/∃b2,K1q xs ys=some b2/\b=(b1&&b2)):=by
     cases xs with
     | nil=>cases ys with
      | nil=>simp only [K1q] at he; exact ⟨b,he,.inl ⟨rfl,rfl,rfl⟩⟩
      | cons _ _ =>
       simp only [K1q] at he
       split at he
       ·rename_i h1 h2; simp [K1q] at h2
       ·simp at he
     | cons x2 xs2 =>
      simp only [K1q] at he
      split at he
      ·rename_i b1 b2 h1 h2; simp at he; exact ⟨b1,h1,.inr ⟨b2,h2,he.symm⟩⟩
      ·simp at he
    obtain ⟨b1,hb1,hb⟩:=hb
    have hrun:(bDz (d+1) f.type u v).run P w = .ok b1 w:=by
     rcases aemq (d:=d) hu hv hb1 ht with h | ⟨n1,n2,n3⟩
     ·exact h
     ·rcases hk with hk | hk | hk
      ·exact absurd hk n1
      ·exact absurd hk n2
      ·exact absurd hk n3
    have hrest:b1=true->(bmz (d+1) U V fs).run P w = .ok b w:=by
     intro hb1t
     have hU':∀i:Nat,U[(k+1)+i]?=us'[i]?:=fun i=>by have:=hU (i+1); simp at this; rw [<-this]; congr 1; omega
     have hV':∀i:Nat,V[(k+1)+i]?=vs'[i]?:=fun i=>by have:=hV (i+1); simp at this; rw [<-this]; congr 1; omega
     rcases hb with ⟨rfl,rfl,rfl⟩ | ⟨b2,h2,rfl⟩
     ·subst hb1t
      exact ih (k+1) [] [] us' vs' U V true hok hfit rfl hus hvs hU' hV'
     ·subst hb1t
      exact ih (k+1) xs ys us' vs' U V _ hok hfit (by simpa using h2) hus hvs hU' hV'
    simp only [bmz,hn,ne_eq,not_false_eq_true,if_true,axz,hpU,hpV,akz,hrun,Sem.run_ite]
    cases b1 with
    | true=>simpa using hrest rfl
    | false =>
     have:b=false:=by
      rcases hb with ⟨_,_,h⟩ | ⟨b2,_,h⟩
      ·exact h
      ·simpa using h
     simp [this]
theorem a8Nq {P:Program} {o:Oper} {av:Operand->Option AV} {x y:Operand} {t t':TypeId} {fs:Array Field} {xs ys:List Da} {b:Bool} (ho:o.op = .binOp .eql t x y t') (hok:eqOk P t=true) (ht:P.underlying t=some (.struct fs)) (hfit:w1q P fs.toList xs=true) (hx:av x=some (.dat xs)) (hy:av y=some (.dat ys)) (he:K1q xs ys=some b):OpP P o av [] (B b) []:=by
 refine c0q fun a w S β _ hr _=>⟨.bool b,?_,RepV.bool _⟩
 obtain ⟨us,e1,h1⟩:=(hr x _ hx (by simp [ho,a6z])).dat_inv
 obtain ⟨vs,e2,h2⟩:=(hr y _ hy (by simp [ho,a6z])).dat_inv
 simp only [eqOk,ht,a0z,aNz] at hok
 have hff:P.fieldsOf t=fs:=by simp [Program.fieldsOf,ht]
 have hrun:(bDz 10000 t (.agg us.toArray) (.agg vs.toArray)).run P w = .ok b w:=by
  rw [show (10000:Nat)=9999+1 from rfl,run_equalIn_agg w 9999 t _ _ (by rw [hff]; exact ht) hok.1,hff]
  exact a8Vq (d:=9998) fs.toList 0 xs ys us vs _ _ b hok.2.2 hfit he h1 h2 (by simp) (by simp)
 simp [execOp,ho,e1,e2,run_eqGuard_agg w .eql t x y _ _ hok.2.1,run_eql_struct,hrun]
def WLoop (P:Program) (c:Code) (Q:Exit->Act->World->Prop) (a:Act) (w:World):Prop:=∀(b:Frame) (k:List Item) (cs:List Frame),
 ∃e a' w',Q e a' w'/\Arrives P (lone (b.at a (.code c :: .inLoop c::k)) cs w) b k cs e a' w'
section
variable {P:Program} {c:Code} {Q:Exit->Act->World->Prop} {a:Act} {w:World}
theorem WLoop.loop (h:WLoop P c Q a w):(Code.loop c).wp P Q a w:=fun b k cs =>
 let ⟨e,a',w',q,r⟩:=h b k cs; ⟨e,a',w',q,.of_steps (.one step_loop) r⟩
theorem WLoop.round (h:c.wp P (Exit.then (WLoop P c Q) Q) a w):WLoop P c Q a w:=by
 intro b k cs
 obtain ⟨e,a₁,w₁,hq,harr⟩:=h b (.inLoop c::k) cs
 cases e with
 | normal =>
  obtain ⟨e₂,a₂,w₂,hq₂,harr₂⟩:=hq b k cs
  exact ⟨e₂,a₂,w₂,hq₂,.of_steps (Steps.trans harr (.one step_inLoop)) harr₂⟩
 | exit id=>exact ⟨_,a₁,w₁,hq,.pass (x:=.inLoop c) rfl (fun _ _=>.inl (by simp)) harr⟩
 | goto l=>exact ⟨_,a₁,w₁,hq,.pass (x:=.inLoop c) rfl (fun _ _=>.inl (by simp)) harr⟩
 | ret=>exact ⟨_,a₁,w₁,hq,.pass (x:=.inLoop c) rfl (fun _ _=>.inl (by simp)) harr⟩
 | panic ch=>exact ⟨_,a₁,w₁,hq,.pass (x:=.inLoop c) rfl (fun _ _=>.inl (by simp)) harr⟩
 | outgrown=>exact ⟨_,a₁,w₁,hq,.pass (x:=.inLoop c) rfl (fun _ _=>.inl (by simp)) harr⟩
end
def To (s s':St):Prop:=∀(Γ:Cx) (a:Act) (w:World) (S:Nat->Prop) (β:Nat->OLoc),Sim Γ s a w S β->∃S' β',Sim Γ s' a w S' β'
theorem To.refl (s:St):To s s:=fun _ _ _ S β h=>⟨S,β,h⟩
theorem To.trans {s t u:St} (h:To s t) (k:To t u):To s u:=fun Γ a w S β hs=>by
 obtain ⟨S',β',h'⟩:=h Γ a w S β hs
 exact k Γ a w S' β' h'
theorem To.frz {s:St} {tr:Bool} {k E es:Nat} {xs:List (List Da)} (hk:s.gob k=some (mkL tr E es xs)) (hpos:0<es):To s (s.frz k xs):=fun _ _ _ S β hs=>by
 obtain ⟨S',_,h⟩:=hs.frz hk hpos
 exact ⟨S',β,h⟩
theorem To.nilOb {s:St} {t d E es:Nat} (ht:s.get t=some (.one .e0)) (hf:s.fresh [(d,.lst E es [])]=true):To s (s.nilOb t d E es):=fun _ _ _ S β hs=>by
 obtain ⟨β',h⟩:=hs.nilOb ht hf
 exact ⟨S,β',h⟩
def WL (Γ:Cx) (P:Program) (c:Code) (N:St->Prop) (E:Exit->St->Prop) (s:St):Prop:=∀(a:Act) (w:World) (S:Nat->Prop) (β:Nat->OLoc),Sim Γ s a w S β ->
 WLoop P c (fun e a' w'=>∃s' S' β',a7Yq N E e s'/\Sim Γ s' a' w' S' β') a w
section
variable {Γ:Cx} {P:Program} {c:Code} {N:St->Prop} {E:Exit->St->Prop} {s s':St} {ops:Array Oper} {l:List Oper} {K:St->Prop}
theorem W_to (h:To s s') (k:W Γ P c N E s'):W Γ P c N E s:=fun a w S β hs=>by
 obtain ⟨S',β',h'⟩:=h Γ a w S β hs
 exact k a w S' β' h'
theorem a1eq (h:To s s') (k:d8q Γ P ops l K s'):d8q Γ P ops l K s:=fun a w S β R hs=>by
 obtain ⟨S',β',h'⟩:=h Γ a w S β hs
 exact k a w S' β' R h'
theorem agVq (h:To s s') (k:WL Γ P c N E s'):WL Γ P c N E s:=fun a w S β hs=>by
 obtain ⟨S',β',h'⟩:=h Γ a w S β hs
 exact k a w S' β' h'
theorem P4q {fn:Func} {r:AV} {I O:List (Nat×Ob)} {mv:List Nat} (h:To s s') (k:RetX P fn s' r I O mv):RetX P fn s r I O mv:=fun w0 S0 n β0 a w S β hs=>by
 obtain ⟨S',β',h'⟩:=h _ a w S β hs
 exact k w0 S0 n β0 a w S' β' h'
theorem afpq (h:WL Γ P c N E s):W Γ P (.loop c) N E s:=fun a w S β hs=>(h a w S β hs).loop
theorem aeoq (h:W Γ P c (fun s'=>WL Γ P c N E s') E s):WL Γ P c N E s:=by
 intro a w S β hs
 refine WLoop.round (Code.wp_mono ?_ (h a w S β hs))
 rintro e a' w' ⟨s',S',β',hq,hs'⟩
 cases e with
 | normal=>exact hq a' w' S' β' hs'
 | _=>exact ⟨s',S',β',hq,hs'⟩
end
def a3hq (l:List (Nat×Nat)) (β:Nat->OLoc) (k:Nat):OLoc:=match l.find? fun p=>p.2==k with
 | some p=>β p.1
 | none=>β k
def a13q (l:List (Nat×Nat)):Bool:=l.all fun p=>(decide (p.2<2000)||p.1==p.2)&&l.all fun q=>(p.2 != q.2||p.1==q.1)&&(p.1 != q.1||p.2==q.2)
def a33q (l:List (Nat×Nat)) (s:St):List Nat->List (Nat×AV)
 | []=>[]
 | t::r=>match s.get t with
  | some x=>(t,x.map (l4q l))::a33q l s r
  | none=>a33q l s r
def a0Nq (l:List (Nat×Nat)) (s:St):List (Nat×Nat)->List (Nat×Ob)
 | []=>[]
 | (k,k')::r=>match s.gob k with
  | some X=>(k',X.map (l4q l))::a0Nq l s r
  | none=>a0Nq l s r
def St.ren (s:St) (l:List (Nat×Nat)) (ts:List Nat):St:=⟨a33q l s ts,a0Nq l s l⟩
theorem a1Aq {l:List (Nat×Nat)} {s:St} {i:Nat} {y:AV}:∀{ts:List Nat},a1q (a33q l s ts) i=some y->∃x,s.get i=some x/\y=x.map (l4q l)
 | [],h=>by simp [a33q,a1q] at h
 | t::r,h=>by
  simp only [a33q] at h
  split at h
  ·rename_i x hx
   simp only [a1q] at h
   split at h
   ·rename_i e; simp at e h; subst e; exact ⟨x,hx,h.symm⟩
   ·exact a1Aq h
  ·exact a1Aq h
theorem a0uq {l:List (Nat×Nat)} {s:St} {i:Nat} {Y:Ob}:∀{m:List (Nat×Nat)},a1q (a0Nq l s m) i=some Y->∃k X,(k,i)∈m/\s.gob k=some X/\Y=X.map (l4q l)
 | [],h=>by simp [a0Nq,a1q] at h
 | (k,k')::r,h=>by
  simp only [a0Nq] at h
  split at h
  ·rename_i X hX
   simp only [a1q] at h
   split at h
   ·rename_i e; simp at e h; subst e; exact ⟨k,X,by simp,hX,h.symm⟩
   ·obtain ⟨k2,X2,hm,h2⟩:=a0uq h; exact ⟨k2,X2,by simp [hm],h2⟩
  ·obtain ⟨k2,X2,hm,h2⟩:=a0uq h; exact ⟨k2,X2,by simp [hm],h2⟩
theorem To.ren {s:St} {l:List (Nat×Nat)} {ts:List Nat} (hg:a13q l=true):To s (s.ren l ts):=by
 simp only [a13q,agz,a0z,atz,decide_eq_true_eq,beq_iff_eq,bne_iff_ne,ne_eq] at hg
 intro Γ a w S β hs
 have hin:∀k k',(k,k')∈l->a3hq l β k'=β k:=by
  intro k k' hm
  unfold a3hq
  split
  ·rename_i p hp
   have h1:=b6z hp
   have h2:=aQz hp
   simp only [beq_iff_eq] at h1
   rcases ((hg p h2).2 (k,k') hm).1 with h | h
   ·exact absurd h1 h
   ·rw [h]
  ·rename_i hn
   have:=btz.1 hn (k,k') hm
   simp at this
 have hf:∀o k,a1q l o=some k->a3hq l β k=β o:=fun o k h=>hin o k (g2q h)
 have hfix:∀o l',Γ.fix o l'->a3hq l β o=l':=by
  intro o l' h
  obtain ⟨h1,h2⟩:=hs.mem.fix o l' h
  unfold a3hq
  split
  ·rename_i p hp
   have h3:=b6z hp
   have h4:=aQz hp
   simp only [beq_iff_eq] at h3
   rcases (hg p h4).1 with h5 | h5
   ·omega
   ·rw [h5,h3]; exact h2
  ·exact h2
 have hT:∀o X,(s.ren l ts).gob o=some X->∃k Y,(k,o)∈l/\s.gob k=some Y/\X=Y.map (l4q l):=fun o X h=>a0uq h
 refine ⟨S,a3hq l β,hs.defers,hs.sz,fun i y hi => ?_,hs.mem.lt,fun o X ho => ?_,fun o X ho b hh => ?_,fun o o' X X' ho ho' b hh hh' => ?_,hs.mem.os,hs.mem.tape,hs.mem.output,hs.mem.size,hs.mem.block,hs.mem.sub,hs.mem.sup,fun o l' h=>⟨(hs.mem.fix o l' h).1,hfix o l' h⟩,fun o X ho b hh => ?_,fun o o' X X' ho ho' b hh hh' => ?_⟩
 ·obtain ⟨x,hx,rfl⟩:=a1Aq hi
  obtain ⟨v,hv,hr⟩:=hs.tm i x hx
  exact ⟨v,hv,hr.map (RepA.ren hf) fun _ _ h=>h⟩
 ·obtain ⟨k,Y,hm,hk,rfl⟩:=hT o X ho
  rw [hin k o hm]
  exact (hs.mem.ob k Y hk).ren hf
 ·obtain ⟨k,Y,hm,hk,rfl⟩:=hT o X ho
  rw [hin k o hm] at hh
  exact hs.mem.own k Y hk b hh
 ·obtain ⟨k,Y,hm,hk,rfl⟩:=hT o X ho
  obtain ⟨k',Y',hm',hk',rfl⟩:=hT o' X' ho'
  rw [hin k o hm] at hh
  rw [hin k' o' hm'] at hh'
  have:=hs.mem.sep k k' Y Y' hk hk' b hh hh'
  subst this
  rcases ((hg _ hm).2 _ hm').2 with h | h
  ·exact absurd rfl h
  ·exact h
 ·obtain ⟨k,Y,hm,hk,rfl⟩:=hT o X ho
  rw [hin k o hm] at hh
  exact hs.mem.clm k Y hk b hh
 ·obtain ⟨k,Y,hm,hk,rfl⟩:=hT o X ho
  obtain ⟨k',Y',hm',hk',rfl⟩:=hT o' X' ho'
  rw [hin k o hm] at hh
  rw [hin k' o' hm'] at hh'
  have:=hs.mem.sepc k k' Y Y' hk hk' b hh hh'
  subst this
  rcases ((hg _ hm).2 _ hm').2 with h | h
  ·exact absurd rfl h
  ·exact h
theorem RepAs.setAt {w:World} {S:Nat->Prop} {β:Nat->OLoc} {y z:At} (hy:∀v,RepA w S β z v->RepA w S β y v):∀{xs:List At} {vs:List Value} {q:Nat},RepAs w S β xs vs->xs[q]?=some z->RepAs w S β (xs.set q y) vs:=by
 intro xs
 induction xs with
 | nil=>intro vs q _ h; simp at h
 | cons x r ih =>
  intro vs q h hq
  cases h with
  | cons h1 h2 =>
   cases q with
   | zero=>simp at hq; subst hq; exact .cons (hy _ h1) h2
   | succ q=>exact .cons h1 (ih h2 (by simpa using hq))
def St.nilCell (s:St) (k q d E es:Nat) (cs:List At):St:=⟨s.tm,(k,.var (cs.set q (.ol d)))::(d,.tr E es [])::s.ob⟩
theorem To.nilCell {s:St} {k q d E es:Nat} {cs:List At} (hk:s.gob k=some (.var cs)) (hc:cs[q]?=some .e0) (hf:s.fresh [(d,.lst E es [])]=true):To s (s.nilCell k q d E es cs):=by
 intro Γ a w S β hs
 let l0:OLoc:=⟨0,none,0,0,false,[],[]⟩
 have hl0:∀b,¬l0.Own b:=fun b hb=>by rcases hb with ⟨h,_⟩ | h <;> simp [l0] at h
 let β':Nat->OLoc:=fun o=>if o=d then l0 else β o
 have hlow:=I1q hf _ (abz.2 rfl)
 have hβ:∀o,o≠d->β' o=β o:=fun o ho=>if_neg ho
 have hd:β' d=l0:=if_pos rfl
 have hkd:k≠d:=fun e=>(v7q hf hk).1 _ (abz.2 rfl) e.symm
 have hT:∀o X,(s.nilCell k q d E es cs).gob o=some X->(o=k/\X = .var (cs.set q (.ol d)))\/(o=d/\X = .tr E es [])\/(o≠d/\o≠k/\s.gob o=some X):=by
  intro o X ho
  simp only [St.nilCell,St.gob,a1q] at ho
  by_cases e:k=o
  ·subst e; simp at ho; exact .inl ⟨rfl,ho.symm⟩
  ·by_cases e2:d=o
   ·subst e2; simp [e] at ho; exact .inr (.inl ⟨rfl,ho.symm⟩)
   ·simp [e,e2] at ho; exact .inr (.inr ⟨fun h=>e2 h.symm,fun h=>e h.symm,ho⟩)
 have hids:∀o X,s.gob o=some X->∀o'∈X.ids,β' o'=β o':=fun o X ho o' ho'=>hβ o' fun e=>(v7q hf ho).2 o' ho' _ (abz.2 rfl) e.symm
 have hnil:(.slice none 0 0:Value)=(β' d).sv:=by rw [hd]; rfl
 refine ⟨S,β',hs.defers,hs.sz,fun i x hi => ?_,⟨hs.mem.lt,fun o X ho => ?_,fun o X ho b hh => ?_,fun o o' X X' ho ho' b hh hh' => ?_,hs.mem.os,hs.mem.tape,hs.mem.output,hs.mem.size,hs.mem.block,hs.mem.sub,hs.mem.sup,fun o l hl => ?_,fun o X ho b hh => ?_,fun o o' X X' ho ho' b hh hh' => ?_⟩⟩
 ·obtain ⟨v,hv,hr⟩:=hs.tm i x hi
  exact ⟨v,hv,hr.mono (fun _ _=>rfl) (fun _ h=>h) fun o ho=>hβ o fun e=>O2q hf hi o ho _ (abz.2 rfl) e.symm⟩
 ·rcases hT o X ho with ⟨rfl,rfl⟩ | ⟨rfl,rfl⟩ | ⟨h1,h2,ho⟩
  ·rw [hβ o hkd]
   have h1:=(hs.mem.ob o _ hk).mono (w':=w) (S':=S) (β':=β') (fun _ _=>rfl) (fun _ _=>rfl) (fun _ h=>h) (hids o _ hk)
   obtain ⟨hh,c,E0,hg,hr⟩:=h1
   refine ⟨hh,c,E0,hg,RepAs.setAt (z:=.e0) (fun v hv => ?_) hr hc⟩
   cases hv
   rw [hnil]; exact .ol
  ·rw [hd]
   exact .inl ⟨rfl,by simp,by simp,[],[],⟨by simp,.inl ⟨rfl,rfl⟩⟩,.nil,by simp,by simp⟩
  ·rw [hβ o h1]
   exact (hs.mem.ob o X ho).mono (fun _ _=>rfl) (fun _ _=>rfl) (fun _ h=>h) (hids o X ho)
 ·rcases hT o X ho with ⟨rfl,rfl⟩ | ⟨rfl,rfl⟩ | ⟨h1,h2,ho⟩
  ·rw [hβ o hkd] at hh; exact hs.mem.own o _ hk b hh
  ·rw [hd] at hh; exact (hl0 b hh).elim
  ·rw [hβ o h1] at hh; exact hs.mem.own o X ho b hh
 ·have hold:∀o X,(s.nilCell k q d E es cs).gob o=some X->(β' o).Own b->o≠d/\∃Y,s.gob o=some Y:=by
   intro o X ho hh
   rcases hT o X ho with ⟨rfl,rfl⟩ | ⟨rfl,rfl⟩ | ⟨h1,h2,ho⟩
   ·exact ⟨hkd,_,hk⟩
   ·rw [hd] at hh; exact (hl0 b hh).elim
   ·exact ⟨h1,_,ho⟩
  obtain ⟨h1,Y,hY⟩:=hold o X ho hh
  obtain ⟨h2,Y',hY'⟩:=hold o' X' ho' hh'
  rw [hβ o h1] at hh; rw [hβ o' h2] at hh'
  exact hs.mem.sep o o' Y Y' hY hY' b hh hh'
 ·obtain ⟨h1,h2⟩:=hs.mem.fix o l hl
  exact ⟨h1,(hβ o (by omega)).trans h2⟩
 ·rcases hT o X ho with ⟨rfl,rfl⟩ | ⟨rfl,rfl⟩ | ⟨h1,h2,ho⟩
  ·rw [hβ o hkd] at hh; exact hs.mem.clm o _ hk b hh
  ·rw [hd] at hh; cases hh
  ·rw [hβ o h1] at hh; exact hs.mem.clm o X ho b hh
 ·have hold:∀o X,(s.nilCell k q d E es cs).gob o=some X->b∈(β' o).clm->o≠d/\∃Y,s.gob o=some Y:=by
   intro o X ho hh
   rcases hT o X ho with ⟨rfl,rfl⟩ | ⟨rfl,rfl⟩ | ⟨h1,h2,ho⟩
   ·exact ⟨hkd,_,hk⟩
   ·rw [hd] at hh; cases hh
   ·exact ⟨h1,_,ho⟩
  obtain ⟨h1,Y,hY⟩:=hold o X ho hh
  obtain ⟨h2,Y',hY'⟩:=hold o' X' ho' hh'
  rw [hβ o h1] at hh; rw [hβ o' h2] at hh'
  exact hs.mem.sepc o o' Y Y' hY hY' b hh hh'
def St.nilDat (s:St) (t:Nat):St:=⟨(t,.one (.d (.sl [])))::s.tm,s.ob⟩
theorem To.nilDat {s:St} {t:Nat} (ht:s.get t=some (.one .e0)):To s (s.nilDat t):=by
 intro Γ a w S β hs
 refine ⟨S,β,hs.defers,hs.sz,fun i x hi => ?_,hs.mem⟩
 simp only [St.nilDat,St.get,a1q] at hi
 by_cases e:t=i
 ·subst e
  simp at hi
  subst hi
  obtain ⟨v,hv,hr⟩:=hs.tm t _ ht
  cases hr.one_inv
  exact ⟨_,hv,RepV.one (.d (RepDs.sl_nil _ _))⟩
 ·simp [e] at hi; exact hs.tm i x hi
structure Do (p:Prop):Prop where
 h:p
inductive CK where
 | i (k:IntKind)
 | b
 | s
 | l
 | f
 | a
 deriving DecidableEq
def shC:CK->(Da->Prop)->Prop
 | .i k,K=>∃n:Int,K (.int k n)
 | .b,K=>∃b:Bool,K (.bool b)
 | .s,K=>∃q:ByteArray,K (.str q)
 | .l,K=>∃xs:List (List Da),K (.sl xs)
 | .f,K=>∃f:FuncId,K (.fn f)
 | .a,K=>∃d:Da,K d
def shp:List CK->(List Da->Prop)->Prop
 | [],K=>K []
 | c::r,K=>shC c fun d=>shp r fun ds=>K (d::ds)
theorem a9lq {c:CK} {K:Da->Prop} (h:shC c K):∃d,K d:=by
 cases c <;> exact h.elim fun _ h=>⟨_,h⟩
theorem D3q:∀{l:List CK} {K:List Da->Prop},shp l K->∃ds,ds.length=l.length/\K ds
 | [],_,h=>⟨[],rfl,h⟩
 | c::r,K,h=>by
  obtain ⟨d,h⟩:=a9lq h
  obtain ⟨ds,hl,h⟩:=D3q h
  exact ⟨d::ds,by simp [hl],h⟩
inductive RK where
 | k (c:CK)
 | o (E es:Nat)
 | e
inductive RS where
 | c (k:CK)
 | d (ks:List CK)
 | o (E es:Nat)
 | b (E es:Nat)
 | s (ks:List RK)
 | p (ks:List RK)
 | t (rs:List RS)
structure Env where
 tab:List (Nat×TI)
 zer:List (Nat×(Nat×Nat×List At))
 cks:List (Nat×List CK)
 sig:List (Nat×RS)
 fns:List Nat
 obj:List Nat
 ext:List Nat
 eqt:List (Nat×List CK)
 lw:Bool:=false
 prm:List Nat:=[]
 cols:List (Nat×Nat):=[]
 tkn:List (Nat×Nat):=[]
 ovl:List Nat:=[]
 nlc:List (Nat×List (Nat×Nat×Nat)):=[]
 dgl:List Nat:=[]
def agSq (P:Program) (f:FuncId):Prop:=∃fn,P.funcs[f]?=some fn/\(fn.name == "runtime.NumGoroutine")=false/\fn.body.isNone=true/\Extern.findNext fn=none/\Extern.find fn=some Extern.BytealgIndexByte.indexByte
def a0Sq (P:Program):List Field->List CK->Bool
 | [],[]=>true
 | f::r,c::ks=>(match P.underlying f.type,c with
  | some (.int _),.i _=>true
  | some .bool,.b=>true
  | some .string,.s=>true
  | _,_=>false)&&a0Sq P r ks
 | _,_=>false
def ckDa:List CK->List Da->Bool
 | [],[]=>true
 | .i _::ks,.int _ _::xs=>ckDa ks xs
 | .b::ks,.bool _::xs=>ckDa ks xs
 | .s::ks,.str _::xs=>ckDa ks xs
 | _,_=>false
def aeyq (P:Program) (t:TypeId) (ks:List CK):Bool:=match P.underlying t with
 | some (.struct fs)=>eqOk P t&&a0Sq P fs.toList ks
 | _=>false
theorem a6Lq {P:Program}:∀{fs:List Field} {ks:List CK} {xs:List Da},a0Sq P fs ks=true->ckDa ks xs=true->w1q P fs xs=true
 | [],[],xs,_,h=>by cases xs <;> simp_all [ckDa,w1q]
 | [],_::_,_,h,_=>by simp [a0Sq] at h
 | _::_,[],_,h,_=>by simp [a0Sq] at h
 | f::r,c::ks,xs,h,k=>by
  simp only [a0Sq,a0z] at h
  obtain ⟨h1,h2⟩:=h
  cases xs with
  | nil=>cases c <;> simp [ckDa] at k
  | cons x xs =>
   cases c <;> cases x <;> simp only [ckDa,Bool.false_eq_true] at k <;> simp only [w1q,a0z] <;> refine ⟨?_,a6Lq h2 k⟩ <;> (split at h1 <;> simp_all)
def fnOk (P:Program) (f:FuncId):Bool:=match P.funcs[f]? with
 | some fn => !fn.body.isNone && !(fn.name == "runtime.NumGoroutine")
 | none=>false
structure EnvOk (P:Program) (E:Env):Prop where
 tab:TabOk P E.tab
 zer:∀t z,a1q E.zer t=some z->ZeroOk P t z.1 z.2.1 z.2.2
 fns:(E.fns.all fun f=>fnOk P f)=true
 ext:∀f∈E.ext,agSq P f
 eqt:(E.eqt.all fun p=>aeyq P p.1 p.2)=true
 ovl:∀f∈E.ovl,aeFq P f
theorem a0fq {P:Program} {f:FuncId} (h:fnOk P f=true):∃fn,P.funcs[f]?=some fn/\fn.body.isNone=false/\(fn.name == "runtime.NumGoroutine")=false:=by
 unfold fnOk at h
 split at h
 ·rename_i fn hf
  simp only [a0z,aNz] at h
  exact ⟨fn,hf,h.1,h.2⟩
 ·simp at h
def opt {α:Type} (z:Prop) (o:Option α) (K:α->Prop):Prop:=match o with
 | some a=>K a
 | none=>z
def chk (z:Prop) (b:Bool) (K:Prop):Prop:=match b with
 | true=>K
 | false=>z
def ifB (b:Bool) (p q:Prop):Prop:=match b with
 | true=>p
 | false=>q
theorem a0q {α:Type} {z:Prop} {o:Option α} {K:α->Prop} (hz:¬z) (h:opt z o K):∃a,o=some a/\K a:=by
 cases o with
 | some a=>exact ⟨a,rfl,h⟩
 | none=>exact absurd h hz
theorem a7q {z:Prop} {b:Bool} {K:Prop} (hz:¬z) (h:chk z b K):b=true/\K:=by
 cases b with
 | true=>exact ⟨rfl,h⟩
 | false=>exact absurd h hz
theorem c5q {b:Bool} {p q:Prop} (h1:b=true->p) (h2:b=false->q):ifB b p q:=by
 cases b with
 | true=>exact h1 rfl
 | false=>exact h2 rfl
theorem a6q {b:Bool} {p q:Prop} (hb:b=true) (h:p):ifB b p q:=by subst hb; exact h
theorem a3q {b:Bool} {p q:Prop} (hb:b=false) (h:q):ifB b p q:=by subst hb; exact h
theorem b3q {c:Prop} [Decidable c] {p q:Prop} (h1:c->p) (h2:¬c->q):ifB (decide c) p q:=c5q (fun h=>h1 (of_decide_eq_true h)) fun h=>h2 (of_decide_eq_false h)
def asL:Ob->Option (Bool×Nat×Nat×List (List Da))
 | .lst E es xs=>some (false,E,es,xs)
 | .tr E es xs=>some (true,E,es,xs)
 | _=>none
theorem J0q {X:Ob} {p:Bool×Nat×Nat×List (List Da)} (h:asL X=some p):X=mkL p.1 p.2.1 p.2.2.1 p.2.2.2:=by
 cases X <;> simp [asL] at h <;> subst h <;> rfl
def asI:AV->Option (IntKind×Int)
 | .one (.d (.int k n))=>some (k,n)
 | _=>none
def asB:AV->Option Bool
 | .one (.d (.bool b))=>some b
 | _=>none
theorem afaq {X:AV} {k:IntKind} {n:Int} (h:asI X=some (k,n)):X=I k n:=by
 unfold asI at h
 split at h <;> simp at h
 obtain ⟨rfl,rfl⟩:=h
 rfl
theorem aayq {X:AV} {b:Bool} (h:asB X=some b):X=B b:=by
 unfold asB at h
 split at h <;> simp at h
 subst h
 rfl
theorem evI {s:St} {x:Operand} {p:IntKind×Int} (h:(s.ev x).bind asI=some p):s.ev x=some (I p.1 p.2):=by
 cases hx:s.ev x with
 | none=>rw [hx] at h; simp at h
 | some X=>rw [hx] at h; exact congrArg some (afaq h)
def vBin (z:Prop) (pr:Nat) (op:BinOp) (X Y:AV) (k:AV->Prop):Prop:=match X,Y with
 | .one (.d (.int k1 m)),.one (.d (.int k2 n))=>match op with
  | .shl=>Do (0<=n/\n<=k1.bits)/\k (I k1 (k1.wrap (m*2 ^ n.toNat)))
  | .shr=>Do (0<=n/\n<=k1.bits)/\k (I k1 (m / 2 ^ n.toNat))
  | .add=>chk z (decide (k1=k2)) (k (I k1 (k1.wrap (m+n))))
  | .sub=>chk z (decide (k1=k2)) (k (I k1 (k1.wrap (m-n))))
  | .mul=>chk z (decide (k1=k2)) (k (I k1 (k1.wrap (m*n))))
  | .quo=>chk z (decide (k1=k2)) (Do (n≠0)/\k (I k1 (k1.wrap (m.tdiv n))))
  | .rem=>chk z (decide (k1=k2)) (Do (n≠0)/\k (I k1 (m.tmod n)))
  | .lss=>chk z (decide (k1=k2)) (k (B (decide (m<n))))
  | .leq=>chk z (decide (k1=k2)) (k (B (decide (m<=n))))
  | .gtr=>chk z (decide (k1=k2)) (k (B (decide (n<m))))
  | .geq=>chk z (decide (k1=k2)) (k (B (decide (n<=m))))
  | .eql=>chk z (decide (k1=k2)) (k (B (decide (m=n))))
  | .neq=>chk z (decide (k1=k2)) (k (B (decide (m≠n))))
  | .and=>chk z (decide (k1=k2)) (k (I k1 (bits .and k1 m n)))
  | .or=>chk z (decide (k1=k2)) (k (I k1 (bits .or k1 m n)))
  | .xor=>chk z (decide (k1=k2)) (k (I k1 (bits .xor k1 m n)))
  | _=>z
 | .one (.d (.str p)),.one (.d (.str q))=>match op with
  | .eql=>k (B (decide (p=q)))
  | .neq=>k (B (decide (p≠q)))
  | .add=>Do ((p++q).size<=281474976710656)/\k (T (p++q))
  | _=>z
 | .one (.d (.bool b)),.one (.d (.bool c))=>match op with
  | .eql=>chk z (decide (pr=1)) (k (B (decide (b=c))))
  | .neq=>chk z (decide (pr=1)) (k (B (decide (b≠c))))
  | _=>z
 | _,_=>z
section
variable {P:Program} {E:Env} {z:Prop} {o:Oper} {s s0:St}
theorem aaOq (hT : TabOk P E.tab) (hz : ¬ z) {op : BinOp} {t t' : TypeId} {x y : Operand} {X Y : AV} {i : TI} {k : AV → Prop} (ho : o.op = .binOp op t x y t') (ht : a1q E.tab t = some i) (hx : s.ev x = some X) (hy : s.ev y = some Y) (h : vBin z i.pr op X Y k) : ∃ r, OpS P o s s0 r [] ∧ k r := by
  unfold vBin at h
  split at h
  · rename_i k1 m k2 n
    split at h
    · exact ⟨_, d2q (aeSq ho hx hy h.1.h.1 h.1.h.2), h.2⟩
    · exact ⟨_, d2q (af7q ho hx hy h.1.h.1 h.1.h.2), h.2⟩
    all_goals first
      | exact absurd h hz
      | (replace h := a7q hz h
         obtain ⟨hk, h⟩ := h
         obtain rfl := of_decide_eq_true hk
         first
           | exact ⟨_, d2q (aeOq ho hx hy), h⟩
           | exact ⟨_, d2q (aeTq ho hx hy), h⟩
           | exact ⟨_, d2q (afnq ho hx hy), h⟩
           | exact ⟨_, d2q (afsq ho hx hy h.1.h), h.2⟩
           | exact ⟨_, d2q (af2q ho hx hy h.1.h), h.2⟩
           | exact ⟨_, d2q (afoq ho hx hy), h⟩
           | exact ⟨_, d2q (aeRq ho hx hy), h⟩
           | exact ⟨_, d2q (afCq ho hx hy), h⟩
           | exact ⟨_, d2q (af8q ho hx hy), h⟩
           | exact ⟨_, d2q (aflq ho hx hy), h⟩
           | exact ⟨_, d2q (afjq ho hx hy), h⟩
           | exact ⟨_, d2q (affq ho hx hy), h⟩
           | exact ⟨_, d2q (ag6q ho hx hy), h⟩
           | exact ⟨_, d2q (aeMq ho hx hy), h⟩)
  · split at h
    · exact ⟨_, d2q (achq ho hx hy), h⟩
    · exact ⟨_, d2q (acBq ho hx hy), h⟩
    · exact ⟨_, d2q (aaYq ho hx hy h.1.h), h.2⟩
    · exact absurd h hz
  · split at h
    · obtain ⟨hk, h⟩ := a7q hz h
      exact ⟨_, abXq hT ho hx hy ht (of_decide_eq_true hk), h⟩
    · obtain ⟨hk, h⟩ := a7q hz h
      exact ⟨_, acWq hT ho hx hy ht (of_decide_eq_true hk), h⟩
    · exact absurd h hz
  · exact absurd h hz
end
def abTq (z:Prop) (E:Env) (op:BinOp) (t:TypeId) (pr:Nat) (X Y:AV) (k:AV->Prop):Prop:=match X,Y with
 | .dat xs,.dat ys=>match op with
  | .eql=>opt z (a1q E.eqt t) fun ks=>chk z (ckDa ks xs)<|opt z (K1q xs ys) fun b=>k (B b)
  | _=>z
 | X,Y=>vBin z pr op X Y k
theorem aa3q {P:Program} {E:Env} {z:Prop} {o:Oper} {s s0:St} (hE:EnvOk P E) (hz:¬z) {op:BinOp} {t t':TypeId} {x y:Operand} {X Y:AV} {i:TI} {k:AV->Prop} (ho:o.op = .binOp op t x y t') (ht:a1q E.tab t=some i) (hx:s.ev x=some X) (hy:s.ev y=some Y) (h:abTq z E op t i.pr X Y k):∃r,OpS P o s s0 r []/\k r:=by
 unfold abTq at h
 split at h
 ·split at h
  ·obtain ⟨ks,hks,h⟩:=a0q hz h
   obtain ⟨hc,h⟩:=a7q hz h
   obtain ⟨b,hb,h⟩:=a0q hz h
   have:=agz.1 hE.eqt _ (g2q hks)
   simp only [aeyq] at this
   split at this
   ·rename_i fs hfs
    simp only [a0z] at this
    exact ⟨_,d2q (a8Nq ho this.1 hfs (a6Lq this.2 hc) hx hy hb),h⟩
   ·simp at this
  ·exact absurd h hz
 ·exact aaOq hE.tab hz ho ht hx hy h
def orQ (K:Nat->Prop):Nat->Nat->Prop
 | 0,_=>False
 | 1,q=>K q
 | n+1,q=>K q\/orQ K n (q+1)
theorem ac2q {K:Nat->Prop}:∀{n q:Nat},orQ K n q->∃q,K q
 | 0,_,h=>h.elim
 | 1,q,h=>⟨q,h⟩
 | n+2,q,h=>by
  rcases h with h | h
  ·exact ⟨q,h⟩
  ·exact ac2q h
def orH (h:Option Nat) (K:Nat->Prop) (n q:Nat):Prop:=match h with
 | some c=>K c
 | none=>orQ K n q
theorem a2Nq {h:Option Nat} {K:Nat->Prop} {n q:Nat} (hh:orH h K n q):∃q,K q:=by
 cases h with
 | some c=>exact ⟨c,hh⟩
 | none=>exact ac2q hh
def a0bq (E:Env):Operand->Option Nat
 | .tmp t=>a1q E.cols t
 | _=>none
def R5q (E:Env):List Oper->List (Nat×Nat)->List (Nat×Nat)
 | [],M=>M
 | o::r,M=>match o.dst,o.op with
  | some d,.indexAddr _ _ _=>R5q E r ((d,0)::M)
  | some d,.fieldAddr t (.tmp y) q=>match a1q M y,(a1q E.tab t).bind (fun i=>i.fs[q]?) with
   | some c,some (some f)=>R5q E r ((d,c+f.1)::M)
   | _,_=>R5q E r M
  | some d,.move (.tmp y)=>match a1q M y with
   | some c=>R5q E r ((d,c)::M)
   | none=>R5q E r M
  | _,_=>R5q E r M
theorem EnvOk.cols {P:Program} {E:Env} (h:EnvOk P E) (c:List (Nat×Nat)):EnvOk P { E with cols:=c }:=⟨h.tab,h.zer,h.fns,h.ext,h.eqt,h.ovl⟩
def ac5q (z:Prop) (i:TI) (q:Nat) (X:AV) (k:AV->Prop):Prop:=opt z (i.fs[q]?) fun f=>opt z f fun f=>match f.2.2 with
 | false=>opt z X.sc fun cs=>opt z (cs[f.1]?) fun c=>k (.one c)
 | true=>match X with
  | .dat ds=>k (.dat ((ds.drop f.1).take f.2.1))
  | _=>opt z X.sc fun cs=>k (w2q ((cs.drop f.1).take f.2.1))
def a4Hq (z:Prop) (i:TI) (q:Nat) (X:AV) (k:AV->Prop):Prop:=opt z (i.fs[q]?) fun f=>opt z f fun f=>chk z (decide (0<f.2.1))<|match X with
 | .one (.op o off)=>k (.one (.op o (off+f.1)))
 | .one (.ep cs)=>k (.one (.ep (cs.drop f.1)))
 | _=>z
def ab7q (z:Prop) (E:Env) (hc:Option Nat) (i:TI) (s0:St) (X:AV) (k:AV->Prop):Prop:=match X with
 | .one (.ep cs)=>match i.agg with
  | false=>opt z (cs[0]?) fun c=>k (.one (.d c))
  | true=>chk z (decide (i.n<=cs.length)) (k (.dat (cs.take i.n)))
 | .one (.op o off)=>opt z (s0.gob o) fun X=>match X with
  | .var cs=>match i.agg with
   | false=>opt z (cs[off]?) fun c=>k (.one c)
   | true=>chk z (decide (off+i.n<=cs.length)) (k (w2q ((cs.drop off).take i.n)))
  | .fu Ee es xs c=>opt z (a1q E.cks Ee) fun ck=>chk z (decide (ck.length=es)&&decide (i.n=es)) <| ∃n:Nat,off=n*es/\shp ck fun ds=>xs[n]?=some ds/\match i.agg with
    | false=>opt z (ds[0]?) fun c=>chk z (decide (es=1)) (k (.one (.d c)))
    | true=>k (.dat ds)
  | X=>opt z (asL X) fun p=>opt z (a1q E.cks p.2.1) fun ck=>chk z (decide (ck.length=p.2.2.1))<|match decide (i.n=p.2.2.1) with
   | true=>∃n:Nat,off=n*p.2.2.1/\shp ck fun ds=>p.2.2.2[n]?=some ds/\match i.agg with
    | false=>opt z (ds[0]?) fun c=>chk z (decide (p.2.2.1=1)) (k (.one (.d c)))
    | true=>k (.dat ds)
   | false=>chk z (!i.agg&&decide (i.n=1))<|orH hc (fun q=>∃n:Nat,off=n*p.2.2.1+q/\shp ck fun ds=>p.2.2.2[n]?=some ds/\opt z (ds[q]?) fun c=>k (.one (.d c))) p.2.2.1 0
 | _=>z
def a4Yq (z:Prop) (E:Env) (i:TI) (s0:St) (X:AV) (n:Int) (k:AV->Prop):Prop:=opt z i.el fun e=>opt z (a1q E.tab e) fun i2=>match X with
 | .one (.d (.sl xs))=>opt z (a1q E.cks e) fun ck=>chk z (decide (i.pr=4/\0<i2.n/\ck.length=i2.n)) <| ∃m:Nat,n=(m:Int)/\shp ck fun ds=>xs[m]?=some ds/\k (.one (.ep ds))
 | .one (.ol o)=>opt z (s0.gob o) fun X=>match X with
  | .mt Ee es xs=>chk z (decide (i.pr=4/\i2.n=es)) <| ∃m:Nat,n=(m:Int)/\Do (m<xs.length)/\k (.one (.op o (m*es)))
  | X=>opt z (asL X) fun p=>chk z (decide (i.pr=4/\i2.n=p.2.2.1/\0<p.2.2.1)) <| ∃m:Nat,n=(m:Int)/\Do (m<p.2.2.2.length)/\k (.one (.op o (m*p.2.2.1)))
 | .one (.op o off)=>chk z (decide (10<=i.pr/\0<=n/\n<(i.pr-10:Nat))) (k (.one (.op o (off+n.toNat*i2.n))))
 | .one (.ps o es lo l)=>chk z (decide (i.pr=4/\i2.n=es)) <| ∃m:Nat,n=(m:Int)/\Do (m<l)/\k (.one (.op o ((lo+m)*es)))
 | _=>z
def vLen (z:Prop) (i:TI) (s0:St) (X:AV) (k:AV->Prop):Prop:=match X with
 | .one (.d (.str q))=>chk z (decide (i.pr=2)) (k (Z q.size))
 | .one (.d (.sl xs))=>chk z (decide (i.pr=4)&&i.el.isSome) (k (Z xs.length))
 | .one .e0=>chk z (decide (i.pr=4)&&i.el.isSome) (k (Z 0))
 | .one (.ps _ _ _ n)=>chk z (decide (i.pr=4)&&i.el.isSome) (k (Z n))
 | .one (.ol o)=>opt z (s0.gob o) fun X=>match X with
  | .mt Ee es xs=>chk z (decide (i.pr=4)&&i.el.isSome) (k (Z xs.length))
  | X=>opt z (asL X) fun p=>chk z (decide (i.pr=4)&&i.el.isSome) (k (Z p.2.2.2.length))
 | _=>z
def w8q (z:Prop) (s:St) (u:Option Operand) (n0:Nat) (K:Nat->Prop):Prop:=match u with
 | none=>K n0
 | some x=>opt z ((s.ev x).bind asI) fun p=>∃n:Nat,p.2=(n:Int)/\K n
def vCut (z:Prop) (E:Env) (i:TI) (s s0:St) (X:AV) (lo hi:Option Operand) (k:AV->Prop):Prop:=match X with
 | .one (.d (.str q))=>chk z (decide (i.pr=2))<|w8q z s lo 0 fun l=>w8q z s hi q.size fun h=>Do (l<=h/\h<=q.size)/\k (T (q.extract l h))
 | .one (.d (.sl xs))=>opt z i.el fun e=>opt z (a1q E.tab e) fun i2=>chk z (decide (i.pr=4))<|w8q z s lo 0 fun l=>w8q z s hi xs.length fun h=>Do (l<=h/\h<=xs.length)/\Do (∀c∈xs,c.length=i2.n)/\k (L ((xs.take h).drop l))
 | .one (.ps o es l0 n)=>opt z i.el fun e=>opt z (a1q E.tab e) fun i2=>chk z (decide (i.pr=4/\i2.n=es))<|w8q z s lo 0 fun l=>w8q z s hi n fun h=>match s0.gob o with
  | some (.fu _ _ _ c)=>Do (l<=h/\(h<=n\/l0+h<=c))/\k (.one (.ps o es (l0+l) (h-l)))
  | some (.lst _ _ _)=>Do (l<=h/\h<=n)/\k (.one (.ps o es (l0+l) (h-l)))
  | some (.tr _ _ _)=>Do (l<=h/\h<=n)/\k (.one (.ps o es (l0+l) (h-l)))
  | _=>z
 | .one (.ol o)=>opt z i.el fun e=>opt z (a1q E.tab e) fun i2=>match s0.gob o with
  | some (.lst Ee es xs)=>chk z (decide (i.pr=4/\i2.n=es))<|w8q z s lo 0 fun l=>w8q z s hi xs.length fun h=>Do (l<=h/\h<=xs.length)/\k (.one (.ps o es (0+l) (h-l)))
  | some (.tr Ee es xs)=>chk z (decide (i.pr=4/\i2.n=es))<|w8q z s lo 0 fun l=>w8q z s hi xs.length fun h=>Do (l<=h/\h<=xs.length)/\k (.one (.ps o es (0+l) (h-l)))
  | _=>z
 | .one .e0=>opt z i.el fun e=>opt z (a1q E.tab e) fun i2=>chk z (decide (i.pr=4))<|w8q z s lo 0 fun l=>w8q z s hi 0 fun h=>Do (l=0/\h=0)/\k (.one .e0)
 | _=>z
def abmq (z:Prop) (E:Env) (i:TI) (s:St) (X:AV) (lo hi:Option Operand) (mx:Operand) (k:AV->Prop):Prop:=match X,lo,hi with
 | .one (.ps _ _ _ n),some lo,some hi=>opt z i.el fun e=>opt z (a1q E.tab e) fun _=>chk z (decide (i.pr=4))<|w8q z s (some lo) 0 fun l=>w8q z s (some hi) n fun h=>w8q z s (some mx) n fun m=>Do (l<=h/\h<=m/\m<=n)/\k (.one .junk)
 | _,_,_=>z
def vCap (z:Prop) (i:TI) (s0:St) (X:AV) (k:AV->Prop):Prop:=match X with
 | .one .e0=>chk z (decide (i.pr=4)&&i.el.isSome) (k (Z 0))
 | .one (.ps o es lo n)=>chk z (decide (i.pr=4)&&i.el.isSome)<|match s0.gob o with
  | some (.fu _ _ _ c)=>k (Z ((c-lo:Nat):Int))
  | _=>z
 | _=>z
def a3Mq (z:Prop) (E:Env) (i i2:TI) (s0:St) (X:AV) (k:AV->Prop):Prop:=match X with
 | .one (.d (.int kk n))=>match i2.ik with
  | some k'=>k (I k' (k'.wrap n))
  | none=>chk z (decide (i2.pr=2)) (Do ((Utf8.encode n).size<=281474976710656)/\k (T (Utf8.encode n)))
 | .one (.d (.str q))=>chk z (decide (i.pr=2/\i2.pr=2)) (k (T q))
 | .one (.ol o)=>opt z (s0.gob o) fun X=>match X with
  | X=>opt z (asL X) fun p=>opt z i.el fun e=>opt z (a1q E.tab e) fun ie=>chk z (decide (i.pr=4/\i2.pr=2/\p.2.2.1=1/\ie.ik=some .u8)) (∃ns:List Int,p.2.2.2=ns.map (fun n=>[Da.int .u8 n])/\k (T (strOfNums ns)))
 | _=>z
section
variable {P:Program} {E:Env} {z:Prop} {o:Oper} {s s0:St} {t:TypeId} {x y:Operand} {X:AV} {i:TI} {k:AV->Prop}
theorem a88q (hT:TabOk P E.tab) (hz:¬z) {q:Nat} (ho:o.op = .field t x q) (ht:a1q E.tab t=some i) (hx:s.ev x=some X) (h:ac5q z i q X k):∃r,OpS P o s s0 r []/\k r:=by
 replace h:=a0q hz h
 obtain ⟨f,hf,h⟩:=h
 replace h:=a0q hz h
 obtain ⟨⟨off,n,a⟩,rfl,h⟩:=h
 cases a with
 | false =>
  obtain ⟨cs,hcs,h⟩:=a0q hz h
  obtain ⟨c,hc,h⟩:=a0q hz h
  exact ⟨_,acQq hT ho ht hf hx hcs hc,h⟩
 | true =>
  simp only at h
  split at h
  ·exact ⟨_,acpq hT ho ht hf hx,h⟩
  ·obtain ⟨cs,hcs,h⟩:=a0q hz h
   exact ⟨_,a6Gq hT ho ht hf hx hcs,h⟩
theorem a4aq (hT:TabOk P E.tab) (hz:¬z) {q:Nat} (ho:o.op = .fieldAddr t x q) (ht:a1q E.tab t=some i) (hx:s.ev x=some X) (h:a4Hq z i q X k):∃r,OpS P o s s0 r []/\k r:=by
 replace h:=a0q hz h
 obtain ⟨f,hf,h⟩:=h
 replace h:=a0q hz h
 obtain ⟨⟨off,n,a⟩,rfl,h⟩:=h
 obtain ⟨hn,h⟩:=a7q hz h
 have hn:=of_decide_eq_true hn
 split at h
 ·exact ⟨_,a7Dq hT ho ht hf hn hx,h⟩
 ·exact ⟨_,a7Sq hT ho ht hf hn hx,h⟩
 ·exact absurd h hz
theorem a9Jq {hq:Option Nat} (hT:TabOk P E.tab) (hz:¬z) (ho:o.op = .load t x) (ht:a1q E.tab t=some i) (hx:s.ev x=some X) (h:ab7q z E hq i s0 X k):∃r,OpS P o s s0 r []/\k r:=by
 unfold ab7q at h
 split at h
 ·split at h
  ·rename_i ha
   obtain ⟨c,hc,h⟩:=a0q hz h
   exact ⟨_,ac6q hT ho ht ha hx hc,h⟩
  ·rename_i ha
   obtain ⟨hl,h⟩:=a7q hz h
   exact ⟨_,abLq hT ho ht ha hx (of_decide_eq_true hl),h⟩
 ·obtain ⟨Y,hY,h⟩:=a0q hz h
  split at h
  ·split at h
   ·rename_i ha
    obtain ⟨c,hc,h⟩:=a0q hz h
    exact ⟨_,aceq hT ho ht ha hx hY hc,h⟩
   ·rename_i ha
    obtain ⟨hl,h⟩:=a7q hz h
    exact ⟨_,ad3q hT ho ht ha hx hY (of_decide_eq_true hl),h⟩
  ·rename_i Ee es xs c
   obtain ⟨ck,_,h⟩:=a0q hz h
   obtain ⟨hl,n,hoff,h⟩:=a7q hz h
   simp only [a0z,decide_eq_true_eq] at hl
   obtain ⟨ds,hds,hn,h⟩:=D3q h
   obtain ⟨d1,j1,hd,hj,g1,g2,g3,_⟩:=b2q (hT t i ht)
   split at h
   ·rename_i ha
    obtain ⟨c0,hc0,h⟩:=a0q hz h
    obtain ⟨he,h⟩:=a7q hz h
    have he:=of_decide_eq_true he
    subst he
    obtain ⟨c1,rfl⟩:∃c1,ds=[c1]:=by
     match ds,(hds.trans hl.1) with
     | [c1],_=>exact ⟨c1,rfl⟩
    simp at hc0
    subst hc0
    exact ⟨_,⟨_,abUq ho hd (g1.trans ha) hx hn (by omega),hY,trivial⟩,h⟩
   ·rename_i ha
    exact ⟨_,⟨_,acDq ho hd (g1.trans ha) hj hx hn hoff (g2.trans hl.2),hY,trivial⟩,h⟩
  ·obtain ⟨⟨tr,Ee,es,xs⟩,hp,h⟩:=a0q hz h
   have hp:=J0q hp
   rw [hp] at hY
   dsimp only at h hY
   obtain ⟨ck,hck,h⟩:=a0q hz h
   obtain ⟨hl,h⟩:=a7q hz h
   have hl1:=of_decide_eq_true hl
   split at h
   ·rename_i hl2
    have hl2:=of_decide_eq_true hl2
    obtain ⟨n,hoff,h⟩:=h
    obtain ⟨ds,hds,hn,h⟩:=D3q h
    split at h
    ·rename_i ha
     obtain ⟨c,hc,h⟩:=a0q hz h
     obtain ⟨_,h⟩:=a7q hz h
     exact ⟨_,a6Eq (q:=0) hT ho ht ha hx hY hn hc (by omega),h⟩
    ·rename_i ha
     exact ⟨_,actq hT ho ht ha hx hY hn hoff (by omega),h⟩
   ·obtain ⟨ha,h⟩:=a7q hz h
    simp only [a0z,aNz,decide_eq_true_eq] at ha
    obtain ⟨q,n,hoff,h⟩:=a2Nq h
    obtain ⟨ds,hds,hn,h⟩:=D3q h
    obtain ⟨c,hc,h⟩:=a0q hz h
    exact ⟨_,a6Eq (q:=q) hT ho ht ha.1 hx hY hn hc hoff,h⟩
 ·exact absurd h hz
theorem a40q (hT:TabOk P E.tab) (hz:¬z) {kk:IntKind} {n:Int} (ho:o.op = .indexAddr t x y) (ht:a1q E.tab t=some i) (hx:s.ev x=some X) (hy:s.ev y=some (I kk n)) (h:a4Yq z E i s0 X n k):∃r,OpS P o s s0 r []/\k r:=by
 obtain ⟨e,he,h⟩:=a0q hz h
 obtain ⟨i2,ht2,h⟩:=a0q hz h
 split at h
 ·obtain ⟨ck,hck,h⟩:=a0q hz h
  obtain ⟨hl,m,hnm,h⟩:=a7q hz h
  rw [hnm] at hy
  obtain ⟨h1,h2,h3⟩:=of_decide_eq_true hl
  obtain ⟨ds,hds,hm,h⟩:=D3q h
  exact ⟨_,acZq hT ho ht h1 he ht2 h2 hx hy hm (by omega),h⟩
 ·obtain ⟨Y,hY,h⟩:=a0q hz h
  split at h
  ·obtain ⟨hl,m,rfl,hm,h⟩:=a7q hz h
   obtain ⟨h1,h2⟩:=of_decide_eq_true hl
   exact ⟨_,acrq hT ho ht h1 he ht2 hx hY h2 hy hm.h,h⟩
  obtain ⟨⟨tr,Ee,es,xs⟩,hp,h⟩:=a0q hz h
  have hp:=J0q hp
  rw [hp] at hY
  dsimp only at h hY
  obtain ⟨hl,m,rfl,hm,h⟩:=a7q hz h
  obtain ⟨h1,h2,h3⟩:=of_decide_eq_true hl
  exact ⟨_,acHq hT ho ht h1 he ht2 hx hY h2 h3 hy hm.h,h⟩
 ·obtain ⟨hl,h⟩:=a7q hz h
  obtain ⟨h1,h2,h3⟩:=of_decide_eq_true hl
  obtain ⟨m,rfl⟩:=Int.eq_ofNat_of_zero_le h2
  exact ⟨_,ac9q (m:=i.pr-10) hT ho ht he (by omega) ht2 hx hy (by omega),h⟩
 ·obtain ⟨hl,m,rfl,hm,h⟩:=a7q hz h
  obtain ⟨h1,h2⟩:=of_decide_eq_true hl
  obtain ⟨d,j,hd,hj,a1,a2,a3,a4,a5,a6,a7⟩:=b2q (hT t i ht)
  obtain ⟨d2,j2,hd2,hj2,g1,g2,g3,_⟩:=b2q (hT e i2 ht2)
  have:=h5q (a4.trans he) (a6.trans h1); subst this
  exact ⟨_,d2q (aaWq ho hd hj2 (g2.trans h2) hx hy hm.h),h⟩
 ·exact absurd h hz
theorem abvq (hT:TabOk P E.tab) (hz:¬z) (ho:o.op = .call { callee:=.builtin .len,args := #[x],argTypes := #[t] }) (ht:a1q E.tab t=some i) (hx:s.ev x=some X) (h:vLen z i s0 X k):∃r,OpS P o s s0 r []/\k r:=by
 unfold vLen at h
 split at h
 ·obtain ⟨hl,h⟩:=a7q hz h
  exact ⟨_,afOq hT ho hx ht (of_decide_eq_true hl),h⟩
 ·obtain ⟨hl,h⟩:=a7q hz h
  simp only [a0z,decide_eq_true_eq,aez] at hl
  obtain ⟨h1,e,he⟩:=hl
  exact ⟨_,aeXq hT ho hx ht h1 he,h⟩
 ·obtain ⟨hl,h⟩:=a7q hz h
  simp only [a0z,decide_eq_true_eq,aez] at hl
  obtain ⟨h1,e,he⟩:=hl
  exact ⟨_,afMq hT ho hx ht h1 he,h⟩
 ·obtain ⟨hl,h⟩:=a7q hz h
  simp only [a0z,decide_eq_true_eq,aez] at hl
  obtain ⟨h1,e,he⟩:=hl
  obtain ⟨d,j,hd,hj,a1,a2,a3,a4,a5,a6,a7⟩:=b2q (hT t i ht)
  have:=h5q (a4.trans he) (a6.trans h1); subst this
  exact ⟨_,d2q (ae5q ho hd hx),h⟩
 ·obtain ⟨Y,hY,h⟩:=a0q hz h
  split at h
  ·obtain ⟨hl,h⟩:=a7q hz h
   simp only [a0z,decide_eq_true_eq,aez] at hl
   obtain ⟨h1,e,he⟩:=hl
   exact ⟨_,afFq hT ho hx hY ht h1 he,h⟩
  obtain ⟨⟨tr,Ee,es,xs⟩,hp,h⟩:=a0q hz h
  have hp:=J0q hp
  rw [hp] at hY
  dsimp only at h hY
  obtain ⟨hl,h⟩:=a7q hz h
  simp only [a0z,decide_eq_true_eq,aez] at hl
  obtain ⟨h1,e,he⟩:=hl
  exact ⟨_,aeIq hT ho hx hY ht h1 he,h⟩
 ·exact absurd h hz
theorem n1q (hz:¬z) {u:Option Operand} {n0:Nat} {K:Nat->Prop} (h:w8q z s u n0 K):∃(n:Nat) (kk:IntKind),((u=none/\n=n0)\/∃v,u=some v/\s.ev v=some (I kk (n:Int)))/\K n:=by
 unfold w8q at h
 split at h
 ·exact ⟨n0,.i64,.inl ⟨rfl,rfl⟩,h⟩
 ·obtain ⟨p,hp,n,hn,h⟩:=a0q hz h
  exact ⟨n,p.1,.inr ⟨_,rfl,by rw [<-hn]; exact evI hp⟩,h⟩
theorem afkq {k0 off:Nat} {av:Operand->Option AV} (ho:o.op = .nilCheck x) (hx:av x=some (.one (.op k0 off))):OpP P o av [] (.one (.op k0 off)) []:=by
 refine c0q fun a w S β _ hr _ => ?_
 have h0:=(hr x _ hx (by simp [ho,a6z])).one_inv
 generalize hv0:a.eval x=v at h0
 cases h0
 refine ⟨_,?_,RepV.one .op⟩
 simp [execOp,ho,hv0]
theorem a9Mq (hT:TabOk P E.tab) (hz:¬z) {lo hi:Option Operand} {mx:Operand} (ho:o.op = .slice t x lo hi (some mx)) (ht:a1q E.tab t=some i) (hx:s.ev x=some X) (h:abmq z E i s X lo hi mx k):∃r,OpS P o s s0 r []/\k r:=by
 unfold abmq at h
 split at h
 ·rename_i k0 es l0 n lo hi
  obtain ⟨e,he,h⟩:=a0q hz h
  obtain ⟨i2,ht2,h⟩:=a0q hz h
  obtain ⟨hl,h⟩:=a7q hz h
  have p1:=of_decide_eq_true hl
  obtain ⟨l,k1,h1,h⟩:=n1q hz h
  obtain ⟨u,k2,h2,h⟩:=n1q hz h
  obtain ⟨m,k3,h3,⟨g1,g2,g3⟩,h⟩:=n1q hz h
  obtain ⟨d,j,hd,hj,a1,a2,a3,a4,a5,a6,a7⟩:=b2q (hT t i ht)
  obtain ⟨d2,j2,hd2,hj2,_⟩:=b2q (hT e i2 ht2)
  have:=h5q (a4.trans he) (a6.trans p1); subst this
  obtain ⟨x1,q1,h1⟩:∃x1,some lo=some x1/\s.ev x1=some (I k1 (l:Int)):=by
   rcases h1 with ⟨q,_⟩ | ⟨x1,q,h⟩
   ·cases q
   ·exact ⟨x1,q,h⟩
  obtain ⟨x2,q2,h2⟩:∃x1,some hi=some x1/\s.ev x1=some (I k2 (u:Int)):=by
   rcases h2 with ⟨q,_⟩ | ⟨x1,q,h⟩
   ·cases q
   ·exact ⟨x1,q,h⟩
  obtain ⟨x3,q3,h3⟩:∃x1,some mx=some x1/\s.ev x1=some (I k3 (m:Int)):=by
   rcases h3 with ⟨q,_⟩ | ⟨x1,q,h⟩
   ·cases q
   ·exact ⟨x1,q,h⟩
  cases q1; cases q2; cases q3
  exact ⟨_,⟨_,ab0q ho hd hj2 hx h1 h2 h3 g1 g2 g3,trivial⟩,h⟩
 ·exact absurd h hz
theorem abBq (hT:TabOk P E.tab) (hz:¬z) {lo hi:Option Operand} (ho:o.op = .slice t x lo hi none) (ht:a1q E.tab t=some i) (hx:s.ev x=some X) (h:vCut z E i s s0 X lo hi k):∃r,OpS P o s s0 r []/\k r:=by
 unfold vCut at h
 split at h
 ·obtain ⟨hl,h⟩:=a7q hz h
  obtain ⟨l,k1,h1,h⟩:=n1q hz h
  obtain ⟨u,k2,h2,⟨h3,h4⟩,h⟩:=n1q hz h
  exact ⟨_,afeq hT ho ht (of_decide_eq_true hl) hx h1 h2 h3 h4,h⟩
 ·obtain ⟨e,he,h⟩:=a0q hz h
  obtain ⟨i2,ht2,h⟩:=a0q hz h
  obtain ⟨hl,h⟩:=a7q hz h
  obtain ⟨l,k1,h1,h⟩:=n1q hz h
  obtain ⟨u,k2,h2,⟨h3,h4⟩,⟨h5⟩,h⟩:=n1q hz h
  exact ⟨_,afPq hT ho ht (of_decide_eq_true hl) he ht2 h5 hx h1 h2 h3 h4,h⟩
 ·obtain ⟨e,he,h⟩:=a0q hz h
  obtain ⟨i2,ht2,h⟩:=a0q hz h
  obtain ⟨hl,h⟩:=a7q hz h
  obtain ⟨p1,p2⟩:=of_decide_eq_true hl
  obtain ⟨l,k1,h1,h⟩:=n1q hz h
  obtain ⟨u,k2,h2,h⟩:=n1q hz h
  obtain ⟨d,j,hd,hj,a1,a2,a3,a4,a5,a6,a7⟩:=b2q (hT t i ht)
  obtain ⟨d2,j2,hd2,hj2,g1,g2,g3,_⟩:=b2q (hT e i2 ht2)
  have:=h5q (a4.trans he) (a6.trans p1); subst this
  split at h
  ·rename_i Ee es' xs c hY
   obtain ⟨⟨h3,h4⟩,h⟩:=h
   exact ⟨_,⟨_,M3q (c:=c) (fun w S β hX=>by have:_=c:=hX.1; omega) ho hd hj2 (g2.trans p2) hx (fun w S β v _ hv=>hv.one_inv) h1 h2 h3 h4,hY,trivial⟩,h⟩
  ·rename_i Ee es' xs hY
   obtain ⟨⟨h3,h4⟩,h⟩:=h
   exact ⟨_,⟨_,M3q (c:=0) (fun w S β hX=>aMz _) ho hd hj2 (g2.trans p2) hx (fun w S β v _ hv=>hv.one_inv) h1 h2 h3 (.inl h4),hY,trivial⟩,h⟩
  ·rename_i Ee es' xs hY
   obtain ⟨⟨h3,h4⟩,h⟩:=h
   exact ⟨_,⟨_,M3q (c:=0) (fun w S β hX=>aMz _) ho hd hj2 (g2.trans p2) hx (fun w S β v _ hv=>hv.one_inv) h1 h2 h3 (.inl h4),hY,trivial⟩,h⟩
  ·exact absurd h hz
 ·obtain ⟨e,he,h⟩:=a0q hz h
  obtain ⟨i2,ht2,h⟩:=a0q hz h
  split at h
  ·rename_i Ee es xs hY
   obtain ⟨hl,h⟩:=a7q hz h
   obtain ⟨p1,p2⟩:=of_decide_eq_true hl
   obtain ⟨l,k1,h1,h⟩:=n1q hz h
   obtain ⟨u,k2,h2,⟨h3,h4⟩,h⟩:=n1q hz h
   obtain ⟨d,j,hd,hj,a1,a2,a3,a4,a5,a6,a7⟩:=b2q (hT t i ht)
   obtain ⟨d2,j2,hd2,hj2,g1,g2,g3,_⟩:=b2q (hT e i2 ht2)
   have:=h5q (a4.trans he) (a6.trans p1); subst this
   exact ⟨_,⟨_,M3q (c:=0) (fun w S β hX=>aMz _) ho hd hj2 (g2.trans p2) hx (fun w S β v hX hv=>RepA.ps_of_ol hX hv.one_inv) h1 h2 h3 (.inl h4),hY,trivial⟩,h⟩
  ·rename_i Ee es xs hY
   obtain ⟨hl,h⟩:=a7q hz h
   obtain ⟨p1,p2⟩:=of_decide_eq_true hl
   obtain ⟨l,k1,h1,h⟩:=n1q hz h
   obtain ⟨u,k2,h2,⟨h3,h4⟩,h⟩:=n1q hz h
   obtain ⟨d,j,hd,hj,a1,a2,a3,a4,a5,a6,a7⟩:=b2q (hT t i ht)
   obtain ⟨d2,j2,hd2,hj2,g1,g2,g3,_⟩:=b2q (hT e i2 ht2)
   have:=h5q (a4.trans he) (a6.trans p1); subst this
   exact ⟨_,⟨_,M3q (c:=0) (fun w S β hX=>aMz _) ho hd hj2 (g2.trans p2) hx (fun w S β v hX hv=>RepA.ps_of_ol hX.lst_of_tr hv.one_inv) h1 h2 h3 (.inl h4),hY,trivial⟩,h⟩
  ·exact absurd h hz
 ·obtain ⟨e,he,h⟩:=a0q hz h
  obtain ⟨i2,ht2,h⟩:=a0q hz h
  obtain ⟨hl,h⟩:=a7q hz h
  have p1:=of_decide_eq_true hl
  obtain ⟨l,k1,h1,hA⟩:=n1q hz h
  obtain ⟨u,k2,h2,⟨h3,h4⟩,hB⟩:=n1q hz hA
  subst h3; subst h4
  obtain ⟨d,j,hd,hj,a1,a2,a3,a4,a5,a6,a7⟩:=b2q (hT t i ht)
  obtain ⟨d2,j2,hd2,hj2,g1,g2,g3,_⟩:=b2q (hT e i2 ht2)
  have:=h5q (a4.trans he) (a6.trans p1); subst this
  exact ⟨_,d2q (abwq (k:=k1) (k':=k2) ho hd hj2 hx (h1.imp (fun h=>h.1) id) (h2.imp (fun h=>h.1) id)),hB⟩
 ·exact absurd h hz
theorem ab3q (hT:TabOk P E.tab) (hz:¬z) (ho:o.op = .call { callee:=.builtin .cap,args := #[x],argTypes := #[t] }) (ht:a1q E.tab t=some i) (hx:s.ev x=some X) (h:vCap z i s0 X k):∃r,OpS P o s s0 r []/\k r:=by
 unfold vCap at h
 split at h
 ·obtain ⟨hl,h⟩:=a7q hz h
  simp only [a0z,decide_eq_true_eq,aez] at hl
  obtain ⟨h1,e,he⟩:=hl
  obtain ⟨d,j,hd,hj,a1,a2,a3,a4,a5,a6,a7⟩:=b2q (hT t i ht)
  have:=h5q (a4.trans he) (a6.trans h1); subst this
  exact ⟨_,d2q (ae6q ho hd hx),h⟩
 ·obtain ⟨hl,h⟩:=a7q hz h
  simp only [a0z,decide_eq_true_eq,aez] at hl
  obtain ⟨h1,e,he⟩:=hl
  obtain ⟨d,j,hd,hj,a1,a2,a3,a4,a5,a6,a7⟩:=b2q (hT t i ht)
  have:=h5q (a4.trans he) (a6.trans h1); subst this
  split at h
  ·rename_i Ee es' xs c hY
   exact ⟨_,⟨_,aekq ho hd hx,hY,trivial⟩,h⟩
  ·exact absurd h hz
 ·exact absurd h hz
end
def AV.norm:AV->AV
 | .one .e0=>.one (.d (.sl []))
 | .agg xs=>a2Bq xs
 | x=>x
theorem RepV.norm {w:World} {S:Nat->Prop} {β:Nat->OLoc} {x:AV} {v:Value} (h:RepV w S β x v):RepV w S β x.norm v:=by
 unfold AV.norm
 split
 ·have:=h.one_inv
  cases this
  exact RepV.one (.d (RepDs.sl_nil _ _))
 ·obtain ⟨cs,hv,h2⟩:=h.agg_inv
  rw [hv]; exact RepAs.mkN h2
 ·exact h
theorem RepVs.norm {w:World} {S:Nat->Prop} {β:Nat->OLoc} {xs:List AV} {vs:List Value} (h:RepVs w S β xs vs):RepVs w S β (xs.map AV.norm) vs:=by
 induction h with
 | nil=>exact .nil
 | one h _ ih=>exact RepVs.cons (RepV.norm (RepVs.one h .nil)) ih
 | dat h _ ih=>exact RepVs.cons (RepV.norm (RepVs.dat h .nil)) ih
 | agg h _ ih=>exact RepVs.cons (RepV.norm (RepVs.agg h .nil)) ih
 | tup h _ _ ih=>exact RepVs.cons (RepV.norm (RepVs.tup h .nil)) ih
theorem ACall.norm {P:Program} {f:FuncId} {xs:List AV} {r:AV} {nob:List (Nat×Ob)} (h:ACall P f (xs.map AV.norm) r nob):ACall P f xs r nob:=fun w S β vs hlt hr=>h w S β vs hlt hr.norm
theorem XCall.norm {P:Program} {f:FuncId} {xs:List AV} {r:AV} {I O:List (Nat×Ob)} {mv:List Nat} (h:XCall P f (xs.map AV.norm) r I O mv):XCall P f xs r I O mv:=fun w S β vs hlt hr=>h w S β vs hlt hr.norm
def A8q (O:List (Nat×Ob)):List Nat:=(O.map (·.1)).filter fun k=>decide (k<2000)
structure XC (P:Program) (f:FuncId) (xs:List AV) (I:List (Nat×Ob)) (r:AV) (O:List (Nat×Ob)):Prop where
 h:XCall P f xs r I O (A8q O)
def a19q (d:Nat):List (Nat×Ob)->List (Nat×Nat)
 | []=>[]
 | (k,_)::r=>(k,d)::a19q (d+500) r
def argN (xs:List AV):List AV:=AV.mapT (l4q []) (xs.map AV.norm)
def rshK:List RK->Nat->(List At->List (Nat×Ob)->Nat->Prop)->Prop
 | [],n,K=>K [] [] n
 | .k c::r,n,K=>shC c fun d=>rshK r n fun ys O m=>K (.d d::ys) O m
 | .o E es::r,n,K=>∃xs:List (List Da),rshK r (n+1) fun ys O m=>K (.ol n::ys) ((n,.tr E es xs)::O) m
 | .e::r,n,K=>rshK r n fun ys O m=>K (.e0::ys) O m
theorem a0Lq:∀(r:List RK) {n:Nat} {K:List At->List (Nat×Ob)->Nat->Prop},rshK r n K->∃y O m,K y O m
 | [],n,K,h=>⟨_,_,_,h⟩
 | .k c::r,n,K,h=>by
  obtain ⟨d,h⟩:=a9lq h
  obtain ⟨y,O,m,h⟩:=a0Lq r h
  exact ⟨_,_,_,h⟩
 | .o E es::r,n,K,h=>by
  obtain ⟨xs,h⟩:=h
  obtain ⟨y,O,m,h⟩:=a0Lq r h
  exact ⟨_,_,_,h⟩
 | .e::r,n,K,h=>by
  obtain ⟨y,O,m,h⟩:=a0Lq r (n:=n) h
  exact ⟨_,_,_,h⟩
def rsh:RS->Nat->(AV->List (Nat×Ob)->Nat->Prop)->Prop
 | .c k,n,K=>shC k fun d=>K (.one (.d d)) [] n
 | .d ks,n,K=>shp ks fun ds=>K (.dat ds) [] n
 | .o E es,n,K=>∃xs:List (List Da),K (.one (.ol n)) [(n,.tr E es xs)] (n+1)
 | .b E es,n,K=>∃xs:List (List Da),K (.one (.ol n)) [(n,.lst E es xs)] (n+1)
 | .s ks,n,K=>rshK ks n fun ys O m=>K (.agg ys) O m
 | .p ks,n,K=>rshK ks (n+1) fun ys O m=>K (.one (.op n 0)) ((n,.var ys)::O) m
 | .t rs,n,K=>go rs n fun ys O m=>K (.tup ys) O m
where go:List RS->Nat->(List AV->List (Nat×Ob)->Nat->Prop)->Prop
 | [],n,K=>K [] [] n
 | r::rs,n,K=>rsh r n fun y O m=>go rs m fun ys O' m'=>K (y::ys) (O++O') m'
mutual
theorem a2xq:∀(r:RS) {n:Nat} {K:AV->List (Nat×Ob)->Nat->Prop},rsh r n K->∃y O m,K y O m
 | .c k,n,K,h=>by
  simp only [rsh] at h
  obtain ⟨d,h⟩:=a9lq h
  exact ⟨_,_,_,h⟩
 | .d ks,n,K,h=>by
  simp only [rsh] at h
  obtain ⟨ds,_,h⟩:=D3q h
  exact ⟨_,_,_,h⟩
 | .o E es,n,K,h=>by
  simp only [rsh] at h
  obtain ⟨xs,h⟩:=h
  exact ⟨_,_,_,h⟩
 | .b E es,n,K,h=>by
  simp only [rsh] at h
  obtain ⟨xs,h⟩:=h
  exact ⟨_,_,_,h⟩
 | .s ks,n,K,h=>by
  simp only [rsh] at h
  obtain ⟨y,O,m,h⟩:=a0Lq ks h
  exact ⟨_,_,_,h⟩
 | .p ks,n,K,h=>by
  simp only [rsh] at h
  obtain ⟨y,O,m,h⟩:=a0Lq ks h
  exact ⟨_,_,_,h⟩
 | .t rs,n,K,h=>by
  simp only [rsh] at h
  obtain ⟨ys,O,m,h⟩:=rshL_ex rs h
  exact ⟨_,_,_,h⟩
theorem rshL_ex:∀(rs:List RS) {n:Nat} {K:List AV->List (Nat×Ob)->Nat->Prop},rsh.go rs n K->∃ys O m,K ys O m
 | [],n,K,h=>⟨_,_,_,h⟩
 | r::rs,n,K,h=>by
  simp only [rsh.go] at h
  obtain ⟨y,O,m,h⟩:=a2xq r h
  obtain ⟨ys,O',m',h⟩:=rshL_ex rs h
  exact ⟨_,_,_,h⟩
end
def a02q (z:Prop) (P:Program) (E:Env) (d:Nat) (v:AV) (xs:List AV) (k:AV->List (Nat×Ob)->Prop):Prop:=match v with
 | .one (.d (.fn f))=>chk z ((AV.idsT xs).isEmpty&&E.fns.contains f)<|opt z (a1q E.sig f) fun sg=>rsh sg 0 fun r O _ =>
   chk z (D1q [] (a19q d O) [] O (A8q O)) (XC P f (argN xs) [] r O/\k (r.map (l4q (a19q d O))) (n9q (a19q d O) O))
 | _=>z
theorem ad9q {P:Program} {o:Oper} {av:Operand->Option AV} {c:Operand} {f:FuncId} {fn:Func} {ag:List Operand} {ts:Array TypeId} {xs:List AV} {r:AV} {nob:List (Nat×Ob)} (ho:o.op = .call { callee:=.value c,args:=ag.toArray,argTypes:=ts }) (hcv:av c=some (.one (.d (.fn f)))) (hf:P.funcs[f]?=some fn) (hb:fn.body.isNone=false) (hname:(fn.name == "runtime.NumGoroutine")=false)
  (has:p7q av ag=some xs) (hc:ACall P f xs r nob):OpP P o av [] r nob:=by
 intro a w S β hlt hr _ K Q hK
 have h1:=a2Oq (w:=w) (S:=S) (β:=β) (ρ:=a.eval) ag xs (fun x X hx hm=>hr x X hx (by simp [ho,a6z,Call.operands,hm])) has
 have h2:=(hr c _ hcv (by simp [ho,a6z,Call.operands])).fn_inv
 have he:(execOp a.eval o).run P w = .ok (.enter f (ag.map a.eval).toArray) w:=by
  simp only [execOp,ho,resolve,h2,Deferred.ofValue,axz,aEz,akz,invoke,aPz]
  rw [show (#[]:Array Value)++(ag.map a.eval).toArray ++ #[]=(ag.map a.eval).toArray by simp]
  exact S8q hf hb hname _ _
 unfold Oper.wp
 rw [he,Oper.upon_enter]
 refine (hc w S β _ hlt h1).mono ?_
 rintro e w' ⟨v,S',β',rfl,hG,hrep⟩
 exact hK v w' S' β' hG hrep
theorem acxq {P:Program} {o:Oper} {av:Operand->Option AV} {x:Operand} {src dst:TypeId} {q:ByteArray} (ho:o.op = .convert src dst x) (hs:P.underlying src=some .string) (hd:P.underlying dst=some .string) (hx:av x=some (T q)):OpP P o av [] (T q) []:=by
 refine c0q fun a w S β _ hr _ => ?_
 have h:=hr x _ hx (by simp [ho,a6z])
 have h1:=h.str_inv
 refine ⟨.string q,?_,RepV.str _ h1.2⟩
 simp [execOp,ho,h1.1,convert,run_underlying hs,run_underlying hd]
section
variable {P:Program} {E:Env} {z:Prop} {o:Oper} {s s0:St}
theorem ACall.ren {f:FuncId} {xs:List AV} {r:AV} {O:List (Nat×Ob)} {l:List (Nat×Nat)} (hok:D1q [] l [] O (A8q O)=true) (h:XC P f (argN xs) [] r O):ACall P f xs (r.map (l4q l)) (n9q l O):=by
 have:=a2Iq (ys:=xs.map AV.norm) (I':=[]) [] l h.h rfl rfl rfl rfl rfl hok
 refine ACall.norm ?_
 refine this.fresh ?_
 simp only [D1q,a0z,agz] at hok
 rw [agz]
 intro m hm
 obtain ⟨k,hk,rfl⟩:=a4z.1 hm
 obtain ⟨hk1,_⟩:=aVz.1 hk
 obtain ⟨p,hp,rfl⟩:=a4z.1 hk1
 rw [l2q,ajz]
 exact ⟨_,a4z.2 ⟨p,hp,rfl⟩,by simp⟩
theorem C0q (hE:EnvOk P E) (hz:¬z) {c:Operand} {ag:List Operand} {ts:Array TypeId} {v:AV} {xs:List AV} {d:Nat} {k:AV->List (Nat×Ob)->Prop} (ho:o.op = .call { callee:=.value c,args:=ag.toArray,argTypes:=ts }) (hc:s.ev c=some v) (has:p7q s.ev ag=some xs) (h:a02q z P E d v xs k):∃y nob,OpS P o s s0 y nob/\k y nob:=by
 unfold a02q at h
 split at h
 ·rename_i f
  obtain ⟨h1,h⟩:=a7q hz h
  obtain ⟨sg,_,h⟩:=a0q hz h
  obtain ⟨r,O,m,h⟩:=a2xq sg h
  obtain ⟨h2,h3,h⟩:=a7q hz h
  simp only [a0z,List.isEmpty_iff,bjz] at h1
  obtain ⟨fn,hf,hb,hn⟩:=a0fq (agz.1 hE.fns f h1.2)
  exact ⟨_,_,d2q (ad9q ho hc hf hb hn has (ACall.ren h2 h3)),h⟩
 ·exact absurd h hz
end
def vExt (z:Prop) (s:St) (xs:List Operand) (k:AV->List (Nat×Ob)->Prop):Prop:=match xs with
 | [x,y]=>opt z (s.ev x) fun X=>opt z ((s.ev y).bind asI) fun p=>match X with
  | .one (.d (.str q))=>chk z (decide (p.1 = .u8)) (k (Z (firstIdx q p.2.toNat.toUInt8)) [])
  | _=>z
 | _=>z
def At.flatO:At->Bool
 | .e0=>true
 | .d (.int _ _)=>true
 | .d (.bool _)=>true
 | .d (.str _)=>true
 | _=>false
theorem a52q:∀{out:List At} {ds:List Da},out.all At.flatO=true->toDs out=some ds->ds.all Da.flat=true
 | [],ds,_,h=>by simp [toDs] at h; subst h; rfl
 | x::r,ds,hf,h=>by
  simp only [bKz,a0z] at hf
  simp only [toDs] at h
  split at h
  ·rename_i y ys hy hys
   simp at h; subst h
   simp only [bKz,a0z]
   refine ⟨?_,a52q hf.2 hys⟩
   cases x with
   | d x=>cases x <;> simp [At.flatO] at hf <;> simp [At.toD] at hy <;> subst hy <;> rfl
   | e0=>simp [At.toD] at hy; subst hy; rfl
   | _=>simp [At.flatO] at hf
  ·cases h
theorem aa0q {out:List At} {ds:List Da} {n m:Nat} (hf:out.all At.flatO=true) (h:toDs out=some ds):x6q (x1q n m ds):=by
 have h1:=a52q hf h
 clear hf h
 induction m generalizing ds with
 | zero=>intro y hy; cases hy
 | succ m ih =>
  have h2:ds.take n++ds.drop n=ds:=a9z ..
  rw [<-h2,List.all_append,a0z] at h1
  intro y hy
  rcases b3z.1 hy with rfl | hy
  ·exact h1.1
  ·exact ih h1.2 y hy
def vS (z:Prop) (P:Program) (E:Env) (o:Oper) (s s0:St) (k:AV->List (Nat×Ob)->Prop):Prop:=match o.op with
 | .move x=>opt z (s.ev x) fun y=>k y []
 | .assign x=>opt z (s.ev x) fun y=>k y []
 | .pick c a b=>opt z ((s.ev c).bind asB) fun bb=>ifB bb (opt z (s.ev a) fun y=>k y []) (opt z (s.ev b) fun y=>k y [])
 | .binOp op t x y t'=>opt z (a1q E.tab t) fun i=>opt z (s.ev x) fun X=>opt z (s.ev y) fun Y=>abTq z E op t i.pr X Y fun r=>k r []
 | .unOp op t x=>opt z (s.ev x) fun X=>match op,X with
  | .not,.one (.d (.bool b))=>k (B (!b)) []
  | .neg,.one (.d (.int kk n))=>k (I kk (kk.wrap (0-n))) []
  | _,_=>z
 | .field t x q=>opt z (a1q E.tab t) fun i=>opt z (s.ev x) fun X=>ac5q z i q X fun r=>k r []
 | .fieldAddr t x q=>opt z (a1q E.tab t) fun i=>opt z (s.ev x) fun X=>a4Hq z i q X fun r=>k r []
 | .load t x=>opt z (a1q E.tab t) fun i=>opt z (s.ev x) fun X=>ab7q z E (a0bq E x) i s0 X fun r=>k r []
 | .indexAddr t x y=>opt z (a1q E.tab t) fun i=>opt z (s.ev x) fun X=>opt z ((s.ev y).bind asI) fun p=>a4Yq z E i s0 X p.2 fun r=>k r []
 | .index t x y=>opt z (a1q E.tab t) fun i=>opt z ((s.ev y).bind asI) fun p=>opt z (s.ev x) fun X=>match X with
  | .one (.d (.str q))=>chk z (decide (i.pr=2)) <| ∃(n:Nat) (b:UInt8),p.2=(n:Int)/\q[n]?=some b/\k (I .u8 b.toNat) []
  | _=>z
 | .slice t x lo hi mx=>match mx with
  | none=>opt z (a1q E.tab t) fun i=>opt z (s.ev x) fun X=>vCut z E i s s0 X lo hi fun r=>k r []
  | some m=>opt z (a1q E.tab t) fun i=>opt z (s.ev x) fun X=>abmq z E i s X lo hi m fun r=>k r []
 | .nilCheck x=>opt z (s.ev x) fun X=>match X with
  | .one (.op kk off)=>k (.one (.op kk off)) []
  | _=>z
 | .convert src dst x=>opt z (a1q E.tab src) fun i=>opt z (a1q E.tab dst) fun i2=>opt z (s.ev x) fun X=>a3Mq z E i i2 s0 X fun r=>k r []
 | .box t x=>opt z o.dst fun d=>opt z ((s.ev x).bind AV.cells) fun cs=>chk z (!(AV.idsL cs).contains d) (k (.one (.op d 0)) [(d,.var cs)])
 | .alloc t=>opt z o.dst fun d=>opt z (a1q E.zer t) fun zz=>k (.one (.op d 0)) [(d,.var zz.2.2)]
 | .build t ps=>opt z (a1q E.tab t) fun i=>opt z (a1q E.zer t) fun zz=>opt z (s6q s.ev ps.toList) fun ps'=>match decide (i.pr=5) with
  | true=>chk z (i.fs.all (·.isSome))<|opt z (y5q (fun q=>(i.fs[q]?).bind fun (f:Option (Nat×Nat×Bool))=>f.map fun f=>(f.1,f.2.1)) zz.2.2 ps') fun out=>k (w2q out) []
  | false=>chk z (decide (10<=i.pr))<|opt z i.el fun e=>opt z (a1q E.tab e) fun i2=>opt z (y5q (fun q=>some (q*i2.n,i2.n)) zz.2.2 ps') fun out=>k (w2q out) []
 | .buildSlice t m ps=>opt z o.dst fun d=>opt z (a1q E.tab t) fun i=>opt z i.el fun e=>opt z (a1q E.zer e) fun zz=>chk z (decide (i.pr=4/\0<zz.1/\m*zz.1<=16777216))<|opt z (s6q s.ev ps.toList) fun ps' =>
   opt z (y5q (fun q=>some (q*zz.1,zz.1)) (aBz m zz.2.2).flatten ps') fun out=>opt z (toDs out) fun ds=>k (.one (.ol d)) [(d,mkL (out.all At.flatO) e zz.1 (x1q zz.1 m ds))]
 | .makeSlice t x y=>opt z o.dst fun d=>opt z (a1q E.tab t) fun i=>opt z i.el fun e=>opt z (a1q E.zer e) fun zz=>chk z (decide (i.pr=4/\0<zz.1))<|opt z (toDs zz.2.2) fun zd=>opt z ((s.ev x).bind asI) fun p=>opt z ((s.ev y).bind asI) fun q =>
   ∃l c:Nat,p.2=(l:Int)/\q.2=(c:Int)/\Do (l<=c/\zz.2.1*c<=281474976710656/\c<=281474976710656)/\k (.one (.ol d)) [(d,mkL (zd.all Da.flat) e zz.1 (aBz l zd))]
 | .extract x i=>opt z (s.ev x) fun X=>match X with
  | .tup ys=>opt z (ys[i]?) fun y=>k y []
  | _=>z
 | .makeFunc fn first cap=>match fn,first.toList with
  | .func f,[]=>match cap.toList with
   | []=>k (.one (.d (.fn f))) []
   | c=>opt z (a0Tq s.ev c) fun cs=>k (.one (.clo f cs)) []
  | _,_=>z
 | .call c=>match c.callee with
  | .builtin bi=>match bi,c.args.toList,c.argTypes.toList with
   | .len,[x],[t]=>opt z (a1q E.tab t) fun i=>opt z (s.ev x) fun X=>vLen z i s0 X fun r=>k r []
   | .cap,[x],[t]=>opt z (a1q E.tab t) fun i=>opt z (s.ev x) fun X=>vCap z i s0 X fun r=>k r []
   | _,_,_=>z
  | .value v=>match v with
   | .func f=>match E.ext.contains f with
    | true=>vExt z s c.args.toList k
    | false=>opt z (p7q s.ev c.args.toList) fun xs=>a02q z P E (o.dst.getD 0) (.one (.d (.fn f))) xs k
   | v=>opt z (s.ev v) fun V=>opt z (p7q s.ev c.args.toList) fun xs=>a02q z P E (o.dst.getD 0) V xs k
  | _=>z
 | _=>z
theorem arr1 {α:Type} {xs:Array α} {a:α} (h:xs.toList=[a]):xs = #[a]:=by
 rw [<-b5z (xs:=xs),h]
theorem agWq {α:Type} {xs:Array α} {a b:α} (h:xs.toList=[a,b]):xs = #[a,b]:=by
 rw [<-b5z (xs:=xs),h]
theorem arr0 {α:Type} {xs:Array α} (h:xs.toList=[]):xs = #[]:=by
 rw [<-b5z (xs:=xs),h]
section
variable {P:Program} {E:Env} {z:Prop} {o:Oper} {s s0:St} {k:AV->List (Nat×Ob)->Prop}
theorem a6mq (hE:EnvOk P E) (hz:¬z) {src dst:TypeId} {x:Operand} {X:AV} {i i2:TI} {k:AV->Prop} (ho:o.op = .convert src dst x) (ht:a1q E.tab src=some i) (ht2:a1q E.tab dst=some i2) (hx:s.ev x=some X) (h:a3Mq z E i i2 s0 X k):∃r,OpS P o s s0 r []/\k r:=by
 unfold a3Mq at h
 split at h
 ·split at h
  ·rename_i k' hk
   exact ⟨_,abkq hE.tab ho hx ht ht2 hk,h⟩
  ·obtain ⟨hp,⟨hs⟩,h⟩:=a7q hz h
   exact ⟨_,abNq hE.tab ho hx ht ht2 (of_decide_eq_true hp) hs,h⟩
 ·obtain ⟨hp,h⟩:=a7q hz h
  obtain ⟨h1,h2⟩:=of_decide_eq_true hp
  obtain ⟨d1,j1,hd1,hj1,a1,a2,a3,a4,a5,a6,a7⟩:=b2q (hE.tab src i ht)
  obtain ⟨d2,j2,hd2,hj2,b1,b2,b3,b4,b5,b6,b7⟩:=b2q (hE.tab dst i2 ht2)
  have:=E1q (a6.trans h1); subst this
  have:=E1q (b6.trans h2); subst this
  exact ⟨_,d2q (acxq ho hd1 hd2 hx),h⟩
 ·obtain ⟨Y,hY,h⟩:=a0q hz h
  obtain ⟨⟨tr,Ee,es,xs⟩,hp,h⟩:=a0q hz h
  have hp:=J0q hp
  rw [hp] at hY
  dsimp only at h hY
  obtain ⟨e,he,h⟩:=a0q hz h
  obtain ⟨ie,hie,h⟩:=a0q hz h
  obtain ⟨hp,ns,hns,h⟩:=a7q hz h
  obtain ⟨h1,h2,h3,h4⟩:=of_decide_eq_true hp
  rw [hns,h3] at hY
  exact ⟨_,abYq hE.tab ho hx hY ht h1 he hie h4 ht2 h2,h⟩
 ·exact absurd h hz
theorem a3Yq (hE:EnvOk P E) (hz:¬z) (h:vS z P E o s s0 k):∃y nob,OpS P o s s0 y nob/\k y nob:=by
 have one:(∃r,OpS P o s s0 r []/\k r [])->∃y nob,OpS P o s s0 y nob/\k y nob:=fun ⟨r,h1,h2⟩=>⟨r,[],h1,h2⟩
 unfold vS at h
 split at h
 ·rename_i x ho
  obtain ⟨y,hy,h⟩:=a0q hz h
  exact ⟨_,_,d2q (adHq ho hy),h⟩
 ·rename_i x ho
  obtain ⟨y,hy,h⟩:=a0q hz h
  exact ⟨_,_,d2q (aaJq ho hy),h⟩
 ·rename_i c a b ho
  obtain ⟨bb,hb,h⟩:=a0q hz h
  have hc:s.ev c=some (B bb):=by
   cases hx:s.ev c with
   | none=>rw [hx] at hb; simp at hb
   | some X=>rw [hx] at hb; exact congrArg some (aayq hb)
  cases bb with
  | true =>
   obtain ⟨y,hy,h⟩:=a0q hz h
   exact ⟨_,_,d2q (ackq ho hc rfl hy),h⟩
  | false =>
   obtain ⟨y,hy,h⟩:=a0q hz h
   exact ⟨_,_,d2q (acbq ho hc rfl hy),h⟩
 ·rename_i op t x y t' ho
  obtain ⟨i,hi,h⟩:=a0q hz h
  obtain ⟨X,hX,h⟩:=a0q hz h
  obtain ⟨Y,hY,h⟩:=a0q hz h
  exact one (aa3q hE hz ho hi hX hY h)
 ·rename_i op t x ho
  obtain ⟨X,hX,h⟩:=a0q hz h
  split at h
  ·exact ⟨_,_,d2q (af9q ho hX),h⟩
  ·exact ⟨_,_,d2q (aeLq ho hX),h⟩
  ·exact absurd h hz
 ·rename_i t x q ho
  obtain ⟨i,hi,h⟩:=a0q hz h
  obtain ⟨X,hX,h⟩:=a0q hz h
  exact one (a88q hE.tab hz ho hi hX h)
 ·rename_i t x q ho
  obtain ⟨i,hi,h⟩:=a0q hz h
  obtain ⟨X,hX,h⟩:=a0q hz h
  exact one (a4aq hE.tab hz ho hi hX h)
 ·rename_i t x ho
  obtain ⟨i,hi,h⟩:=a0q hz h
  obtain ⟨X,hX,h⟩:=a0q hz h
  exact one (a9Jq hE.tab hz ho hi hX h)
 ·rename_i t x y ho
  obtain ⟨i,hi,h⟩:=a0q hz h
  obtain ⟨X,hX,h⟩:=a0q hz h
  obtain ⟨p,hp,h⟩:=a0q hz h
  exact one (a40q hE.tab hz ho hi hX (evI hp) h)
 ·rename_i t x y ho
  obtain ⟨i,hi,h⟩:=a0q hz h
  obtain ⟨p,hp,h⟩:=a0q hz h
  obtain ⟨X,hX,h⟩:=a0q hz h
  split at h
  ·obtain ⟨hl,n,b,hn,hb,h⟩:=a7q hz h
   exact ⟨_,_,acJq hE.tab ho hi (of_decide_eq_true hl) hX (by rw [<-hn]; exact evI hp) hb,h⟩
  ·exact absurd h hz
 ·rename_i t x lo hi mx ho
  split at h
  ·obtain ⟨i,hi,h⟩:=a0q hz h
   obtain ⟨X,hX,h⟩:=a0q hz h
   exact one (abBq hE.tab hz ho hi hX h)
  ·obtain ⟨i,hi,h⟩:=a0q hz h
   obtain ⟨X,hX,h⟩:=a0q hz h
   exact one (a9Mq hE.tab hz ho hi hX h)
 ·rename_i x ho
  obtain ⟨X,hX,h⟩:=a0q hz h
  split at h
  ·exact ⟨_,_,⟨_,afkq ho hX,trivial⟩,h⟩
  ·exact absurd h hz
 ·rename_i src dst x ho
  obtain ⟨i,hi,h⟩:=a0q hz h
  obtain ⟨i2,hi2,h⟩:=a0q hz h
  obtain ⟨X,hX,h⟩:=a0q hz h
  exact one (a6mq hE hz ho hi hi2 hX h)
 ·rename_i t x ho
  obtain ⟨d,hd,h⟩:=a0q hz h
  obtain ⟨cs,hcs,h⟩:=a0q hz h
  obtain ⟨hc,h⟩:=a7q hz h
  cases hX:s.ev x with
  | none=>rw [hX] at hcs; simp at hcs
  | some X =>
   rw [hX] at hcs
   exact ⟨_,_,agkq ho hd hX hcs (by simpa using hc),h⟩
 ·rename_i t ho
  obtain ⟨d,hd,h⟩:=a0q hz h
  obtain ⟨zz,hzz,h⟩:=a0q hz h
  exact ⟨_,_,adpq (hE.zer t zz hzz) ho hd,h⟩
 ·rename_i t ps ho
  obtain ⟨i,hi,h⟩:=a0q hz h
  obtain ⟨zz,hzz,h⟩:=a0q hz h
  obtain ⟨ps',has,h⟩:=a0q hz h
  have ho':o.op = .build t ps.toList.toArray:=by simpa using ho
  split at h
  ·rename_i hp
   obtain ⟨hf,h⟩:=a7q hz h
   obtain ⟨out,hout,h⟩:=a0q hz h
   exact ⟨_,_,ae2q hE.tab (hE.zer t zz hzz) ho' hi (of_decide_eq_true hp) hf has hout,h⟩
  ·obtain ⟨hf,h⟩:=a7q hz h
   obtain ⟨e,he,h⟩:=a0q hz h
   obtain ⟨i2,hi2,h⟩:=a0q hz h
   obtain ⟨out,hout,h⟩:=a0q hz h
   have:=of_decide_eq_true hf
   exact ⟨_,_,adcq (m:=i.pr-10) hE.tab (hE.zer t zz hzz) ho' hi he (by omega) hi2 has hout,h⟩
 ·rename_i t m ps ho
  obtain ⟨d,hd,h⟩:=a0q hz h
  obtain ⟨i,hi,h⟩:=a0q hz h
  obtain ⟨e,he,h⟩:=a0q hz h
  obtain ⟨zz,hzz,h⟩:=a0q hz h
  obtain ⟨hl,h⟩:=a7q hz h
  obtain ⟨ps',has,h⟩:=a0q hz h
  obtain ⟨out,hout,h⟩:=a0q hz h
  obtain ⟨ds,hds,h⟩:=a0q hz h
  obtain ⟨h1,h2,h3⟩:=of_decide_eq_true hl
  exact ⟨_,_,a7Aq hE.tab (hE.zer e zz hzz) (by simpa using ho) hd hi h1 he h2 h3 has hout hds |>.up fun hb=>aa0q hb hds,h⟩
 ·rename_i t x y ho
  obtain ⟨d,hd,h⟩:=a0q hz h
  obtain ⟨i,hi,h⟩:=a0q hz h
  obtain ⟨e,he,h⟩:=a0q hz h
  obtain ⟨zz,hzz,h⟩:=a0q hz h
  obtain ⟨hl,h⟩:=a7q hz h
  obtain ⟨zd,hzd,h⟩:=a0q hz h
  obtain ⟨p,hp,h⟩:=a0q hz h
  obtain ⟨q,hq,h⟩:=a0q hz h
  obtain ⟨l,c,hl2,hc,⟨h3,h4,h5⟩,h⟩:=h
  obtain ⟨h1,h2⟩:=of_decide_eq_true hl
  exact ⟨_,_,afcq hE.tab (hE.zer e zz hzz) ho hd hi h1 he h2 hzd (by rw [<-hl2]; exact evI hp) (by rw [<-hc]; exact evI hq) h3 h4 h5 |>.up a6gq,h⟩
 ·rename_i x i ho
  obtain ⟨X,hX,h⟩:=a0q hz h
  split at h
  ·obtain ⟨y,hy,h⟩:=a0q hz h
   exact ⟨_,_,d2q (a9Rq ho hX hy),h⟩
  ·exact absurd h hz
 ·rename_i fn first cap ho
  split at h
  ·rename_i f hf
   have hf:=arr0 hf
   subst hf
   split at h
   ·rename_i hc
    have hc:=arr0 hc
    subst hc
    exact ⟨_,_,a97q ho,h⟩
   ·obtain ⟨cs,hcs,h⟩:=a0q hz h
    exact ⟨_,_,aadq (cap:=cap.toList) (by simpa using ho) hcs,h⟩
  ·exact absurd h hz
 ·rename_i c ho
  obtain ⟨callee,args,ats⟩:=c
  simp only at h
  split at h
  ·split at h
   ·rename_i x t h1 h2
    have h1:=arr1 h1
    have h2:=arr1 h2
    subst h1; subst h2
    obtain ⟨i,hi,h⟩:=a0q hz h
    obtain ⟨X,hX,h⟩:=a0q hz h
    exact one (abvq hE.tab hz ho hi hX h)
   ·rename_i x t h1 h2
    have h1:=arr1 h1
    have h2:=arr1 h2
    subst h1; subst h2
    obtain ⟨i,hi,h⟩:=a0q hz h
    obtain ⟨X,hX,h⟩:=a0q hz h
    exact one (ab3q hE.tab hz ho hi hX h)
   ·exact absurd h hz
  ·split at h
   ·rename_i f
    split at h
    ·rename_i hext
     unfold vExt at h
     split at h
     ·rename_i x y hxy
      have hxy:=agWq hxy
      subst hxy
      obtain ⟨X,hX,h⟩:=a0q hz h
      obtain ⟨p,hp,h⟩:=a0q hz h
      split at h
      ·obtain ⟨hl,h⟩:=a7q hz h
       have hl:=of_decide_eq_true hl
       obtain ⟨fn,h1,h2,h3,h4,h5⟩:=hE.ext f (by simpa using hext)
       have hy:=evI hp
       rw [hl] at hy
       exact ⟨_,_,d2q (a7gq ho h1 h2 h3 h4 h5 hX hy),h⟩
      ·exact absurd h hz
     ·exact absurd h hz
    ·obtain ⟨xs,hxs,h⟩:=a0q hz h
     exact C0q (ag:=args.toList) hE hz (by simpa using ho) rfl hxs h
   ·obtain ⟨V,hV,h⟩:=a0q hz h
    obtain ⟨xs,hxs,h⟩:=a0q hz h
    exact C0q (ag:=args.toList) hE hz (by simpa using ho) hV hxs h
  ·exact absurd h hz
 ·exact absurd h hz
end
end AM
end Go.Proofs.YtmgfoalfimpkjaaGreat
