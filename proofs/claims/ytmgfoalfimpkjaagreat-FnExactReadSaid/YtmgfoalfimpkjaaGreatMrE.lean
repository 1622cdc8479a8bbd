/- A part of the proof of the law that the last of these texts states, for every input; no conditions. -/
import Derived.Test.YtmgfoalfimpkjaaGreatMrD
set_option linter.unusedVariables false
set_option linter.unusedSimpArgs false
open Go.IntKind renaming wrap->a0z,i64->aAz,u8->bfz,signed->bgz,bits->biz
open List renaming mem_singleton->a1z,getElem?_eq_some_iff->a2z,length_map->a4z,length_cons->a5z,mem_of_getElem?->a6z,length_nil->acz,append_assoc->adz,map_cons->afz,prefix_refl->aiz,getElem?_append_left->ajz,length_append->alz,length->amz,mem_map->anz,getElem?_set->aoz,length_singleton->auz,drop_zero->avz,extract_eq_take_drop->ayz,flatten_cons->aDz,getElem?_eq_none->aKz,map_append->aNz,prefix_append->aOz,getElem?_append_right->aPz,map->aQz,length_eq_zero_iff->aTz,mem_append->aZz,mem_iff_getElem?->b1z,mem_append_left->b2z,mem_cons_of_mem->b3z,mem_cons->b4z,map_congr_left->b5z,getElem?_map->b9z,ext_getElem?->baz,cons_append->bbz,mem_flatten->bcz
open Nat renaming le_refl->a3z,zero_le->a8z,lt_succ_iff_lt_or_eq->abz,le_trans->aez,le_succ->agz,le_succ_of_le->ahz,lt_or_ge->asz,pow_le_pow_right->awz,eq_zero_or_pos->aBz,lt_of_lt_of_le->aCz,le_of_succ_le->aEz,add_assoc->aHz,succ_le_succ->aSz,pow_succ->aVz
open Int renaming natAbs_natCast->a7z,toNat_natCast->apz,tmod->aqz,natAbs_neg->arz,eq_ofNat_of_zero_le->aUz,tdiv->aWz
open Bool renaming eq_false_iff->a9z,or_eq_true->atz,eq_iff_iff->azz,and_eq_true->aIz,and_true->aRz,true_and->b6z,false_eq_true->b7z,not_eq_true'->b8z,and_false->bhz
open ByteArray renaming size_append->aaz,ext->axz,data_extract->aFz,append_assoc->aGz,size_extract->aXz
open Classical renaming byContradiction->akz
open UInt8 renaming toNat->aJz,toNat_inj->aYz,ofNat->b0z
open Array renaming eq_empty_of_size_eq_zero->aLz,toList_extract->aMz,toList_inj->bdz
open Option renaming map_some->bez
namespace Go.Proofs.YtmgfoalfimpkjaaGreat
namespace AM
open Go
mutual
def Da.ut:Da->Da
 | .tg _ ys=>.sl (Da.utR ys)
 | .sl ys=>.sl (Da.utR ys)
 | x=>x
def Da.utL:List Da->List Da
 | []=>[]
 | x::r=>x.ut::Da.utL r
def Da.utR:List (List Da)->List (List Da)
 | []=>[]
 | x::r=>Da.utL x::Da.utR r
end
theorem a0Xq (l:List Da):Da.utL l=l.map Da.ut:=by induction l <;> simp_all [Da.utL]
theorem a30q (l:List (List Da)):Da.utR l=l.map (aQz Da.ut):=by induction l <;> simp_all [Da.utR,a0Xq]
theorem a8Mq (l:List (List Da)):(Da.utR l).flatten=Da.utL l.flatten:=by
 rw [a30q,a0Xq,List.map_flatten]
theorem RepF.ut {w:World} {xs:List Da} {vs:List Value} {fp:List Nat} (h:RepF w xs vs fp):RepF w (Da.utL xs) vs fp:=by
 induction h with
 | nil=>exact .nil
 | int _ ih=>exact .int ih
 | bool _ ih=>exact .bool ih
 | str hs _ ih=>exact .str hs ih
 | fn _ ih=>exact .fn ih
 | sl0 h1 h2 h3 h4 _ ih=>exact .sl0 (by rw [a8Mq,h1]; rfl) (by rw [a30q]; simpa using h2) h3 h4 ih
 | @sl1 _ _ _ _ _ _ _ _ _ _ es _ h1 h2 h3 h4 h5 h6 _ ih1 ih2 =>
  refine .sl1 (es:=es) (by rw [a8Mq]; exact ih1) (by rw [a30q]; simpa using h1) h2 h3 (fun y hy => ?_) h5 h6 ih2
  rw [a30q] at hy
  obtain ⟨x,hx,rfl⟩:=anz.1 hy
  rw [a4z]; exact h4 x hx
 | @tg v ys xs vs fi fp _ _ ih1 ih2 =>
  exact RepF.app ih1 ih2
theorem RepDs.ut {w:World} {S:Nat->Prop} {xs:List Da} {vs:List Value} (h:RepDs w S xs vs):RepDs w S (Da.utL xs) vs:=by
 obtain ⟨fp,h,hf⟩:=h
 exact ⟨fp,h.ut,hf⟩
def AV.ut:AV->AV
 | .one (.d x)=>.one (.d x.ut)
 | .dat xs=>.dat (Da.utL xs)
 | x=>x
theorem RepV.ut {w:World} {S:Nat->Prop} {β:Nat->OLoc} {x:AV} {v:Value} (h:RepV w S β x v):RepV w S β x.ut v:=by
 unfold AV.ut
 split
 ·have:=h.one_inv
  cases this with
  | d h=>exact RepV.one (.d h.ut)
 ·obtain ⟨cs,rfl,h2⟩:=h.dat_inv
  exact RepVs.dat h2.ut .nil
 ·exact h
theorem RepVs.ut {w:World} {S:Nat->Prop} {β:Nat->OLoc} {xs:List AV} {vs:List Value} (h:RepVs w S β xs vs):RepVs w S β (xs.map AV.ut) vs:=by
 induction h with
 | nil=>exact .nil
 | one h _ ih=>exact RepVs.cons (RepV.ut (RepVs.one h .nil)) ih
 | dat h _ ih=>exact RepVs.cons (RepV.ut (RepVs.dat h .nil)) ih
 | agg h _ ih=>exact RepVs.cons (RepV.ut (RepVs.agg h .nil)) ih
 | tup h _ _ ih=>exact RepVs.cons (RepV.ut (RepVs.tup h .nil)) ih
theorem XC.ut {P:Program} {f:FuncId} {xs:List AV} {I:List (Nat×Ob)} {r:AV} {O:List (Nat×Ob)} (h:XC P f (xs.map AV.ut) I r O):XC P f xs I r O:=⟨fun w S β vs hlt hr hin=>h.h w S β vs hlt hr.ut hin⟩
def tagR:List Da->List Value->List Da
 | .sl ys::xs,v::vs=>.tg v ys::tagR xs vs
 | x::xs,_::vs=>x::tagR xs vs
 | _,_=>[]
def Da.u1:Da->Da
 | .tg _ ys=>.sl ys
 | x=>x
theorem RepT.tagR {w:World} {xs:List Da} {vs:List Value} {fp:List Nat} (h:RepT w xs vs fp):RepF w (tagR xs vs) vs fp/\(tagR xs vs).map Da.u1=xs/\∀w' us fq,RepF w' (AM.tagR xs vs) us fq->us=vs:=by
 induction h with
 | nil=>exact ⟨.nil,rfl,fun w' us fq h=>by cases h; rfl⟩
 | int _ ih =>
  refine ⟨.int ih.1,by simp [AM.tagR,Da.u1,ih.2.1],fun w' us fq h => ?_⟩
  cases h with | int h=>rw [ih.2.2 _ _ _ h]
 | bool _ ih =>
  refine ⟨.bool ih.1,by simp [AM.tagR,Da.u1,ih.2.1],fun w' us fq h => ?_⟩
  cases h with | bool h=>rw [ih.2.2 _ _ _ h]
 | str hs _ ih =>
  refine ⟨.str hs ih.1,by simp [AM.tagR,Da.u1,ih.2.1],fun w' us fq h => ?_⟩
  cases h with | str _ h=>rw [ih.2.2 _ _ _ h]
 | sl0 _ ih =>
  refine ⟨?_,by simp [AM.tagR,Da.u1,ih.2.1],fun w' us fq h => ?_⟩
  ·exact RepF.tg (fi:=[]) (.sl0 rfl rfl (a8z _) (a8z _) .nil) ih.1
  ·cases h with | tg _ h=>rw [ih.2.2 _ _ _ h]
 | @sl1 ys xs us vs fi fp b n cap es c E h0 h1 h2 h3 h4 h5 h6 h7 hx ih1 ih2 =>
  refine ⟨?_,by simp [AM.tagR,Da.u1,ih2.2.1],fun w' us fq h => ?_⟩
  ·have h8:=(RepT.sl1 h0 h1 h2 h3 h4 h5 h6 h7 .nil).repF
   have:=RepF.tg h8 ih2.1
   rw [List.append_nil,bbz] at this
   exact this
  ·cases h with | tg _ h=>rw [ih2.2.2 _ _ _ h]
abbrev RW:=List Da×List Value×List Nat
theorem acdq {w:World} {es:Nat}:∀{xs:List (List Da)} {vs:List Value} {fp:List Nat},RepT w xs.flatten vs fp->∃rs:List RW,rs.map (·.1)=xs/\(rs.map (·.2.1)).flatten=vs/\(rs.map (·.2.2)).flatten=fp/\∀r∈rs,RepT w r.1 r.2.1 r.2.2
 | [],vs,fp,h=>by
  cases h
  exact ⟨[],rfl,rfl,rfl,by simp⟩
 | x::xs,vs,fp,h=>by
  rw [aDz] at h
  obtain ⟨v1,v2,f1,f2,rfl,rfl,h1,h2⟩:=h.split
  obtain ⟨rs,e1,e2,e3,e4⟩:=acdq (es:=es) h2
  refine ⟨(x,v1,f1)::rs,by simp [e1],by simp [e2],by simp [e3],fun r hr => ?_⟩
  rcases b4z.1 hr with rfl | hr
  ·exact h1
  ·exact e4 r hr
theorem ad4q {α β:Type} (g:α->β) {xs:List α} {ys:List β} (h:ys.Perm (xs.map g)):∃zs:List α,zs.Perm xs/\zs.map g=ys:=by
 generalize hm:xs.map g=m at h
 induction h generalizing xs with
 | nil=>exact ⟨xs,.refl _,hm⟩
 | @cons x l1 l2 hp ih =>
  cases xs with
  | nil=>simp at hm
  | cons a r =>
   simp only [afz,List.cons.injEq] at hm
   obtain ⟨zs,h1,h2⟩:=ih hm.2
   exact ⟨a::zs,h1.cons a,by simp [hm.1,h2]⟩
 | swap x y l =>
  match xs,hm with
  | a::b::r,hm =>
   simp only [afz,List.cons.injEq] at hm
   exact ⟨b::a::r,.swap ..,by simp [hm.1,hm.2.1,hm.2.2]⟩
  | [],hm=>simp at hm
  | [a],hm=>simp at hm
 | trans h1 h2 ih1 ih2 =>
  obtain ⟨zs,p1,e1⟩:=ih2 hm
  obtain ⟨ws,p2,e2⟩:=ih1 e1
  exact ⟨ws,p2.trans p1,e2⟩
theorem afqq {w:World} {rs:List RW} {us:List Value} {fq:List Nat} (hT:∀r∈rs,∃w0:World,RepT w0 r.1 r.2.1 r.2.2) (h:RepF w (rs.map fun r=>tagR r.1 r.2.1).flatten us fq):us=(rs.map (·.2.1)).flatten:=by
 induction rs generalizing us fq with
 | nil=>cases h; rfl
 | cons r rs ih =>
  rw [afz,aDz] at h
  obtain ⟨v1,v2,f1,f2,rfl,rfl,h1,h2⟩:=h.split
  obtain ⟨w0,h0⟩:=hT r (by simp)
  rw [h0.tagR.2.2 _ _ _ h1,ih (fun r hr=>hT r (by simp [hr])) h2]
  simp
theorem aaTq {w:World} {rs:List RW} (h:∀r∈rs,RepT w r.1 r.2.1 r.2.2):RepT w (rs.map (·.1)).flatten (rs.map (·.2.1)).flatten (rs.map (·.2.2)).flatten:=by
 induction rs with
 | nil=>exact .nil
 | cons r rs ih =>
  simp only [afz,aDz]
  exact (h r (by simp)).app (ih fun r hr=>h r (by simp [hr]))
theorem abPq {w:World} {rs:List RW} (h:∀r∈rs,RepT w r.1 r.2.1 r.2.2):RepF w (rs.map fun r=>tagR r.1 r.2.1).flatten (rs.map (·.2.1)).flatten (rs.map (·.2.2)).flatten:=by
 induction rs with
 | nil=>exact .nil
 | cons r rs ih =>
  simp only [afz,aDz]
  exact (h r (by simp)).tagR.1.app (ih fun r hr=>h r (by simp [hr]))
theorem acOq {w w':World} {S S':Nat->Prop} {β:Nat->OLoc} {l':OLoc} {cl:List Nat} {E es:Nat} {rs:List RW} {ys' ys l0:List (List Da)} (hT:∀r∈rs,RepT w r.1 r.2.1 r.2.2) (hfp:∀b∈(rs.map (·.2.2)).flatten,S b/\b∈cl) (hnd:(rs.map (·.2.2)).flatten.Nodup) (hp:(ys'++l0).Perm (rs.map fun r=>tagR r.1 r.2.1)) (hys:ys'.map (aQz Da.u1)=ys)
  (hX:ObRep w' S' β l' (.lst E es ys')) (hk:∀b,S b->w'.heap[b]?=w.heap[b]?) (hs:∀b,S b->S' b) (hcl:l'.clm=cl):ObRep w' S' β l' (.tr E es ys):=by
 obtain ⟨zs,p1,e1⟩:=ad4q (fun r:RW=>tagR r.1 r.2.1) hp
 obtain ⟨r1,r2,rfl,g1,g2⟩:∃r1 r2,zs=r1++r2/\r1.map (fun r:RW=>tagR r.1 r.2.1)=ys'/\r2.map (fun r:RW=>tagR r.1 r.2.1)=l0:=List.map_eq_append_iff.1 e1
 have hT1:∀r∈r1,RepT w r.1 r.2.1 r.2.2:=fun r hr=>hT r (p1.subset (b2z _ hr))
 have hsub:∀r∈r1,r∈rs:=fun r hr=>p1.subset (b2z _ hr)
 have hyl:ys=r1.map (·.1):=by
  rw [<-hys,<-g1,List.map_map]
  exact b5z fun r hr=>(hT1 r hr).tagR.2.1
 have hnd1:(r1.map (·.2.2)).flatten.Nodup:=by
  have q1:((r1++r2).map (·.2.2)).flatten.Perm (rs.map (·.2.2)).flatten:=(p1.map _).flatten
  have q2:=q1.nodup_iff.2 hnd
  rw [aNz,List.flatten_append] at q2
  exact (List.nodup_append.1 q2).1
 have hfp1:∀b∈(r1.map (·.2.2)).flatten,S b/\b∈cl:=fun b hb=>by
  obtain ⟨f,hf,hb⟩:=bcz.1 hb
  obtain ⟨r,hr,rfl⟩:=anz.1 hf
  exact hfp b (bcz.2 ⟨_,anz.2 ⟨r,hsub r hr,rfl⟩,hb⟩)
 have hlen:ys'.length=ys.length:=by rw [<-hys]; simp
 rcases hX with ⟨h1,h2,h3,vs,h4,fq,h5,h6⟩ | ⟨z1,z2,z3⟩
 ·rw [<-g1] at h5
  have hv:=afqq (fun r hr=>⟨w,hT1 r hr⟩) h5
  refine .inl ⟨h1,by rw [<-hlen]; exact h2,fun y hy => ?_,vs,(r1.map (·.2.2)).flatten,by rw [<-hlen]; exact h4,?_,fun b hb=>⟨hs b (hfp1 b hb).1,by rw [hcl]; exact (hfp1 b hb).2⟩,hnd1⟩
  ·rw [<-hys] at hy
   obtain ⟨x,hx,rfl⟩:=anz.1 hy
   rw [a4z]; exact h3 x hx
  ·rw [hyl,hv]
   exact (aaTq hT1).keep fun b hb=>hk b (hfp1 b hb).1
 ·exact .inr ⟨z1,by rw [<-hys,z2]; rfl,z3⟩
theorem a4rq {w:World} {rs:List RW} (hT:∀r∈rs,RepT w r.1 r.2.1 r.2.2):(rs.map fun r=>tagR r.1 r.2.1).map (aQz Da.u1)=rs.map (·.1):=by
 rw [List.map_map]
 exact b5z fun r hr=>(hT r hr).tagR.2.1
theorem a9pq {w:World} {S:Nat->Prop} {β:Nat->OLoc} {l:OLoc} {E es:Nat} {xs:List (List Da)} (h:ObRep w S β l (.tr E es xs)):∃rs:List RW,rs.map (·.1)=xs/\(∀r∈rs,RepT w r.1 r.2.1 r.2.2)/\(∀b∈(rs.map (·.2.2)).flatten,S b/\b∈l.clm)/\(rs.map (·.2.2)).flatten.Nodup/\ObRep w S β l (.lst E es (rs.map fun r=>tagR r.1 r.2.1)):=by
 rcases h with ⟨h1,h2,h3,vs,fp,h4,h5,h6,h7⟩ | ⟨z1,rfl,z3⟩
 ·obtain ⟨rs,e1,e2,e3,e4⟩:=acdq (es:=es) h5
  subst e1; subst e3; subst e2
  have hl:∀r∈rs,(tagR r.1 r.2.1).length=r.1.length:=fun r hr=>by
   have:=congrArg amz (e4 r hr).tagR.2.1
   simpa using this
  refine ⟨rs,rfl,e4,h6,h7,.inl ⟨h1,by simpa using h2,fun y hy => ?_,_,by simpa using h4,_,abPq e4,fun b hb=>(h6 b hb).1⟩⟩
  obtain ⟨r,hr,rfl⟩:=anz.1 hy
  rw [hl r hr]; exact h3 _ (anz.2 ⟨r,hr,rfl⟩)
 ·exact ⟨[],rfl,by simp,by simp,by simp,.inr ⟨z1,rfl,z3⟩⟩
section
variable {P:Program} {f:FuncId} {zs:List AV} {E es:Nat} {xs ys:List (List Da)}
theorem aaHq {r:AV} (h:∀xs':List (List Da),xs'.map (aQz Da.u1)=xs->∃ys',(∃l,(ys'++l).Perm xs')/\ys'.map (aQz Da.u1)=ys/\XC P f zs [(2000,.lst E es xs')] r [(2000,.lst E es ys')]):XC P f zs [(2000,.tr E es xs)] r [(2000,.tr E es ys)]:=⟨by
 intro w S β vs hlt hr hin
 have hm:((2000:Nat),Ob.tr E es xs)∈[((2000:Nat),Ob.tr E es xs)]:=a1z.2 rfl
 obtain ⟨rs,e1,hT,hfp,hnd,hL⟩:=a9pq (hin.ob _ hm)
 subst e1
 obtain ⟨ys',⟨l0,hperm⟩,hu,hx⟩:=h _ (a4rq hT)
 have hin':R9q w S β [(2000,.lst E es (rs.map fun r=>tagR r.1 r.2.1))]:=by
  refine ⟨fun p hp => ?_,fun p hp => ?_,fun p hp q hq => ?_,fun p hp => ?_,fun p hp q hq => ?_⟩
  ·rw [a1z.1 hp]; exact hL
  ·rw [a1z.1 hp]; exact hin.own (2000,.tr E es (rs.map (·.1))) hm
  ·rw [a1z.1 hp,a1z.1 hq]; intros; rfl
  ·rw [a1z.1 hp]; exact hin.clm (2000,.tr E es (rs.map (·.1))) hm
  ·rw [a1z.1 hp,a1z.1 hq]; intros; rfl
 have hpass:∀b,i9q [((2000:Nat),Ob.lst E es (rs.map fun r=>tagR r.1 r.2.1))] β b↔i9q [((2000:Nat),Ob.tr E es (rs.map (·.1)))] β b:=by
  intro b; simp [i9q]
 have hpc:∀b,C5q [((2000:Nat),Ob.lst E es (rs.map fun r=>tagR r.1 r.2.1))] β b↔C5q [((2000:Nat),Ob.tr E es (rs.map (·.1)))] β b:=by
  intro b; simp [C5q]
 refine (hx.h w S β vs hlt hr hin').mono ?_
 rintro e w' ⟨v,S',β',rfl,hG,hrep⟩
 have h2000:β' 2000=β 2000:=hG.loc 2000 (by simp [A8q])
 have hSn:∀b,S b->w'.heap[b]?=w.heap[b]?:=fun b hb=>hG.block b (hlt b hb) fun hpb=>by
  obtain ⟨p,hp,h1⟩:=hpb
  rw [a1z.1 hp] at h1
  exact (hin.own _ hm b h1).2 hb
 refine ⟨v,S',β',rfl,⟨hG.os,hG.tape,hG.output,hG.size,fun b hb hp=>hG.block b hb fun h=>hp ((hpass b).1 h),hG.sub,fun b hb=>⟨(hG.sup b hb).1,(hG.sup b hb).2.imp id (Or.imp id (hpass b).1)⟩,fun o ho=>hG.loc o (by simp [A8q]),fun p hp => ?_,fun p hp b hb => ?_,fun p hp q hq => ?_,fun p hp b hb => ?_,fun p hp q hq => ?_⟩,hrep⟩
 ·rw [a1z.1 hp]
  exact acOq hT hfp hnd hperm hu (hG.ob _ (a1z.2 rfl)) hSn hG.sub (by rw [h2000])
 ·rw [a1z.1 hp] at hb
  obtain ⟨h1,h2,h3⟩:=hG.own _ (a1z.2 rfl) b hb
  exact ⟨h1,h2,h3.imp id (hpass b).1⟩
 ·rw [a1z.1 hp,a1z.1 hq]; intros; rfl
 ·rw [a1z.1 hp] at hb
  obtain ⟨h1,h3⟩:=hG.clm _ (a1z.2 rfl) b hb
  exact ⟨h1,h3.imp id (Or.imp (hpass b).1 (hpc b).1)⟩
 ·rw [a1z.1 hp,a1z.1 hq]; intros; rfl⟩
theorem adeq (h:∀xs':List (List Da),xs'.map (aQz Da.u1)=xs->∃ys',(∃l,(ys'++l).Perm xs')/\ys'.map (aQz Da.u1)=ys/\XC P f zs [(2000,.lst E es xs')] (.one (.ol 0)) [(0,.lst E es ys')]):XC P f zs [(2000,.tr E es xs)] (.one (.ol 0)) [(0,.tr E es ys)]:=⟨by
 intro w S β vs hlt hr hin
 have hm:((2000:Nat),Ob.tr E es xs)∈[((2000:Nat),Ob.tr E es xs)]:=a1z.2 rfl
 obtain ⟨rs,e1,hT,hfp,hnd,hL⟩:=a9pq (hin.ob _ hm)
 subst e1
 obtain ⟨ys',⟨l0,hperm⟩,hu,hx⟩:=h _ (a4rq hT)
 have hin':R9q w S β [(2000,.lst E es (rs.map fun r=>tagR r.1 r.2.1))]:=by
  refine ⟨fun p hp => ?_,fun p hp => ?_,fun p hp q hq => ?_,fun p hp => ?_,fun p hp q hq => ?_⟩
  ·rw [a1z.1 hp]; exact hL
  ·rw [a1z.1 hp]; exact hin.own (2000,.tr E es (rs.map (·.1))) hm
  ·rw [a1z.1 hp,a1z.1 hq]; intros; rfl
  ·rw [a1z.1 hp]; exact hin.clm (2000,.tr E es (rs.map (·.1))) hm
  ·rw [a1z.1 hp,a1z.1 hq]; intros; rfl
 have hpass:∀b,i9q [((2000:Nat),Ob.lst E es (rs.map fun r=>tagR r.1 r.2.1))] β b↔i9q [((2000:Nat),Ob.tr E es (rs.map (·.1)))] β b:=by
  intro b; simp [i9q]
 refine (hx.h w S β vs hlt hr hin').mono ?_
 rintro e w' ⟨v,S',β',rfl,hG,hrep⟩
 have hSn:∀b,S b->w'.heap[b]?=w.heap[b]?:=fun b hb=>hG.block b (hlt b hb) fun hpb=>by
  obtain ⟨p,hp,h1⟩:=hpb
  rw [a1z.1 hp] at h1
  exact (hin.own _ hm b h1).2 hb
 let β2:Nat->OLoc:=fun q=>if q=0 then { β' 0 with clm:=(β 2000).clm } else β' q
 have hb0:β2 0={ β' 0 with clm:=(β 2000).clm }:=if_pos rfl
 have hown0:∀b,(β2 0).Own b↔(β' 0).Own b:=by intro b; rw [hb0]; rfl
 refine ⟨v,S',β2,rfl,⟨hG.os,hG.tape,hG.output,hG.size,fun b hb hp=>hG.block b hb fun h=>hp ((hpass b).1 h),hG.sub,fun b hb=>⟨(hG.sup b hb).1,(hG.sup b hb).2.imp id (Or.imp id (hpass b).1)⟩,fun o ho => ?_,fun p hp => ?_,fun p hp b hb => ?_,fun p hp q hq => ?_,fun p hp b hb => ?_,fun p hp q hq => ?_⟩,?_⟩
 ·have h0:o≠0:=fun e=>ho (by simp [A8q,e])
  show (if o=0 then _ else β' o)=β o
  rw [if_neg h0]
  exact hG.loc o (by simpa [A8q] using h0)
 ·rw [a1z.1 hp]
  have hX:ObRep w' S' β2 (β2 0) (.lst E es ys'):=by
   have:=hG.ob _ (a1z.2 rfl)
   rw [hb0]
   exact this
  exact acOq hT hfp hnd hperm hu hX hSn hG.sub (by rw [hb0])
 ·rw [a1z.1 hp] at hb
  obtain ⟨h1,h2,h3⟩:=hG.own _ (a1z.2 rfl) b ((hown0 b).1 hb)
  exact ⟨h1,h2,h3.imp id (hpass b).1⟩
 ·rw [a1z.1 hp,a1z.1 hq]; intros; rfl
 ·rw [a1z.1 hp] at hb
  have hb:b∈(β 2000).clm:=by rw [hb0] at hb; exact hb
  have h1:=hin.clm _ hm b hb
  exact ⟨hG.sub b h1,.inr (.inr ⟨_,hm,hb⟩)⟩
 ·rw [a1z.1 hp,a1z.1 hq]; intros; rfl
 ·have h1:=hrep.one_inv
  refine RepV.one ?_
  generalize hvv:v=u at h1
  cases h1
  have:(β' 0).sv=(β2 0).sv:=by rw [hb0]; rfl
  rw [this]; exact .ol⟩
end
def ObImp (X Y:Ob):Prop:=∀(w:World) (S:Nat->Prop) (β:Nat->OLoc) (l:OLoc),ObRep w S β l X->ObRep w S β l Y
inductive ObsImp:List (Nat×Ob)->List (Nat×Ob)->Prop
 | nil:ObsImp [] []
 | cons {k X Y r s}:ObImp X Y->ObsImp r s->ObsImp ((k,X)::r) ((k,Y)::s)
theorem ObImp.refl (X:Ob):ObImp X X:=fun _ _ _ _ h=>h
theorem ObsImp.keys {I J:List (Nat×Ob)} (h:ObsImp I J):I.map (·.1)=J.map (·.1):=by induction h <;> simp_all
theorem ObsImp.mem {I J:List (Nat×Ob)} (h:ObsImp I J) {p:Nat×Ob} (hp:p∈J):∃X,(p.1,X)∈I/\ObImp X p.2:=by
 induction h with
 | nil=>cases hp
 | @cons k X Y r s h1 _ ih =>
  rcases b4z.1 hp with rfl | hp
  ·exact ⟨X,by simp,h1⟩
  ·obtain ⟨X',h2,h3⟩:=ih hp
   exact ⟨X',by simp [h2],h3⟩
theorem ObsImp.mem' {I J:List (Nat×Ob)} (h:ObsImp I J) {p:Nat×Ob} (hp:p∈I):∃Y,(p.1,Y)∈J:=by
 induction h with
 | nil=>cases hp
 | @cons k X Y r s _ _ ih =>
  rcases b4z.1 hp with rfl | hp
  ·exact ⟨Y,by simp⟩
  ·obtain ⟨Y',h2⟩:=ih hp
   exact ⟨Y',by simp [h2]⟩
theorem XC.imp {P:Program} {f:FuncId} {zs:List AV} {r:AV} {I I' O O':List (Nat×Ob)} (h:XC P f zs I' r O') (hI:ObsImp I I') (hO:ObsImp O' O):XC P f zs I r O:=⟨by
 intro w S β vs hlt hr hin
 have hpass:∀b,i9q I' β b↔i9q I β b:=by
  intro b
  constructor
  ·rintro ⟨p,hp,h1⟩
   obtain ⟨X,h2,_⟩:=hI.mem hp
   exact ⟨_,h2,h1⟩
  ·rintro ⟨p,hp,h1⟩
   obtain ⟨Y,h2⟩:=hI.mem' hp
   exact ⟨_,h2,h1⟩
 have hpc:∀b,C5q I' β b↔C5q I β b:=by
  intro b
  constructor
  ·rintro ⟨p,hp,h1⟩
   obtain ⟨X,h2,_⟩:=hI.mem hp
   exact ⟨_,h2,h1⟩
  ·rintro ⟨p,hp,h1⟩
   obtain ⟨Y,h2⟩:=hI.mem' hp
   exact ⟨_,h2,h1⟩
 have hin':R9q w S β I':=by
  refine ⟨fun p hp => ?_,fun p hp b hb => ?_,fun p hp q hq b hb hb' => ?_,fun p hp b hb => ?_,fun p hp q hq b hb hb' => ?_⟩
  ·obtain ⟨X,h2,h3⟩:=hI.mem hp
   exact h3 _ _ _ _ (hin.ob _ h2)
  ·obtain ⟨X,h2,_⟩:=hI.mem hp
   exact hin.own _ h2 b hb
  ·obtain ⟨X,h2,_⟩:=hI.mem hp
   obtain ⟨X',h3,_⟩:=hI.mem hq
   exact hin.sep _ h2 (q.1,X') h3 b hb hb'
  ·obtain ⟨X,h2,_⟩:=hI.mem hp
   exact hin.clm _ h2 b hb
  ·obtain ⟨X,h2,_⟩:=hI.mem hp
   obtain ⟨X',h3,_⟩:=hI.mem hq
   exact hin.sepc _ h2 (q.1,X') h3 b hb hb'
 have hmv:A8q O'=A8q O:=by unfold A8q; rw [hO.keys]
 refine (h.h w S β vs hlt hr hin').mono ?_
 rintro e w' ⟨v,S',β',rfl,hG,hrep⟩
 refine ⟨v,S',β',rfl,⟨hG.os,hG.tape,hG.output,hG.size,fun b hb hp=>hG.block b hb fun h=>hp ((hpass b).1 h),hG.sub,fun b hb=>⟨(hG.sup b hb).1,(hG.sup b hb).2.imp id (Or.imp id (hpass b).1)⟩,fun o ho=>hG.loc o (by rw [hmv]; exact ho),fun p hp => ?_,fun p hp b hb => ?_,fun p hp q hq b hb hb' => ?_,fun p hp b hb => ?_,fun p hp q hq b hb hb' => ?_⟩,hrep⟩
 ·obtain ⟨X,h2,h3⟩:=hO.mem hp
  exact h3 _ _ _ _ (hG.ob _ h2)
 ·obtain ⟨X,h2,_⟩:=hO.mem hp
  obtain ⟨g1,g2,g3⟩:=hG.own _ h2 b hb
  exact ⟨g1,g2,g3.imp id (hpass b).1⟩
 ·obtain ⟨X,h2,_⟩:=hO.mem hp
  obtain ⟨X',h3,_⟩:=hO.mem hq
  exact hG.sep _ h2 (q.1,X') h3 b hb hb'
 ·obtain ⟨X,h2,_⟩:=hO.mem hp
  obtain ⟨g1,g3⟩:=hG.clm _ h2 b hb
  exact ⟨g1,g3.imp id (Or.imp (hpass b).1 (hpc b).1)⟩
 ·obtain ⟨X,h2,_⟩:=hO.mem hp
  obtain ⟨X',h3,_⟩:=hO.mem hq
  exact hG.sepc _ h2 (q.1,X') h3 b hb hb'⟩
end AM
end Go.Proofs.YtmgfoalfimpkjaaGreat
set_option maxRecDepth 100000
namespace Go.Proofs.YtmgfoalfimpkjaaGreat
namespace AM
open Go Go.ChangeShapes Go.WideShapes Go.RowKit
open Go.Proofs.Tryz renaming prog->pg
theorem a8rq (l:List Tm) (ih0:∀t∈l,XC pg 206 [.dat t.da,.dat t.da] [] (B true) []):XC pg 213 [L (Tm.das l),L (Tm.das l)] [] (B true) []:=by
 refine t8q fun hfit => ?_
 have hlen:l.length<=281474976710656:=by have:=hfit.one.len; rwa [d3q] at this
 apply a4Eq
 refine a3q P6q ?_
 refine q3q (p:=fun i=>w6q (B true) [] (Tm.das l) (Tm.das l) (i:Int)) l.length ?_ (fun i hi ih => ?_) 0 (a8z _)
 ·apply R8q
  exact a3q (j4q (by rw [d3q]; exact a3z _)) ⟨rfl,rfl⟩
 ·obtain ⟨x,hx⟩:=d4q hi
  have hx1:=u5q hx
  have hxc:=ih0 x (a6z hx)
  obtain ⟨f,v,ks⟩:=x
  apply R8q
  refine a6q (k7q (by rwa [d3q])) ⟨i,rfl,_,_,_,hx1,i,rfl,_,_,_,hx1,_,hxc,a3q rfl ?_⟩
  rw [wr1 hi hlen]
  exact ih
theorem a3Hq (t:Tm):XC pg 206 [.dat t.da,.dat t.da] [] (B true) []:=by
 induction t using Tm.ind with
 | h f v ks ih =>
  apply a63q
  exact a3q P6q (a3q P6q ⟨_,a8rq ks ih,a3q rfl ⟨rfl,rfl⟩⟩)
mutual
def Tm.mkT:Nat->Tm->Tm
 | k,.mk _ _ ks=>.mk k ((k+1:Nat):Int) (Tm.mkL (k+2) ks)
def Tm.mkL:Nat->List Tm->List Tm
 | _,[]=>[]
 | k,t::r=>Tm.mkT k t::Tm.mkL (k+2+2*t.cn) r
end
theorem wrN {k:Nat} (hk:k<=281474976710656) (d:Nat) (hd:d<=1000):a0z .i64 ((k:Int)+(d:Int))=((k+d:Nat):Int):=by
 rw [wrI (by omega) (by omega)]; omega
theorem h1q {α:Type} {P:List α} {x:α} {R:List α}:(P++x::R)[P.length]?=some x:=by simp
theorem b6q {α:Type} {P:List α} {x y:α} {R:List α}:(P++x::R).set P.length y=P++y::R:=by simp
theorem Tm.len_cns (l:List Tm):l.length<=Tm.cns l:=by
 rw [Tm.cns_cnL]; exact B9q _ _
theorem a1cq:∀(l:List Tm),(∀t∈l,∀k:Nat,k+2*t.cn<=10000000000000->XC pg 157 [.one (.ol 2000),Z (k:Int)] [(2000,.mt 52 3 (Tm.das t.ks))] (Z ((k+2*t.cn:Nat):Int)) [(2000,.mt 52 3 (Tm.das (Tm.mkL k t.ks)))]) ->
  ∀(P:List (List Da)) (k:Nat),P.length+l.length<=10000000000000->k+2*Tm.cns l<=10000000000000->t5q (Z ((k+2*Tm.cns l:Nat):Int)) [(2000,.mt 52 3 (P++Tm.das (Tm.mkL k l)))] (k:Int) (P.length:Int) (P++Tm.das l)
 | [],_,P,k,_,_=>by
  apply M8q
  refine a3q (decide_eq_false (by simp [Tm.das])) ⟨by simp [Tm.cns],by simp [Tm.mkL]⟩
 | .mk f v ks::r,ih0,P,k,hl,hk=>by
  have hcn:Tm.cns (.mk f v ks::r)=1+Tm.cns ks+Tm.cns r:=rfl
  rw [hcn] at hk
  simp only [a5z] at hl
  have e1:Tm.das (.mk f v ks::r)=[.int .i64 f,.int .i64 v,.sl (Tm.das ks)]::Tm.das r:=rfl
  apply M8q
  rw [e1]
  have w1:a0z .i64 ((k:Int)+1)=((k+1:Nat):Int):=wrN (by omega) 1 (by omega)
  have w2:a0z .i64 (((k+1:Nat):Int)+1)=((k+2:Nat):Int):=wrN (by omega) 1 (by omega)
  have w3:a0z .i64 ((P.length:Int)+1)=((P.length+1:Nat):Int):=wrN (by omega) 1 (by omega)
  rw [w1,w2,w3]
  have hlen:∀y:List Da,P.length<(P++y::Tm.das r).length:=fun y=>by simp
  have hm:=ih0 (.mk f v ks) (by simp) (k+2) (by simp only [Tm.cn]; omega)
  refine a6q (decide_eq_true (by simp; omega)) ⟨P.length,rfl,⟨hlen _⟩,P.length,rfl,_,_,_,h1q,P.length,rfl,⟨by rw [b6q]; exact hlen _⟩,P.length,rfl,_,_,_,by rw [b6q]; exact h1q,P.length,rfl,⟨by rw [b6q,b6q]; exact hlen _⟩,P.length,rfl,_,_,_,by rw [b6q,b6q]; exact h1q,fun _ _ _=>⟨⟨rfl,rfl,rfl⟩,_,_,_,by rw [b6q,b6q]; exact h1q,⟨fun y hy => ?_⟩,_,_,hm,?_⟩⟩
  ·rw [Tm.das_map] at hy
   obtain ⟨t,_,rfl⟩:=anz.1 hy
   exact Tm.da_len t
  ·rw [b6q,b6q,b6q]
   have ih:=a1cq r (fun t ht=>ih0 t (b3z _ ht)) (P++[[.int .i64 (k:Int),.int .i64 ((k+1:Nat):Int),.sl (Tm.das (Tm.mkL (k+2) ks))]]) (k+2+2*Tm.cns ks) (by simp; omega) (by omega)
   have e2:Tm.das (Tm.mkL k (.mk f v ks::r))=[.int .i64 (k:Int),.int .i64 ((k+1:Nat):Int),.sl (Tm.das (Tm.mkL (k+2) ks))]::Tm.das (Tm.mkL (k+2+2*Tm.cns ks) r):=rfl
   have e3:k+2*Tm.cns (.mk f v ks::r)=k+2+2*Tm.cns ks+2*Tm.cns r:=by rw [hcn]; omega
   rw [e2,e3]
   simpa [adz,Tm.cn,Tm.ks] using ih
theorem a0Gq (t:Tm):∀k:Nat,k+2*t.cn<=10000000000000->XC pg 157 [.one (.ol 2000),Z (k:Int)] [(2000,.mt 52 3 (Tm.das t.ks))] (Z ((k+2*t.cn:Nat):Int)) [(2000,.mt 52 3 (Tm.das (Tm.mkL k t.ks)))]:=by
 induction t using Tm.ind with
 | h f v ks ih =>
 intro k hk
 apply a3mq
 have h1:=Tm.len_cns ks
 have h2:(Tm.mk f v ks).cn=Tm.cns ks:=rfl
 rw [h2] at hk ⊢
 have:=a1cq ks (fun t ht=>ih t ht) [] k (by simp; omega) hk
 simpa [Tm.ks] using this
theorem a18q:∀(l:List Tm),(∀t∈l,∀k:Nat,k+2*t.cn<=10000000000000->XC pg 158 [L (Tm.das (Tm.mkL k t.ks)),Z (k:Int)] [] (Z ((k+2*t.cn:Nat):Int)) []) ->
  ∀(P:List (List Da)) (k:Nat),P.length+l.length<=10000000000000->k+2*Tm.cns l<=10000000000000->t9q (Z ((k+2*Tm.cns l:Nat):Int)) [] (P++Tm.das (Tm.mkL k l)) (k:Int) (P.length:Int)
 | [],_,P,k,_,_=>by
  apply L3q
  refine a3q (decide_eq_false (by simp [Tm.das,Tm.mkL])) ⟨by simp [Tm.cns],rfl⟩
 | .mk f v ks::r,ih0,P,k,hl,hk=>by
  have hcn:Tm.cns (.mk f v ks::r)=1+Tm.cns ks+Tm.cns r:=rfl
  rw [hcn] at hk
  simp only [a5z] at hl
  have e2:Tm.das (Tm.mkL k (.mk f v ks::r))=[.int .i64 (k:Int),.int .i64 ((k+1:Nat):Int),.sl (Tm.das (Tm.mkL (k+2) ks))]::Tm.das (Tm.mkL (k+2+2*Tm.cns ks) r):=rfl
  apply L3q
  rw [e2]
  have w1:a0z .i64 ((k:Int)+1)=((k+1:Nat):Int):=wrN (by omega) 1 (by omega)
  have w2:a0z .i64 (((k+1:Nat):Int)+1)=((k+2:Nat):Int):=wrN (by omega) 1 (by omega)
  have w3:a0z .i64 ((P.length:Int)+1)=((P.length+1:Nat):Int):=wrN (by omega) 1 (by omega)
  rw [w1,w2,w3]
  have hm:=ih0 (.mk f v ks) (by simp) (k+2) (by simp only [Tm.cn]; omega)
  refine a6q (decide_eq_true (by simp; omega)) ⟨P.length,rfl,_,_,_,h1q,a3q (by simp) ⟨P.length,rfl,_,_,_,h1q,a3q (by simp) ⟨P.length,rfl,_,_,_,h1q,_,hm,a3q (decide_eq_false (by omega)) ?_⟩⟩⟩
  have ih:=a18q r (fun t ht=>ih0 t (b3z _ ht)) (P++[[.int .i64 (k:Int),.int .i64 ((k+1:Nat):Int),.sl (Tm.das (Tm.mkL (k+2) ks))]]) (k+2+2*Tm.cns ks) (by simp; omega) (by omega)
  have e3:k+2*Tm.cns (.mk f v ks::r)=k+2+2*Tm.cns ks+2*Tm.cns r:=by rw [hcn]; omega
  rw [e3]
  simpa [adz,Tm.cn,Tm.ks] using ih
theorem a10q (t:Tm):∀k:Nat,k+2*t.cn<=10000000000000->XC pg 158 [L (Tm.das (Tm.mkL k t.ks)),Z (k:Int)] [] (Z ((k+2*t.cn:Nat):Int)) []:=by
 induction t using Tm.ind with
 | h f v ks ih =>
 intro k hk
 apply a3qq
 have h1:=Tm.len_cns ks
 have h2:(Tm.mk f v ks).cn=Tm.cns ks:=rfl
 rw [h2] at hk ⊢
 have:=a18q ks (fun t ht=>ih t ht) [] k (by simp; omega) hk
 simpa [Tm.ks] using this
theorem abaq (x:Li):XC pg 191 [.dat x.da,.dat x.da] [] (B true) []:=by
 obtain ⟨p,⟨f,u,ks⟩,⟨g,v,ms⟩⟩:=x
 apply a7uq
 exact a3q aaeq ⟨_,a3Hq (.mk f u ks),a3q rfl ⟨_,a3Hq (.mk g v ms),a3q rfl ⟨rfl,rfl⟩⟩⟩
theorem aabq (l:List Li):XC pg 156 [L (l.map Li.da),L (l.map Li.da)] [] (B true) []:=by
 refine t8q fun hfit => ?_
 have hlen:l.length<=281474976710656:=by have:=hfit.one.len; simpa using this
 apply a5Bq
 refine a3q P6q ?_
 refine q3q (p:=fun i=>z1q (B true) [] (l.map Li.da) (l.map Li.da) (i:Int)) l.length ?_ (fun i hi ih => ?_) 0 (a8z _)
 ·apply U1q
  exact a3q (j4q (by simp)) ⟨rfl,rfl⟩
 ·obtain ⟨x,hx⟩:=d4q hi
  have hx1:=l0q (g:=Li.da) hx
  have hxc:=abaq x
  obtain ⟨p,⟨f,v,ks⟩,⟨g,u,ms⟩⟩:=x
  apply U1q
  refine a6q (k7q (by simpa using hi)) ⟨i,rfl,_,_,_,_,_,_,_,hx1,i,rfl,_,_,_,_,_,_,_,hx1,_,hxc,a3q rfl ?_⟩
  rw [wr1 hi hlen]
  exact ih
theorem a7Qq (x:Cl):XC pg 101 [.dat x.da,.dat x.da] [] (B true) []:=by
 apply a3Xq
 exact ⟨_,aabq x.ls,a3q rfl ⟨rfl,rfl⟩⟩
def mkLi (k:Nat) (x:Li):Li:=⟨decide (aqz (k:Int) 3=0),.mk ((k+1:Nat):Int) ((k+2:Nat):Int) (Tm.mkL (k+3) x.l.ks),.mk ((k+3+2*x.l.cn:Nat):Int) ((k+4+2*x.l.cn:Nat):Int) (Tm.mkL (k+5+2*x.l.cn) x.r.ks)⟩
def y4q:Nat->List Li->List Li
 | _,[]=>[]
 | k,x::r=>mkLi k x::y4q (k+5+2*x.cn) r
def mkN:List Li->Nat
 | []=>0
 | x::r=>5+2*x.cn+mkN r
theorem agnq (l:List Li):mkN l<=5*cnL Li.cn l:=by
 induction l with
 | nil=>simp [mkN]
 | cons x r ih=>simp only [mkN,cnL,a5z,afz,List.sum_cons] at ih ⊢; omega
theorem das3 (l:List Tm):∀y∈Tm.das l,y.length=3:=by
 intro y hy
 rw [Tm.das_map] at hy
 obtain ⟨t,_,rfl⟩:=anz.1 hy
 exact Tm.da_len t
theorem aboq (x:Sy):XC pg 100 [.dat x.da,.dat x.da] [] (B true) []:=by
 apply a7lq
 exact a3q af5q (a3q P6q (a3q aaeq ⟨rfl,rfl⟩))
theorem aacq (l:List Sy):XC pg 40 [L (l.map Sy.da),L (l.map Sy.da)] [] (B true) []:=by
 refine t8q fun hfit => ?_
 have hlen:l.length<=281474976710656:=by have:=hfit.one.len; simpa using this
 apply a5zq
 refine a3q P6q ?_
 refine q3q (p:=fun i=>z7q (B true) [] (l.map Sy.da) (l.map Sy.da) (i:Int)) l.length ?_ (fun i hi ih => ?_) 0 (a8z _)
 ·apply T6q
  exact a3q (j4q (by simp)) ⟨rfl,rfl⟩
 ·obtain ⟨x,hx⟩:=d4q hi
  have hx1:=l0q (g:=Sy.da) hx
  have hxc:=aboq x
  obtain ⟨nm,ar,ac⟩:=x
  apply T6q
  refine a6q (k7q (by simpa using hi)) ⟨i,rfl,_,_,_,hx1,i,rfl,_,_,_,hx1,_,hxc,a3q rfl ?_⟩
  rw [wr1 hi hlen]
  exact ih
theorem a6aq (l:List Cl):XC pg 41 [L (l.map Cl.da),L (l.map Cl.da)] [] (B true) []:=by
 refine t8q fun hfit => ?_
 have hlen:l.length<=281474976710656:=by have:=hfit.one.len; simpa using this
 apply a3pq
 refine a3q P6q ?_
 refine q3q (p:=fun i=>u0q (B true) [] (l.map Cl.da) (l.map Cl.da) (i:Int)) l.length ?_ (fun i hi ih => ?_) 0 (a8z _)
 ·apply L8q
  exact a3q (j4q (by simp)) ⟨rfl,rfl⟩
 ·obtain ⟨x,hx⟩:=d4q hi
  have hx1:=l0q (g:=Cl.da) hx
  have hxc:=a7Qq x
  obtain ⟨ls⟩:=x
  apply L8q
  refine a6q (k7q (by simpa using hi)) ⟨i,rfl,_,hx1,i,rfl,_,hx1,_,hxc,a3q rfl ?_⟩
  rw [wr1 hi hlen]
  exact ih
theorem o5q {α:Type} {l:List α} {i:Nat} {x:α} (h:l[i]?=some x):l.drop i=x::l.drop (i+1):=by
 obtain ⟨hl,e⟩:=a2z.1 h
 rw [List.drop_eq_getElem_cons hl,e]
theorem O6q {α:Type} {l:List α}:l.drop l.length=[]:=by simp
theorem bF {b:Bool} (h:¬b=true):B false=B b/\([]:List (Nat×Ob))=[]:=⟨by rw [a9z.2 h],rfl⟩
theorem bE {a b:Bool} (h:a=b):B a=B b/\([]:List (Nat×Ob))=[]:=⟨by rw [h],rfl⟩
theorem bT {b:Bool} (h:b=true):B true=B b/\([]:List (Nat×Ob))=[]:=⟨by rw [h],rfl⟩
theorem T5q {a b:Int} (h:¬a≠b):a=b:=by omega
theorem ne_n {a b:Nat} (h:¬(a:Int)≠(b:Int)):a=b:=by omega
theorem wrM {k:Nat} (h:0<k) (hk:k<=281474976710656):a0z .i64 ((k:Int)-1)=((k-1:Nat):Int):=by
 rw [wrI (by omega) (by omega)]; omega
def v2q (x y:Int) (r:Int):Int:=if x<y then -1 else if x > y then 1 else r
theorem a2Jq {x y r:Int}:v2q x y r=0↔x=y/\r=0:=by
 unfold v2q
 split
 ·omega
 ·split <;> omega
theorem a6Cq {x y r:Int} (h:x≠y):decide (x<y)=decide (v2q x y r<0):=by
 unfold v2q
 split
 ·simp [*]
 ·split
  ·simp; omega
  ·omega
theorem W6q {x y r:Int} (h:x=y):v2q x y r=r:=by unfold v2q; simp [h]
mutual
def Tm.cmp:Tm->Tm->Int
 | .mk f v ks,.mk g u ls=>v2q f g (v2q v u (v2q ks.length ls.length (Tm.cmps ks ls)))
def Tm.cmps:List Tm->List Tm->Int
 | t::r,u::s=>if Tm.cmp t u=0 then Tm.cmps r s else Tm.cmp t u
 | _,_=>0
end
theorem Tm.cmp_mk {f v g u:Int} {ks ls:List Tm}:Tm.cmp (.mk f v ks) (.mk g u ls)=v2q f g (v2q v u (v2q ks.length ls.length (Tm.cmps ks ls))):=rfl
theorem Tm.cmp0 {f v g u:Int} {ks ls:List Tm}:Tm.cmp (.mk f v ks) (.mk g u ls)=0↔f=g/\v=u/\ks.length=ls.length/\Tm.cmps ks ls=0:=by
 rw [Tm.cmp_mk,a2Jq,a2Jq,a2Jq]; omega
theorem Tm.cmps_nil:Tm.cmps [] []=0:=by simp [Tm.cmps]
theorem Tm.cmps_cons {t u:Tm} {r s:List Tm}:Tm.cmps (t::r) (u::s)=if Tm.cmp t u=0 then Tm.cmps r s else Tm.cmp t u:=by simp [Tm.cmps]
theorem Tm.cmps_end {ks ls:List Tm} (h:ks.length=ls.length):Tm.cmps (ks.drop ks.length) (ls.drop ks.length)=0:=by
 rw [O6q,h,O6q,Tm.cmps_nil]
def Li.cmp (a b:Li):Int:=if a.p=b.p then (if Tm.cmp a.l b.l=0 then Tm.cmp a.r b.r else Tm.cmp a.l b.l) else if b.p then -1 else 1
def inR (x lo hi:Int):Bool:=decide (lo<=x)&&decide (x<=hi)
theorem D4q (x lo hi:Int):XC pg 95 [Z x,Z lo,Z hi] [] (B (inR x lo hi)) []:=by
 apply a8bq
 exact b3q (fun h=>bE (by simp [inR,h])) fun h=>bE (by simp [inR,h])
theorem F5q (x lo hi:Int):XC pg 89 [Z x,Z lo,Z hi] [] (B (inR x lo hi)) []:=by
 apply a96q
 exact b3q (fun h=>bE (by simp [inR,h])) fun h=>bE (by simp [inR,h])
theorem absq (t:Tm):XC pg 132 [.dat t.da] [] (B (decide (t.f = -1))) []:=by
 obtain ⟨f,v,ks⟩:=t
 apply a7Lq
 exact ⟨rfl,rfl⟩
theorem H6q (a b:Tm):XC pg 119 [.dat a.da,.dat b.da] [] (B (decide (Tm.cmp a b=0))) []:=by
 induction a using Tm.ind generalizing b with
 | h f v ks ih =>
 obtain ⟨g,u,ls⟩:=b
 refine t8q fun hfit => ?_
 have hlen:ks.length<=281474976710656:=by have:=hfit.dat.tail.tail.len; rwa [d3q] at this
 apply a3Lq
 rw [d3q,d3q]
 refine b3q (fun h=>bF (by simp [Tm.cmp0]; omega)) fun h1=>b3q (fun h=>bF (by simp [Tm.cmp0]; omega)) fun h2=>b3q (fun h=>bF (by simp [Tm.cmp0]; omega)) fun h3 => ?_
 have h1:=T5q h1; have h2:=T5q h2; have h3:=ne_n h3
 have key:=q3q (p:=fun i=>v6q (B (decide (Tm.cmps (ks.drop i) (ls.drop i)=0))) [] (i:Int) f v (Tm.das ks) g u (Tm.das ls)) ks.length ?_ (fun i hi ihl => ?_) 0 (a8z _)
 ·have e:decide (Tm.cmp (.mk f v ks) (.mk g u ls)=0)=decide (Tm.cmps (ks.drop 0) (ls.drop 0)=0):=by
   simp [Tm.cmp0,h1,h2,h3]
  rw [e]; exact key
 ·apply N0q
  exact a3q (j4q (by rw [d3q]; exact a3z _)) (bT (by rw [Tm.cmps_end h3]; rfl))
 ·obtain ⟨x,hx⟩:=d4q hi
  obtain ⟨y,hy⟩:=d4q (l:=ls) (i:=i) (by omega)
  have hx1:=u5q hx
  have hy1:=u5q hy
  have hxy:=ih x (a6z hx) y
  rw [o5q hx,o5q hy,Tm.cmps_cons]
  obtain ⟨f',v',ks'⟩:=x
  obtain ⟨g',u',ls'⟩:=y
  apply N0q
  refine a6q (k7q (by rwa [d3q])) ⟨i,rfl,_,_,_,hx1,i,rfl,_,_,_,hy1,_,hxy,c5q (fun h=>bF ?_) fun h => ?_⟩
  ·simp at h; simp [h]
  ·simp at h
   rw [wr1 hi hlen,if_pos h]
   exact ihl
theorem C1q (a b:Tm):XC pg 118 [.dat a.da,.dat b.da] [] (B (decide (Tm.cmp a b<0))) []:=by
 induction a using Tm.ind generalizing b with
 | h f v ks ih =>
 obtain ⟨g,u,ls⟩:=b
 refine t8q fun hfit => ?_
 have hlen:ks.length<=281474976710656:=by have:=hfit.dat.tail.tail.len; rwa [d3q] at this
 apply a67q
 rw [d3q,d3q,Tm.cmp_mk]
 refine b3q (fun h=>bE (a6Cq h)) fun h1 => ?_
 rw [W6q (T5q h1)]
 refine b3q (fun h=>bE (a6Cq h)) fun h2 => ?_
 rw [W6q (T5q h2)]
 refine b3q (fun h=>bE (a6Cq h)) fun h3 => ?_
 rw [W6q (T5q h3)]
 have h3:=ne_n h3
 have key:=q3q (p:=fun i=>z2q (B (decide (Tm.cmps (ks.drop i) (ls.drop i)<0))) [] (i:Int) f v (Tm.das ks) g u (Tm.das ls)) ks.length ?_ (fun i hi ihl => ?_) 0 (a8z _)
 ·exact key
 ·apply U4q
  exact a3q (j4q (by rw [d3q]; exact a3z _)) (bF (by rw [Tm.cmps_end h3]; simp))
 ·obtain ⟨x,hx⟩:=d4q hi
  obtain ⟨y,hy⟩:=d4q (l:=ls) (i:=i) (by omega)
  have hx1:=u5q hx
  have hy1:=u5q hy
  have hxy:=ih x (a6z hx) y
  have hs:=H6q x y
  rw [o5q hx,o5q hy,Tm.cmps_cons]
  obtain ⟨f',v',ks'⟩:=x
  obtain ⟨g',u',ls'⟩:=y
  apply U4q
  refine a6q (k7q (by rwa [d3q])) ⟨i,rfl,_,_,_,hx1,i,rfl,_,_,_,hy1,_,hs,c5q (fun h=>⟨i,rfl,_,_,_,hx1,i,rfl,_,_,_,hy1,_,hxy,bE ?_⟩) fun h => ?_⟩
  ·simp at h; simp [h]
  ·simp at h
   rw [wr1 hi hlen,if_pos h]
   exact ihl
theorem L0q (a b:Tm):XC pg 112 [.dat a.da,.dat b.da] [] (Z (Tm.cmp a b)) []:=by
 induction a using Tm.ind generalizing b with
 | h f v ks ih =>
 obtain ⟨g,u,ls⟩:=b
 refine t8q fun hfit => ?_
 have hlen:ks.length<=281474976710656:=by have:=hfit.dat.tail.tail.len; rwa [d3q] at this
 apply a54q
 rw [d3q,d3q,Tm.cmp_mk]
 apply x0q
 refine a6q rfl ⟨0,rfl,⟨by simp⟩,0,rfl,_,_,rfl,?_⟩
 refine b3q (fun h=>⟨by simp [v2q,h],rfl⟩) fun h1=>b3q (fun h=>⟨by unfold v2q; rw [if_neg (by omega),if_pos (by omega)],rfl⟩) fun h2 => ?_
 rw [W6q (by omega)]
 apply x0q
 refine a6q rfl ⟨1,rfl,⟨by simp⟩,1,rfl,_,_,rfl,?_⟩
 refine b3q (fun h=>⟨by simp [v2q,h],rfl⟩) fun h3=>b3q (fun h=>⟨by unfold v2q; rw [if_neg (by omega),if_pos (by omega)],rfl⟩) fun h4 => ?_
 rw [W6q (by omega)]
 apply x0q
 refine a6q rfl ⟨2,rfl,⟨by simp⟩,2,rfl,_,_,rfl,?_⟩
 refine b3q (fun h=>⟨by simp only [v2q,if_pos h],rfl⟩) fun h5=>b3q (fun h=>⟨by unfold v2q; rw [if_neg (by omega),if_pos (by omega)],rfl⟩) fun h6 => ?_
 rw [W6q (by omega)]
 apply x0q
 refine a3q rfl ?_
 have hl:ks.length=ls.length:=by omega
 rw [d3q]
 have key:=q3q (p:=fun i=>v8q (Z (Tm.cmps (ks.drop i) (ls.drop i))) [] (ks.length:Int) (i:Int) f v (Tm.das ks) g u (Tm.das ls)) ks.length ?_ (fun i hi ihl => ?_) 0 (a8z _)
 ·exact key
 ·apply N2q
  exact a3q (j4q (a3z _)) ⟨by rw [Tm.cmps_end hl],rfl⟩
 ·obtain ⟨x,hx⟩:=d4q hi
  obtain ⟨y,hy⟩:=d4q (l:=ls) (i:=i) (by omega)
  have hx1:=u5q hx
  have hy1:=u5q hy
  have hxy:=ih x (a6z hx) y
  rw [o5q hx,o5q hy,Tm.cmps_cons]
  obtain ⟨f',v',ks'⟩:=x
  obtain ⟨g',u',ls'⟩:=y
  apply N2q
  refine a6q (k7q hi) ⟨i,rfl,_,_,_,hx1,i,rfl,_,_,_,hy1,_,hxy,b3q (fun h=>⟨by rw [if_neg h],rfl⟩) fun h => ?_⟩
  rw [wr1 hi hlen,if_pos (by omega)]
  exact ihl
theorem K5q (a b:Tm):XC pg 110 [.dat a.da,.dat b.da] [] (B (decide (Tm.cmp a b<0))) []:=by
 have h:=L0q a b
 obtain ⟨f,v,ks⟩:=a; obtain ⟨g,u,ls⟩:=b
 apply a68q
 exact ⟨_,h,rfl,rfl⟩
theorem I3q (a b:Li):XC pg 54 [.dat a.da,.dat b.da] [] (Z (Li.cmp a b)) []:=by
 have h1:=L0q a.l b.l
 have h2:=L0q a.r b.r
 obtain ⟨p,⟨f,v,ks⟩,⟨g,u,ls⟩⟩:=a
 obtain ⟨p',⟨f',v',ks'⟩,⟨g',u',ls'⟩⟩:=b
 have hc:p=p'->∃n,XC pg 112 [.dat (Tm.mk f v ks).da,.dat (Tm.mk f' v' ks').da] [] (Z n) []/\ifB (decide (n≠0)) (Z n=Z (Li.cmp ⟨p,.mk f v ks,.mk g u ls⟩ ⟨p',.mk f' v' ks',.mk g' u' ls'⟩)/\([]:List (Nat×Ob))=[]) (∃n1,XC pg 112 [.dat (Tm.mk g u ls).da,.dat (Tm.mk g' u' ls').da] [] (Z n1) []/\Z n1=Z (Li.cmp ⟨p,.mk f v ks,.mk g u ls⟩ ⟨p',.mk f' v' ks',.mk g' u' ls'⟩)/\([]:List (Nat×Ob))=[]):=by
  rintro rfl
  refine ⟨_,h1,b3q (fun h=>⟨by simp only [Li.cmp,if_true,if_neg h],rfl⟩) fun h=>⟨_,h2,by simp only [Li.cmp,if_true,if_pos (T5q h)],rfl⟩⟩
 apply a20q
 cases p <;> cases p'
 ·exact a6q rfl (a3q rfl (a3q rfl (hc rfl)))
 ·exact a6q rfl (a6q rfl ⟨rfl,rfl⟩)
 ·exact a3q rfl (a6q rfl (a6q rfl ⟨rfl,rfl⟩))
 ·exact a3q rfl (a6q rfl (a3q rfl (hc rfl)))
theorem a2Yq (a b:Li):XC pg 76 [.dat a.da,.dat b.da] [] (B (decide (Li.cmp a b<0))) []:=by
 have h:=I3q a b
 obtain ⟨p,⟨f,v,ks⟩,⟨g,u,ls⟩⟩:=a
 obtain ⟨p',⟨f',v',ks'⟩,⟨g',u',ls'⟩⟩:=b
 apply a3kq
 exact ⟨_,h,rfl,rfl⟩
theorem a43q (a b:Li):XC pg 56 [.dat a.da,.dat b.da] [] (B (decide (Li.cmp a b=0))) []:=by
 have h:=I3q a b
 obtain ⟨p,⟨f,v,ks⟩,⟨g,u,ls⟩⟩:=a
 obtain ⟨p',⟨f',v',ks'⟩,⟨g',u',ls'⟩⟩:=b
 apply a4Sq
 exact ⟨_,h,rfl,rfl⟩
theorem a0Uq (a b:Li):XC pg 65 [.dat a.da,.dat b.da] [] (B (decide (Li.cmp a b<0))) []:=by
 have h1:=H6q a.l b.l
 have h2:=C1q a.l b.l
 have h3:=C1q a.r b.r
 obtain ⟨p,⟨f,v,ks⟩,⟨g,u,ls⟩⟩:=a
 obtain ⟨p',⟨f',v',ks'⟩,⟨g',u',ls'⟩⟩:=b
 apply a3lq
 refine b3q (fun h=>bE ?_) fun h => ?_
 ·cases p <;> cases p' <;> simp_all [Li.cmp]
 ·have h:p=p':=by simpa using h
  subst h
  refine ⟨_,h1,c5q (fun h=>⟨_,h2,bE ?_⟩) fun h=>⟨_,h3,bE ?_⟩⟩
  ·have h:¬Tm.cmp (.mk f v ks) (.mk f' v' ks')=0:=by simpa using h
   simp only [Li.cmp,if_true,if_neg h]
  ·have h:Tm.cmp (.mk f v ks) (.mk f' v' ks')=0:=by simpa using h
   simp only [Li.cmp,if_true,if_pos h]
open Classical in
noncomputable def dB (p:Prop):Bool:=decide p
theorem dB_t {p:Prop} (h:p):B true=B (dB p)/\([]:List (Nat×Ob))=[]:=⟨by simp [dB,h],rfl⟩
theorem p8q {p:Prop} (h:¬p):B false=B (dB p)/\([]:List (Nat×Ob))=[]:=⟨by simp [dB,h],rfl⟩
theorem S4q {p:Prop} {b:Bool} (h:b=true↔p):B b=B (dB p)/\([]:List (Nat×Ob))=[]:=⟨by congr 1; rw [azz]; simp [dB,h],rfl⟩
theorem g9q {p:Prop}:dB p=true↔p:=by simp [dB]
theorem j1q {p:Prop}:dB p=false↔¬p:=by simp [dB]
theorem m1q {x lo hi:Int}:inR x lo hi=true↔lo<=x/\x<=hi:=by simp [inR]
theorem j2q {b:Bool} (h:(!b)=false):b=true:=by simpa using h
theorem l9q {b:Bool} (h:(!b)=true):b=false:=by simpa using h
def G5q (l:List Tm):Nat:=(l.map fun t=>t.cn+1).sum
theorem a1zq (l:List Tm):G5q l=Tm.cns l:=by
 induction l with
 | nil=>rfl
 | cons t r ih=>simp [G5q,Tm.cns] at ih ⊢; omega
theorem Tm.cn_mk {f v:Int} {ks:List Tm}:Tm.cn (.mk f v ks)=Tm.cns ks:=by simp [Tm.cn]
theorem acoq {ks:List Tm} {i:Nat} {x:Tm} (h:ks[i]?=some x):x.cn+ks.length<=Tm.cns ks:=Tm.cns_cnL ks ▸ O1q (cn:=Tm.cn) (a6z h)
theorem aaiq (ks:List Tm):ks.length<=Tm.cns ks:=Tm.cns_cnL ks ▸ B9q Tm.cn ks
theorem a5Yq (t:Tm) (hc:t.cn<=1200000000000):XC pg 177 [.dat t.da] [] (Z ((t.cn+1:Nat):Int)) []:=by
 induction t using Tm.ind with
 | h f v ks ih =>
 rw [Tm.cn_mk] at hc ⊢
 have hl:=aaiq ks
 apply a7Pq
 have key:=q3q (p:=fun i=>∀n:Nat,n+G5q (ks.drop i)<=1200000000001->B5q (Z ((n+G5q (ks.drop i):Nat):Int)) [] (n:Int) (i:Int) f v (Tm.das ks)) ks.length ?_ (fun i hi ihl => ?_) 0 (a8z _)
 ·have:=key 1 (by rw [avz,a1zq]; omega)
  rw [avz,a1zq,Nat.add_comm] at this
  exact this
 ·intro n hn
  apply Y9q
  exact a3q (j4q (by rw [d3q]; exact a3z _)) ⟨by rw [O6q]; simp [G5q],rfl⟩
 ·intro n hn
  obtain ⟨x,hx⟩:=d4q hi
  have hx1:=u5q hx
  have hk:=acoq hx
  have hxc:=ih x (a6z hx) (by omega)
  have e:G5q (ks.drop i)=x.cn+1+G5q (ks.drop (i+1)):=by rw [o5q hx]; simp [G5q]
  rw [e] at hn ⊢
  generalize x.cn=c at *
  obtain ⟨f',v',ks'⟩:=x
  apply Y9q
  refine a6q (k7q (by rwa [d3q])) ⟨i,rfl,_,_,_,hx1,_,hxc,?_⟩
  rw [wr1 hi (by omega),wrI (by omega) (by omega)]
  have:=ihl (n+(c+1)) (by omega)
  rw [aHz] at this
  exact this
theorem a6cq (t:Tm) (hc:t.cn<=1200000000000) (n:Nat) (hn:n+t.cn+1<=2400000000002):XC pg 130 [.dat t.da,.one (.clo 198 [(2000,0)])] [(2000,.var [.d (.int .i64 (n:Int))])] (.tup []) [(2000,.var [.d (.int .i64 ((n+t.cn+1:Nat):Int))])]:=by
 induction t using Tm.ind generalizing n with
 | h f v ks ih =>
 rw [Tm.cn_mk] at hc hn ⊢
 have hl:=aaiq ks
 apply V1q
 refine ⟨((n+1:Nat):Int),a4Rq ⟨rfl,by rw [wrI (by omega) (by omega)]; rfl⟩,?_⟩
 have key:=q3q (p:=fun i=>∀m:Nat,m+G5q (ks.drop i)<=2400000000002->l7q (.tup []) [(2000,.var [.d (.int .i64 ((m+G5q (ks.drop i):Nat):Int))])] (Tm.das ks) (ks.length:Int) (i:Int) (m:Int)) ks.length ?_ (fun i hi ihl => ?_) 0 (a8z _)
 ·have:=key (n+1) (by rw [avz,a1zq]; omega)
  rw [avz,a1zq,show n+1+Tm.cns ks=n+Tm.cns ks+1 by omega] at this
  rw [d3q]
  exact this
 ·intro m hm
  apply z5q
  exact a3q (j4q (a3z _)) ⟨rfl,by rw [O6q]; simp [G5q]⟩
 ·intro m hm
  obtain ⟨x,hx⟩:=d4q hi
  have hx1:=u5q hx
  have hk:=acoq hx
  have e:G5q (ks.drop i)=x.cn+1+G5q (ks.drop (i+1)):=by rw [o5q hx]; simp [G5q]
  rw [e] at hm ⊢
  have hxc:=ih x (a6z hx) (by omega) m (by omega)
  generalize x.cn=c at *
  obtain ⟨f',v',ks'⟩:=x
  apply z5q
  refine a6q (k7q hi) ⟨i,rfl,_,_,_,hx1,_,hxc,?_⟩
  rw [wr1 hi (by omega)]
  have:=ihl (m+c+1) (by omega)
  rw [show m+c+1+G5q (ks.drop (i+1))=m+(c+1+G5q (ks.drop (i+1))) by omega] at this
  exact this
theorem a6Aq (t:Tm) (hc:t.cn<=1200000000000):XC pg 175 [.dat t.da] [] (Z ((t.cn+1:Nat):Int)) []:=by
 have h:=a6cq t hc 0 (by omega)
 rw [Nat.zero_add] at h
 obtain ⟨f,v,ks⟩:=t
 apply a7Tq
 exact ⟨_,h,rfl,rfl⟩
def smB (c:UInt8):Prop:=97<=c.toNat/\c.toNat<=122
def dgB (c:UInt8):Prop:=48<=c.toNat/\c.toNat<=57
def abyq (s:ByteArray) (i:Nat):Prop:=∀c,s[i]?=some c->smB c\/(0<i/\dgB c)
def nOk (s:ByteArray):Prop:=(∀i,i<s.size->abyq s i)/\1<=s.size/\s.size<=8
theorem J5q {t:ByteArray} {i:Nat} (h:i<t.size):∃b,t[i]?=some b:=⟨t[i],by simp [h]⟩
theorem aeUq {t:ByteArray} {i:Nat} {b:UInt8} (h:t[i]?=some b):i<t.size:=by
 rcases asz i t.size with h1 | h1
 ·exact h1
 ·simp [show ¬i<t.size by omega] at h
theorem K3q (s:ByteArray):XC pg 149 [T s] [] (B (dB (nOk s))) []:=by
 refine t8q fun hfit => ?_
 have hlen:s.size<=281474976710656:=hfit.one.str
 apply a6qq
 have key:=q3q (p:=fun i=>(∀j,j<i->abyq s j)->n8q (B (dB (nOk s))) [] s (i:Int)) s.size ?_ (fun i hi ihl => ?_) 0 (a8z _)
 ·exact key (by omega)
 ·intro hall
  apply U5q
  refine a3q (j4q (a3z _)) ⟨_,D4q _ _ _,S4q ?_⟩
  rw [m1q]
  exact ⟨fun h=>⟨hall,by omega,by omega⟩,fun h=>by have:=h.2; omega⟩
 ·intro hall
  obtain ⟨b,hb⟩:=J5q hi
  have good:abyq s i->n8q (B (dB (nOk s))) [] s (a0z .i64 ((i:Int)+1)):=fun h=>by
   rw [wr1 hi hlen]
   exact ihl fun j hj=>by
    rcases abz.1 hj with hj | rfl
    ·exact hall j hj
    ·exact h
  have bad:¬(smB b\/(0<i/\dgB b))->B false=B (dB (nOk s))/\([]:List (Nat×Ob))=[]:=fun h=>p8q fun hn=>h (hn.1 i hi b hb)
  have rest:¬smB b->ifB (decide ((0:Int)<(i:Int))) (∃(n:Nat) (b1:UInt8),(i:Int)=(n:Int)/\s[n]?=some b1/\ifB (decide ((48:Int)<=(b1.toNat:Int))) (∃(n:Nat) (b2:UInt8),(i:Int)=(n:Int)/\s[n]?=some b2/\ifB (!decide ((b2.toNat:Int)<=57)) (B false=B (dB (nOk s))/\([]:List (Nat×Ob))=[]) (n8q (B (dB (nOk s))) [] s (a0z .i64 ((i:Int)+1)))) (B false=B (dB (nOk s))/\([]:List (Nat×Ob))=[])) (B false=B (dB (nOk s))/\([]:List (Nat×Ob))=[]):=by
   intro hns
   refine b3q (fun h0=>⟨i,b,rfl,hb,b3q (fun h1=>⟨i,b,rfl,hb,c5q (fun h2=>bad ?_) fun h2=>good ?_⟩) fun h1=>bad ?_⟩) fun h0=>bad ?_
   ·have h2:=l9q h2; simp at h2; exact fun h=>h.elim hns fun h=>by have:=h.2; unfold dgB at this; omega
   ·have h2:=j2q h2; simp at h2; intro c hc; rw [hb] at hc; cases hc; right; unfold dgB; omega
   ·exact fun h=>h.elim hns fun h=>by have:=h.2; unfold dgB at this; omega
   ·exact fun h=>h.elim hns fun h=>by omega
  apply U5q
  refine a6q (k7q hi) ⟨i,b,rfl,hb,b3q (fun h0=>⟨i,b,rfl,hb,b3q (fun h1=>good ?_) fun h1 => ?_⟩) fun h0 => ?_⟩
  ·intro c hc; rw [hb] at hc; cases hc; unfold smB; omega
  ·exact rest (by unfold smB; omega)
  ·exact rest (by unfold smB; omega)
theorem a2Eq (c:Int):XC pg 152 [I .u8 c] [] (B (inR c 97 122)) []:=by
 apply a06q
 exact b3q (fun h=>bE (by simp [inR,h])) fun h=>bE (by simp [inR,h])
theorem a8sq (c:Int):XC pg 153 [I .u8 c] [] (B (inR c 48 57)) []:=by
 apply a08q
 exact b3q (fun h=>bE (by simp [inR,h])) fun h=>bE (by simp [inR,h])
theorem D0q (s:ByteArray):XC pg 98 [T s] [] (B (dB (nOk s))) []:=by
 refine t8q fun hfit => ?_
 have hlen:s.size<=281474976710656:=hfit.one.str
 apply a64q
 have key:=q3q (p:=fun i=>(∀j,j<i->∀c,s[j]?=some c->smB c\/dgB c)->r6q (B (dB (nOk s))) [] s (s.size:Int) (i:Int)) s.size ?_ (fun i hi ihl => ?_) 0 (a8z _)
 ·exact key (by omega)
 ·intro hall
  apply T9q
  refine a3q (j4q (a3z _)) ⟨_,F5q _ _ _,c5q (fun h => ?_) fun h=>p8q ?_⟩
  ·rw [m1q] at h
   obtain ⟨b,hb⟩:=J5q (t:=s) (i:=0) (by omega)
   refine ⟨0,b,rfl,hb,_,a2Eq _,S4q ?_⟩
   rw [m1q]
   constructor
   ·intro h1
    refine ⟨fun i hi c hc => ?_,by omega,by omega⟩
    rcases aBz i with rfl | hp
    ·rw [hb] at hc; cases hc; left; unfold smB; omega
    ·rcases hall i hi c hc with h | h
     ·exact .inl h
     ·exact .inr ⟨hp,h⟩
   ·intro h1
    rcases h1.1 0 (by omega) b hb with h | h
    ·unfold smB at h; omega
    ·omega
  ·intro hn
   have:=hn.2
   rw [a9z,Ne,m1q] at h
   omega
 ·intro hall
  obtain ⟨b,hb⟩:=J5q hi
  have good:smB b\/dgB b->r6q (B (dB (nOk s))) [] s (s.size:Int) (a0z .i64 ((i:Int)+1)):=fun h=>by
   rw [wr1 hi hlen]
   exact ihl fun j hj c hc=>by
    rcases abz.1 hj with hj | rfl
    ·exact hall j hj c hc
    ·rw [hb] at hc; cases hc; exact h
  apply T9q
  refine a6q (k7q hi) ⟨i,b,rfl,hb,_,a2Eq _,c5q (fun h1=>⟨i,b,rfl,hb,_,a8sq _,c5q (fun h2=>p8q fun hn => ?_) fun h2=>good ?_⟩) fun h1=>good ?_⟩
  ·have h1:=l9q h1
   have h2:=l9q h2
   rw [a9z,Ne,m1q] at h1 h2
   rcases hn.1 i hi b hb with h | h
   ·unfold smB at h; omega
   ·unfold dgB at h; omega
  ·have h2:=j2q h2
   rw [m1q] at h2
   right; unfold dgB; omega
  ·have h1:=j2q h1
   rw [m1q] at h1
   left; unfold smB; omega
def e7q:List Sy->ByteArray->Nat->Int
 | [],_,_ => -1
 | x::r,nm,i=>if x.nm=nm then i else e7q r nm (i+1)
theorem P2q (ss:List Sy) (nm:ByteArray):XC pg 150 [L (ss.map Sy.da),T nm] [] (Z (e7q ss nm 0)) []:=by
 refine t8q fun hfit => ?_
 have hlen:ss.length<=281474976710656:=by have:=hfit.one.len; simpa using this
 apply a76q
 have key:=q3q (p:=fun i=>B7q (Z (e7q (ss.drop i) nm i)) [] (ss.map Sy.da) nm (i:Int)) ss.length ?_ (fun i hi ihl => ?_) 0 (a8z _)
 ·exact key
 ·apply X0q
  exact a3q (j4q (by simp)) ⟨by rw [O6q]; rfl,rfl⟩
 ·obtain ⟨x,hx⟩:=d4q hi
  have hx1:=l0q (g:=Sy.da) hx
  rw [o5q hx]
  apply X0q
  refine a6q (k7q (by simpa using hi)) ⟨i,rfl,_,_,_,hx1,b3q (fun h=>⟨by simp [e7q,h],rfl⟩) fun h => ?_⟩
  rw [wr1 hi hlen,e7q,if_neg h]
  exact ihl
theorem G0q (ss:List Sy) (nm:ByteArray):XC pg 99 [L (ss.map Sy.da),T nm] [] (Z (e7q ss nm 0)) []:=by
 refine t8q fun hfit => ?_
 have hlen:ss.length<=281474976710656:=by have:=hfit.one.len; simpa using this
 apply a7Kq
 refine ⟨_,nm,E7q ?_,rfl,rfl⟩
 rw [a4z]
 have key:=q3q (p:=fun i=>i2q (Z (e7q (ss.drop i) nm i)) [(2000,.var [.d (.str nm)])] (ss.map Sy.da) (ss.length:Int) (i:Int) nm) ss.length ?_ (fun i hi ihl => ?_) 0 (a8z _)
 ·exact key
 ·apply q4q
  exact a3q (j4q (a3z _)) ⟨by rw [O6q]; rfl,rfl⟩
 ·obtain ⟨x,hx⟩:=d4q hi
  have hx1:=l0q (g:=Sy.da) hx
  rw [o5q hx]
  apply q4q
  refine a6q (k7q hi) ⟨i,rfl,_,_,_,hx1,_,nm,a4uq ⟨rfl,rfl⟩,b3q (fun h=>⟨by simp [e7q,h],rfl⟩) fun h => ?_⟩
  rw [wr1 hi hlen,e7q,if_neg h]
  exact ihl
def a8iq (ss:List Sy) (i:Nat):Prop:=∀x,ss[i]?=some x->nOk x.nm/\e7q ss x.nm 0=i/\(0<=x.ar/\x.ar<=3)/\(x.ac=true->x.ar=2)
def C7q (ss:List Sy):Prop:=(∀i,i<ss.length->a8iq ss i)/\(1<=ss.length/\ss.length<=8)/\∃x,ss[0]?=some x/\x.nm=⟨#[116,116]⟩/\x.ar=0
theorem a0Hq (ss:List Sy):XC pg 94 [L (ss.map Sy.da)] [] (B (dB (C7q ss))) []:=by
 refine t8q fun hfit => ?_
 have hlen:ss.length<=281474976710656:=by have:=hfit.one.len; simpa using this
 apply a7Rq
 have key:=q3q (p:=fun i=>(∀j,j<i->a8iq ss j)->t3q (B (dB (C7q ss))) [] (ss.map Sy.da) (i:Int)) ss.length ?_ (fun i hi ihl => ?_) 0 (a8z _)
 ·exact key (by omega)
 ·intro hall
  apply Y1q
  rw [a4z]
  refine a3q (j4q (a3z _)) ⟨_,D4q _ _ _,c5q (fun h => ?_) fun h=>p8q fun hn => ?_⟩
  ·rw [m1q] at h
   obtain ⟨x,hx⟩:=d4q (l:=ss) (i:=0) (by omega)
   refine ⟨0,rfl,_,_,_,l0q (g:=Sy.da) hx,S4q ?_⟩
   simp only [aIz,decide_eq_true_eq]
   constructor
   ·rintro ⟨h1,h2,h3⟩
    exact ⟨hall,by omega,x,hx,h1,h2⟩
   ·rintro ⟨_,_,y,hy,h1,h2⟩
    rw [hx] at hy; cases hy
    refine ⟨h1,h2,?_⟩
    cases hac:x.ac with
    | false=>rfl
    | true=>have:=(hall 0 (by omega) x hx).2.2.2 hac; omega
  ·rw [a9z,Ne,m1q] at h
   have:=hn.2.1
   omega
 ·intro hall
  obtain ⟨x,hx⟩:=d4q hi
  have hx1:=l0q (g:=Sy.da) hx
  have bad:¬(nOk x.nm/\e7q ss x.nm 0=i/\(0<=x.ar/\x.ar<=3)/\(x.ac=true->x.ar=2))->B false=B (dB (C7q ss))/\([]:List (Nat×Ob))=[]:=fun h=>p8q fun hn=>h (hn.1 i hi x hx)
  have good:(nOk x.nm/\e7q ss x.nm 0=i/\(0<=x.ar/\x.ar<=3)/\(x.ac=true->x.ar=2))->t3q (B (dB (C7q ss))) [] (ss.map Sy.da) (a0z .i64 ((i:Int)+1)):=fun h=>by
   rw [wr1 hi hlen]
   exact ihl fun j hj y hy=>by
    rcases abz.1 hj with hj | rfl
    ·exact hall j hj y hy
    ·rw [hx] at hy; cases hy; exact h
  apply Y1q
  refine a6q (k7q (by simpa using hi)) ⟨i,rfl,_,_,_,hx1,_,K3q _,c5q (fun h1=>bad ?_) fun h1=>⟨i,rfl,_,_,_,hx1,_,P2q ss _,b3q (fun h2=>bad ?_) fun h2=>⟨i,rfl,_,_,_,hx1,_,D4q _ _ _,c5q (fun h3=>bad ?_) fun h3=>⟨i,rfl,_,_,_,hx1,c5q (fun h4=>⟨i,rfl,_,_,_,hx1,b3q (fun h5=>bad ?_) fun h5=>good ?_⟩) fun h4=>good ?_⟩⟩⟩⟩
  ·have:=j1q.1 (l9q h1); exact fun h=>this h.1
  ·exact fun h=>h2 h.2.1
  ·have:=l9q h3; rw [a9z,Ne,m1q] at this; exact fun h=>this h.2.2.1
  ·exact fun h=>h5 (h.2.2.2 h4)
  ·have n1:=g9q.1 (j2q h1); have n3:=j2q h3; rw [m1q] at n3
   exact ⟨n1,by omega,n3,fun _=>by omega⟩
  ·have n1:=g9q.1 (j2q h1); have n3:=j2q h3; rw [m1q] at n3
   exact ⟨n1,by omega,n3,fun h=>by rw [h4] at h; cases h⟩
theorem a0Iq (ss:List Sy):XC pg 39 [L (ss.map Sy.da)] [] (B (dB (C7q ss))) []:=by
 refine t8q fun hfit => ?_
 have hlen:ss.length<=281474976710656:=by have:=hfit.one.len; simpa using this
 apply a7pq
 rw [a4z]
 have key:=q3q (p:=fun i=>(∀j,j<i->a8iq ss j)->t2q (B (dB (C7q ss))) [] (ss.map Sy.da) (ss.map Sy.da) (ss.length:Int) (i:Int)) ss.length ?_ (fun i hi ihl => ?_) 0 (a8z _)
 ·exact key (by omega)
 ·intro hall
  apply Y3q
  rw [a4z]
  refine a3q (j4q (a3z _)) ⟨_,F5q _ _ _,c5q (fun h => ?_) fun h=>p8q fun hn => ?_⟩
  ·rw [m1q] at h
   obtain ⟨x,hx⟩:=d4q (l:=ss) (i:=0) (by omega)
   have hx1:=l0q (g:=Sy.da) hx
   refine ⟨0,rfl,_,_,_,hx1,b3q (fun h1=>⟨0,rfl,_,_,_,hx1,S4q ?_⟩) fun h1=>p8q fun hn => ?_⟩
   ·simp only [decide_eq_true_eq]
    constructor
    ·intro h2; exact ⟨hall,by omega,x,hx,h1,h2⟩
    ·rintro ⟨_,_,y,hy,_,h2⟩
     rw [hx] at hy; cases hy; exact h2
   ·obtain ⟨_,_,y,hy,h2,_⟩:=hn
    rw [hx] at hy; cases hy; exact h1 h2
  ·rw [a9z,Ne,m1q] at h
   have:=hn.2.1
   omega
 ·intro hall
  obtain ⟨x,hx⟩:=d4q hi
  have hx1:=l0q (g:=Sy.da) hx
  have bad:¬(nOk x.nm/\e7q ss x.nm 0=i/\(0<=x.ar/\x.ar<=3)/\(x.ac=true->x.ar=2))->B false=B (dB (C7q ss))/\([]:List (Nat×Ob))=[]:=fun h=>p8q fun hn=>h (hn.1 i hi x hx)
  have good:(nOk x.nm/\e7q ss x.nm 0=i/\(0<=x.ar/\x.ar<=3)/\(x.ac=true->x.ar=2))->t2q (B (dB (C7q ss))) [] (ss.map Sy.da) (ss.map Sy.da) (ss.length:Int) (a0z .i64 ((i:Int)+1)):=fun h=>by
   rw [wr1 hi hlen]
   exact ihl fun j hj y hy=>by
    rcases abz.1 hj with hj | rfl
    ·exact hall j hj y hy
    ·rw [hx] at hy; cases hy; exact h
  apply Y3q
  refine a6q (k7q hi) ⟨i,rfl,_,_,_,hx1,_,D0q _,c5q (fun h1=>bad ?_) fun h1=>⟨_,G0q ss _,b3q (fun h2=>bad ?_) fun h2=>⟨_,F5q _ _ _,c5q (fun h3=>bad ?_) fun h3=>c5q (fun h4=>b3q (fun h5=>bad ?_) fun h5=>good ?_) fun h4=>good ?_⟩⟩⟩
  ·have:=j1q.1 (l9q h1); exact fun h=>this h.1
  ·exact fun h=>h2 h.2.1
  ·have:=l9q h3; rw [a9z,Ne,m1q] at this; exact fun h=>this h.2.2.1
  ·exact fun h=>h5 (h.2.2.2 h4)
  ·have n1:=g9q.1 (j2q h1); have n3:=j2q h3; rw [m1q] at n3
   exact ⟨n1,by omega,n3,fun _=>by omega⟩
  ·have n1:=g9q.1 (j2q h1); have n3:=j2q h3; rw [m1q] at n3
   exact ⟨n1,by omega,n3,fun h=>by rw [h4] at h; cases h⟩
inductive TOk (ss:List Sy):Tm->Prop
 | var {v:Int}:0<=v->v<=99->TOk ss (.mk (-1) v [])
 | app {f:Nat} {x:Sy} {ks:List Tm}:ss[f]?=some x->(x.ac=false->(ks.length:Int)=x.ar)->(x.ac=true->2<=ks.length)->(∀(i:Nat) k,ks[i]?=some k->TOk ss k) ->
   (x.ac=true->∀(i:Nat) k,ks[i]?=some k->k.f≠(f:Int)/\∀k',0<i->ks[i-1]?=some k'->¬Tm.cmp k k'<0)->TOk ss (.mk f 0 ks)
theorem TOk.var_iff {ss:List Sy} {v:Int} {ks:List Tm}:TOk ss (.mk (-1) v ks)↔(0<=v/\v<=99)/\ks=[]:=by
 constructor
 ·intro h
  generalize hf:(-1:Int)=f at h
  cases h with
  | var h1 h2=>exact ⟨⟨h1,h2⟩,rfl⟩
  | app=>omega
 ·rintro ⟨⟨h1,h2⟩,rfl⟩; exact .var h1 h2
def KOk (ss:List Sy) (f:Int) (x:Sy) (ks:List Tm) (i:Nat) (k:Tm):Prop:=TOk ss k/\(x.ac=true->k.f≠f/\∀k',0<i->ks[i-1]?=some k'->¬Tm.cmp k k'<0)
theorem TOk.app_iff {ss:List Sy} {f v:Int} {ks:List Tm} (hf:f ≠ -1):TOk ss (.mk f v ks)↔∃(n:Nat) (x:Sy),f=(n:Int)/\ss[n]?=some x/\v=0/\(x.ac=false->(ks.length:Int)=x.ar)/\(x.ac=true->2<=ks.length)/\∀(i:Nat) k,ks[i]?=some k->KOk ss f x ks i k:=by
 constructor
 ·intro h
  cases h with
  | var=>exact absurd rfl hf
  | app h1 h2 h3 h4 h5=>exact ⟨_,_,rfl,h1,rfl,h2,h3,fun i k hk=>⟨h4 i k hk,fun hac=>h5 hac i k hk⟩⟩
 ·rintro ⟨n,x,rfl,h1,rfl,h2,h3,h4⟩
  exact .app h1 h2 h3 (fun i k hk=>(h4 i k hk).1) fun hac i k hk=>(h4 i k hk).2 hac
theorem a9qq (ss:List Sy) (t:Tm):XC pg 178 [L (ss.map Sy.da),.dat t.da] [] (B (dB (TOk ss t))) []:=by
 induction t using Tm.ind with
 | h f v ks ih =>
 refine t8q fun hfit => ?_
 have hls:ss.length<=281474976710656:=by have:=hfit.one.len; simpa using this
 have hlen:ks.length<=281474976710656:=by have:=hfit.tail.dat.tail.tail.len; rwa [d3q] at this
 apply a4Iq
 rw [d3q,a4z,wrI (by omega) (by omega)]
 refine b3q (fun h => ?_) fun hf => ?_
 ·subst h
  refine ⟨_,D4q _ _ _,c5q (fun h=>S4q ?_) fun h=>p8q ?_⟩
  ·rw [m1q] at h
   rw [TOk.var_iff,decide_eq_true_eq]
   exact ⟨fun hk=>⟨h,aTz.1 (by omega)⟩,fun hk=>by rw [hk.2]; rfl⟩
  ·rw [a9z,Ne,m1q] at h
   rw [TOk.var_iff]
   exact fun hk=>h hk.1
 ·refine ⟨_,D4q _ _ _,c5q (fun h=>p8q ?_) fun h => ?_⟩
  ·have h:=l9q h
   rw [a9z,Ne,m1q] at h
   rw [TOk.app_iff hf]
   rintro ⟨n,x,rfl,hx,_⟩
   have:=(a2z.1 hx).1
   omega
  ·have h:=j2q h
   rw [m1q] at h
   obtain ⟨n,rfl⟩:=aUz h.1
   obtain ⟨x,hx⟩:=d4q (l:=ss) (i:=n) (by omega)
   have hx1:=l0q (g:=Sy.da) hx
   have inv:TOk ss (.mk n v ks)↔v=0/\(x.ac=false->(ks.length:Int)=x.ar)/\(x.ac=true->2<=ks.length)/\∀(i:Nat) k,ks[i]?=some k->KOk ss n x ks i k:=by
    rw [TOk.app_iff hf]
    constructor
    ·rintro ⟨m,y,e,hy,h1⟩
     have e:n=m:=by omega
     subst e
     rw [hx] at hy; cases hy; exact h1
    ·intro h1; exact ⟨n,x,rfl,hx,h1⟩
   have loop:v=0->(x.ac=false->(ks.length:Int)=x.ar)->(x.ac=true->2<=ks.length)->i5q (B (dB (TOk ss (.mk n v ks)))) [] (ss.map Sy.da) 0 (n:Int) v (Tm.das ks):=by
    intro g1 g2 g3
    have key:=q3q (p:=fun i=>(∀(j:Nat) k,j<i->ks[j]?=some k->KOk ss n x ks j k)->i5q (B (dB (TOk ss (.mk n v ks)))) [] (ss.map Sy.da) (i:Int) (n:Int) v (Tm.das ks)) ks.length ?_ (fun i hi ihl => ?_) 0 (a8z _)
    ·exact key fun j k hj=>by omega
    ·intro hall
     apply R6q
     exact a3q (j4q (by rw [d3q]; exact a3z _)) (dB_t (inv.2 ⟨g1,g2,g3,fun i k hk=>hall i k (a2z.1 hk).1 hk⟩))
    ·intro hall
     obtain ⟨y,hy⟩:=d4q hi
     have hy1:=u5q hy
     have hyc:=ih y (a6z hy)
     have hpr:0<i->∃z,ks[i-1]?=some z:=fun h=>d4q (by omega)
     have bad:¬KOk ss n x ks i y->B false=B (dB (TOk ss (.mk n v ks)))/\([]:List (Nat×Ob))=[]:=fun h=>p8q fun hn=>h ((inv.1 hn).2.2.2 i y hy)
     have good:KOk ss n x ks i y->i5q (B (dB (TOk ss (.mk n v ks)))) [] (ss.map Sy.da) (a0z .i64 ((i:Int)+1)) (n:Int) v (Tm.das ks):=fun h=>by
      rw [wr1 hi hlen]
      exact ihl fun j k hj hk=>by
       rcases abz.1 hj with hj | rfl
       ·exact hall j k hj hk
       ·rw [hy] at hk; cases hk; exact h
     have hcm:=fun z=>C1q y z
     obtain ⟨f',v',ks'⟩:=y
     have last:(x.ac=true->f'≠(n:Int)/\∀k',0<i->ks[i-1]?=some k'->¬Tm.cmp (.mk f' v' ks') k'<0)->∃b,XC pg 178 [L (ss.map Sy.da),.dat (Tm.mk f' v' ks').da] [] (B b) []/\ifB (!b) (B false=B (dB (TOk ss (.mk n v ks)))/\([]:List (Nat×Ob))=[]) (i5q (B (dB (TOk ss (.mk n v ks)))) [] (ss.map Sy.da) (a0z .i64 ((i:Int)+1)) (n:Int) v (Tm.das ks)):=by
      intro hk
      refine ⟨_,hyc,c5q (fun h=>bad fun hh => ?_) fun h=>good ?_⟩
      ·exact j1q.1 (l9q h) hh.1
      ·exact ⟨g9q.1 (j2q h),hk⟩
     apply R6q
     refine a6q (k7q (by rwa [d3q])) ⟨n,rfl,_,_,_,hx1,c5q (fun hac=>⟨i,rfl,_,_,_,hy1,b3q (fun h1=>bad fun hh=>(hh.2 hac).1 h1) fun h1=>b3q (fun h2 => ?_) fun h2 => ?_⟩) fun hac => ?_⟩
     ·have h2:0<i:=by omega
      obtain ⟨z,hz⟩:=hpr h2
      have hz1:=u5q hz
      have hc:=hcm z
      refine ⟨i,rfl,_,_,_,hy1,i-1,wrM h2 (by omega),?_⟩
      obtain ⟨f2,v2,ks2⟩:=z
      refine ⟨_,_,_,hz1,_,hc,b3q (fun h3=>bad fun hh=>(hh.2 hac).2 _ h2 hz h3) fun h3=>⟨i,rfl,_,_,_,hy1,last fun _=>⟨h1,fun k' _ hk' => ?_⟩⟩⟩
      rw [hz] at hk'; cases hk'; exact h3
     ·exact ⟨i,rfl,_,_,_,hy1,last fun _=>⟨h1,fun k' h _=>by omega⟩⟩
     ·exact ⟨i,rfl,_,_,_,hy1,last fun h=>by rw [hac] at h; cases h⟩
   refine b3q (fun h1=>p8q fun hn=>h1 (inv.1 hn).1) fun h1=>⟨n,rfl,_,_,_,hx1,c5q (fun h2=>⟨n,rfl,_,_,_,hx1,b3q (fun h3=>p8q fun hn=>h3 ((inv.1 hn).2.1 (l9q h2))) fun h3=>⟨n,rfl,_,_,_,hx1,a3q (l9q h2) ?_⟩⟩) fun h2=>⟨n,rfl,_,_,_,hx1,a6q (j2q h2) (b3q (fun h3=>p8q fun hn => ?_) fun h3 => ?_)⟩⟩
   ·exact loop (T5q h1) (fun _=>T5q h3) fun h=>by rw [l9q h2] at h; cases h
   ·have:=(inv.1 hn).2.2.1 (j2q h2); omega
   ·exact loop (T5q h1) (fun h=>by rw [j2q h2] at h; cases h) fun _=>by omega
theorem abGq (ss:List Sy) (f:Int):XC pg 171 [L (ss.map Sy.da),Z f] [] (B (inR f 0 ((ss.length:Int)-1))) []:=by
 refine t8q fun hfit => ?_
 have hls:ss.length<=281474976710656:=by have:=hfit.one.len; simpa using this
 apply a1Tq
 rw [a4z,wrI (by omega) (by omega)]
 exact ⟨_,F5q _ _ _,rfl,rfl⟩
theorem a9Fq (ss:List Sy) (t:Tm):XC pg 176 [L (ss.map Sy.da),.dat t.da] [] (B (dB (TOk ss t))) []:=by
 induction t using Tm.ind with
 | h f v ks ih =>
 refine t8q fun hfit => ?_
 have hls:ss.length<=281474976710656:=by have:=hfit.one.len; simpa using this
 have hlen:ks.length<=281474976710656:=by have:=hfit.tail.dat.tail.tail.len; rwa [d3q] at this
 apply a5Cq
 rw [d3q]
 refine ⟨_,absq (.mk f v ks),b3q (fun h => ?_) fun hf => ?_⟩
 ·have h:f = -1:=h
  subst h
  refine ⟨_,F5q _ _ _,c5q (fun h=>S4q ?_) fun h=>p8q ?_⟩
  ·rw [m1q] at h
   rw [TOk.var_iff,decide_eq_true_eq]
   exact ⟨fun hk=>⟨h,aTz.1 (by omega)⟩,fun hk=>by rw [hk.2]; rfl⟩
  ·rw [a9z,Ne,m1q] at h
   rw [TOk.var_iff]
   exact fun hk=>h hk.1
 ·have hf:f ≠ -1:=hf
  refine ⟨_,abGq ss f,c5q (fun h=>p8q ?_) fun h => ?_⟩
  ·have h:=l9q h
   rw [a9z,Ne,m1q] at h
   rw [TOk.app_iff hf]
   rintro ⟨n,x,rfl,hx,_⟩
   have:=(a2z.1 hx).1
   omega
  ·have h:=j2q h
   rw [m1q] at h
   obtain ⟨n,rfl⟩:=aUz h.1
   obtain ⟨x,hx⟩:=d4q (l:=ss) (i:=n) (by omega)
   have hx1:=l0q (g:=Sy.da) hx
   have inv:TOk ss (.mk n v ks)↔v=0/\(x.ac=false->(ks.length:Int)=x.ar)/\(x.ac=true->2<=ks.length)/\∀(i:Nat) k,ks[i]?=some k->KOk ss n x ks i k:=by
    rw [TOk.app_iff hf]
    constructor
    ·rintro ⟨m,y,e,hy,h1⟩
     have e:n=m:=by omega
     subst e
     rw [hx] at hy; cases hy; exact h1
    ·intro h1; exact ⟨n,x,rfl,hx,h1⟩
   have loop:v=0->(x.ac=false->(ks.length:Int)=x.ar)->(x.ac=true->2<=ks.length)->j9q (B (dB (TOk ss (.mk n v ks)))) [] (ss.map Sy.da) (Tm.das ks) (ks.length:Int) 0 (n:Int) v (Tm.das ks):=by
    intro g1 g2 g3
    have key:=q3q (p:=fun i=>(∀(j:Nat) k,j<i->ks[j]?=some k->KOk ss n x ks j k)->j9q (B (dB (TOk ss (.mk n v ks)))) [] (ss.map Sy.da) (Tm.das ks) (ks.length:Int) (i:Int) (n:Int) v (Tm.das ks)) ks.length ?_ (fun i hi ihl => ?_) 0 (a8z _)
    ·exact key fun j k hj=>by omega
    ·intro hall
     apply U2q
     exact a3q (j4q (a3z _)) (dB_t (inv.2 ⟨g1,g2,g3,fun i k hk=>hall i k (a2z.1 hk).1 hk⟩))
    ·intro hall
     obtain ⟨y,hy⟩:=d4q hi
     have hy1:=u5q hy
     have hyc:=ih y (a6z hy)
     have hpr:0<i->∃z,ks[i-1]?=some z:=fun h=>d4q (by omega)
     have bad:¬KOk ss n x ks i y->B false=B (dB (TOk ss (.mk n v ks)))/\([]:List (Nat×Ob))=[]:=fun h=>p8q fun hn=>h ((inv.1 hn).2.2.2 i y hy)
     have good:KOk ss n x ks i y->j9q (B (dB (TOk ss (.mk n v ks)))) [] (ss.map Sy.da) (Tm.das ks) (ks.length:Int) (a0z .i64 ((i:Int)+1)) (n:Int) v (Tm.das ks):=fun h=>by
      rw [wr1 hi hlen]
      exact ihl fun j k hj hk=>by
       rcases abz.1 hj with hj | rfl
       ·exact hall j k hj hk
       ·rw [hy] at hk; cases hk; exact h
     have hcm:=fun z=>K5q y z
     obtain ⟨f',v',ks'⟩:=y
     apply U2q
     refine a6q (k7q hi) ⟨i,rfl,_,_,_,hy1,_,hyc,c5q (fun h=>bad fun hh=>j1q.1 (l9q h) hh.1) fun h0=>⟨n,rfl,_,_,_,hx1,c5q (fun hac=>b3q (fun h1=>bad fun hh=>(hh.2 hac).1 h1) fun h1=>b3q (fun h2 => ?_) fun h2=>good ⟨g9q.1 (j2q h0),fun _=>⟨h1,fun k' h _=>by omega⟩⟩) fun hac=>good ⟨g9q.1 (j2q h0),fun h=>by rw [hac] at h; cases h⟩⟩⟩
     have h2:0<i:=by omega
     obtain ⟨z,hz⟩:=hpr h2
     have hz1:=u5q hz
     have hc:=hcm z
     refine ⟨i-1,wrM h2 (by omega),?_⟩
     obtain ⟨f2,v2,ks2⟩:=z
     refine ⟨_,_,_,hz1,_,hc,b3q (fun h3=>bad fun hh=>(hh.2 hac).2 _ h2 hz h3) fun h3=>good ⟨g9q.1 (j2q h0),fun _=>⟨h1,fun k' _ hk' => ?_⟩⟩⟩
     rw [hz] at hk'; cases hk'; exact h3
   refine b3q (fun h1=>p8q fun hn=>h1 (inv.1 hn).1) fun h1=>⟨n,rfl,_,_,_,hx1,c5q (fun h2=>⟨n,rfl,_,_,_,hx1,b3q (fun h3=>p8q fun hn=>h3 ((inv.1 hn).2.1 (l9q h2))) fun h3=>⟨n,rfl,_,_,_,hx1,a3q (l9q h2) ?_⟩⟩) fun h2=>⟨n,rfl,_,_,_,hx1,a6q (j2q h2) (b3q (fun h3=>p8q fun hn => ?_) fun h3 => ?_)⟩⟩
   ·exact loop (T5q h1) (fun _=>T5q h3) fun h=>by rw [l9q h2] at h; cases h
   ·have:=(inv.1 hn).2.2.1 (j2q h2); omega
   ·exact loop (T5q h1) (fun h=>by rw [j2q h2] at h; cases h) fun _=>by omega
def TmOk (ss:List Sy) (t:Tm):Prop:=C7q ss/\t.cn+1<=60/\TOk ss t
def LiOk (ss:List Sy) (x:Li):Prop:=TmOk ss x.l/\TmOk ss x.r/\¬Tm.cmp x.l x.r<0
def B3q (ss:List Sy) (c:Cl):Prop:=(∀(i:Nat) x,c.ls[i]?=some x->LiOk ss x/\∀y,0<i->c.ls[i-1]?=some y->Li.cmp y x<0)/\c.ls.length<=8
theorem a0qq (ss:List Sy) (t:Tm) (hc:t.cn<=1200000000000):XC pg 128 [L (ss.map Sy.da),.dat t.da] [] (B (dB (TmOk ss t))) []:=by
 have h1:=a0Hq ss
 have h2:=a5Yq t hc
 have h3:=a9qq ss t
 have e:TmOk ss t=(C7q ss/\t.cn+1<=60/\TOk ss t):=rfl
 rw [e]
 generalize t.cn=c at *
 obtain ⟨f,v,ks⟩:=t
 apply a5Dq
 refine ⟨_,h1,c5q (fun g1=>⟨_,h2,b3q (fun g2=>⟨_,h3,S4q ?_⟩) fun g2=>p8q fun hn=>g2 (by have:=hn.2.1; omega)⟩) fun g1=>p8q fun hn=>j1q.1 g1 hn.1⟩
 rw [g9q]
 exact ⟨fun h=>⟨g9q.1 g1,by omega,h⟩,fun h=>h.2.2⟩
theorem a0hq (ss:List Sy) (t:Tm) (hc:t.cn<=1200000000000):XC pg 127 [L (ss.map Sy.da),.dat t.da] [] (B (dB (TmOk ss t))) []:=by
 have h1:=a0Iq ss
 have h2:=a6Aq t hc
 have h3:=a9Fq ss t
 have e:TmOk ss t=(C7q ss/\t.cn+1<=60/\TOk ss t):=rfl
 rw [e]
 generalize t.cn=c at *
 obtain ⟨f,v,ks⟩:=t
 apply a5Uq
 refine ⟨_,h1,c5q (fun g1=>⟨_,h2,b3q (fun g2=>⟨_,h3,S4q ?_⟩) fun g2=>p8q fun hn=>g2 (by have:=hn.2.1; omega)⟩) fun g1=>p8q fun hn=>j1q.1 g1 hn.1⟩
 rw [g9q]
 exact ⟨fun h=>⟨g9q.1 g1,by omega,h⟩,fun h=>h.2.2⟩
theorem a6xq (ss:List Sy) (x:Li) (hc:x.cn<=1200000000000):XC pg 77 [L (ss.map Sy.da),.dat x.da] [] (B (dB (LiOk ss x))) []:=by
 have hc:x.l.cn+x.r.cn<=1200000000000:=hc
 have h1:=a0qq ss x.l (by omega)
 have h2:=a0qq ss x.r (by omega)
 have h3:=C1q x.l x.r
 obtain ⟨p,⟨f,v,ks⟩,⟨g,u,ls⟩⟩:=x
 apply a7Gq
 refine ⟨_,h1,c5q (fun g1=>⟨_,h2,c5q (fun g2=>⟨_,h3,S4q ?_⟩) fun g2=>p8q fun hn=>j1q.1 g2 hn.2.1⟩) fun g1=>p8q fun hn=>j1q.1 g1 hn.1⟩
 simp only [b8z,decide_eq_false_iff_not]
 exact ⟨fun h=>⟨g9q.1 g1,g9q.1 g2,h⟩,fun h=>h.2.2⟩
theorem a6yq (ss:List Sy) (x:Li) (hc:x.cn<=1200000000000):XC pg 75 [L (ss.map Sy.da),.dat x.da] [] (B (dB (LiOk ss x))) []:=by
 have hc:x.l.cn+x.r.cn<=1200000000000:=hc
 have h1:=a0hq ss x.l (by omega)
 have h2:=a0hq ss x.r (by omega)
 have h3:=K5q x.l x.r
 obtain ⟨p,⟨f,v,ks⟩,⟨g,u,ls⟩⟩:=x
 apply a7dq
 refine ⟨_,h1,c5q (fun g1=>⟨_,h2,c5q (fun g2=>⟨_,h3,S4q ?_⟩) fun g2=>p8q fun hn=>j1q.1 g2 hn.2.1⟩) fun g1=>p8q fun hn=>j1q.1 g1 hn.1⟩
 simp only [b8z,decide_eq_false_iff_not]
 exact ⟨fun h=>⟨g9q.1 g1,g9q.1 g2,h⟩,fun h=>h.2.2⟩
theorem a3oq (ss:List Sy) (c:Cl) (hc:c.cn<=1200000000000):XC pg 28 [L (ss.map Sy.da),.dat c.da] [] (B (dB (B3q ss c))) []:=by
 have hc:cnL Li.cn c.ls<=1200000000000:=hc
 have hlen:c.ls.length<=281474976710656:=by have:=B9q Li.cn c.ls; omega
 apply a4eq
 have key:=q3q (p:=fun i=>(∀(j:Nat) x,j<i->c.ls[j]?=some x->LiOk ss x/\∀y,0<j->c.ls[j-1]?=some y->Li.cmp y x<0)->p2q (B (dB (B3q ss c))) [] (ss.map Sy.da) (i:Int) (c.ls.map Li.da)) c.ls.length ?_ (fun i hi ihl => ?_) 0 (a8z _)
 ·exact key fun j x hj=>by omega
 ·intro hall
  apply N5q
  rw [a4z]
  refine a3q (j4q (a3z _)) (S4q ?_)
  rw [decide_eq_true_eq]
  exact ⟨fun h=>⟨fun i x hx=>hall i x (a2z.1 hx).1 hx,by omega⟩,fun h=>by have:=h.2; omega⟩
 ·intro hall
  obtain ⟨x,hx⟩:=d4q hi
  have hx1:=l0q (g:=Li.da) hx
  have hm:=O1q (cn:=Li.cn) (a6z hx)
  have hxc:=a6xq ss x (by omega)
  have bad:¬(LiOk ss x/\∀y,0<i->c.ls[i-1]?=some y->Li.cmp y x<0)->B false=B (dB (B3q ss c))/\([]:List (Nat×Ob))=[]:=fun h=>p8q fun hn=>h (hn.1 i x hx)
  have good:(LiOk ss x/\∀y,0<i->c.ls[i-1]?=some y->Li.cmp y x<0)->p2q (B (dB (B3q ss c))) [] (ss.map Sy.da) (a0z .i64 ((i:Int)+1)) (c.ls.map Li.da):=fun h=>by
   rw [wr1 hi hlen]
   exact ihl fun j y hj hy=>by
    rcases abz.1 hj with hj | rfl
    ·exact hall j y hj hy
    ·rw [hx] at hy; cases hy; exact h
  have hcm:=fun z=>a0Uq z x
  obtain ⟨p,⟨f,v,ks⟩,⟨g,u,ms⟩⟩:=x
  apply N5q
  refine a6q (k7q (by simpa using hi)) ⟨i,rfl,_,_,_,_,_,_,_,hx1,_,hxc,c5q (fun h=>bad fun hh=>j1q.1 (l9q h) hh.1) fun h0=>b3q (fun h2 => ?_) fun h2=>good ⟨g9q.1 (j2q h0),fun y h=>by omega⟩⟩
  have h2:0<i:=by omega
  obtain ⟨z,hz⟩:=d4q (l:=c.ls) (i:=i-1) (by omega)
  have hz1:=l0q (g:=Li.da) hz
  have hcz:=hcm z
  refine ⟨i-1,wrM h2 (by omega),?_⟩
  obtain ⟨p',⟨f',v',ks'⟩,⟨g',u',ms'⟩⟩:=z
  refine ⟨_,_,_,_,_,_,_,hz1,i,rfl,_,_,_,_,_,_,_,hx1,_,hcz,c5q (fun h=>bad fun hh => ?_) fun h=>good ⟨g9q.1 (j2q h0),fun y _ hy => ?_⟩⟩
  ·have h:=l9q h; simp at h; have:=hh.2 _ h2 hz; omega
  ·rw [hz] at hy; cases hy; simpa using j2q h
theorem a3sq (ss:List Sy) (c:Cl) (hc:c.cn<=1200000000000):XC pg 27 [L (ss.map Sy.da),.dat c.da] [] (B (dB (B3q ss c))) []:=by
 have hc:cnL Li.cn c.ls<=1200000000000:=hc
 have hlen:c.ls.length<=281474976710656:=by have:=B9q Li.cn c.ls; omega
 apply a4bq
 rw [a4z]
 have key:=q3q (p:=fun i=>(∀(j:Nat) x,j<i->c.ls[j]?=some x->LiOk ss x/\∀y,0<j->c.ls[j-1]?=some y->Li.cmp y x<0)->p3q (B (dB (B3q ss c))) [] (ss.map Sy.da) (c.ls.map Li.da) (c.ls.length:Int) (i:Int) (c.ls.map Li.da)) c.ls.length ?_ (fun i hi ihl => ?_) 0 (a8z _)
 ·exact key fun j x hj=>by omega
 ·intro hall
  apply N9q
  rw [a4z]
  refine a3q (j4q (a3z _)) (S4q ?_)
  rw [decide_eq_true_eq]
  exact ⟨fun h=>⟨fun i x hx=>hall i x (a2z.1 hx).1 hx,by omega⟩,fun h=>by have:=h.2; omega⟩
 ·intro hall
  obtain ⟨x,hx⟩:=d4q hi
  have hx1:=l0q (g:=Li.da) hx
  have hm:=O1q (cn:=Li.cn) (a6z hx)
  have hxc:=a6yq ss x (by omega)
  have bad:¬(LiOk ss x/\∀y,0<i->c.ls[i-1]?=some y->Li.cmp y x<0)->B false=B (dB (B3q ss c))/\([]:List (Nat×Ob))=[]:=fun h=>p8q fun hn=>h (hn.1 i x hx)
  have good:(LiOk ss x/\∀y,0<i->c.ls[i-1]?=some y->Li.cmp y x<0)->p3q (B (dB (B3q ss c))) [] (ss.map Sy.da) (c.ls.map Li.da) (c.ls.length:Int) (a0z .i64 ((i:Int)+1)) (c.ls.map Li.da):=fun h=>by
   rw [wr1 hi hlen]
   exact ihl fun j y hj hy=>by
    rcases abz.1 hj with hj | rfl
    ·exact hall j y hj hy
    ·rw [hx] at hy; cases hy; exact h
  have hcm:=fun z=>a2Yq z x
  obtain ⟨p,⟨f,v,ks⟩,⟨g,u,ms⟩⟩:=x
  apply N9q
  refine a6q (k7q hi) ⟨i,rfl,_,_,_,_,_,_,_,hx1,_,hxc,c5q (fun h=>bad fun hh=>j1q.1 (l9q h) hh.1) fun h0=>b3q (fun h2 => ?_) fun h2=>good ⟨g9q.1 (j2q h0),fun y h=>by omega⟩⟩
  have h2:0<i:=by omega
  obtain ⟨z,hz⟩:=d4q (l:=c.ls) (i:=i-1) (by omega)
  have hz1:=l0q (g:=Li.da) hz
  have hcz:=hcm z
  refine ⟨i-1,wrM h2 (by omega),?_⟩
  obtain ⟨p',⟨f',v',ks'⟩,⟨g',u',ms'⟩⟩:=z
  refine ⟨_,_,_,_,_,_,_,hz1,_,hcz,c5q (fun h=>bad fun hh => ?_) fun h=>good ⟨g9q.1 (j2q h0),fun y _ hy => ?_⟩⟩
  ·have h:=l9q h; simp at h; have:=hh.2 _ h2 hz; omega
  ·rw [hz] at hy; cases hy; simpa using j2q h
def insN (n:Int):List Int->List Int
 | []=>[n]
 | x::r=>if x<n then x::insN n r else n::x::r
def agrq (l:List Int) (n:Int):List Int:=if n∈l then l else insN n l
mutual
def Tm.vs:Tm->List Int->List Int
 | .mk f v ks,out=>Tm.vss ks (if f = -1 then agrq out v else out)
def Tm.vss:List Tm->List Int->List Int
 | [],out=>out
 | t::r,out=>Tm.vss r (Tm.vs t out)
end
theorem u4q {α β:Type} {g:α->β} {p:List α} {x:α} {q:List α}:((p++x::q).map g)[p.length]?=some (g x):=by simp
theorem Q5q {p:List Tm} {x:Tm} {q:List Tm}:(Tm.das (p++x::q))[p.length]?=some x.da:=by rw [Tm.das_map]; simp
theorem F4q {α β:Type} (g:α->β) (p:List α):List.take p.length (p.map g)=p.map g:=List.take_of_length_le (by simp)
theorem H7q {α:Type} (p:List α) (x:α):(p++[x]).length=p.length+1:=by simp
def mkD:Nat->Int->ByteArray->ByteArray
 | 0,_,out=>⟨#[109]⟩++out
 | f+1,k,out=>if 0<k then mkD f (a0z .i64 (aWz k 10)) (strOfNums [a0z bfz (a0z .i64 (48+aqz k 10))]++out) else ⟨#[109]⟩++out
theorem a79q:∀f (k:Nat) out,k<10 ^ f->k<=1000000000->out.size+f<=1000->u7q (T (mkD f k out)) [] k out:=by
 intro f
 induction f with
 | zero =>
  intro k out hk _ hs
  apply N6q
  refine a3q (decide_eq_false (by simp at hk; omega)) ⟨⟨?_⟩,rfl,rfl⟩
  rw [aaz]
  have:(⟨#[109]⟩:ByteArray).size=1:=rfl
  omega
 | succ f ih =>
  intro k out hk hk2 hs
  apply N6q
  refine b3q (fun h => ?_) fun h => ?_
  ·have e1:mkD (f+1) k out=mkD f (a0z .i64 (aWz k 10)) (strOfNums [a0z bfz (a0z .i64 (48+aqz k 10))]++out):=by
    rw [mkD,if_pos h]
   have e2:a0z .i64 (aWz (k:Int) 10)=((k / 10:Nat):Int):=by
    have:aWz (k:Int) 10=((k / 10:Nat):Int):=rfl
    rw [this,wrI (by omega) (by omega)]
   have hsz:∀x:Int,(strOfNums [x]++out).size=1+out.size:=fun x=>by rw [aaz,a1Uq]; rfl
   refine ⟨⟨by decide⟩,[a0z bfz (a0z .i64 (48+aqz k 10))],rfl,⟨by rw [hsz]; omega⟩,⟨by decide⟩,?_⟩
   rw [e1,e2]
   exact ih (k / 10) _ (by rw [aVz] at hk; omega) (by omega) (by rw [hsz]; omega)
  ·have e1:mkD (f+1) k out=⟨#[109]⟩++out:=by rw [mkD,if_neg h]
   rw [e1]
   refine ⟨⟨?_⟩,rfl,rfl⟩
   rw [aaz]
   have:(⟨#[109]⟩:ByteArray).size=1:=rfl
   omega
def mkT (k:Nat):ByteArray:=mkD 10 k ⟨#[]⟩
theorem a1Nq (k:Nat) (h1:1<=k) (h2:k<=1000000000):XC pg 102 [Z (k:Int)] [] (T (mkT k)) []:=by
 apply a3Zq
 exact a3q (decide_eq_false (by omega)) (a79q 10 k _ (by omega) h2 (by decide))
theorem wrS {k:Nat} (hk:k<=281474976710656):a0z .i64 ((k:Int)+1)=((k+1:Nat):Int):=wrN hk 1 (by omega)
def P8q (k:Nat):Sy->Sy
 | ⟨nm,ar,ac⟩=>⟨(mkT (k)),(((k+1:Nat):Int)),(decide (aqz ((k+2:Nat):Int) 3=0))⟩
def Q0q:Sy->Nat
 | ⟨nm,ar,ac⟩=>1+1+1
def L6q:Nat->List Sy->List Sy
 | _,[]=>[]
 | k,x::r=>P8q k x::L6q (k+Q0q x) r
def u3q (l:List Sy):Nat:=(l.map Q0q).sum
theorem a1pq (x:Sy) (r:List Sy):u3q (x::r)=Q0q x+u3q r:=by simp [u3q]
theorem a1Lq:∀(l:List Sy) (P:List (List Da)) (k:Nat),1<=k->P.length+l.length<=100000000->k+u3q l<=100000000->v9q (Z ((k+u3q l:Nat):Int)) [(2000,.mt 104 3 (P++(L6q k l).map Sy.da))] (k:Int) (P.length:Int) (P++l.map Sy.da)
 | [],P,k,_,_,_=>by
  apply N1q
  exact a3q (decide_eq_false (by simp)) ⟨by simp [u3q],by simp [L6q]⟩
 | ⟨nm,ar,ac⟩::r,P,k,h1,hl,hk=>by
  rw [a1pq] at hk ⊢
  simp only [a5z,Q0q] at hl hk
  have hlen:∀y:List Da,P.length<(P++y::r.map Sy.da).length:=fun y=>by simp
  have ih:=a1Lq r (P++[Sy.da (P8q k ⟨nm,ar,ac⟩)]) (k+3) (by omega) (by simp; omega) (by omega)
  have e4:(P++[Sy.da (P8q k ⟨nm,ar,ac⟩)]).length=P.length+1:=by simp
  rw [e4,adz,adz] at ih
  have eN:k+Q0q ⟨nm,ar,ac⟩=k+3:=by simp only [Q0q] <;> omega
  have eM:L6q k (⟨nm,ar,ac⟩::r)=P8q k ⟨nm,ar,ac⟩::L6q (k+3) r:=by rw [<-eN]; rfl
  rw [eM,<-aHz,eN]
  apply N1q
  rw [afz,afz]
  have w0:a0z .i64 (((k:Nat):Int)+1)=((k+1:Nat):Int):=wrS (by omega)
  have w1:a0z .i64 (((k+1:Nat):Int)+1)=((k+2:Nat):Int):=wrS (by omega)
  have w2:a0z .i64 (((k+2:Nat):Int)+1)=((k+3:Nat):Int):=wrS (by omega)
  have wp:a0z .i64 ((P.length:Int)+1)=((P.length+1:Nat):Int):=wrS (by omega)
  rw [w0,w1,w2,wp]
  refine a6q (decide_eq_true (by simp; omega)) ?_
  refine ⟨_,a1Nq (k) (by omega) (by omega),P.length,rfl,⟨hlen _⟩,P.length,rfl,_,_,_,h1q,?_⟩
  rw [b6q]
  refine ⟨P.length,rfl,⟨hlen _⟩,P.length,rfl,_,_,_,h1q,?_⟩
  rw [b6q]
  refine ⟨⟨by decide⟩,P.length,rfl,⟨hlen _⟩,P.length,rfl,_,_,_,h1q,?_⟩
  rw [b6q]
  exact ih
theorem a7mq (l:List Sy) (k:Nat) (h1:1<=k) (hl:l.length<=100000000) (hk:k+u3q l<=100000000):XC pg 42 [.one (.ol 2000),Z (k:Int)] [(2000,.mt 104 3 (l.map Sy.da))] (Z ((k+u3q l:Nat):Int)) [(2000,.mt 104 3 ((L6q k l).map Sy.da))]:=by
 apply a4gq
 simpa using a1Lq l [] k h1 (by simpa using hl) hk
def wch (b:UInt8):Bool:=(decide (97<=b.toNat)&&decide (b.toNat<=122))||((decide (48<=b.toNat)&&decide (b.toNat<=57))||(decide (65<=b.toNat)&&decide (b.toNat<=90)))
def o8q (p:ByteArray):Nat->Nat->Nat
 | 0,j=>j
 | f+1,j=>match p[j]? with
  | some b=>if wch b then o8q p f (j+1) else j
  | none=>j
def D7q (b:UInt8):Bool:=decide (b.toNat=40)||(decide (b.toNat=41)||(decide (b.toNat=44)||(decide (b.toNat=46)||(decide (b.toNat=61)||(decide (b.toNat=124)||decide (b.toNat=126))))))
def wds (p:ByteArray):Nat->Nat->List (List Da)->List (List Da)×Int
 | 0,_,acc=>(acc,-1)
 | f+1,i,acc=>match p[i]? with
  | none=>(acc,-1)
  | some b=>if b.toNat=32\/b.toNat=10 then wds p f (i+1) acc
   else if D7q b then wds p f (i+1) (acc++[[.str (p.extract i (i+1))]])
   else if b.toNat=33/\p[i+1]?.map aJz=some 61 then wds p f (i+2) (acc++[[.str ⟨#[33,61]⟩]])
   else if o8q p (p.size-i) i=i then ([],(i:Int)) else wds p f (o8q p (p.size-i) i) (acc++[[.str (p.extract i (o8q p (p.size-i) i))]])
theorem R2q {p:ByteArray} {i:Nat} {b:UInt8} (h:p[i]?=some b):i<p.size:=by
 rcases asz i p.size with h1 | h1
 ·exact h1
 ·rw [getElem?_neg p i (by omega)] at h; cases h
theorem V8q {p:ByteArray} {i:Nat} (h:i<p.size):∃b,p[i]?=some b:=⟨p[i],getElem?_pos p i h⟩
theorem a3bq (p:ByteArray):∀f j,j<=o8q p f j
 | 0,j=>a3z _
 | f+1,j=>by
  simp only [o8q]
  split
  ·split
   ·exact aez (agz j) (a3bq p f (j+1))
   ·exact a3z _
  ·exact a3z _
theorem a37q (p:ByteArray):∀f j,j<=p.size->o8q p f j<=p.size
 | 0,j,h=>h
 | f+1,j,h=>by
  simp only [o8q]
  split
  ·rename_i b hb
   split
   ·exact a37q p f (j+1) (R2q hb)
   ·exact h
  ·exact h
theorem a6sq (b:UInt8):XC pg 145 [I .u8 (b.toNat:Int)] [] (B (wch b)) []:=by
 apply a3nq
 repeat' (refine b3q (fun h => ?_) fun h => ?_)
 all_goals
  refine ⟨?_,rfl⟩
  refine congrArg B ?_
  rw [azz]
  simp only [wch,atz,aIz,decide_eq_true_eq,b7z,true_iff,false_iff]
  omega
theorem a7rq (c:Int):XC pg 152 [I .u8 c] [] (B (decide (97<=c)&&decide (c<=122))) []:=by
 apply a06q
 exact b3q (fun h=>bE (by simp [h])) fun h=>bE (by simp [h])
theorem a7oq (c:Int):XC pg 153 [I .u8 c] [] (B (decide (48<=c)&&decide (c<=57))) []:=by
 apply a08q
 exact b3q (fun h=>bE (by simp [h])) fun h=>bE (by simp [h])
theorem a0lq (b:UInt8):XC pg 140 [I .u8 (b.toNat:Int)] [] (B (wch b)) []:=by
 apply a2uq
 refine ⟨_,a7rq _,c5q (fun h1 => ?_) fun h1=>⟨_,a7oq _,c5q (fun h2 => ?_) fun h2=>b3q (fun h3 => ?_) fun h3 => ?_⟩⟩
 all_goals
  refine ⟨?_,rfl⟩
  refine congrArg B ?_
  rw [azz]
  simp only [wch,atz,aIz,decide_eq_true_eq,b7z,true_iff,false_iff,Bool.and_eq_false_iff,decide_eq_false_iff_not] at *
  omega
theorem a4Bq (q:ByteArray) (c:Int):XC pg 141 [T q,I .u8 c] [] (Z (firstIdx q c.toNat.toUInt8)) []:=by
 apply a1rq
 exact ⟨_,X3q ⟨rfl,rfl⟩,rfl,rfl⟩
theorem a5jq (s q:ByteArray):XC pg 139 [T s,T q] [] (B (decide (q.size<=s.size/\s.extract 0 q.size=q))) []:=by
 apply a1mq
 refine ⟨_,E0q ?_,rfl,rfl⟩
 refine b3q (fun h=>⟨q.size,rfl,⟨⟨a8z _,by omega⟩⟩,?_,rfl⟩) fun h=>⟨?_,rfl⟩
 ·refine congrArg B ?_
  rw [decide_eq_decide]
  exact ⟨fun e=>⟨by omega,e⟩,fun e=>e.2⟩
 ·refine congrArg B ?_
  symm
  rw [decide_eq_false_iff_not]
  intro e
  exact h (by have:=e.1; omega)
theorem a5Wq (p:ByteArray) (i:Nat) (acc:List (List Da)) {r:AV} {O:List (Nat×Ob)} (hp:p.size<=3000) (hi:i<=p.size) (ha:acc.length<=i)
  (h1:o8q p (p.size-i) i=i->(.tup [L [],Z (i:Int)])=r/\[]=O)
  (h2:o8q p (p.size-i) i≠i->f6q r O p ((o8q p (p.size-i) i:Nat):Int) [] (acc++[[.str (p.extract i (o8q p (p.size-i) i))]])) :
  ∀g j,i<=j->j<=p.size->p.size-j=g->o8q p g j=o8q p (p.size-i) i->p4q r O p i j [] acc:=by
 have hend:∀j:Nat,i<=j->j<=p.size->j=o8q p (p.size-i) i->ifB (decide ((j:Int)=(i:Int))) ((.tup [L [],Z (i:Int)])=r/\[]=O)
   (∃n1:Nat,(i:Int)=(n1:Int)/\∃n2:Nat,(j:Int)=(n2:Int)/\Do (n1<=n2/\n2<=p.size)/\Do ((acc.length+amz [[Da.str (p.extract n1 n2)]])*16<=140737488355328)/\f6q r O p (j:Int) [] (acc++[[Da.str (p.extract n1 n2)]])):=by
  intro j hij hj e
  refine b3q (fun h=>h1 (by omega)) fun h=>⟨i,rfl,j,rfl,⟨⟨hij,hj⟩⟩,⟨by simp; omega⟩,?_⟩
  subst e
  exact h2 (by omega)
 intro g
 induction g with
 | zero =>
  intro j hij hj hg e
  apply U3q
  exact a3q (decide_eq_false (by omega)) (hend j hij hj e)
 | succ g ih =>
  intro j hij hj hg e
  apply U3q
  refine a6q (decide_eq_true (by omega)) ?_
  obtain ⟨b,hb⟩:=V8q (p:=p) (i:=j) (by omega)
  simp only [o8q,hb] at e
  refine ⟨j,b,rfl,hb,_,a6sq b,c5q (fun h => ?_) fun h => ?_⟩
  ·rw [if_pos h] at e
   rw [wr1 (n:=p.size) (by omega) (by omega)]
   exact ih (j+1) (by omega) (by omega) (by omega) e
  ·rw [if_neg (by simp [h])] at e
   exact hend j hij hj e
theorem a6tq (p:ByteArray) (hp:p.size<=3000):∀f i acc,p.size-i<f->i<=p.size->acc.length<=i->f6q (.tup [L ((wds p f i acc).1),Z (wds p f i acc).2]) [] p i [] acc:=by
 intro f
 induction f with
 | zero=>intro i acc h; omega
 | succ f ih =>
  intro i acc hf hi ha
  have hone:∀b,p[i]?=some b->D7q b=true->b.toNat≠32->b.toNat≠10->∃n1:Nat,(i:Int)=(n1:Int)/\∃n2:Nat,a0z aAz ((i:Int)+1)=(n2:Int)/\Do (n1<=n2/\n2<=p.size)/\Do ((acc.length+amz [[Da.str (p.extract n1 n2)]])*16<=140737488355328)/\f6q (.tup [L ((wds p (f+1) i acc).1),Z (wds p (f+1) i acc).2]) [] p (a0z aAz ((i:Int)+1)) [] (acc++[[Da.str (p.extract n1 n2)]]):=by
   intro b hb hs h1 h2
   have hlt:=R2q hb
   have e:wds p (f+1) i acc=wds p f (i+1) (acc++[[.str (p.extract i (i+1))]]):=by
    simp only [wds,hb]
    rw [if_neg (by omega),if_pos hs]
   rw [wr1 (n:=p.size) hlt (by omega),e]
   exact ⟨i,rfl,i+1,rfl,⟨by omega⟩,⟨by simp; omega⟩,ih (i+1) _ (by omega) (by omega) (by simp; omega)⟩
  apply a3Nq
  refine b3q (fun h => ?_) fun h => ?_
  ·obtain ⟨b,hb⟩:=V8q (p:=p) (i:=i) (by omega)
   have hlt:=R2q hb
   refine ⟨i,b,rfl,hb,?_⟩
   have sp:b.toNat=32\/b.toNat=10->f6q (.tup [L ((wds p (f+1) i acc).1),Z (wds p (f+1) i acc).2]) [] p (a0z aAz ((i:Int)+1)) [] acc:=fun h=>by
    have e:wds p (f+1) i acc=wds p f (i+1) acc:=by simp only [wds,hb]; rw [if_pos h]
    rw [wr1 (n:=p.size) hlt (by omega),e]
    exact ih (i+1) _ (by omega) (by omega) (by omega)
   refine b3q (fun h1=>sp (.inl (by omega))) fun h1=>b3q (fun h2=>sp (.inr (by omega))) fun h2 => ?_
   refine b3q (fun h3=>hone b hb (by simp [D7q]; omega) (by omega) (by omega)) fun h3 => ?_
   refine b3q (fun h4=>hone b hb (by simp [D7q]; omega) (by omega) (by omega)) fun h4 => ?_
   refine b3q (fun h5=>hone b hb (by simp [D7q]; omega) (by omega) (by omega)) fun h5 => ?_
   refine b3q (fun h6=>hone b hb (by simp [D7q]; omega) (by omega) (by omega)) fun h6 => ?_
   refine b3q (fun h7=>hone b hb (by simp [D7q]; omega) (by omega) (by omega)) fun h7 => ?_
   refine b3q (fun h8=>hone b hb (by simp [D7q]; omega) (by omega) (by omega)) fun h8 => ?_
   refine b3q (fun h9=>hone b hb (by simp [D7q]; omega) (by omega) (by omega)) fun h9 => ?_
   have hns:D7q b=false:=by
    rw [a9z]
    simp only [D7q,ne_eq,atz,decide_eq_true_eq]
    omega
   have word:¬(b.toNat=33/\p[i+1]?.map aJz=some 61)->p4q (.tup [L ((wds p (f+1) i acc).1),Z (wds p (f+1) i acc).2]) [] p i i [] acc:=fun hno=>by
    have e:wds p (f+1) i acc=if o8q p (p.size-i) i=i then ([],(i:Int)) else wds p f (o8q p (p.size-i) i) (acc++[[.str (p.extract i (o8q p (p.size-i) i))]]):=by
     simp only [wds,hb]
     rw [if_neg (by omega),if_neg (by simp [hns]),if_neg hno]
    have hle:=a3bq p (p.size-i) i
    have hsz:=a37q p (p.size-i) i hi
    refine a5Wq p i acc hp hi ha (fun h => ?_) (fun h => ?_) (p.size-i) i (a3z _) hi rfl rfl
    ·rw [e,if_pos h]; exact ⟨rfl,rfl⟩
    ·rw [e,if_neg h]
     exact ih _ _ (by omega) hsz (by simp; omega)
   refine b3q (fun h10 => ?_) fun h10=>word (by omega)
   rw [wr1 (n:=p.size) hlt (by omega)]
   refine b3q (fun h11 => ?_) fun h11=>word (fun hh => ?_)
   ·obtain ⟨b1,hb1⟩:=V8q (p:=p) (i:=i+1) (by omega)
    refine ⟨i+1,b1,rfl,hb1,b3q (fun h12 => ?_) fun h12=>word (fun hh => ?_)⟩
    ·have e:wds p (f+1) i acc=wds p f (i+2) (acc++[[.str ⟨#[33,61]⟩]]):=by
      simp only [wds,hb]
      rw [if_neg (by omega),if_neg (by simp [hns]),if_pos ⟨by omega,by rw [hb1]; simp; omega⟩]
     have w2:a0z aAz ((i:Int)+2)=((i+2:Nat):Int):=by rw [wrI (by omega) (by omega)]; omega
     rw [w2,e]
     exact ⟨⟨by simp; omega⟩,ih (i+2) _ (by omega) (by omega) (by simp; omega)⟩
    ·have:=hh.2
     rw [hb1] at this
     simp at this
     omega
   ·have:=hh.2
    rw [getElem?_neg p (i+1) (by omega)] at this
    simp at this
  ·have e:wds p (f+1) i acc=(acc,-1):=by
    simp only [wds,getElem?_neg p i (by omega)]
   rw [e]
   exact ⟨rfl,rfl⟩
def r8q (p:ByteArray):List (List Da)×Int:=if 3000<p.size then ([],0) else wds p (p.size+1) 0 []
theorem a5Kq (p:ByteArray):XC pg 92 [T p] [] (.tup [L ((r8q p).1),Z (r8q p).2]) []:=by
 apply a78q
 refine b3q (fun h => ?_) fun h => ?_
 ·unfold r8q; rw [if_pos (by omega)]; exact ⟨rfl,rfl⟩
 ·unfold r8q; rw [if_neg (by omega)]
  exact a6tq p (by omega) _ 0 [] (by omega) (by omega) (by simp)
theorem a2Tq {p:ByteArray} {i:Nat} {b:UInt8} (h:p[i]?=some b):p.data.toList[i]?=some b:=by
 have hl:=R2q h
 rw [getElem?_pos p i hl] at h
 have h2:p.data.toList[i]'(by simpa using hl)=b:=by simpa [ByteArray.getElem_eq_getElem_data] using Option.some.inj h
 rw [List.getElem?_eq_getElem (by simpa using hl),h2]
theorem aapq {a b:ByteArray} (h:a.data.toList=b.data.toList):a=b:=by
 apply axz; exact bdz.1 h
theorem afJq {p:ByteArray} {i:Nat} {b c:UInt8} (hb:p[i]?=some b) (hc:p[i+1]?=some c):p.extract i (i+2)=⟨#[b,c]⟩:=by
 apply aapq
 have h1:=o5q (a2Tq hb)
 have h2:=o5q (a2Tq hc)
 simp only [aFz,aMz,ayz]
 rw [h1,h2]
 simp
theorem aavq {p:ByteArray} {i:Nat} (h:i+2<=p.size):(p.extract i p.size).extract 0 2=p.extract i (i+2):=by
 apply aapq
 simp only [aFz,aMz,ayz,avz]
 rw [List.take_take]
 congr 1
 omega
theorem a6vq {p:ByteArray} {i:Nat} {b:UInt8} (hb:p[i]?=some b):(2<=(p.extract i p.size).size/\(p.extract i p.size).extract 0 2=⟨#[33,61]⟩)↔(b.toNat=33/\p[i+1]?.map aJz=some 61):=by
 have hlt:=R2q hb
 have hsz:(p.extract i p.size).size=p.size-i:=by rw [aXz]; omega
 rw [hsz]
 rcases asz (i+1) p.size with h | h
 ·obtain ⟨c,hc⟩:=V8q h
  rw [aavq (by omega),afJq hb hc,hc]
  constructor
  ·rintro ⟨_,e⟩
   simp at e
   obtain ⟨rfl,rfl⟩:=e
   exact ⟨rfl,rfl⟩
  ·rintro ⟨e1,e2⟩
   simp at e2
   have e1:b=33:=aYz.1 e1
   have e2:c=61:=aYz.1 e2
   subst e1; subst e2
   exact ⟨by omega,rfl⟩
 ·rw [getElem?_neg p (i+1) (by omega)]
  constructor
  ·rintro ⟨h1,_⟩; omega
  ·rintro ⟨_,h2⟩; simp at h2
theorem aaEq {p:ByteArray} {i:Nat} {b:UInt8} (hb:p[i]?=some b) (h:b.toNat=33/\p[i+1]?.map aJz=some 61):p.extract i (i+2)=⟨#[33,61]⟩/\i+2<=p.size:=by
 obtain ⟨h1,h2⟩:=(a6vq hb).2 h
 have hlt:=R2q hb
 have hsz:(p.extract i p.size).size=p.size-i:=by rw [aXz]; omega
 have h3:i+2<=p.size:=by omega
 rw [aavq h3] at h2
 exact ⟨h2,h3⟩
theorem aeZq:∀b:UInt8,decide (firstIdx ⟨#[40,41,44,46,61,124,126]⟩ b<0) = !D7q b:=by
 have h:∀n:Fin 256,decide (firstIdx ⟨#[40,41,44,46,61,124,126]⟩ (b0z n.val)<0) = !D7q (b0z n.val):=by decide +kernel
 intro b
 have h2:=h ⟨b.toNat,b.toNat_lt⟩
 simpa using h2
theorem a6iq (p:ByteArray) (i:Nat) (acc:List (List Da)) {r:AV} {O:List (Nat×Ob)} (hp:p.size<=3000) (hi:i<=p.size) (ha:acc.length<=i)
  (h2:j8q r O p ((o8q p (p.size-i) i:Nat):Int) (acc++[[.str (p.extract i (o8q p (p.size-i) i))]])) :
  ∀g k,1<=k->i+k<=p.size->p.size-(i+k)=g->o8q p g (i+k)=o8q p (p.size-i) i->z9q r O p i (k:Int) acc:=by
 have hend:∀k:Nat,i+k<=p.size->i+k=o8q p (p.size-i) i ->
   (∃n1:Nat,(i:Int)=(n1:Int)/\∃n2:Nat,(((i+k:Nat):Int))=(n2:Int)/\Do (n1<=n2/\n2<=p.size)/\Do ((acc.length+amz [[Da.str (p.extract n1 n2)]])*16<=140737488355328)/\j8q r O p (((i+k:Nat):Int)) (acc++[[Da.str (p.extract n1 n2)]])):=by
  intro k hk e
  refine ⟨i,rfl,i+k,rfl,⟨⟨by omega,hk⟩⟩,⟨by simp; omega⟩,?_⟩
  rw [e]
  exact h2
 have hw:∀k:Nat,i+k<=p.size->a0z aAz ((i:Int)+(k:Int))=((i+k:Nat):Int):=fun k hk=>by rw [wrI (by omega) (by omega)]; omega
 intro g
 induction g with
 | zero =>
  intro k h1 hk hg e
  apply T7q
  rw [hw k hk]
  exact a3q (decide_eq_false (by omega)) (hend k hk e)
 | succ g ih =>
  intro k h1 hk hg e
  apply T7q
  rw [hw k hk]
  refine a6q (decide_eq_true (by omega)) ?_
  obtain ⟨b,hb⟩:=V8q (p:=p) (i:=i+k) (by omega)
  simp only [o8q,hb] at e
  refine ⟨i+k,b,rfl,hb,_,a0lq b,c5q (fun h => ?_) fun h => ?_⟩
  ·rw [if_pos h] at e
   rw [wr1 (n:=p.size) (by omega) (by omega)]
   exact ih (k+1) (by omega) (by omega) (by omega) e
  ·rw [if_neg (by simp [h])] at e
   exact hend k hk e
theorem a5Fq (p:ByteArray) (hp:p.size<=3000):∀f i acc,p.size-i<f->i<=p.size->acc.length<=i->j8q (.tup [L ((wds p f i acc).1),Z (wds p f i acc).2]) [] p i acc:=by
 intro f
 induction f with
 | zero=>intro i acc h; omega
 | succ f ih =>
  intro i acc hf hi ha
  apply a41q
  refine b3q (fun h => ?_) fun h => ?_
  ·obtain ⟨b,hb⟩:=V8q (p:=p) (i:=i) (by omega)
   have hlt:=R2q hb
   have w1:a0z aAz ((i:Int)+1)=((i+1:Nat):Int):=wr1 (n:=p.size) hlt (by omega)
   have w2:a0z aAz ((i:Int)+2)=((i+2:Nat):Int):=by rw [wrI (by omega) (by omega)]; omega
   rw [w1,w2]
   have sp:b.toNat=32\/b.toNat=10->j8q (.tup [L ((wds p (f+1) i acc).1),Z (wds p (f+1) i acc).2]) [] p ((i+1:Nat):Int) acc:=fun h=>by
    have e:wds p (f+1) i acc=wds p f (i+1) acc:=by simp only [wds,hb]; rw [if_pos h]
    rw [e]
    exact ih (i+1) _ (by omega) (by omega) (by omega)
   refine ⟨i,b,rfl,hb,b3q (fun h1=>sp (.inl (by omega))) fun h1=>⟨i,b,rfl,hb,b3q (fun h2=>sp (.inr (by omega))) fun h2 => ?_⟩⟩
   refine ⟨i,rfl,⟨⟨by omega,a3z _⟩⟩,_,a5jq _ _,b3q (fun h3 => ?_) fun h3 => ?_⟩
   ·have h3:=(a6vq hb).1 h3
    obtain ⟨x1,x2⟩:=aaEq hb h3
    have hns:D7q b=false:=by
     rw [a9z]
     simp only [D7q,ne_eq,atz,decide_eq_true_eq]
     omega
    have e:wds p (f+1) i acc=wds p f (i+2) (acc++[[.str ⟨#[33,61]⟩]]):=by
     simp only [wds,hb]
     rw [if_neg (by omega),if_neg (by simp [hns]),if_pos h3]
    refine ⟨i,rfl,i+2,rfl,⟨⟨by omega,x2⟩⟩,⟨by simp; omega⟩,?_⟩
    rw [e,x1]
    exact ih (i+2) _ (by omega) (by omega) (by simp; omega)
   ·have h3:¬(b.toNat=33/\p[i+1]?.map aJz=some 61):=fun hh=>h3 ((a6vq hb).2 hh)
    refine ⟨i,b,rfl,hb,_,a0lq b,c5q (fun h4 => ?_) fun h4 => ?_⟩
    ·have hns:D7q b=false:=by
      rw [a9z]
      simp only [wch,atz,aIz,decide_eq_true_eq] at h4
      simp only [D7q,ne_eq,atz,decide_eq_true_eq]
      omega
     have hle:=a3bq p (p.size-(i+1)) (i+1)
     have hw:o8q p (p.size-i) i=o8q p (p.size-(i+1)) (i+1):=by
      rw [show p.size-i=(p.size-(i+1))+1 by omega]
      simp only [o8q,hb]
      rw [if_pos h4]
     have hsz:=a37q p (p.size-(i+1)) (i+1) (by omega)
     have e:wds p (f+1) i acc=wds p f (o8q p (p.size-i) i) (acc++[[.str (p.extract i (o8q p (p.size-i) i))]]):=by
      simp only [wds,hb]
      rw [if_neg (by omega),if_neg (by simp [hns]),if_neg h3,if_neg (by omega)]
     refine a6iq p i acc hp hi ha ?_ (p.size-(i+1)) 1 (a3z _) (by omega) rfl hw.symm
     rw [e]
     exact ih _ _ (by omega) (by omega) (by simp; omega)
    ·have hnw:o8q p (p.size-i) i=i:=by
      rw [show p.size-i=(p.size-(i+1))+1 by omega]
      simp only [o8q,hb]
      rw [if_neg (by simp [h4])]
     refine ⟨i,b,rfl,hb,_,a4Bq _ _,?_⟩
     rw [show ((b.toNat:Int).toNat.toUInt8)=b by simp,aeZq b]
     refine c5q (fun h5 => ?_) fun h5 => ?_
     ·have e:wds p (f+1) i acc=([],(i:Int)):=by
       simp only [wds,hb]
       rw [if_neg (by omega),if_neg (by simpa using h5),if_neg h3,if_pos hnw]
      rw [e]
      exact ⟨rfl,rfl⟩
     ·have e:wds p (f+1) i acc=wds p f (i+1) (acc++[[.str (p.extract i (i+1))]]):=by
       simp only [wds,hb]
       rw [if_neg (by omega),if_pos (by simpa using h5)]
      refine ⟨i,rfl,i+1,rfl,⟨⟨by omega,by omega⟩⟩,⟨by simp; omega⟩,?_⟩
      rw [e]
      exact ih (i+1) _ (by omega) (by omega) (by simp; omega)
  ·have e:wds p (f+1) i acc=(acc,-1):=by
    simp only [wds,getElem?_neg p i (by omega)]
   rw [e]
   exact ⟨rfl,rfl⟩
theorem a6bq (p:ByteArray):XC pg 84 [T p] [] (.tup [L ((r8q p).1),Z (r8q p).2]) []:=by
 apply a7Fq
 refine b3q (fun h => ?_) fun h => ?_
 ·unfold r8q; rw [if_pos (by omega)]; exact ⟨rfl,rfl⟩
 ·unfold r8q; rw [if_neg (by omega)]
  exact a5Fq p (by omega) _ 0 [] (by omega) (by omega) (by simp)
def Tx.da (w:ByteArray):List Da:=[.str w]
theorem adhq (p:ByteArray):∀f i acc,acc.length<=i->i<=p.size->(∃ws:List ByteArray,acc=ws.map Tx.da)->∃ws:List ByteArray,(wds p f i acc).1=ws.map Tx.da/\ws.length<=p.size:=by
 intro f
 have fin:∀i (acc:List (List Da)),acc.length<=i->i<=p.size->(∃ws:List ByteArray,acc=ws.map Tx.da)->∃ws:List ByteArray,acc=ws.map Tx.da/\ws.length<=p.size:=by
  rintro i acc ha hi ⟨ws,rfl⟩
  exact ⟨ws,rfl,by simp at ha; omega⟩
 induction f with
 | zero=>intro i acc ha hi hw; exact fin i acc ha hi hw
 | succ f ih =>
  intro i acc ha hi hw
  simp only [wds]
  split
  ·exact fin i acc ha hi hw
  ·rename_i b hb
   have hlt:=R2q hb
   have more:∀s j,i+1<=j->j<=p.size->∃ws:List ByteArray,(wds p f j (acc++[[.str s]])).1=ws.map Tx.da/\ws.length<=p.size:=by
    intro s j h1 h2
    obtain ⟨ws,rfl⟩:=hw
    exact ih j _ (by simp at ha ⊢; omega) h2 ⟨ws++[s],by simp [Tx.da]⟩
   split
   ·exact ih (i+1) acc (by omega) (by omega) hw
   ·split
    ·exact more _ _ (a3z _) (by omega)
    ·split
     ·rename_i hh
      exact more _ _ (by omega) (aaEq hb hh).2
     ·split
      ·exact ⟨[],rfl,by simp⟩
      ·rename_i hne
       have hle:=a3bq p (p.size-i) i
       exact more _ _ (by omega) (a37q p _ i hi)
theorem u9q (p:ByteArray):∃ws:List ByteArray,(r8q p).1=ws.map Tx.da/\ws.length<=3000:=by
 unfold r8q
 split
 ·exact ⟨[],rfl,by simp⟩
 ·obtain ⟨ws,h1,h2⟩:=adhq p (p.size+1) 0 [] (by simp) (by omega) ⟨[],rfl⟩
  exact ⟨ws,h1,by omega⟩
theorem wrU8 {x:Int} (h1:0<=x) (h2:x<=255):a0z .u8 x=x:=by
 simp [a0z,biz,bgz]; omega
theorem abtq {x:Int} (h1:0<=x) (h2:x<=2147483647):a0z .i32 x=x:=by
 simp [a0z,biz,bgz]; omega
theorem eapp (x:ByteArray):(⟨#[]⟩:ByteArray)++x=x:=by
 apply axz; simp
theorem appe (x:ByteArray):x++(⟨#[]⟩:ByteArray)=x:=by
 apply axz; simp
def chD (d:Nat):ByteArray:=⟨#[b0z (48+d)]⟩
theorem B1q (d:Nat):(chD d).size=1:=rfl
theorem str1 (d:Nat):strOfNums [((48+d:Nat):Int)]=chD d:=rfl
theorem encD {d:Nat} (h:d<10):Utf8.encode ((48+d:Nat):Int)=chD d:=by
 have:∀d:Fin 10,Utf8.encode ((48+(d:Nat):Nat):Int)=⟨#[b0z (48+d)]⟩:=by decide
 exact this ⟨d,h⟩
theorem acPq (m:Nat):aWz (m:Int) 10=((m / 10:Nat):Int):=rfl
theorem acYq (m:Nat):aqz (m:Int) 10=((m % 10:Nat):Int):=rfl
theorem acMq (m:Nat):aWz (-(m:Int)) 10 = -((m / 10:Nat):Int):=by rw [Int.neg_tdiv]; rfl
theorem ac0q (m:Nat):aqz (-(m:Int)) 10 = -((m % 10:Nat):Int):=by rw [Int.neg_tmod]; rfl
def dgN (m:Nat):ByteArray:=if h:m=0 then ⟨#[]⟩ else dgN (m / 10)++chD (m % 10)
termination_by m
decreasing_by omega
theorem Z5q:dgN 0=⟨#[]⟩:=by rw [dgN,dif_pos rfl]
theorem W7q {m:Nat} (h:m≠0):dgN m=dgN (m / 10)++chD (m % 10):=by rw [dgN,dif_neg h]
theorem aepq (k : Nat) : ∀ m, m < 10 ^ k → (dgN m).size ≤ k := by
  induction k with
  | zero => intro m h; have : m = 0 := by simpa using h
            subst this; rw [Z5q]; exact Nat.le_refl _
  | succ k ih =>
    intro m h
    by_cases h0 : m = 0
    · subst h0; rw [Z5q]; exact Nat.zero_le _
    · rw [W7q h0, ByteArray.size_append, B1q]
      have := ih (m / 10) (by rw [Nat.pow_succ] at h; omega)
      omega
def dg (n:Int):ByteArray:=if n=0 then ⟨#[48]⟩ else if n<0 then ⟨#[45]⟩++dgN n.natAbs else dgN n.natAbs
theorem a8Yq {m:Nat} (h:0<m):dg (-(m:Int))=⟨#[45]⟩++dgN m:=by
 rw [dg,if_neg (by omega),if_pos (by omega),arz,a7z]
theorem a4Vq {m:Nat} (h:0<m):dg (m:Int)=dgN m:=by
 rw [dg,if_neg (by omega),if_neg (by omega),a7z]
theorem acvq {d:Nat} (h:d<10):dg (d:Int)=chD d:=by
 by_cases h0:d=0
 ·subst h0; rfl
 ·rw [a4Vq (by omega),W7q h0,Nat.div_eq_of_lt h,Z5q,eapp,Nat.mod_eq_of_lt h]
theorem aeHq {n:Int} (h:i64 n):n.natAbs<10 ^ 19:=by have:=h.1; have:=h.2; omega
theorem a3eq {n:Int} (h:i64 n):(dg n).size<=20:=by
 have h1:=aepq 19 _ (aeHq h)
 unfold dg
 split
 ·exact (by decide:(1:Nat)<=20)
 ·split
  ·rw [aaz]; have:(⟨#[45]⟩:ByteArray).size=1:=rfl
   omega
  ·omega
def fin (b:Bool) (x:ByteArray):ByteArray:=if b then ⟨#[45]⟩++x else x
theorem adTq (k:Nat):∀(n:Int) (b:Bool) (out:ByteArray),i64 n->n.natAbs<10 ^ k->out.size+k<=30->r9q (T (fin b (dgN n.natAbs++out))) [] n b out:=by
 have sfin:∀(b:Bool) (out:ByteArray),out.size<=30->r9q (T (fin b (dgN 0++out))) [] 0 b out:=fun b out hs=>by
  apply U6q
  refine a3q (by decide) (c5q (fun h=>⟨⟨?_⟩,?_⟩) fun h=>⟨?_,rfl⟩)
  ·rw [aaz]; have:(⟨#[45]⟩:ByteArray).size=1:=rfl
   omega
  ·subst h; rw [Z5q,eapp]; exact ⟨rfl,rfl⟩
  ·subst h; rw [Z5q,eapp]; rfl
 induction k with
 | zero =>
  intro n b out hn h hs
  have:n=0:=by simp at h; omega
  subst this; exact sfin b out (by omega)
 | succ k ih =>
  intro n b out hn h hs
  by_cases h0:n=0
  ·subst h0; exact sfin b out (by omega)
  apply U6q
  rw [aVz] at h
  have h1:=hn.1; have h2:=hn.2
  refine a6q (by simpa using h0) ⟨⟨by decide⟩,?_⟩
  obtain ⟨m,rfl | rfl⟩:=n.eq_nat_or_neg
  ·have hm:m≠0:=by omega
   rw [acYq,acPq,wrI (x:=((m / 10:Nat):Int)) (by omega) (by omega),a7z]
   rw [a7z] at h
   have hx:a0z .u8 (a0z .i64 (48+((m % 10:Nat):Int)))=((48+m % 10:Nat):Int):=by
    rw [wrI (by omega) (by omega),wrU8 (by omega) (by omega)]; omega
   have key:=ih ((m / 10:Nat):Int) b (chD (m % 10)++out) ⟨by omega,by omega⟩ (by rw [a7z]; omega) (by rw [aaz,B1q]; omega)
   rw [a7z] at key
   rw [W7q hm,aGz]
   refine a3q (decide_eq_false (by omega)) ⟨[((48+m % 10:Nat):Int)],by rw [hx]; rfl,?_⟩
   rw [str1]
   exact ⟨⟨by rw [aaz,B1q]; omega⟩,⟨by decide⟩,key⟩
  ·have hm:m≠0:=by omega
   rw [ac0q,acMq,wrI (x := -((m / 10:Nat):Int)) (by omega) (by omega),arz,a7z]
   rw [arz,a7z] at h
   have key:=ih (-((m / 10:Nat):Int)) b (chD (m % 10)++out) ⟨by omega,by omega⟩ (by rw [arz,a7z]; omega) (by rw [aaz,B1q]; omega)
   rw [arz,a7z] at key
   have hx:∀x:Int,x=((m % 10:Nat):Int)->a0z .u8 (a0z .i64 (48+x))=((48+m % 10:Nat):Int):=by
    rintro x rfl
    rw [wrI (by omega) (by omega),wrU8 (by omega) (by omega)]; omega
   have hw:a0z .i64 (0 - -((m % 10:Nat):Int))=((m % 10:Nat):Int):=by rw [wrI (by omega) (by omega)]; omega
   rw [W7q hm,aGz]
   refine c5q (fun _=>⟨[((48+m % 10:Nat):Int)],by rw [hx _ hw]; rfl,?_⟩) fun hd=>⟨[((48+m % 10:Nat):Int)],by rw [hx _ (by have:=of_decide_eq_false hd; omega)]; rfl,?_⟩
   all_goals
    rw [str1]
    exact ⟨⟨by rw [aaz,B1q]; omega⟩,⟨by decide⟩,key⟩
theorem a4Oq {n:Int} (h:i64 n):XC pg 174 [Z n] [] (T (dg n)) []:=by
 apply a5Qq
 refine b3q (fun h0=>⟨by rw [dg,if_pos h0],rfl⟩) fun h0 => ?_
 have key:=adTq 19 n (decide (n<0)) ⟨#[]⟩ h (aeHq h) (by decide)
 rw [appe] at key
 have e:fin (decide (n<0)) (dgN n.natAbs)=dg n:=by
  unfold fin dg
  rw [if_neg h0]
  by_cases hn:n<0 <;> simp [hn]
 rw [e] at key
 exact key
theorem a4Zq {n:Int} (h:i64 n):XC pg 97 [Z n] [] (T (dg n)) []:=by
 have main:∀(K:Nat) (n:Int),i64 n->2*n.natAbs+(if n<0 then 1 else 0)<K->XC pg 97 [Z n] [] (T (dg n)) []:=by
  intro K
  induction K with
  | zero=>intro n _ h; omega
  | succ K ih =>
   intro n hn hK
   have h1:=hn.1; have h2:=hn.2
   apply a6zq
   obtain ⟨m,rfl | rfl⟩:=n.eq_nat_or_neg
   ·have hK':2*m<K+1:=by rw [a7z,if_neg (by omega)] at hK; omega
    refine a3q (by simp) (a3q (by simp) (b3q (fun h10 => ?_) fun h10 => ?_))
    ·have e:a0z .i32 (a0z .i64 (48+(m:Int)))=((48+m:Nat):Int):=by
      rw [wrI (by omega) (by omega),abtq (by omega) (by omega)]; omega
     rw [e,encD (by omega),acvq (by omega)]
     exact ⟨⟨by rw [B1q]; omega⟩,rfl,rfl⟩
    ·rw [acPq,acYq,wrI (x:=((m / 10:Nat):Int)) (by omega) (by omega)]
     have e:a0z .i32 (a0z .i64 (48+((m % 10:Nat):Int)))=((48+m % 10:Nat):Int):=by
      rw [wrI (by omega) (by omega),abtq (by omega) (by omega)]; omega
     have hh:i64 ((m / 10:Nat):Int):=⟨by omega,by omega⟩
     have hs:=a3eq hh
     rw [e,encD (by omega)]
     refine ⟨⟨by decide⟩,_,ih _ hh (by rw [a7z,if_neg (by omega)]; omega),⟨by decide⟩,⟨by rw [B1q]; omega⟩,⟨by rw [aaz,B1q]; omega⟩,?_,rfl⟩
     rw [a4Vq (m:=m) (by omega),a4Vq (by omega),<-W7q (by omega)]
   ·by_cases hm:m=0
    ·subst hm
     have e:a0z .i32 (a0z .i64 (48+(-((0:Nat):Int))))=((48+0:Nat):Int):=by
      rw [wrI (by omega) (by omega),abtq (by omega) (by omega)]; omega
     refine a3q (by simp) (a3q (by simp) (a6q (by simp) ?_))
     rw [e,encD (by omega)]
     exact ⟨⟨by rw [B1q]; omega⟩,rfl,rfl⟩
    have hK':2*m<K:=by rw [arz,a7z,if_pos (by omega)] at hK; omega
    refine a6q (decide_eq_true (by omega)) (b3q (fun h10 => ?_) fun h10=>a6q (decide_eq_true (by omega)) ?_)
    ·have hw:a0z .i64 (0 - -(m:Int))=(m:Int):=by rw [wrI (by omega) (by omega)]; omega
     rw [hw]
     have hh:i64 (m:Int):=⟨by omega,by omega⟩
     have hs:=a3eq hh
     refine ⟨_,ih _ hh (by rw [a7z,if_neg (by omega)]; omega),⟨?_⟩,?_,rfl⟩
     ·rw [aaz]; have:(⟨#[45]⟩:ByteArray).size=1:=rfl
      omega
     ·rw [a8Yq (by omega),a4Vq (by omega)]
    ·rw [acMq,ac0q,wrI (x := -((m / 10:Nat):Int)) (by omega) (by omega)]
     have hw:a0z .i64 (0 - -((m % 10:Nat):Int))=((m % 10:Nat):Int):=by rw [wrI (by omega) (by omega)]; omega
     rw [hw]
     have hh:i64 (-((m / 10:Nat):Int)):=⟨by omega,by omega⟩
     have hs:=a3eq hh
     have hh2:i64 ((m % 10:Nat):Int):=⟨by omega,by omega⟩
     have hs2:=a3eq hh2
     refine ⟨⟨by decide⟩,_,ih _ hh (by rw [arz,a7z,if_pos (by omega)]; omega),⟨by decide⟩,_,ih _ hh2 (by rw [a7z,if_neg (by omega)]; omega),⟨by rw [aaz]; omega⟩,?_,rfl⟩
     rw [a8Yq (by omega),a8Yq (m:=m) (by omega),acvq (by omega),W7q (m:=m) (by omega),aGz]
 exact main _ n h (Nat.lt_succ_self _)
structure Rd where
 i:Nat
 g:Bool
 sg:List Sy
abbrev Wd:=ByteArray
abbrev Ws:=List ByteArray
abbrev wNo:Wd:=⟨#[]⟩
abbrev wAc:Wd:=⟨#[97,99]⟩
abbrev wLp:Wd:=⟨#[40]⟩
abbrev wRp:Wd:=⟨#[41]⟩
abbrev wCm:Wd:=⟨#[44]⟩
abbrev wDt:Wd:=⟨#[46]⟩
abbrev wEq:Wd:=⟨#[61]⟩
abbrev wBr:Wd:=⟨#[124]⟩
abbrev wTi:Wd:=⟨#[126]⟩
abbrev wNe:Wd:=⟨#[33,61]⟩
def heW (ws:Ws) (i:Nat):Wd:=(ws[i]?).getD wNo
def noW (ws:Ws) (p:Rd):Wd:=if p.g=true then heW ws p.i else wNo
def h8q:Ws->Nat->Nat->Nat
 | [],_,n=>n
 | w::r,d,n=>if w=wLp then h8q r (d+1) n else if w=wRp then (if d=0 then n else h8q r (d-1) n) else if w=wCm/\d=0 then h8q r d (n+1) else h8q r d n
def isX (w:Wd):Bool:=decide (w[0]?.map aJz=some 88)
def L2q (w:Wd):Wd:=w.extract 1 w.size
def m5q (x:Sy) (m:Int):Bool:=if x.ac then !decide (m<2) else decide (x.ar=m)
def Rd.to (p:Rd) (i:Nat):Rd:=⟨i,p.g,p.sg⟩
def Rd.no (p:Rd):Rd:=⟨p.i,false,p.sg⟩
abbrev NV:=Wd->Int×Bool
def vOk (v:Int×Bool):Bool:=v.2&&decide (v.1<20)
open Classical in
noncomputable def w5q (p:Rd) (w:Wd) (m:Nat):Int×Rd :=
 if e7q p.sg w 0<0 then
  if nOk w/\w≠wAc/\m<=3/\p.sg.length<8 then ((p.sg.length:Int),⟨p.i,p.g,p.sg++[⟨w,m,false⟩]⟩) else (0,p.no)
 else (e7q p.sg w 0,match p.sg[(e7q p.sg w 0).toNat]? with
  | some x=>⟨p.i,p.g&&m5q x m,p.sg⟩
  | none=>p)
def w7q (ws:Ws) (p:Rd):Nat:=if noW ws p=wLp then h8q (ws.drop (p.i+1)) 0 1 else 0
noncomputable def sHd (ws:Ws) (p:Rd):Int×Rd:=w5q (p.to (p.i+1)) (noW ws p) (w7q ws (p.to (p.i+1)))
mutual
noncomputable def c4q (nv:NV) (ws:Ws):Nat->Rd->Tm×Rd
 | 0,p=>(.mk 0 0 [],p.no)
 | f+1,p =>
  if noW ws p=wNo then (.mk 0 0 [],p.no)
  else if isX (noW ws p)=true then (.mk (-1) (nv (L2q (noW ws p))).1 [],⟨p.i+1,vOk (nv (L2q (noW ws p))),p.sg⟩)
  else if noW ws (sHd ws p).2=wLp then (.mk (sHd ws p).1 0 (sKids nv ws f ((sHd ws p).2.to (p.i+2)) []).1,(sKids nv ws f ((sHd ws p).2.to (p.i+2)) []).2)
  else (.mk (sHd ws p).1 0 [],(sHd ws p).2)
noncomputable def sKids (nv:NV) (ws:Ws):Nat->Rd->List Tm->List Tm×Rd
 | 0,p,a=>(a,p.no)
 | f+1,p,a =>
  if p.g=false then (a,p)
  else if noW ws (c4q nv ws f p).2=wRp then (a++[(c4q nv ws f p).1],(c4q nv ws f p).2.to ((c4q nv ws f p).2.i+1))
  else if noW ws (c4q nv ws f p).2=wCm then sKids nv ws f ((c4q nv ws f p).2.to ((c4q nv ws f p).2.i+1)) (a++[(c4q nv ws f p).1])
  else (a++[(c4q nv ws f p).1],(c4q nv ws f p).2.no)
end
open Classical in
noncomputable def v5q (p:Rd) (w:Wd) (m:Nat):Int×Rd :=
 if nOk w/\w≠wAc then
  if e7q p.sg w 0<0 then ((p.sg.length:Int),⟨p.i,p.g,p.sg++[⟨w,m,false⟩]⟩)
  else (e7q p.sg w 0,match p.sg[(e7q p.sg w 0).toNat]? with
   | some x=>if x.ar = -1 then ⟨p.i,p.g,p.sg.set (e7q p.sg w 0).toNat ⟨x.nm,m,x.ac⟩⟩ else ⟨p.i,p.g&&m5q x m,p.sg⟩
   | none=>p)
 else (e7q p.sg w 0,p.no)
def qFi (ws:Ws) (p:Rd):Prop:=e7q p.sg (heW ws p.i) 0<0/\nOk (heW ws p.i)
open Classical in
noncomputable def g1q (ws:Ws) (p:Rd):Rd:=if qFi ws p then ⟨p.i+1,p.g,p.sg++[⟨heW ws p.i,-1,false⟩]⟩ else p.to (p.i+1)
open Classical in
noncomputable def q9q (b:Prop) (k n:Nat) (p:Rd):Rd :=
 if b then (match p.sg[k]? with
  | some x=>if x.ar = -1 then ⟨p.i,p.g,p.sg.set k ⟨x.nm,n,x.ac⟩⟩ else p
  | none=>p) else p
noncomputable def q2q (ws:Ws) (p:Rd) (y:List Tm×Rd):Tm×Rd :=
 (.mk (v5q (q9q (qFi ws p) p.sg.length y.1.length y.2) (heW ws p.i) y.1.length).1 0 y.1,(v5q (q9q (qFi ws p) p.sg.length y.1.length y.2) (heW ws p.i) y.1.length).2)
def e4q (ws:Ws) (w:Wd) (p:Rd):Rd:=if heW ws p.i=w then p.to (p.i+1) else p.no
mutual
noncomputable def b0q (nv:NV) (ws:Ws):Nat->Rd->Tm×Rd
 | 0,p=>(.mk 0 0 [],p.no)
 | f+1,p =>
  if isX (heW ws p.i)=true then (.mk (-1) (nv (L2q (heW ws p.i))).1 [],⟨p.i+1,p.g&&vOk (nv (L2q (heW ws p.i))),p.sg⟩)
  else if heW ws (p.i+1)=wLp then q2q ws p ((qKids nv ws f ((g1q ws p).to (p.i+2)) []).1,e4q ws wRp (qKids nv ws f ((g1q ws p).to (p.i+2)) []).2)
  else q2q ws p ([],g1q ws p)
noncomputable def qKids (nv:NV) (ws:Ws):Nat->Rd->List Tm->List Tm×Rd
 | 0,p,a=>(a,p.no)
 | f+1,p,a =>
  if p.g=false then (a,p)
  else if heW ws (b0q nv ws f p).2.i=wCm then qKids nv ws f ((b0q nv ws f p).2.to ((b0q nv ws f p).2.i+1)) (a++[(b0q nv ws f p).1])
  else (a++[(b0q nv ws f p).1],(b0q nv ws f p).2)
end
def K6q:List Wd->Wd->Nat->Int
 | [],_,_ => -1
 | x::r,w,i=>if x=w then i else K6q r w (i+1)
theorem E4q:∀(s:List Sy) (w:Wd) (k:Nat),e7q s w k=K6q (s.map Sy.nm) w k
 | [],_,_=>rfl
 | x::r,w,k=>by simp only [e7q,afz,K6q,E4q r w (k+1)]
theorem a4mq:∀(a b:List Wd) (w:Wd) (k:Nat),K6q (a++b) w k=if K6q a w k<0 then K6q b w (k+a.length) else K6q a w k
 | [],b,w,k=>by simp [K6q]
 | x::r,b,w,k=>by
  simp only [bbz,K6q,a5z]
  split
  ·rw [if_neg (by omega)]
  ·rw [a4mq r b w (k+1),show k+1+r.length=k+(r.length+1) by omega]
theorem a8Dq:∀(a:List Wd) (w:Wd) (k:Nat),K6q a w k<0\/∃j:Nat,K6q a w k=((k+j:Nat):Int)/\a[j]?=some w
 | [],w,k=>.inl (by simp [K6q])
 | x::r,w,k=>by
  simp only [K6q]
  split
  ·rename_i h; exact .inr ⟨0,rfl,by simp [h]⟩
  ·rcases a8Dq r w (k+1) with h | ⟨j,h1,h2⟩
   ·exact .inl h
   ·exact .inr ⟨j+1,by rw [h1]; congr 1; omega,by simpa using h2⟩
theorem J9q {s:List Sy} {w:Wd} (h:¬e7q s w 0<0):∃(j:Nat) (x:Sy),e7q s w 0=(j:Int)/\s[j]?=some x/\x.nm=w:=by
 rw [E4q] at h ⊢
 rcases a8Dq (s.map Sy.nm) w 0 with h1 | ⟨j,h1,h2⟩
 ·exact absurd h1 h
 ·rw [b9z] at h2
  cases hx:s[j]? with
  | none=>rw [hx] at h2; simp at h2
  | some x =>
   rw [hx] at h2
   exact ⟨j,x,by rw [h1,Nat.zero_add],hx,by simpa using h2⟩
structure Rl (s q:List Sy):Prop where
 nm:s.map Sy.nm=q.map Sy.nm
 ac:s.map Sy.ac=q.map Sy.ac
 ar:∀(i:Nat) x y,s[i]?=some x->q[i]?=some y->0<=x.ar/\(y.ar=x.ar\/(y.ar = -1/\x.ac=false))
def Nm (s:List Sy):Prop:=∀x∈s,nOk x.nm/\x.nm≠wAc
structure Le (q q':List Sy):Prop where
 nm:q.map Sy.nm <+: q'.map Sy.nm
 ar:∀(i:Nat) y,q[i]?=some y->∃y',q'[i]?=some y'/\y'.ac=y.ac/\(y.ar ≠ -1->y'.ar=y.ar)
def Fu (n:Nat) (q:List Sy):Prop:=∀(i:Nat) y,n<=i->q[i]?=some y->y.ar ≠ -1
def Co (s q:List Sy):Prop:=∀(i:Nat) x y,s[i]?=some x->q[i]?=some y->y.ar=x.ar\/y.ar = -1
def Lm (q:List Sy):Prop:=q.length<=8/\∀y∈q,y.ar<=3
theorem Le.refl (q:List Sy):Le q q:=⟨aiz _,fun i y h=>⟨y,h,rfl,fun _=>rfl⟩⟩
theorem Le.trans {a b c:List Sy} (h:Le a b) (k:Le b c):Le a c:=⟨h.nm.trans k.nm,fun i y hy=>by
 obtain ⟨y1,h1,h2,h3⟩:=h.ar i y hy
 obtain ⟨y2,k1,k2,k3⟩:=k.ar i y1 h1
 exact ⟨y2,k1,k2.trans h2,fun hn=>by rw [<-h3 hn]; exact k3 (by rw [h3 hn]; exact hn)⟩⟩
theorem Le.len {a b:List Sy} (h:Le a b):a.length<=b.length:=by simpa using h.nm.length_le
theorem Le.app (q t:List Sy):Le q (q++t):=⟨by rw [aNz]; exact aOz _ _,fun i y h=>⟨y,by rw [ajz (a2z.1 h).1]; exact h,rfl,fun _=>rfl⟩⟩
theorem a2Vq {q:List Sy} {k:Nat} {x:Sy} (m:Int) (h:q[k]?=some x):(q.set k ⟨x.nm,m,x.ac⟩).map Sy.nm=q.map Sy.nm/\(q.set k ⟨x.nm,m,x.ac⟩).map Sy.ac=q.map Sy.ac:=by
 have hk:=(a2z.1 h).1
 constructor <;> (apply baz; intro i; by_cases e:k=i)
 all_goals simp [aoz,e]
 all_goals (subst e; have hx:=(a2z.1 h).2; simp [hk,hx])
theorem Le.set {q:List Sy} {k:Nat} {x:Sy} (m:Int) (h:q[k]?=some x) (hx:x.ar = -1):Le q (q.set k ⟨x.nm,m,x.ac⟩):=by
 have hk:=(a2z.1 h).1
 refine ⟨?_,fun i y hy => ?_⟩
 ·rw [(a2Vq m h).1]; exact aiz _
 ·rw [aoz]
  by_cases e:k=i
  ·subst e
   rw [h] at hy; cases hy
   exact ⟨⟨x.nm,m,x.ac⟩,by simp [hk],rfl,fun hn=>absurd hx hn⟩
  ·exact ⟨y,by rw [if_neg e]; exact hy,rfl,fun _=>rfl⟩
theorem Lm.le {q q':List Sy} (h:Lm q') (k:Le q q'):Lm q:=⟨aez k.len h.1,fun y hy=>by
 obtain ⟨i,hi⟩:=b1z.1 hy
 obtain ⟨y',h1,_,h3⟩:=k.ar i y hi
 by_cases e:y.ar = -1
 ·omega
 ·rw [<-h3 e]; exact h.2 y' (a6z h1)⟩
theorem Co.le {s q q':List Sy} (h:Co s q') (k:Le q q'):Co s q:=fun i x y hx hy=>by
 obtain ⟨y',h1,_,h3⟩:=k.ar i y hy
 by_cases e:y.ar = -1
 ·exact .inr e
 ·rw [<-h3 e]; exact h i x y' hx h1
theorem Rl.len {s q:List Sy} (h:Rl s q):s.length=q.length:=by simpa using congrArg amz h.nm
theorem Rl.sym {s q:List Sy} (h:Rl s q) (w:Wd):e7q s w 0=e7q q w 0:=by rw [E4q,E4q,h.nm]
theorem Rl.get {s q:List Sy} (h:Rl s q) {i:Nat} {x:Sy} (hx:s[i]?=some x):∃y,q[i]?=some y/\y.nm=x.nm/\y.ac=x.ac/\0<=x.ar/\(y.ar=x.ar\/(y.ar = -1/\x.ac=false)):=by
 obtain ⟨y,hy⟩:=d4q (l:=q) (i:=i) (by rw [<-h.len]; exact (a2z.1 hx).1)
 have e1:=congrArg (fun l=>l[i]?) h.nm
 have e2:=congrArg (fun l=>l[i]?) h.ac
 simp only [b9z,hx,hy,bez,Option.some.injEq] at e1 e2
 exact ⟨y,hy,e1.symm,e2.symm,h.ar i x y hx hy⟩
theorem Rl.app {s q:List Sy} (h:Rl s q) {w:Wd} {m n:Int} (hm:0<=m) (hn:n=m\/n = -1):Rl (s++[⟨w,m,false⟩]) (q++[⟨w,n,false⟩]):=by
 refine ⟨by simp [h.nm],by simp [h.ac],fun i x y hx hy => ?_⟩
 have hl:=h.len
 rcases asz i s.length with hi | hi
 ·rw [ajz hi] at hx
  rw [ajz (by omega)] at hy
  exact h.ar i x y hx hy
 ·rw [aPz hi] at hx
  rw [aPz (by omega)] at hy
  rw [hl] at hx
  cases hd:i-q.length with
  | zero =>
   rw [hd] at hx hy
   cases hx; cases hy
   exact ⟨hm,hn.imp id fun e=>⟨e,rfl⟩⟩
  | succ k=>rw [hd] at hx; simp at hx
theorem Rl.set {s q:List Sy} (h:Rl s q) {k:Nat} {x y:Sy} (hx:s[k]?=some x) (hy:q[k]?=some y):Rl s (q.set k ⟨y.nm,x.ar,y.ac⟩):=by
 have hk:=(a2z.1 hy).1
 refine ⟨?_,?_,fun i x1 y1 hx1 hy1 => ?_⟩
 ·rw [(a2Vq x.ar hy).1]; exact h.nm
 ·rw [(a2Vq x.ar hy).2]; exact h.ac
 ·rw [aoz] at hy1
  by_cases e:k=i
  ·subst e
   rw [if_pos rfl,if_pos hk] at hy1
   cases hy1
   rw [hx] at hx1; cases hx1
   exact ⟨(h.ar _ _ _ hx hy).1,.inl rfl⟩
  ·rw [if_neg e] at hy1
   exact h.ar i x1 y1 hx1 hy1
theorem Nm.app {s:List Sy} (h:Nm s) {w:Wd} {m:Int} (h1:nOk w) (h2:w≠wAc):Nm (s++[⟨w,m,false⟩]):=fun x hx=>by
 rcases aZz.1 hx with hx | hx
 ·exact h x hx
 ·rw [a1z.1 hx]; exact ⟨h1,h2⟩
theorem acwq {w:Wd} (h:nOk w):∃b,w[0]?=some b/\smB b:=by
 obtain ⟨b,hb⟩:=J5q (t:=w) (i:=0) h.2.1
 rcases h.1 0 h.2.1 b hb with h1 | h1
 ·exact ⟨b,hb,h1⟩
 ·omega
theorem R0q {w:Wd} (h:nOk w):w≠wNo/\w≠wLp/\w≠wRp/\w≠wCm/\isX w=false:=by
 obtain ⟨b,hb,h1⟩:=acwq h
 unfold smB at h1
 refine ⟨?_,?_,?_,?_,?_⟩
 ·rintro rfl; exact absurd hb (by rw [show wNo[0]?=none from rfl]; simp)
 ·rintro rfl; rw [show wLp[0]?=some 40 from rfl] at hb; cases hb; exact absurd h1 (by decide)
 ·rintro rfl; rw [show wRp[0]?=some 41 from rfl] at hb; cases hb; exact absurd h1 (by decide)
 ·rintro rfl; rw [show wCm[0]?=some 44 from rfl] at hb; cases hb; exact absurd h1 (by decide)
 ·unfold isX
  rw [hb]
  simp only [bez,Option.some.injEq,decide_eq_false_iff_not]
  omega
theorem a9dq {w:Wd} (h:isX w=true):w≠wNo/\w≠wLp/\w≠wRp/\w≠wCm:=by
 refine ⟨?_,?_,?_,?_⟩ <;> rintro rfl <;> revert h <;> decide
theorem P5q {ws:Ws} {i:Nat} (h:heW ws i≠wNo):ws.drop i=heW ws i::ws.drop (i+1):=by
 unfold heW at *
 cases hx:ws[i]? with
 | none=>rw [hx] at h; simp at h
 | some x=>rw [o5q hx]; rfl
theorem o0q {ws:Ws} {i:Nat} (h:heW ws i≠wNo):i<ws.length:=by
 unfold heW at *
 cases hx:ws[i]? with
 | none=>rw [hx] at h; simp at h
 | some x=>exact (a2z.1 hx).1
theorem J6q {ws:Ws} {i:Nat} {w:Wd} (h:heW ws i=w) (h0:w≠wNo) (h1:w≠wLp) (h2:w≠wRp) (h3:w≠wCm) (d n:Nat):h8q (ws.drop i) d n=h8q (ws.drop (i+1)) d n:=by
 rw [P5q (by rw [h]; exact h0),h,h8q,if_neg h1,if_neg h2,if_neg (fun e=>h3 e.1)]
theorem aaqq {ws:Ws} {i:Nat} (h:heW ws i=wLp) (d n:Nat):h8q (ws.drop i) d n=h8q (ws.drop (i+1)) (d+1) n:=by
 rw [P5q (by rw [h]; decide),h,h8q,if_pos rfl]
theorem a8xq {ws:Ws} {i:Nat} (h:heW ws i=wRp) (n:Nat):h8q (ws.drop i) 0 n=n:=by
 rw [P5q (by rw [h]; decide),h,h8q,if_neg (by decide),if_pos rfl,if_pos rfl]
theorem a8Cq {ws:Ws} {i:Nat} (h:heW ws i=wRp) (d n:Nat):h8q (ws.drop i) (d+1) n=h8q (ws.drop (i+1)) d n:=by
 rw [P5q (by rw [h]; decide),h,h8q,if_neg (by decide),if_pos rfl,if_neg (by omega),Nat.add_sub_cancel]
theorem a8jq {ws:Ws} {i:Nat} (h:heW ws i=wCm) (n:Nat):h8q (ws.drop i) 0 n=h8q (ws.drop (i+1)) 0 (n+1):=by
 rw [P5q (by rw [h]; decide),h,h8q,if_neg (by decide),if_neg (by decide),if_pos ⟨rfl,rfl⟩]
theorem a93q {ws:Ws} {i:Nat} (h:heW ws i=wCm) (d n:Nat):h8q (ws.drop i) (d+1) n=h8q (ws.drop (i+1)) (d+1) n:=by
 rw [P5q (by rw [h]; decide),h,h8q,if_neg (by decide),if_neg (by decide),if_neg (fun e=>by omega)]
theorem m4q {ws:Ws} {i:Nat} {s:List Sy}:noW ws ⟨i,true,s⟩=heW ws i:=by simp [noW]
theorem abiq {ws:Ws} {i:Nat} {s:List Sy}:noW ws ⟨i,false,s⟩=wNo:=by simp [noW]
theorem agAq {p : Rd} {w : Wd} {m : Nat} (hN : Nm p.sg) (h : (w5q p w m).2.g = true) : p.g = true ∧ nOk w ∧ w ≠ wAc ∧
    ((e7q p.sg w 0 < 0 ∧ m ≤ 3 ∧ p.sg.length < 8 ∧ w5q p w m = ((p.sg.length : Int), ⟨p.i, true, p.sg ++ [⟨w, m, false⟩]⟩)) ∨
     (∃ (j : Nat) (x : Sy), e7q p.sg w 0 = (j : Int) ∧ p.sg[j]? = some x ∧ x.nm = w ∧ m5q x m = true ∧ w5q p w m = ((j : Int), ⟨p.i, true, p.sg⟩))) := by
  unfold w5q at *
  split at h
  · rename_i h0
    rw [if_pos h0]
    split at h
    · rename_i h1
      have hg : p.g = true := h
      exact ⟨hg, h1.1, h1.2.1, .inl ⟨h0, h1.2.2.1, h1.2.2.2, by rw [if_pos h1, hg]⟩⟩
    · simp [Rd.no] at h
  · rename_i h0
    rw [if_neg h0]
    obtain ⟨j, x, h1, h2, h3⟩ := J9q h0
    rw [h1, Int.toNat_natCast, h2] at h ⊢
    simp only [Bool.and_eq_true] at h
    have := hN x (List.mem_of_getElem? h2)
    rw [h3] at this
    refine ⟨h.1, this.1, this.2, .inr ⟨j, x, rfl, h2, h3, h.2, ?_⟩⟩
    simp [h.1, h.2]
theorem aanq {ws:Ws} {i j n0:Nat} {s q q2:List Sy} {ks:List Tm} {w:Wd} (hw:heW ws i=w) (hn:nOk w) (ha:w≠wAc) {k:Nat} {x y:Sy} (hk:e7q q2 w 0=(k:Int)) (hx:s[k]?=some x) (hy:q2[k]?=some y) (hr:Rl s q2) (hok:m5q x ks.length=true)
  (hfi:qFi ws ⟨i,true,q⟩->q.length=k):∃q3,q2q ws ⟨i,true,q⟩ (ks,⟨j,true,q2⟩)=(.mk (k:Int) 0 ks,⟨j,true,q3⟩)/\Rl s q3/\Le q2 q3/\(∀z,q3[k]?=some z->z.ar ≠ -1):=by
 obtain ⟨y',hy',hnm,hac,h0,har⟩:=hr.get hx
 rw [hy] at hy'; cases hy'
 have hkl:=(a2z.1 hy).1
 have hset:∀m:Int,e7q (q2.set k ⟨y.nm,m,y.ac⟩) w 0=(k:Int):=fun m=>by
  rw [E4q] at hk ⊢
  rw [(a2Vq m hy).1]; exact hk
 have fin:∀(q3:List Sy) (z:Sy),e7q q3 w 0=(k:Int)->q3[k]?=some z->z.ar ≠ -1->m5q z ks.length=true->v5q ⟨j,true,q3⟩ w ks.length=((k:Int),⟨j,true,q3⟩):=fun q3 z h1 h2 h3 h4=>by
  unfold v5q
  rw [if_pos ⟨hn,ha⟩]
  simp only [h1,apz,h2,h4,aRz]
  rw [if_neg (by omega),if_neg h3]
 by_cases e:y.ar = -1
 ·have hxf:x.ac=false:=by
   rcases har with h | h
   ·omega
   ·exact h.2
  have hxm:x.ar=ks.length:=by unfold m5q at hok; rw [hxf] at hok; simpa using hok
  have hR:=hr.set hx hy
  have hL:=Le.set (q:=q2) (x:=y) x.ar hy e
  have hz:(q2.set k ⟨y.nm,x.ar,y.ac⟩)[k]?=some ⟨y.nm,x.ar,y.ac⟩:=by rw [aoz,if_pos rfl,if_pos hkl]
  have hzo:m5q ⟨y.nm,x.ar,y.ac⟩ ks.length=true:=by unfold m5q at hok ⊢; simp only [hac]; exact hok
  refine ⟨q2.set k ⟨y.nm,x.ar,y.ac⟩,?_,hR,hL,fun z h=>by rw [hz] at h; cases h; simp only; omega⟩
  by_cases hf:qFi ws ⟨i,true,q⟩
  ·have hq:q9q (qFi ws ⟨i,true,q⟩) q.length ks.length ⟨j,true,q2⟩=⟨j,true,q2.set k ⟨y.nm,x.ar,y.ac⟩⟩:=by
    unfold q9q
    rw [if_pos hf,hfi hf]
    simp only [hy]
    rw [if_pos e,hxm]
   have h4:=fin _ _ (hset x.ar) hz (by simp only; omega) hzo
   unfold q2q
   simp only [hq,hw,h4]
  ·have hq:q9q (qFi ws ⟨i,true,q⟩) q.length ks.length ⟨j,true,q2⟩=⟨j,true,q2⟩:=by unfold q9q; rw [if_neg hf]
   have h4:v5q ⟨j,true,q2⟩ w ks.length=((k:Int),⟨j,true,q2.set k ⟨y.nm,x.ar,y.ac⟩⟩):=by
    unfold v5q
    rw [if_pos ⟨hn,ha⟩]
    simp only [hk,apz,hy]
    rw [if_neg (by omega),if_pos e,hxm]
   unfold q2q
   simp only [hq,hw,h4]
 ·have hq:q9q (qFi ws ⟨i,true,q⟩) q.length ks.length ⟨j,true,q2⟩=⟨j,true,q2⟩:=by
   unfold q9q
   split
   ·rename_i hf
    rw [hfi hf]
    simp only [hy]
    rw [if_neg e]
   ·rfl
  have hyo:m5q y ks.length=true:=by
   unfold m5q at hok ⊢
   rw [hac]
   rcases har with h | h
   ·rw [h]; exact hok
   ·exact absurd h.1 e
  have h4:=fin q2 y hk hy e hyo
  exact ⟨q2,by unfold q2q; simp only [hq,hw,h4],hr,Le.refl _,fun z h=>by rw [hy] at h; cases h; exact e⟩
theorem a0dq {a b:List Sy} (h:a.map Sy.nm <+: b.map Sy.nm) {w:Wd} {k:Nat} (hk:e7q a w 0=(k:Int)):e7q b w 0=(k:Int):=by
 obtain ⟨t,ht⟩:=h
 rw [E4q] at hk ⊢
 rw [<-ht,a4mq,if_neg (by omega)]; exact hk
theorem a4Dq {a:List Sy} {w:Wd} {m:Int} (h:e7q a w 0<0):e7q (a++[⟨w,m,false⟩]) w 0=(a.length:Int):=by
 rw [E4q] at h ⊢
 rw [aNz,a4mq,if_pos h]; simp [K6q]
theorem ad0q {a b:List Sy} (h:a <+: b):a.map Sy.nm <+: b.map Sy.nm:=by
 obtain ⟨t,rfl⟩:=h; exact ⟨t.map Sy.nm,by simp⟩
theorem a36q {a b:List Sy} (h:a <+: b) {k:Nat} {x:Sy} (hx:a[k]?=some x):b[k]?=some x:=by
 obtain ⟨t,rfl⟩:=h
 rw [ajz (a2z.1 hx).1]; exact hx
theorem afKq {ws:Ws} {i m:Nat} {s q:List Sy} {w:Wd} (hw:heW ws i=w) (hr:Rl s q) (hN:Nm s) (h:(w5q ⟨i+1,true,s⟩ w m).2.g=true):∃(k:Nat) (x:Sy) (s1 q1:List Sy),nOk w/\w5q ⟨i+1,true,s⟩ w m=((k:Int),⟨i+1,true,s1⟩)/\g1q ws ⟨i,true,q⟩=⟨i+1,true,q1⟩/\Rl s1 q1/\Nm s1/\s <+: s1/\Le q q1/\q1.length<=q.length+1 /\
  ∀(j:Nat) (s2 q2:List Sy) (ks:List Tm),Rl s2 q2->s1 <+: s2->Le q1 q2->Fu q1.length q2->m=ks.length ->
   ∃q3,q2q ws ⟨i,true,q⟩ (ks,⟨j,true,q2⟩)=(.mk (k:Int) 0 ks,⟨j,true,q3⟩)/\Rl s2 q3/\Le q q3/\Fu q.length q3:=by
 obtain ⟨_,hn,ha,h⟩:=agAq hN h
 have hl:=hr.len
 have hs:=hr.sym w
 have fu:∀{q1 q2 q3 s2:List Sy} {k:Nat},Rl s2 q2->Rl s2 q3->Le q2 q3->Fu q1.length q2->(∀z,q3[k]?=some z->z.ar ≠ -1)->(q1.length=q.length\/(k=q.length/\q1.length=q.length+1))->Fu q.length q3:=by
  intro q1 q2 q3 s2 k r2 r3 l23 f1 f2 hk i z hi hz
  by_cases e:i=k
  ·subst e; exact f2 z hz
  ·obtain ⟨y,hy⟩:=d4q (l:=q2) (i:=i) (by have:=r2.len; have:=r3.len; have:=(a2z.1 hz).1; omega)
   have h1:=f1 i y (by omega) hy
   obtain ⟨z',h2,_,h3⟩:=l23.ar i y hy
   rw [hz] at h2; cases h2
   rw [h3 h1]; exact h1
 rcases h with ⟨h0,h1,h2,he⟩ | ⟨k,x,h1,h2,h3,h4,he⟩
 ·have hfi:qFi ws ⟨i,true,q⟩:=⟨by show e7q q (heW ws i) 0<0; rw [hw,<-hs]; exact h0,by show nOk (heW ws i); rw [hw]; exact hn⟩
  have hR:=hr.app (w:=w) (m:=(m:Int)) (n := -1) (by omega) (.inr rfl)
  refine ⟨s.length,⟨w,m,false⟩,_,q++[⟨w,-1,false⟩],hn,he,by unfold g1q; rw [if_pos hfi]; simp only [hw],hR,hN.app hn ha,aOz _ _,Le.app _ _,by simp,?_⟩
  intro j s2 q2 ks r2 p2 l2 f2 hm
  have hx:s2[s.length]?=some ⟨w,m,false⟩:=a36q p2 (by simp)
  obtain ⟨y,hy,_⟩:=r2.get hx
  have hk:e7q q2 w 0=(s.length:Int):=by
   rw [<-r2.sym w]
   exact a0dq (ad0q p2) (a4Dq h0)
  obtain ⟨q3,g1,g2,g3,g4⟩:=aanq (q:=q) (i:=i) (j:=j) (n0:=0) (ks:=ks) hw hn ha hk hx hy r2 (by unfold m5q; simp [hm]) (fun _=>hl.symm)
  exact ⟨q3,g1,g2,((Le.app q _).trans l2).trans g3,fu r2 g2 g3 f2 g4 (.inr ⟨hl,by simp⟩)⟩
 ·have hnfi:¬qFi ws ⟨i,true,q⟩:=fun hf=>by
   have:e7q q (heW ws i) 0<0:=hf.1
   have h1:e7q s w 0=(k:Int):=h1
   rw [hw,<-hs,h1] at this; omega
  refine ⟨k,x,s,q,hn,he,by unfold g1q; rw [if_neg hnfi]; rfl,hr,hN,aiz _,Le.refl _,by omega,?_⟩
  intro j s2 q2 ks r2 p2 l2 f2 hm
  have hx:s2[k]?=some x:=a36q p2 h2
  obtain ⟨y,hy,_⟩:=r2.get hx
  have hk:e7q q2 w 0=(k:Int):=by
   rw [<-r2.sym w]
   exact a0dq (ad0q p2) h1
  obtain ⟨q3,g1,g2,g3,g4⟩:=aanq (q:=q) (i:=i) (j:=j) (n0:=0) (ks:=ks) hw hn ha hk hx hy r2 (by rw [<-hm]; exact h4) (fun hf=>absurd hf hnfi)
  exact ⟨q3,g1,g2,l2.trans g3,fu r2 g2 g3 f2 g4 (.inl rfl)⟩
theorem m8q {α β:Type} {a c:α} {b d:β} (h:(a,b)=(c,d)):a=c/\b=d:=by cases h; exact ⟨rfl,rfl⟩
theorem a6Vq (nv:NV) (ws:Ws):∀f:Nat,
  (∀i s q t i' s',c4q nv ws f ⟨i,true,s⟩=(t,⟨i',true,s'⟩)->Rl s q->Nm s->∃q',b0q nv ws f ⟨i,true,q⟩=(t,⟨i',true,q'⟩)/\Rl s' q'/\Nm s'/\s <+: s'/\Le q q'/\Fu q.length q'/\∀d n,h8q (ws.drop i) d n=h8q (ws.drop i') d n) /\
  (∀i s q a ks i' s',sKids nv ws f ⟨i,true,s⟩ a=(ks,⟨i',true,s'⟩)->Rl s q->Nm s->∃j q',i'=j+1/\heW ws j=wRp/\qKids nv ws f ⟨i,true,q⟩ a=(ks,⟨j,true,q'⟩)/\Rl s' q'/\Nm s'/\s <+: s'/\Le q q'/\Fu q.length q'/\(∀d n,h8q (ws.drop i) (d+1) n=h8q (ws.drop j) (d+1) n)/\∀n,h8q (ws.drop i) 0 n+a.length+1=n+ks.length)
 | 0=>⟨fun i s q t i' s' h=>by simp [c4q,Rd.no] at h,fun i s q a ks i' s' h=>by simp [sKids,Rd.no] at h⟩
 | f+1=>by
  obtain ⟨ihT,ihK⟩:=a6Vq nv ws f
  refine ⟨fun i s q t i' s' h hr hN => ?_,fun i s q a ks i' s' h hr hN => ?_⟩
  ·simp only [c4q,m4q] at h
   split at h
   ·simp [Rd.no] at h
   ·rename_i hno
    split at h
    ·rename_i hx
     obtain ⟨rfl,h9⟩:=m8q h
     simp only [Rd.mk.injEq] at h9
     obtain ⟨rfl,hv,rfl⟩:=h9
     have hx1:=a9dq hx
     exact ⟨q,by simp [b0q,hx,hv],hr,hN,aiz _,Le.refl _,fun k y h1 h2=>by have:=(a2z.1 h2).1; omega,J6q rfl hx1.1 hx1.2.1 hx1.2.2.1 hx1.2.2.2⟩
    ·rename_i hx
     have hm:∀{g:Bool} {s1:List Sy},w7q ws ((⟨i,true,s⟩:Rd).to (i+1))=if heW ws (i+1)=wLp then h8q (ws.drop (i+2)) 0 1 else 0:=fun {g s1}=>by unfold w7q Rd.to; rw [m4q]
     have hsd:sHd ws ⟨i,true,s⟩=w5q ⟨i+1,true,s⟩ (heW ws i) (w7q ws ((⟨i,true,s⟩:Rd).to (i+1))):=by unfold sHd; rw [m4q]; rfl
     rw [hm (g:=true) (s1:=s)] at hsd
     by_cases hg:(sHd ws ⟨i,true,s⟩).2.g=true
     ·rw [hsd] at hg
      obtain ⟨k,x,s1,q1,hn,he,hq,hR,hN1,hp,hL,hle,rest⟩:=afKq (ws:=ws) (i:=i) rfl hr hN hg
      have hno1:=R0q hn
      rw [hsd,he] at h
      simp only [m4q] at h
      split at h
      ·rename_i hlp
       rw [if_pos hlp] at rest
       obtain ⟨rfl,h9⟩:=m8q h
       have hK:sKids nv ws f ⟨i+2,true,s1⟩ []=((sKids nv ws f ⟨i+2,true,s1⟩ []).1,⟨i',true,s'⟩):=by rw [<-h9]; rfl
       obtain ⟨j,q2,rfl,hj,hk,r2,n2,p2,l2,f2,c1,c0⟩:=ihK _ _ q1 _ _ _ _ hK hR hN1
       have hc:=c0 1
       obtain ⟨q3,g1,g2,g3,g4⟩:=rest (j+1) _ q2 (sKids nv ws f ⟨i+2,true,s1⟩ []).1 r2 p2 l2 f2 (by simp at hc; omega)
       refine ⟨q3,?_,g2,n2,hp.trans p2,g3,g4,fun d n => ?_⟩
       ·simp only [b0q]
        rw [if_neg hx,if_pos hlp,hq]
        simp only [Rd.to,hk,e4q]
        rw [if_pos hj]
        exact g1
       ·rw [J6q rfl hno1.1 hno1.2.1 hno1.2.2.1 hno1.2.2.2.1,aaqq hlp,c1,a8Cq hj]
      ·rename_i hlp
       rw [if_neg hlp] at rest
       obtain ⟨rfl,h9⟩:=m8q h
       cases h9
       obtain ⟨q3,g1,g2,g3,g4⟩:=rest (i+1) _ q1 [] hR (aiz _) (Le.refl _) (fun k y h1 h2=>by have:=(a2z.1 h2).1; omega) rfl
       refine ⟨q3,?_,g2,hN1,hp,g3,g4,J6q rfl hno1.1 hno1.2.1 hno1.2.2.1 hno1.2.2.2.1⟩
       simp only [b0q]
       rw [if_neg hx,if_neg hlp,hq]
       exact g1
     ·exfalso
      have hg':(sHd ws ⟨i,true,s⟩).2.g=false:=by simpa using hg
      have:noW ws (sHd ws ⟨i,true,s⟩).2=wNo:=by unfold noW; rw [hg']; rfl
      rw [this,if_neg (by decide)] at h
      have:=congrArg (fun z=>z.2.g) h
      simp only [hg'] at this
      cases this
  ·simp only [sKids] at h
   rw [if_neg (by simp)] at h
   generalize hT:c4q nv ws f ⟨i,true,s⟩=T at h
   obtain ⟨t,i1,g1,s1⟩:=T
   cases g1 with
   | false =>
    simp only [abiq] at h
    rw [if_neg (by decide),if_neg (by decide)] at h
    simp [Rd.no] at h
   | true =>
    obtain ⟨q1,e1,r1,n1,p1,l1,f1,c1⟩:=ihT _ _ q _ _ _ hT hr hN
    simp only [m4q] at h
    have hl1:=l1.len
    split at h
    ·rename_i hrp
     obtain ⟨rfl,h9⟩:=m8q h
     cases h9
     refine ⟨i1,q1,rfl,hrp,?_,r1,n1,p1,l1,f1,fun d n=>c1 _ _,fun n => ?_⟩
     ·simp only [qKids,e1]
      rw [if_neg (by simp),if_neg (by rw [hrp]; decide)]
     ·rw [c1,a8xq hrp]; simp; omega
    ·rename_i hrp
     split at h
     ·rename_i hcm
      obtain ⟨j,q2,rfl,hj,hk,r2,n2,p2,l2,f2,d1,d0⟩:=ihK _ _ q1 _ _ _ _ h r1 n1
      refine ⟨j,q2,rfl,hj,?_,r2,n2,p1.trans p2,l1.trans l2,fun k y h1 h2 => ?_,fun d n=>by rw [c1,a93q hcm,d1],fun n => ?_⟩
      ·simp only [qKids,e1]
       rw [if_neg (by simp),if_pos hcm]
       exact hk
      ·by_cases hkq:q1.length<=k
       ·exact f2 k y hkq h2
       ·obtain ⟨z,hz⟩:=d4q (l:=q1) (i:=k) (by omega)
        have hz1:=f1 k z h1 hz
        obtain ⟨y',h3,_,h4⟩:=l2.ar k z hz
        rw [h2] at h3; cases h3
        rw [h4 hz1]; exact hz1
      ·have:=d0 (n+1)
       rw [c1,a8jq hcm]
       simp at this
       omega
     ·simp [Rd.no] at h
theorem a6lq (p:Rd) (w:Wd) (m:Nat):Le p.sg (v5q p w m).2.sg/\((v5q p w m).2.g=true->p.g=true/\nOk w/\w≠wAc):=by
 unfold v5q
 split
 ·rename_i h
  split
  ·exact ⟨Le.app _ _,fun hg=>⟨hg,h⟩⟩
  ·split
   ·rename_i x hx
    split
    ·rename_i he
     exact ⟨Le.set _ hx he,fun hg=>⟨hg,h⟩⟩
    ·exact ⟨Le.refl _,fun hg=>⟨by simp at hg; exact hg.1,h⟩⟩
   ·exact ⟨Le.refl _,fun hg=>⟨hg,h⟩⟩
 ·exact ⟨Le.refl _,fun hg=>by simp [Rd.no] at hg⟩
theorem a5Rq (b:Prop) (k n:Nat) (p:Rd):Le p.sg (q9q b k n p).sg/\(q9q b k n p).g=p.g/\(q9q b k n p).i=p.i:=by
 unfold q9q
 split
 ·split
  ·rename_i x hx
   split
   ·rename_i he
    exact ⟨Le.set _ hx he,rfl,rfl⟩
   ·exact ⟨Le.refl _,rfl,rfl⟩
  ·exact ⟨Le.refl _,rfl,rfl⟩
 ·exact ⟨Le.refl _,rfl,rfl⟩
theorem a5Aq (ws:Ws) (p:Rd):Le p.sg (g1q ws p).sg/\(g1q ws p).g=p.g:=by
 unfold g1q
 split
 ·exact ⟨Le.app _ _,rfl⟩
 ·exact ⟨Le.refl _,rfl⟩
theorem W3q (ws:Ws) (p:Rd) (y:List Tm×Rd):Le y.2.sg (q2q ws p y).2.sg/\((q2q ws p y).2.g=true->y.2.g=true):=by
 have h1:=a5Rq (qFi ws p) p.sg.length y.1.length y.2
 have h2:=a6lq (q9q (qFi ws p) p.sg.length y.1.length y.2) (heW ws p.i) y.1.length
 exact ⟨h1.1.trans h2.1,fun h=>by rw [<-h1.2.1]; exact (h2.2 h).1⟩
theorem B2q (ws:Ws) (w:Wd) (p:Rd):(e4q ws w p).sg=p.sg/\((e4q ws w p).g=true->p.g=true/\heW ws p.i=w/\e4q ws w p=p.to (p.i+1)):=by
 unfold e4q
 split
 ·rename_i h; exact ⟨rfl,fun hg=>⟨hg,h,rfl⟩⟩
 ·exact ⟨rfl,fun hg=>by simp [Rd.no] at hg⟩
theorem q_le (nv:NV) (ws:Ws):∀f:Nat,
  (∀p,Le p.sg (b0q nv ws f p).2.sg/\((b0q nv ws f p).2.g=true->p.g=true)) /\
  (∀p a,Le p.sg (qKids nv ws f p a).2.sg/\((qKids nv ws f p a).2.g=true->p.g=true))
 | 0=>⟨fun p=>⟨by rw [b0q]; exact Le.refl _,fun h=>by simp [b0q,Rd.no] at h⟩,fun p a=>⟨by rw [qKids]; exact Le.refl _,fun h=>by simp [qKids,Rd.no] at h⟩⟩
 | f+1=>by
  obtain ⟨ihT,ihK⟩:=q_le nv ws f
  refine ⟨fun p => ?_,fun p a => ?_⟩
  ·rw [b0q]
   split
   ·exact ⟨Le.refl _,fun h=>by simp at h; exact h.1⟩
   ·have h1:=a5Aq ws p
    split
    ·have h2:=ihK ((g1q ws p).to (p.i+2)) []
     have h3:=B2q ws wRp (qKids nv ws f ((g1q ws p).to (p.i+2)) []).2
     have h4:=W3q ws p ((qKids nv ws f ((g1q ws p).to (p.i+2)) []).1,e4q ws wRp (qKids nv ws f ((g1q ws p).to (p.i+2)) []).2)
     refine ⟨(h1.1.trans h2.1).trans ?_,fun h => ?_⟩
     ·rw [<-h3.1]; exact h4.1
     ·have:=h2.2 (h3.2 (h4.2 h)).1
      rw [<-h1.2]; exact this
    ·have h4:=W3q ws p ([],g1q ws p)
     exact ⟨h1.1.trans h4.1,fun h=>by rw [<-h1.2]; exact h4.2 h⟩
  ·rw [qKids]
   split
   ·rename_i hg
    exact ⟨Le.refl _,fun h=>by rw [hg] at h; cases h⟩
   ·rename_i hg
    have hg:p.g=true:=by simpa using hg
    split
    ·exact ⟨(ihT p).1.trans (ihK ((b0q nv ws f p).2.to ((b0q nv ws f p).2.i+1)) (a++[(b0q nv ws f p).1])).1,fun _=>hg⟩
    ·exact ⟨(ihT p).1,fun _=>hg⟩
theorem adUq {ws:Ws} {i i':Nat} {q q':List Sy} {y:List Tm×Rd} {t:Tm} (h:q2q ws ⟨i,true,q⟩ y=(t,⟨i',true,q'⟩)) (hL:Le (g1q ws ⟨i,true,q⟩).sg y.2.sg) :
  y.2.g=true/\y.2.i=i'/\nOk (heW ws i)/\heW ws i≠wAc/\∃(k:Nat) (b:Sy),t = .mk (k:Int) 0 y.1/\e7q y.2.sg (heW ws i) 0=(k:Int)/\y.2.sg[k]?=some b /\
   ((b.ar = -1/\q'=y.2.sg.set k ⟨b.nm,y.1.length,b.ac⟩)\/(b.ar ≠ -1/\m5q b y.1.length=true/\q'=y.2.sg)) /\
   ((qFi ws ⟨i,true,q⟩/\k=q.length)\/(¬qFi ws ⟨i,true,q⟩/\e7q q (heW ws i) 0=(k:Int))):=by
 obtain ⟨ks,j,g,q2⟩:=y
 have h1:=(W3q ws ⟨i,true,q⟩ (ks,⟨j,g,q2⟩)).2 (by rw [h])
 have hg:g=true:=h1
 subst hg
 have hs:=a5Rq (qFi ws ⟨i,true,q⟩) q.length ks.length ⟨j,true,q2⟩
 have hf:=a6lq (q9q (qFi ws ⟨i,true,q⟩) q.length ks.length ⟨j,true,q2⟩) (heW ws i) ks.length
 have hq:=h
 unfold q2q at hq
 obtain ⟨e1,e2⟩:=m8q hq
 obtain ⟨_,hn,ha⟩:=hf.2 (by rw [e2])
 simp only at e1 e2
 have hk:∃k:Nat,e7q q2 (heW ws i) 0=(k:Int)/\((qFi ws ⟨i,true,q⟩/\k=q.length)\/(¬qFi ws ⟨i,true,q⟩/\e7q q (heW ws i) 0=(k:Int))):=by
  by_cases hfi:qFi ws ⟨i,true,q⟩
  ·have e:(g1q ws ⟨i,true,q⟩).sg=q++[⟨heW ws i,-1,false⟩]:=by unfold g1q; rw [if_pos hfi]
   rw [e] at hL
   exact ⟨q.length,a0dq hL.nm (a4Dq hfi.1),.inl ⟨hfi,rfl⟩⟩
  ·have e:(g1q ws ⟨i,true,q⟩).sg=q:=by unfold g1q; rw [if_neg hfi]; rfl
   rw [e] at hL
   have h0:¬e7q q (heW ws i) 0<0:=fun h0=>hfi ⟨h0,hn⟩
   obtain ⟨k,x,h2,h3,h4⟩:=J9q h0
   exact ⟨k,a0dq hL.nm h2,.inr ⟨hfi,h2⟩⟩
 obtain ⟨k,hk,hkf⟩:=hk
 obtain ⟨b,hb⟩:∃b,q2[k]?=some b:=by
  obtain ⟨k',x,h2,h3,h4⟩:=J9q (s:=q2) (w:=heW ws i) (by omega)
  rw [hk] at h2
  have:k=k':=by omega
  subst this; exact ⟨x,h3⟩
 have hkl:=(a2z.1 hb).1
 have hset:e7q (q2.set k ⟨b.nm,ks.length,b.ac⟩) (heW ws i) 0=(k:Int):=by
  rw [E4q] at hk ⊢
  rw [(a2Vq (ks.length:Int) hb).1]; exact hk
 have hget:(q2.set k ⟨b.nm,ks.length,b.ac⟩)[k]?=some ⟨b.nm,ks.length,b.ac⟩:=by rw [aoz,if_pos rfl,if_pos hkl]
 have fun1:∀(q3:List Sy) (z:Sy),e7q q3 (heW ws i) 0=(k:Int)->q3[k]?=some z->v5q ⟨j,true,q3⟩ (heW ws i) ks.length=((k:Int),if z.ar = -1 then ⟨j,true,q3.set k ⟨z.nm,ks.length,z.ac⟩⟩ else ⟨j,m5q z ks.length,q3⟩):=fun q3 z h2 h3=>by
  unfold v5q
  rw [if_pos ⟨hn,ha⟩]
  simp only [h2,apz,h3,b6z]
  rw [if_neg (by omega)]
 have hcase:q9q (qFi ws ⟨i,true,q⟩) q.length ks.length ⟨j,true,q2⟩=⟨j,true,q2⟩\/(b.ar = -1/\q9q (qFi ws ⟨i,true,q⟩) q.length ks.length ⟨j,true,q2⟩=⟨j,true,q2.set k ⟨b.nm,ks.length,b.ac⟩⟩):=by
  unfold q9q
  split
  ·rename_i hfi
   rcases hkf with ⟨_,hkq⟩ | ⟨hn,_⟩
   ·rw [<-hkq]
    simp only [hb]
    split
    ·rename_i he; exact .inr ⟨he,rfl⟩
    ·exact .inl rfl
   ·exact absurd hfi hn
  ·exact .inl rfl
 refine ⟨rfl,?_⟩
 rcases hcase with hc | ⟨hb1,hc⟩
 ·rw [hc,fun1 q2 b hk hb] at e1 e2
  split at e2
  ·rename_i hb1
   cases e2
   exact ⟨rfl,hn,ha,k,b,e1.symm,hk,hb,.inl ⟨hb1,rfl⟩,hkf⟩
  ·rename_i hb1
   simp only [Rd.mk.injEq] at e2
   obtain ⟨e3,e4,e5⟩:=e2
   exact ⟨e3,hn,ha,k,b,e1.symm,hk,hb,.inr ⟨hb1,e4,e5.symm⟩,hkf⟩
 ·rw [hc,fun1 _ _ hset hget] at e1 e2
  simp only at e2
  rw [if_neg (by omega)] at e2
  simp only [Rd.mk.injEq] at e2
  obtain ⟨e3,e4,e5⟩:=e2
  exact ⟨e3,hn,ha,k,b,e1.symm,hk,hb,.inl ⟨hb1,e5.symm⟩,hkf⟩
theorem afAq {x b:Sy} {m:Nat} (h:b.ac=x.ac) (ha:b.ar=x.ar\/(b.ar = -1/\x.ac=false)) (hb:(b.ar = -1/\(m:Int)=x.ar)\/(b.ar ≠ -1/\m5q b m=true)):m5q x m=true:=by
 unfold m5q at *
 rw [<-h]
 rcases hb with ⟨h1,h2⟩ | ⟨h1,h2⟩
 ·cases hc:b.ac with
  | true =>
   rw [hc] at h
   rcases ha with h3 | h3
   ·omega
   ·rw [<-h] at h3; cases h3.2
  | false=>simp [h2]
 ·rcases ha with h3 | h3
  ·rw [<-h3]; exact h2
  ·exact absurd h3.1 h1
theorem a71q (nv:NV) (ws:Ws):∀f:Nat,
  (∀i s q t i' q',b0q nv ws f ⟨i,true,q⟩=(t,⟨i',true,q'⟩)->Rl s q->Nm s->Co s q'->Lm q'->∃s',c4q nv ws f ⟨i,true,s⟩=(t,⟨i',true,s'⟩)/\Rl s' q'/\Nm s'/\s <+: s'/\Fu q.length q'/\∀d n,h8q (ws.drop i) d n=h8q (ws.drop i') d n) /\
  (∀i s q a ks j q',qKids nv ws f ⟨i,true,q⟩ a=(ks,⟨j,true,q'⟩)->heW ws j=wRp->Rl s q->Nm s->Co s q'->Lm q'->∃s',sKids nv ws f ⟨i,true,s⟩ a=(ks,⟨j+1,true,s'⟩)/\Rl s' q'/\Nm s'/\s <+: s'/\Fu q.length q'/\(∀d n,h8q (ws.drop i) (d+1) n=h8q (ws.drop j) (d+1) n)/\∀n,h8q (ws.drop i) 0 n+a.length+1=n+ks.length)
 | 0=>⟨fun i s q t i' q' h=>by simp [b0q,Rd.no] at h,fun i s q a ks i' s' h=>by simp [qKids,Rd.no] at h⟩
 | f+1=>by
  obtain ⟨ihT,ihK⟩:=a71q nv ws f
  refine ⟨fun i s q t i' q' h hr hN hC hM => ?_,fun i s q a ks j q' h hj hr hN hC hM => ?_⟩
  ·simp only [b0q] at h
   split at h
   ·rename_i hx
    obtain ⟨rfl,h9⟩:=m8q h
    simp only [Rd.mk.injEq,b6z] at h9
    obtain ⟨rfl,hv,rfl⟩:=h9
    have hx1:=a9dq hx
    exact ⟨s,by simp only [c4q,m4q]; rw [if_neg hx1.1,if_pos hx,hv],hr,hN,aiz _,fun k y h1 h2=>by have:=(a2z.1 h2).1; omega,J6q rfl hx1.1 hx1.2.1 hx1.2.2.1 hx1.2.2.2⟩
   ·rename_i hx
    have hNL:=a5Aq ws ⟨i,true,q⟩
    have step:∀(ks:List Tm) (i1:Nat) (q2:List Sy),q2q ws ⟨i,true,q⟩ (ks,⟨i1,true,q2⟩)=(t,⟨i',true,q'⟩)->Le (g1q ws ⟨i,true,q⟩).sg q2 ->
      i1=i'/\nOk (heW ws i)/\∃(k:Nat) (s1:List Sy),t = .mk (k:Int) 0 ks/\w5q ⟨i+1,true,s⟩ (heW ws i) ks.length=((k:Int),⟨i+1,true,s1⟩)/\(g1q ws ⟨i,true,q⟩).i=i+1/\Rl s1 (g1q ws ⟨i,true,q⟩).sg/\Nm s1/\s <+: s1/\Co s1 q2/\Lm q2 /\
       (∀s2,Rl s2 q2->s1 <+: s2->Rl s2 q')/\(Fu (g1q ws ⟨i,true,q⟩).sg.length q2->Fu q.length q'):=by
     intro ks i1 q2 he hL
     obtain ⟨_,h2,hn,ha,k,b,ht,hk,hb,hcs,hkf⟩:=adUq he hL
     simp only at h2 ht hk hb hcs
     have hkl:=(a2z.1 hb).1
     have hLe:Le q2 q':=by
      have:=(W3q ws ⟨i,true,q⟩ (ks,⟨i1,true,q2⟩)).1
      rw [he] at this; exact this
     have hM2:=hM.le hLe
     have hbk:∃b',q'[k]?=some b'/\b'.ac=b.ac/\(b.ac=false->b'.ar=ks.length):=by
      rcases hcs with ⟨h3,h4⟩ | ⟨h3,h4,h5⟩
      ·exact ⟨⟨b.nm,ks.length,b.ac⟩,by rw [h4,aoz,if_pos rfl,if_pos hkl],rfl,fun _=>rfl⟩
      ·exact ⟨b,by rw [h5]; exact hb,rfl,fun hac=>by unfold m5q at h4; rw [hac] at h4; simpa using h4⟩
     obtain ⟨b',hb',hbac,hbar⟩:=hbk
     have fin:∀(s1:List Sy) (x:Sy),s1[k]?=some x->(b.ar = -1->(ks.length:Int)=x.ar)->∀s2,Rl s2 q2->s1 <+: s2->Rl s2 q':=fun s1 x hx1 hxa s2 r2 p2=>by
      rcases hcs with ⟨h3,h4⟩ | ⟨h3,h4,h5⟩
      ·rw [h4,hxa h3]; exact r2.set (a36q p2 hx1) hb
      ·rw [h5]; exact r2
     have hll:q'.length=q2.length:=by
      rcases hcs with ⟨_,h4⟩ | ⟨_,_,h5⟩
      ·rw [h4,List.length_set]
      ·rw [h5]
     have fuf:∀n:Nat,(n=q.length\/(n=q.length+1/\k=q.length/\b'.ar ≠ -1))->Fu n q2->Fu q.length q':=fun n hn1 hf j z hj hz=>by
      by_cases e:j=k/\b'.ar ≠ -1
      ·rw [e.1,hb'] at hz; cases hz; exact e.2
      ·obtain ⟨y,hy⟩:=d4q (l:=q2) (i:=j) (by have:=(a2z.1 hz).1; omega)
       have h1:=hf j y (by omega) hy
       obtain ⟨z',h3,_,h4⟩:=hLe.ar j y hy
       rw [hz] at h3; cases h3
       rw [h4 h1]; exact h1
     refine ⟨h2,hn,k,?_⟩
     rcases hkf with ⟨hfi,hkq⟩ | ⟨hfi,hkq⟩
     ·have eN:g1q ws ⟨i,true,q⟩=⟨i+1,true,q++[⟨heW ws i,-1,false⟩]⟩:=by unfold g1q; rw [if_pos hfi]
      rw [eN] at hL ⊢
      have hbf:b.ac=false:=by
       obtain ⟨y',h3,h4,_⟩:=hL.ar k ⟨heW ws i,-1,false⟩ (by rw [hkq]; simp)
       rw [hb] at h3; cases h3; exact h4
      have h3:b'.ar<=3:=hM.2 b' (a6z hb')
      have hbl:=hbar hbf
      have hl:=hr.len
      have hlen8:s.length<8:=by have:=hM.1; have:=(a2z.1 hb').1; omega
      refine ⟨s++[⟨heW ws i,ks.length,false⟩],ht,?_,rfl,hr.app (by omega) (.inr rfl),hN.app hn ha,aOz _ _,?_,hM2,?_,fuf _ (.inr ⟨by simp,hkq,by omega⟩)⟩
      ·unfold w5q
       rw [if_pos (by show e7q s (heW ws i) 0<0; rw [hr.sym]; exact hfi.1),if_pos ⟨hn,ha,by omega,hlen8⟩,hkq,<-hl]
      ·refine Co.le (q':=q') (fun j x y hx hy => ?_) hLe
       rcases asz j s.length with hjl | hjl
       ·rw [ajz hjl] at hx
        exact hC j x y hx hy
       ·have hj:j=s.length:=by have:=(a2z.1 hx).1; simp at this; omega
        rw [hj] at hx hy
        rw [hl,<-hkq,hb'] at hy
        cases hy
        simp at hx
        subst hx
        exact .inl hbl
      ·exact fin _ ⟨heW ws i,ks.length,false⟩ (by rw [hkq,<-hl]; simp) (fun _=>rfl)
     ·have eN:g1q ws ⟨i,true,q⟩=⟨i+1,true,q⟩:=by unfold g1q; rw [if_neg hfi]; rfl
      rw [eN] at hL ⊢
      have hks:e7q s (heW ws i) 0=(k:Int):=by rw [hr.sym]; exact hkq
      obtain ⟨k',x,h3,hx,h5⟩:=J9q (s:=s) (w:=heW ws i) (by omega)
      have:k=k':=by omega
      subst this
      obtain ⟨y,hy,_,hyac,_,hyar⟩:=hr.get hx
      obtain ⟨y',hy',hyac',hyar'⟩:=hL.ar k y hy
      rw [hb] at hy'; cases hy'
      have hbx:b.ac=x.ac:=hyac'.trans hyac
      have hcx:=hC k x b' hx hb'
      have hbar2:b.ar=x.ar\/(b.ar = -1/\x.ac=false):=by
       have hco:=(Co.le hC hLe) k x b hx hb
       rcases hyar with h6 | h6
       ·by_cases e:y.ar = -1
        ·omega
        ·rw [hyar' e]; exact .inl h6
       ·exact hco.imp id fun h7=>⟨h7,h6.2⟩
      have hm1:b.ar = -1->(ks.length:Int)=x.ar:=fun e=>by
       have hxf:b.ac=false:=by
        rcases hbar2 with h6 | h6
        ·omega
        ·rw [hbx]; exact h6.2
       have:=hbar hxf
       rcases hcx with h7 | h7 <;> omega
      refine ⟨s,ht,?_,rfl,hr,hN,aiz _,Co.le hC hLe,hM2,fin s x hx hm1,fuf _ (.inl rfl)⟩
      have hok:m5q x ks.length=true:=afAq hbx hbar2 (by
       rcases hcs with ⟨h6,_⟩ | ⟨h6,h7,_⟩
       ·exact .inl ⟨h6,hm1 h6⟩
       ·exact .inr ⟨h6,h7⟩)
      unfold w5q
      simp only [hks,apz,hx,hok,aRz]
      rw [if_neg (by omega)]
    have hm:w7q ws ((⟨i,true,s⟩:Rd).to (i+1))=if heW ws (i+1)=wLp then h8q (ws.drop (i+2)) 0 1 else 0:=by unfold w7q Rd.to; rw [m4q]
    have hsd:sHd ws ⟨i,true,s⟩=w5q ⟨i+1,true,s⟩ (heW ws i) (w7q ws ((⟨i,true,s⟩:Rd).to (i+1))):=by unfold sHd; rw [m4q]; rfl
    rw [hm] at hsd
    split at h
    ·rename_i hlp
     rw [if_pos hlp] at hsd
     have hK:=(q_le nv ws f).2 ((g1q ws ⟨i,true,q⟩).to (i+2)) []
     generalize hkk:qKids nv ws f ((g1q ws ⟨i,true,q⟩).to (i+2)) []=kk at h hK
     have hg:=(W3q ws ⟨i,true,q⟩ (kk.1,e4q ws wRp kk.2)).2 (by rw [h])
     obtain ⟨hg2,hj,hnd⟩:=(B2q ws wRp kk.2).2 hg
     obtain ⟨ks,j,g2,q2⟩:=kk
     have:g2=true:=hg2
     subst this
     simp only at hj
     rw [show e4q ws wRp (ks,(⟨j,true,q2⟩:Rd)).2=⟨j+1,true,q2⟩ from hnd] at h
     obtain ⟨rfl,hn,k,s1,rfl,hsf,hi1,hR,hN1,hp,hC1,hM1,fin,fuf⟩:=step ks _ q2 h hK.1
     have hno1:=R0q hn
     have hkk':qKids nv ws f ⟨i+2,true,(g1q ws ⟨i,true,q⟩).sg⟩ []=(ks,⟨j,true,q2⟩):=by
      rw [<-hkk,Rd.to,hNL.2]
     obtain ⟨s2,e2,r2,n2,p2,f2,c1,c0⟩:=ihK _ s1 _ _ _ _ _ hkk' hj hR hN1 hC1 hM1
     have hc:h8q (ws.drop (i+2)) 0 1=ks.length:=by have:=c0 1; simp at this; omega
     rw [hc,hsf] at hsd
     refine ⟨s2,?_,fin s2 r2 p2,n2,hp.trans p2,fuf f2,fun d n => ?_⟩
     ·simp only [c4q,m4q,hsd]
      rw [if_neg hno1.1,if_neg hx,if_pos hlp]
      simp only [Rd.to,e2]
     ·rw [J6q rfl hno1.1 hno1.2.1 hno1.2.2.1 hno1.2.2.2.1,aaqq hlp,c1,a8Cq hj]
    ·rename_i hlp
     rw [if_neg hlp] at hsd
     have hqn:g1q ws ⟨i,true,q⟩=⟨(g1q ws ⟨i,true,q⟩).i,true,(g1q ws ⟨i,true,q⟩).sg⟩:=by
      have hg2:(g1q ws ⟨i,true,q⟩).g=true:=hNL.2
      cases hh:g1q ws ⟨i,true,q⟩ with
      | mk a b c=>rw [hh] at hg2; have:b=true:=hg2; subst this; rfl
     rw [hqn] at h
     obtain ⟨hii,hn,k,s1,rfl,hsf,hi1,hR,hN1,hp,hC1,hM1,fin,fuf⟩:=step [] _ _ h (Le.refl _)
     rw [hi1] at hii
     subst hii
     have hno1:=R0q hn
     rw [show w5q ⟨i+1,true,s⟩ (heW ws i) 0=_ from hsf] at hsd
     refine ⟨s1,?_,fin s1 hR (aiz _),hN1,hp,fuf (fun k y h1 h2=>by have:=(a2z.1 h2).1; omega),J6q rfl hno1.1 hno1.2.1 hno1.2.2.1 hno1.2.2.2.1⟩
     simp only [c4q,m4q,hsd]
     rw [if_neg hno1.1,if_neg hx,if_neg hlp]
  ·simp only [qKids] at h
   rw [if_neg (by simp)] at h
   have hT1:=(q_le nv ws f).1 ⟨i,true,q⟩
   generalize hT:b0q nv ws f ⟨i,true,q⟩=T at h hT1
   obtain ⟨t,i1,g1,q1⟩:=T
   simp only at h
   split at h
   ·rename_i hcm
    have hK:=(q_le nv ws f).2 ((⟨i1,g1,q1⟩:Rd).to (i1+1)) (a++[t])
    have hg1:g1=true:=hK.2 (by rw [h])
    subst hg1
    have hL2:Le q1 q':=by have:=hK.1; rw [h] at this; exact this
    obtain ⟨s1,e1,r1,n1,p1,f1,c1⟩:=ihT _ s q _ _ _ hT hr hN (hC.le hL2) (hM.le hL2)
    have hC1:Co s1 q':=fun j x y hx hy=>by
     rcases asz j s.length with hjl | hjl
     ·obtain ⟨x',hx'⟩:=d4q hjl
      have:=a36q p1 hx'
      rw [hx] at this; cases this
      exact hC j x y hx' hy
     ·obtain ⟨z,hz,_,_,_,hz2⟩:=r1.get hx
      have h1:=f1 j z (by rw [<-hr.len]; exact hjl) hz
      obtain ⟨y',h3,_,h4⟩:=hL2.ar j z hz
      rw [hy] at h3; cases h3
      rw [h4 h1]
      exact hz2.imp id (·.1)
    obtain ⟨s2,e2,r2,n2,p2,f2,d1,d0⟩:=ihK _ s1 q1 _ _ _ _ h hj r1 n1 hC1 hM
    ·refine ⟨s2,?_,r2,n2,p1.trans p2,fun j y hj1 hy => ?_,fun d n=>by rw [c1,a93q hcm,d1],fun n => ?_⟩
     ·simp only [sKids,e1,m4q]
      rw [if_neg (by simp),if_neg (by rw [hcm]; decide),if_pos hcm]
      exact e2
     ·by_cases hjq:q1.length<=j
      ·exact f2 j y hjq hy
      ·obtain ⟨z,hz⟩:=d4q (l:=q1) (i:=j) (by omega)
       have hz1:=f1 j z hj1 hz
       obtain ⟨y',h3,_,h4⟩:=hL2.ar j z hz
       rw [hy] at h3; cases h3
       rw [h4 hz1]; exact hz1
     ·have:=d0 (n+1)
      rw [c1,a8jq hcm]
      simp at this
      omega
   ·rename_i hcm
    obtain ⟨rfl,h9⟩:=m8q h
    cases h9
    obtain ⟨s1,e1,r1,n1,p1,f1,c1⟩:=ihT _ s q _ _ _ hT hr hN hC hM
    refine ⟨s1,?_,r1,n1,p1,f1,fun d n=>c1 _ _,fun n => ?_⟩
    ·simp only [sKids,e1,m4q]
     rw [if_neg (by simp),if_pos hj]
     rfl
    ·rw [c1,a8xq hj]; simp; omega
abbrev t0:Tm:=.mk 0 0 []
noncomputable def q8q (nv:NV) (ws:Ws) (F:Nat) (p:Rd):Li×Rd :=
 if noW ws p=wTi then (⟨false,(c4q nv ws F (p.to (p.i+1))).1,t0⟩,(c4q nv ws F (p.to (p.i+1))).2)
 else if noW ws (c4q nv ws F p).2=wEq then (⟨true,(c4q nv ws F p).1,(c4q nv ws F ((c4q nv ws F p).2.to ((c4q nv ws F p).2.i+1))).1⟩,(c4q nv ws F ((c4q nv ws F p).2.to ((c4q nv ws F p).2.i+1))).2)
 else if noW ws (c4q nv ws F p).2=wNe then (⟨false,(c4q nv ws F p).1,(c4q nv ws F ((c4q nv ws F p).2.to ((c4q nv ws F p).2.i+1))).1⟩,(c4q nv ws F ((c4q nv ws F p).2.to ((c4q nv ws F p).2.i+1))).2)
 else (⟨true,(c4q nv ws F p).1,t0⟩,(c4q nv ws F p).2)
noncomputable def i4q (nv:NV) (ws:Ws) (F:Nat) (p:Rd):Li×Rd :=
 if heW ws p.i=wTi then (⟨false,(b0q nv ws F (p.to (p.i+1))).1,t0⟩,(b0q nv ws F (p.to (p.i+1))).2)
 else if heW ws (b0q nv ws F p).2.i=wEq then (⟨true,(b0q nv ws F p).1,(b0q nv ws F ((b0q nv ws F p).2.to ((b0q nv ws F p).2.i+1))).1⟩,(b0q nv ws F ((b0q nv ws F p).2.to ((b0q nv ws F p).2.i+1))).2)
 else if heW ws (b0q nv ws F p).2.i=wNe then (⟨false,(b0q nv ws F p).1,(b0q nv ws F ((b0q nv ws F p).2.to ((b0q nv ws F p).2.i+1))).1⟩,(b0q nv ws F ((b0q nv ws F p).2.to ((b0q nv ws F p).2.i+1))).2)
 else (⟨true,(b0q nv ws F p).1,t0⟩,(b0q nv ws F p).2)
noncomputable def r0q (nv:NV) (ws:Ws) (F:Nat):Nat->Rd->List Li->List Li×Rd
 | 0,p,a=>(a,p.no)
 | f+1,p,a =>
  if p.g=false then (a,p)
  else if noW ws (q8q nv ws F p).2=wBr then r0q nv ws F f ((q8q nv ws F p).2.to ((q8q nv ws F p).2.i+1)) (a++[(q8q nv ws F p).1])
  else (a++[(q8q nv ws F p).1],(q8q nv ws F p).2)
noncomputable def k1q (nv:NV) (ws:Ws) (F:Nat):Nat->Rd->List Li->List Li×Rd
 | 0,p,a=>(a,p.no)
 | f+1,p,a =>
  if p.g=false then (a,p)
  else if heW ws (i4q nv ws F p).2.i=wBr then k1q nv ws F f ((i4q nv ws F p).2.to ((i4q nv ws F p).2.i+1)) (a++[(i4q nv ws F p).1])
  else (a++[(i4q nv ws F p).1],(i4q nv ws F p).2)
def G1q (s:List Sy) (w:Wd):Prop:=nOk w/\w≠wAc/\e7q s w 0<0
open Classical in
noncomputable def r2q (ws:Ws):Nat->Rd->Nat->Rd
 | 0,p,_=>p.no
 | f+1,p,m =>
  if p.g=true/\heW ws p.i≠wDt then (if G1q p.sg (heW ws p.i)/\p.sg.length<8 then r2q ws f ⟨p.i+1,p.g,p.sg++[⟨heW ws p.i,2,true⟩]⟩ (m+1) else p.no)
  else ⟨p.i,p.g&&decide (0<m),p.sg⟩
open Classical in
noncomputable def k0q (ws:Ws):Nat->Rd->Rd
 | 0,p=>p.no
 | f+1,p =>
  if p.g=true/\heW ws p.i≠wDt then k0q ws f ⟨p.i+1,decide (G1q p.sg (heW ws p.i)),p.sg++[⟨heW ws p.i,2,true⟩]⟩
  else p
abbrev St1:=Rd×List (List Li)
noncomputable def sSays (nv:NV) (ws:Ws) (F:Nat) (p:Rd) (a:List (List Li)):St1 :=
 if noW ws p=wAc then (qNeedS (r2q ws F (p.to (p.i+1)) 0),a) else (qNeedS (r0q nv ws F F p []).2,a++[(r0q nv ws F F p []).1])
where qNeedS (x:Rd):Rd:=if noW ws x=wDt then x.to (x.i+1) else x.no
noncomputable def p6q (nv:NV) (ws:Ws) (F:Nat) (p:Rd) (a:List (List Li)):St1 :=
 if heW ws p.i=wAc then (e4q ws wDt (k0q ws F (if heW ws (p.i+1)=wDt then (p.to (p.i+1)).no else p.to (p.i+1))),a) else (e4q ws wDt (k1q nv ws F F p []).2,a++[(k1q nv ws F F p []).1])
noncomputable def s5q (nv:NV) (ws:Ws) (F:Nat):Nat->Rd->List (List Li)->St1
 | 0,p,a=>(p.no,a)
 | f+1,p,a=>if p.g=true/\p.i<ws.length then s5q nv ws F f (sSays nv ws F p a).1 (sSays nv ws F p a).2 else (p,a)
noncomputable def o4q (nv:NV) (ws:Ws) (F:Nat):Nat->Rd->List (List Li)->St1
 | 0,p,a=>(p.no,a)
 | f+1,p,a=>if p.g=true/\p.i<ws.length then o4q nv ws F f (p6q nv ws F p a).1 (p6q nv ws F p a).2 else (p,a)
structure Kn (s:List Sy):Prop where
 nm:Nm s
 ar:∀x∈s,0<=x.ar
theorem Kn.rl {s:List Sy} (h:Kn s):Rl s s:=⟨rfl,rfl,fun i x y hx hy=>by rw [hx] at hy; cases hy; exact ⟨h.ar x (a6z hx),.inl rfl⟩⟩
theorem Rl.eq {s q:List Sy} (h:Rl s q) (hq:∀(i:Nat) y,q[i]?=some y->y.ar ≠ -1):q=s:=by
 apply baz
 intro i
 rcases asz i s.length with hi | hi
 ·obtain ⟨x,hx⟩:=d4q hi
  obtain ⟨y,hy,h1,h2,_,h3⟩:=h.get hx
  rw [hx,hy]
  have:=hq i y hy
  rcases h3 with h3 | h3
  ·cases x; cases y; simp_all
  ·exact absurd h3.1 this
 ·rw [aKz hi,aKz (by rw [<-h.len]; exact hi)]
theorem Kn.fu {s q:List Sy} (h:Kn s) (hL:Le s q) (hF:Fu s.length q):∀(i:Nat) y,q[i]?=some y->y.ar ≠ -1:=fun i y hy=>by
 rcases asz i s.length with hi | hi
 ·obtain ⟨x,hx⟩:=d4q hi
  obtain ⟨y',h1,_,h2⟩:=hL.ar i x hx
  rw [hy] at h1; cases h1
  have:=h.ar x (a6z hx)
  rw [h2 (by omega)]; omega
 ·exact hF i y hi hy
theorem Kn.of {s q:List Sy} (h:Rl s q) (hN:Nm s):Kn s:=⟨hN,fun x hx=>by
 obtain ⟨i,hi⟩:=b1z.1 hx
 obtain ⟨y,_,_,_,h0,_⟩:=h.get hi
 exact h0⟩
theorem a5mq {nv:NV} {ws:Ws} {F i i':Nat} {s s':List Sy} {t:Tm} (h:c4q nv ws F ⟨i,true,s⟩=(t,⟨i',true,s'⟩)) (hk:Kn s):b0q nv ws F ⟨i,true,s⟩=(t,⟨i',true,s'⟩)/\Kn s'/\Le s s':=by
 obtain ⟨q',h1,h2,h3,h4,h5,h6,_⟩:=(a6Vq nv ws F).1 _ _ s _ _ _ h hk.rl hk.nm
 have e:=h2.eq (hk.fu h5 h6)
 subst e
 exact ⟨h1,Kn.of h2 h3,h5⟩
theorem a4Cq {nv:NV} {ws:Ws} {F i i':Nat} {s s':List Sy} {t:Tm} (h:b0q nv ws F ⟨i,true,s⟩=(t,⟨i',true,s'⟩)) (hk:Kn s) (hM:Lm s'):c4q nv ws F ⟨i,true,s⟩=(t,⟨i',true,s'⟩)/\Kn s':=by
 have hL:Le s s':=by have:=((q_le nv ws F).1 ⟨i,true,s⟩).1; rw [h] at this; exact this
 obtain ⟨q',h1,h2,h3,h4,h5,_⟩:=(a71q nv ws F).1 _ s s _ _ _ h hk.rl hk.nm (fun j x y hx hy=>by
  obtain ⟨y',h1,_,h2⟩:=hL.ar j x hx
  rw [hy] at h1; cases h1
  have:=hk.ar x (a6z hx)
  exact .inl (h2 (by omega))) hM
 have e:=h2.eq (hk.fu hL h5)
 subst e
 exact ⟨h1,Kn.of h2 h3⟩
theorem a1bq {p:Rd} (h:p.g=true):p=⟨p.i,true,p.sg⟩:=by cases p; simp at h; subst h; rfl
theorem a95q {ws:Ws} {p:Rd} {w:Wd} (h:noW ws p=w) (hw:w≠wNo):p.g=true/\heW ws p.i=w:=by
 unfold noW at h
 split at h
 ·rename_i hg; exact ⟨hg,h⟩
 ·exact absurd h.symm hw
theorem ah2q {nv:NV} {ws:Ws} {F i i':Nat} {s s':List Sy} {l:Li} (h:q8q nv ws F ⟨i,true,s⟩=(l,⟨i',true,s'⟩)) (hk:Kn s):i4q nv ws F ⟨i,true,s⟩=(l,⟨i',true,s'⟩)/\Kn s'/\Le s s':=by
 unfold q8q at h
 rw [m4q] at h
 split at h
 ·rename_i h1
  obtain ⟨rfl,h9⟩:=m8q h
  obtain ⟨e,k,l⟩:=a5mq (t:=(c4q nv ws F ((⟨i,true,s⟩:Rd).to (i+1))).1) (i:=i+1) (s:=s) (by rw [<-h9]; rfl) hk
  refine ⟨?_,k,l⟩
  unfold i4q
  rw [if_pos h1]
  have e':b0q nv ws F ((⟨i,true,s⟩:Rd).to (i+1))=_:=e
  simp only [e']
 ·rename_i h1
  have two:∀(b:Bool) (w:Wd),w≠wNo->noW ws (c4q nv ws F ⟨i,true,s⟩).2=w->(⟨⟨b,(c4q nv ws F ⟨i,true,s⟩).1,(c4q nv ws F ((c4q nv ws F ⟨i,true,s⟩).2.to ((c4q nv ws F ⟨i,true,s⟩).2.i+1))).1⟩,(c4q nv ws F ((c4q nv ws F ⟨i,true,s⟩).2.to ((c4q nv ws F ⟨i,true,s⟩).2.i+1))).2⟩:Li×Rd)=(l,⟨i',true,s'⟩) ->
    heW ws (b0q nv ws F ⟨i,true,s⟩).2.i=w/\(⟨⟨b,(b0q nv ws F ⟨i,true,s⟩).1,(b0q nv ws F ((b0q nv ws F ⟨i,true,s⟩).2.to ((b0q nv ws F ⟨i,true,s⟩).2.i+1))).1⟩,(b0q nv ws F ((b0q nv ws F ⟨i,true,s⟩).2.to ((b0q nv ws F ⟨i,true,s⟩).2.i+1))).2⟩:Li×Rd)=(l,⟨i',true,s'⟩)/\Kn s'/\Le s s':=by
   intro b w hw h2 h3
   obtain ⟨hg,hh⟩:=a95q h2 hw
   generalize hT:c4q nv ws F ⟨i,true,s⟩=T at *
   obtain ⟨t,i1,g1,s1⟩:=T
   have:g1=true:=hg
   subst this
   obtain ⟨e,k,l1⟩:=a5mq hT hk
   obtain ⟨rfl,h9⟩:=m8q h3
   obtain ⟨e2,k2,l2⟩:=a5mq (t:=(c4q nv ws F ((⟨i1,true,s1⟩:Rd).to (i1+1))).1) (i:=i1+1) (s:=s1) (by rw [<-h9]; rfl) k
   have e':b0q nv ws F ((⟨i1,true,s1⟩:Rd).to (i1+1))=_:=e2
   refine ⟨by rw [e]; exact hh,?_,k2,l1.trans l2⟩
   simp only [e,e']
  split at h
  ·rename_i h2
   obtain ⟨g1,g2,g3⟩:=two true wEq (by decide) h2 h
   exact ⟨by unfold i4q; rw [if_neg h1,if_pos g1]; exact g2,g3⟩
  ·rename_i h2
   split at h
   ·rename_i h3
    obtain ⟨g1,g2,g3⟩:=two false wNe (by decide) h3 h
    exact ⟨by unfold i4q; rw [if_neg h1,if_neg (by rw [g1]; decide),if_pos g1]; exact g2,g3⟩
   ·rename_i h3
    obtain ⟨rfl,h9⟩:=m8q h
    obtain ⟨e,k,l1⟩:=a5mq (t:=(c4q nv ws F ⟨i,true,s⟩).1) (i:=i) (s:=s) (by rw [<-h9]) hk
    rw [h9,m4q] at h2 h3
    refine ⟨?_,k,l1⟩
    unfold i4q
    rw [if_neg h1]
    simp only [e]
    rw [if_neg h2,if_neg h3]
theorem ag3q (nv:NV) (ws:Ws) (F:Nat) (p:Rd):Le p.sg (i4q nv ws F p).2.sg/\((i4q nv ws F p).2.g=true->p.g=true):=by
 have T:=(q_le nv ws F).1
 have two:=((T p).1.trans (T ((b0q nv ws F p).2.to ((b0q nv ws F p).2.i+1))).1)
 unfold i4q
 split
 ·exact ⟨(T (p.to (p.i+1))).1,fun h=>(T (p.to (p.i+1))).2 h⟩
 ·split
  ·exact ⟨two,fun h=>(T p).2 ((T ((b0q nv ws F p).2.to ((b0q nv ws F p).2.i+1))).2 h)⟩
  ·split
   ·exact ⟨two,fun h=>(T p).2 ((T ((b0q nv ws F p).2.to ((b0q nv ws F p).2.i+1))).2 h)⟩
   ·exact T p
theorem aezq {nv:NV} {ws:Ws} {F i i':Nat} {s s':List Sy} {l:Li} (h:i4q nv ws F ⟨i,true,s⟩=(l,⟨i',true,s'⟩)) (hk:Kn s) (hM:Lm s'):q8q nv ws F ⟨i,true,s⟩=(l,⟨i',true,s'⟩)/\Kn s':=by
 have T:=(q_le nv ws F).1
 unfold i4q at h
 split at h
 ·rename_i h1
  obtain ⟨rfl,h9⟩:=m8q h
  obtain ⟨e,k⟩:=a4Cq (t:=(b0q nv ws F ((⟨i,true,s⟩:Rd).to (i+1))).1) (i:=i+1) (s:=s) (by rw [<-h9]; rfl) hk hM
  refine ⟨?_,k⟩
  unfold q8q
  rw [m4q,if_pos h1]
  have e':c4q nv ws F ((⟨i,true,s⟩:Rd).to (i+1))=_:=e
  simp only [e']
 ·rename_i h1
  have two:∀(b:Bool) (w:Wd),heW ws (b0q nv ws F ⟨i,true,s⟩).2.i=w->(⟨⟨b,(b0q nv ws F ⟨i,true,s⟩).1,(b0q nv ws F ((b0q nv ws F ⟨i,true,s⟩).2.to ((b0q nv ws F ⟨i,true,s⟩).2.i+1))).1⟩,(b0q nv ws F ((b0q nv ws F ⟨i,true,s⟩).2.to ((b0q nv ws F ⟨i,true,s⟩).2.i+1))).2⟩:Li×Rd)=(l,⟨i',true,s'⟩) ->
    noW ws (c4q nv ws F ⟨i,true,s⟩).2=w/\(⟨⟨b,(c4q nv ws F ⟨i,true,s⟩).1,(c4q nv ws F ((c4q nv ws F ⟨i,true,s⟩).2.to ((c4q nv ws F ⟨i,true,s⟩).2.i+1))).1⟩,(c4q nv ws F ((c4q nv ws F ⟨i,true,s⟩).2.to ((c4q nv ws F ⟨i,true,s⟩).2.i+1))).2⟩:Li×Rd)=(l,⟨i',true,s'⟩)/\Kn s':=by
   intro b w h2 h3
   obtain ⟨rfl,h9⟩:=m8q h3
   have hg2:=(T ((b0q nv ws F ⟨i,true,s⟩).2.to ((b0q nv ws F ⟨i,true,s⟩).2.i+1))).2 (by rw [h9])
   have hL2:=(T ((b0q nv ws F ⟨i,true,s⟩).2.to ((b0q nv ws F ⟨i,true,s⟩).2.i+1))).1
   rw [h9] at hL2
   generalize hT:b0q nv ws F ⟨i,true,s⟩=T1 at *
   obtain ⟨t,i1,g1,s1⟩:=T1
   have:g1=true:=hg2
   subst this
   obtain ⟨e,k⟩:=a4Cq hT hk (hM.le hL2)
   obtain ⟨e2,k2⟩:=a4Cq (t:=(b0q nv ws F ((⟨i1,true,s1⟩:Rd).to (i1+1))).1) (i:=i1+1) (s:=s1) (by rw [<-h9]; rfl) k hM
   have e':c4q nv ws F ((⟨i1,true,s1⟩:Rd).to (i1+1))=_:=e2
   refine ⟨by rw [e]; show noW ws ⟨i1,true,s1⟩=_; rw [m4q]; exact h2,?_,k2⟩
   simp only [e,e']
  split at h
  ·rename_i h2
   obtain ⟨g1,g2,g3⟩:=two true wEq h2 h
   exact ⟨by unfold q8q; rw [m4q,if_neg h1,if_pos g1]; exact g2,g3⟩
  ·rename_i h2
   split at h
   ·rename_i h3
    obtain ⟨g1,g2,g3⟩:=two false wNe h3 h
    exact ⟨by unfold q8q; rw [m4q,if_neg h1,if_neg (by rw [g1]; decide),if_pos g1]; exact g2,g3⟩
   ·rename_i h3
    obtain ⟨rfl,h9⟩:=m8q h
    obtain ⟨e,k⟩:=a4Cq (t:=(b0q nv ws F ⟨i,true,s⟩).1) (i:=i) (s:=s) (by rw [<-h9]) hk hM
    rw [h9] at h2 h3
    refine ⟨?_,k⟩
    unfold q8q
    rw [m4q,if_neg h1]
    simp only [e,m4q]
    rw [if_neg h2,if_neg h3]
theorem acyq {nv:NV} {ws:Ws} {F:Nat}:∀(f i i':Nat) (s s':List Sy) (a l:List Li),r0q nv ws F f ⟨i,true,s⟩ a=(l,⟨i',true,s'⟩)->Kn s->k1q nv ws F f ⟨i,true,s⟩ a=(l,⟨i',true,s'⟩)/\Kn s'/\Le s s'
 | 0,i,i',s,s',a,l,h,_=>by simp [r0q,Rd.no] at h
 | f+1,i,i',s,s',a,l,h,hk=>by
  rw [r0q,if_neg (by simp)] at h
  generalize hT:q8q nv ws F ⟨i,true,s⟩=T at h
  obtain ⟨t,i1,g1,s1⟩:=T
  cases g1 with
  | false =>
   simp only [abiq] at h
   rw [if_neg (by decide)] at h
   have:=(m8q h).2
   simp at this
  | true =>
   obtain ⟨e,k,l1⟩:=ah2q hT hk
   simp only [m4q] at h
   split at h
   ·rename_i hb
    obtain ⟨e2,k2,l2⟩:=acyq f _ _ _ _ _ _ h k
    refine ⟨?_,k2,l1.trans l2⟩
    rw [k1q,if_neg (by simp),e,if_pos hb]; exact e2
   ·rename_i hb
    obtain ⟨rfl,h9⟩:=m8q h
    cases h9
    refine ⟨?_,k,l1⟩
    rw [k1q,if_neg (by simp),e,if_neg hb]
theorem a5Nq {nv:NV} {ws:Ws} {F:Nat}:∀(f:Nat) (p:Rd) (a:List Li),Le p.sg (k1q nv ws F f p a).2.sg/\((k1q nv ws F f p a).2.g=true->p.g=true)
 | 0,p,a=>⟨by rw [k1q]; exact Le.refl _,fun h=>by simp [k1q,Rd.no] at h⟩
 | f+1,p,a=>by
  have h1:=ag3q nv ws F p
  rw [k1q]
  split
  ·rename_i hg; exact ⟨Le.refl _,fun h=>by rw [hg] at h; cases h⟩
  ·split
   ·have h2:=a5Nq (nv:=nv) (ws:=ws) (F:=F) f ((i4q nv ws F p).2.to ((i4q nv ws F p).2.i+1)) (a++[(i4q nv ws F p).1])
    exact ⟨h1.1.trans h2.1,fun h=>h1.2 (h2.2 h)⟩
   ·exact h1
theorem acUq {nv:NV} {ws:Ws} {F:Nat}:∀(f i i':Nat) (s s':List Sy) (a l:List Li),k1q nv ws F f ⟨i,true,s⟩ a=(l,⟨i',true,s'⟩)->Kn s->Lm s'->r0q nv ws F f ⟨i,true,s⟩ a=(l,⟨i',true,s'⟩)/\Kn s'
 | 0,i,i',s,s',a,l,h,_,_=>by simp [k1q,Rd.no] at h
 | f+1,i,i',s,s',a,l,h,hk,hM=>by
  rw [k1q,if_neg (by simp)] at h
  generalize hT:i4q nv ws F ⟨i,true,s⟩=T at h
  obtain ⟨t,i1,g1,s1⟩:=T
  split at h
  ·rename_i hb
   have h2:=a5Nq (nv:=nv) (ws:=ws) (F:=F) f ((⟨i1,g1,s1⟩:Rd).to (i1+1)) (a++[t])
   have hg:g1=true:=h2.2 (by rw [h])
   subst hg
   have hL:Le s1 s':=by have:=h2.1; rw [h] at this; exact this
   obtain ⟨e,k⟩:=aezq hT hk (hM.le hL)
   obtain ⟨e2,k2⟩:=acUq f _ _ _ _ _ _ h k hM
   refine ⟨?_,k2⟩
   rw [r0q,if_neg (by simp),e]
   simp only [m4q]
   rw [if_pos hb]; exact e2
  ·rename_i hb
   obtain ⟨rfl,h9⟩:=m8q h
   cases h9
   obtain ⟨e,k⟩:=aezq hT hk hM
   refine ⟨?_,k⟩
   rw [r0q,if_neg (by simp),e]
   simp only [m4q]
   rw [if_neg hb]
theorem Kn.blind {s:List Sy} (h:Kn s) {w:Wd} (hw:G1q s w):Kn (s++[⟨w,2,true⟩]):=⟨fun x hx=>by
  rcases aZz.1 hx with hx | hx
  ·exact h.nm x hx
  ·rw [a1z.1 hx]; exact ⟨hw.1,hw.2.1⟩,fun x hx=>by
  rcases aZz.1 hx with hx | hx
  ·exact h.ar x hx
  ·rw [a1z.1 hx]; show (0:Int)<=2; decide⟩
theorem aaDq {ws:Ws}:∀(f i i' m:Nat) (s s':List Sy),r2q ws f ⟨i,true,s⟩ m=⟨i',true,s'⟩->Kn s->k0q ws f ⟨i,true,s⟩=⟨i',true,s'⟩/\Kn s'/\Le s s'/\(m=0->heW ws i≠wDt)
 | 0,i,i',m,s,s',h,_=>by simp [r2q,Rd.no] at h
 | f+1,i,i',m,s,s',h,hk=>by
  rw [r2q] at h
  split at h
  ·rename_i hc
   split at h
   ·rename_i hn
    obtain ⟨e,k,l,_⟩:=aaDq f _ _ _ _ _ h (hk.blind hn.1)
    refine ⟨?_,k,(Le.app _ _).trans l,fun _=>hc.2⟩
    rw [k0q,if_pos hc]
    simp only [hn.1,decide_true]
    exact e
   ·simp [Rd.no] at h
  ·rename_i hc
   simp only [Rd.mk.injEq,b6z,decide_eq_true_eq] at h
   obtain ⟨rfl,h0,rfl⟩:=h
   exact ⟨by rw [k0q,if_neg hc],hk,Le.refl _,fun hm=>by omega⟩
open Classical in
theorem a1Cq {ws:Ws}:∀(f:Nat) (p:Rd),Le p.sg (k0q ws f p).sg/\((k0q ws f p).g=true->p.g=true)
 | 0,p=>⟨by rw [k0q]; exact Le.refl _,fun h=>by simp [k0q,Rd.no] at h⟩
 | f+1,p=>by
  rw [k0q]
  split
  ·rename_i hc
   exact ⟨(Le.app _ _).trans (a1Cq (ws:=ws) f ⟨p.i+1,decide (G1q p.sg (heW ws p.i)),p.sg++[⟨heW ws p.i,2,true⟩]⟩).1,fun _=>hc.1⟩
  ·exact ⟨Le.refl _,id⟩
open Classical in
theorem aaFq {ws:Ws}:∀(f i i' m:Nat) (s s':List Sy),k0q ws f ⟨i,true,s⟩=⟨i',true,s'⟩->Kn s->Lm s'->(m=0->heW ws i≠wDt)->r2q ws f ⟨i,true,s⟩ m=⟨i',true,s'⟩/\Kn s'
 | 0,i,i',m,s,s',h,_,_,_=>by simp [k0q,Rd.no] at h
 | f+1,i,i',m,s,s',h,hk,hM,hm=>by
  rw [k0q] at h
  split at h
  ·rename_i hc
   have h2:=a1Cq (ws:=ws) f ⟨i+1,decide (G1q s (heW ws i)),s++[⟨heW ws i,2,true⟩]⟩
   have hn:G1q s (heW ws i):=by have:=h2.2 (by rw [h]); simpa using this
   rw [h] at h2
   have hl:s.length<8:=by have h5:=h2.1.len; have h6:=hM.1; rw [alz] at h5; simp only [a5z,acz] at h5; omega
   simp only [hn,decide_true] at h
   obtain ⟨e,k⟩:=aaFq f _ _ (m+1) _ _ h (hk.blind hn) hM (fun h=>by omega)
   refine ⟨?_,k⟩
   rw [r2q,if_pos hc,if_pos ⟨hn,hl⟩]
   exact e
  ·rename_i hc
   cases h
   refine ⟨?_,hk⟩
   rw [r2q,if_neg hc]
   have:0<m:=by
    rcases aBz m with h0 | h0
    ·exact absurd ⟨rfl,hm h0⟩ hc
    ·exact h0
   simp [this]
theorem agaq {nv:NV} {ws:Ws} {F i i':Nat} {s s':List Sy} {a a':List (List Li)} (h:sSays nv ws F ⟨i,true,s⟩ a=(⟨i',true,s'⟩,a')) (hk:Kn s):p6q nv ws F ⟨i,true,s⟩ a=(⟨i',true,s'⟩,a')/\Kn s'/\Le s s':=by
 have nd:∀(x:Rd),sSays.qNeedS ws x=⟨i',true,s'⟩->∃j,x=⟨j,true,s'⟩/\e4q ws wDt x=⟨i',true,s'⟩:=fun x hx=>by
  unfold sSays.qNeedS at hx
  split at hx
  ·rename_i h1
   obtain ⟨hg,hh⟩:=a95q h1 (by decide)
   have hs:x.sg=s':=congrArg Rd.sg hx
   have e:x=⟨x.i,true,s'⟩:=by rw [<-hs]; exact a1bq hg
   exact ⟨x.i,e,by unfold e4q; rw [if_pos hh]; exact hx⟩
  ·simp [Rd.no] at hx
 unfold sSays at h
 rw [m4q] at h
 unfold p6q
 split at h
 ·rename_i h1
  obtain ⟨h8,rfl⟩:=m8q h
  obtain ⟨j,e,h2⟩:=nd _ h8
  obtain ⟨e2,k,l,hm⟩:=aaDq F (i+1) j 0 s s' e hk
  rw [if_pos h1,if_neg (hm rfl)]
  refine ⟨?_,k,l⟩
  have e3:k0q ws F ((⟨i,true,s⟩:Rd).to (i+1))=r2q ws F ((⟨i,true,s⟩:Rd).to (i+1)) 0:=by rw [e]; exact e2
  rw [e3,h2]
 ·rename_i h1
  obtain ⟨h8,rfl⟩:=m8q h
  obtain ⟨j,e,h2⟩:=nd _ h8
  obtain ⟨e2,k,l⟩:=acyq F i j s s' [] (r0q nv ws F F ⟨i,true,s⟩ []).1 (by rw [<-e]) hk
  rw [if_neg h1]
  refine ⟨?_,k,l⟩
  have e3:k1q nv ws F F ⟨i,true,s⟩ []=r0q nv ws F F ⟨i,true,s⟩ []:=by rw [e2,<-e]
  rw [e3,h2]
theorem agjq {nv:NV} {ws:Ws} {F i i':Nat} {s s':List Sy} {a a':List (List Li)} (h:p6q nv ws F ⟨i,true,s⟩ a=(⟨i',true,s'⟩,a')) (hk:Kn s) (hM:Lm s'):sSays nv ws F ⟨i,true,s⟩ a=(⟨i',true,s'⟩,a')/\Kn s':=by
 have nd:∀(x:Rd),e4q ws wDt x=⟨i',true,s'⟩->∃j,x=⟨j,true,s'⟩/\sSays.qNeedS ws x=⟨i',true,s'⟩:=fun x hx=>by
  obtain ⟨hg,hh,he⟩:=(B2q ws wDt x).2 (by rw [hx])
  have hs:=congrArg Rd.sg hx
  rw [(B2q ws wDt x).1] at hs
  have hs:x.sg=s':=hs
  have e:x=⟨x.i,true,s'⟩:=by rw [<-hs]; exact a1bq hg
  refine ⟨x.i,e,?_⟩
  unfold sSays.qNeedS
  rw [if_pos (by rw [a1bq hg,m4q]; exact hh),<-he]; exact hx
 unfold p6q at h
 unfold sSays
 rw [m4q]
 split at h
 ·rename_i h1
  obtain ⟨h8,rfl⟩:=m8q h
  obtain ⟨j,e,h2⟩:=nd _ h8
  have hd:heW ws (i+1)≠wDt:=fun hd=>by
   have:=(a1Cq F (if heW ws (i+1)=wDt then ((⟨i,true,s⟩:Rd).to (i+1)).no else (⟨i,true,s⟩:Rd).to (i+1)) (ws:=ws)).2 (by rw [e])
   rw [if_pos hd] at this
   simp [Rd.no] at this
  rw [if_neg hd] at e h2
  obtain ⟨e2,k⟩:=aaFq F (i+1) j 0 s s' e hk hM (fun _=>hd)
  rw [if_pos h1]
  refine ⟨?_,k⟩
  have e3:r2q ws F ((⟨i,true,s⟩:Rd).to (i+1)) 0=k0q ws F ((⟨i,true,s⟩:Rd).to (i+1)):=by rw [e]; exact e2
  rw [e3,h2]
 ·rename_i h1
  obtain ⟨h8,rfl⟩:=m8q h
  obtain ⟨j,e,h2⟩:=nd _ h8
  obtain ⟨e2,k⟩:=acUq F i j s s' [] (k1q nv ws F F ⟨i,true,s⟩ []).1 (by rw [<-e]) hk hM
  rw [if_neg h1]
  refine ⟨?_,k⟩
  have e3:r0q nv ws F F ⟨i,true,s⟩ []=k1q nv ws F F ⟨i,true,s⟩ []:=by rw [e2,<-e]
  rw [e3,h2]
theorem aeWq {nv:NV} {ws:Ws} {F:Nat} (p:Rd) (a:List (List Li)) (hg:p.g=true):Le p.sg (p6q nv ws F p a).1.sg:=by
 unfold p6q
 split
 ·rw [(B2q ws wDt _).1]
  have:=(a1Cq F (if heW ws (p.i+1)=wDt then (p.to (p.i+1)).no else p.to (p.i+1)) (ws:=ws)).1
  split at this
  ·rename_i h; rw [if_pos h]; exact this
  ·rename_i h; rw [if_neg h]; exact this
 ·rw [(B2q ws wDt _).1]
  exact (a5Nq F p []).1
theorem acFq {nv:NV} {ws:Ws} {F:Nat}:∀(f:Nat) (p:Rd) (a:List (List Li)),Le p.sg (o4q nv ws F f p a).1.sg
 | 0,p,a=>by rw [o4q]; exact Le.refl _
 | f+1,p,a=>by
  rw [o4q]
  split
  ·rename_i hc
   exact (aeWq p a hc.1).trans (acFq f _ _)
  ·exact Le.refl _
theorem a8Aq {nv:NV} {ws:Ws} {F f:Nat} {p:Rd} {a:List (List Li)} (h:p.g=false):(s5q nv ws F f p a).1.g=false:=by
 cases f with
 | zero=>simp [s5q,Rd.no]
 | succ f=>rw [s5q,if_neg (by simp [h])]; exact h
theorem adbq {nv:NV} {ws:Ws} {F f:Nat} {p:Rd} {a:List (List Li)} (h:p.g=false):(o4q nv ws F f p a).1.g=false:=by
 cases f with
 | zero=>simp [o4q,Rd.no]
 | succ f=>rw [o4q,if_neg (by simp [h])]; exact h
theorem aaZq {nv:NV} {ws:Ws} {F:Nat}:∀(f i i':Nat) (s s':List Sy) (a a':List (List Li)),s5q nv ws F f ⟨i,true,s⟩ a=(⟨i',true,s'⟩,a')->Kn s->o4q nv ws F f ⟨i,true,s⟩ a=(⟨i',true,s'⟩,a')
 | 0,i,i',s,s',a,a',h,_=>by simp [s5q,Rd.no] at h
 | f+1,i,i',s,s',a,a',h,hk=>by
  rw [s5q] at h
  split at h
  ·rename_i hc
   rw [o4q,if_pos hc]
   generalize hT:sSays nv ws F ⟨i,true,s⟩ a=T at h
   obtain ⟨⟨i1,g1,s1⟩,a1⟩:=T
   cases g1 with
   | false =>
    have h1:=a8Aq (nv:=nv) (ws:=ws) (F:=F) (f:=f) (p:=⟨i1,false,s1⟩) (a:=a1) rfl
    simp only at h
    rw [h] at h1; cases h1
   | true =>
    obtain ⟨e,k,_⟩:=agaq hT hk
    rw [e]
    exact aaZq f _ _ _ _ _ _ h k
  ·rename_i hc
   rw [o4q,if_neg hc]; exact h
theorem aeAq {nv:NV} {ws:Ws} {F:Nat}:∀(f i i':Nat) (s s':List Sy) (a a':List (List Li)),o4q nv ws F f ⟨i,true,s⟩ a=(⟨i',true,s'⟩,a')->Kn s->Lm s'->s5q nv ws F f ⟨i,true,s⟩ a=(⟨i',true,s'⟩,a')
 | 0,i,i',s,s',a,a',h,_,_=>by simp [o4q,Rd.no] at h
 | f+1,i,i',s,s',a,a',h,hk,hM=>by
  rw [o4q] at h
  split at h
  ·rename_i hc
   rw [s5q,if_pos hc]
   generalize hT:p6q nv ws F ⟨i,true,s⟩ a=T at h
   obtain ⟨⟨i1,g1,s1⟩,a1⟩:=T
   cases g1 with
   | false =>
    have h1:=adbq (nv:=nv) (ws:=ws) (F:=F) (f:=f) (p:=⟨i1,false,s1⟩) (a:=a1) rfl
    simp only at h
    rw [h] at h1; cases h1
   | true =>
    have hL:Le s1 s':=by have:=acFq (nv:=nv) (ws:=ws) (F:=F) f ⟨i1,true,s1⟩ a1; simp only at h; rw [h] at this; exact this
    obtain ⟨e,k⟩:=agjq hT hk (hM.le hL)
    rw [e]
    exact aeAq f _ _ _ _ _ _ h k hM
  ·rename_i hc
   rw [s5q,if_neg hc]; exact h
abbrev sI (ws:Ws) (p:Rd) (cs:List (List Da)):List (Nat×Ob):=[(2000,.var [.d (.sl (ws.map Tx.da)),.d (.int .i64 (p.i:Int)),.d (.bool p.g),.ol 2001,.ol 2002]),(2001,.lst 104 3 (p.sg.map Sy.da)),(2002,.lst 29 1 cs)]
abbrev sO (ws:Ws) (p:Rd) (cs:List (List Da)):List (Nat×Ob):=[(2000,.var [.d (.sl (ws.map Tx.da)),.d (.int .i64 (p.i:Int)),.d (.bool p.g),.ol 0,.ol 1]),(0,.lst 104 3 (p.sg.map Sy.da)),(1,.lst 29 1 cs)]
theorem aahq (a b:List Tm):Tm.das (a++b)=Tm.das a++Tm.das b:=by simp [Tm.das_map]
theorem aagq {ws:Ws} {i:Nat} (h:i<ws.length):(ws.map Tx.da)[i]?=some [.str (heW ws i)]:=by
 obtain ⟨w,hw⟩:=d4q h
 rw [l0q hw]; unfold heW; rw [hw]; rfl
theorem acNq {ws:Ws} {i:Nat} (h:ws.length<=i):heW ws i=wNo:=by
 unfold heW; rw [aKz h]; rfl
def isW (ws:Ws) (w:Wd) (p:Rd):Rd:=if noW ws p=w then p.to (p.i+1) else p
theorem L5q (ws:Ws) (p:Rd) (cs:List (List Da)):XC pg 189 [.one (.op 2000 0)] (sI ws p cs) (T (noW ws p)) (sO ws p cs):=by
 apply a5Eq
 obtain ⟨i,g,s⟩:=p
 cases g with
 | false=>exact a6q rfl ⟨by rw [abiq],rfl⟩
 | true =>
  refine a3q rfl (b3q (fun h => ?_) fun h => ?_)
  ·rw [a4z] at h
   exact ⟨by rw [m4q,acNq (by simp at h; omega)],rfl⟩
  ·rw [a4z] at h
   exact ⟨i,rfl,_,aagq (by simp at h; omega),by rw [m4q],rfl⟩
theorem s2q (ws:Ws) (hw:ws.length<=3000) (w:Wd) (hn:w≠wNo) (p:Rd) (cs:List (List Da)):XC pg 146 [.one (.op 2000 0),T w] (sI ws p cs) (B (decide (noW ws p=w))) (sO ws (isW ws w p) cs):=by
 apply a7yq
 refine ⟨_,_,_,_,_,_,L5q ws p cs,b3q (fun h => ?_) fun h => ?_⟩
 ·unfold isW; rw [if_neg h]; exact ⟨by rw [decide_eq_false h],rfl⟩
 ·have h:noW ws p=w:=akz h
  have hl:=o0q (ws:=ws) (i:=p.i) (by rw [(a95q h hn).2]; exact hn)
  unfold isW; rw [if_pos h]
  refine ⟨by rw [decide_eq_true h],?_⟩
  rw [wr1 hl (by omega)]; rfl
theorem a7Eq (ws:Ws) (hw:ws.length<=3000) (p:Rd) (hi:p.i<ws.length) (cs:List (List Da)):XC pg 203 [.one (.op 2000 0)] (sI ws p cs) (Z (h8q (ws.drop (p.i+1)) 0 1:Nat)) (sO ws p cs):=by
 apply a4Fq
 rw [wr1 hi (by omega)]
 have key:∀(m j d n:Nat),ws.length-j=m->d<=3000->d+(ws.length-j)<=3000->n+(ws.length-j)<=9000->f0q (Z (h8q (ws.drop j) d n:Nat)) (sO ws p cs) (n:Int) (d:Int) (j:Int) (ws.map Tx.da) (p.i:Int) p.g (p.sg.map Sy.da) cs:=by
  intro m
  induction m with
  | zero =>
   intro j d n hm _ _ _
   apply R4q
   refine a3q (by rw [a4z]; exact j4q (by omega)) ⟨?_,rfl⟩
   rw [List.drop_eq_nil_of_le (by omega)]; rfl
  | succ m ih =>
   intro j d n hm hd hdl hn
   have hj:j<ws.length:=by omega
   obtain ⟨w,hw1⟩:=d4q hj
   have hx:(ws.map Tx.da)[j]?=some [.str w]:=l0q hw1
   have nx:∀d' n':Nat,d'<=3000->d'+(ws.length-(j+1))<=3000->n'+(ws.length-(j+1))<=9000->f0q (Z (h8q (ws.drop (j+1)) d' n':Nat)) (sO ws p cs) (n':Int) (d':Int) (a0z .i64 ((j:Int)+1)) (ws.map Tx.da) (p.i:Int) p.g (p.sg.map Sy.da) cs:=fun d' n' h1 h2 h3=>by
    rw [wr1 hj (by omega)]; exact ih (j+1) d' n' (by omega) h1 h2 h3
   have w1:a0z .i64 ((d:Int)+1)=((d+1:Nat):Int):=wr1 (n:=3001) (by omega) (by omega)
   have w2:a0z .i64 ((n:Int)+1)=((n+1:Nat):Int):=wr1 (n:=9001) (by omega) (by omega)
   have w3:0<d->a0z .i64 ((d:Int)-1)=((d-1:Nat):Int):=fun h=>by rw [wrI (by omega) (by omega)]; omega
   apply R4q
   rw [o5q hw1,h8q]
   have rest:¬w=wLp->¬w=wRp->∀r O,r=Z (h8q (w::ws.drop (j+1)) d n:Nat)->O=sO ws p cs->∃(m:Nat),(j:Int)=(m:Int)/\∃q:ByteArray,(ws.map Tx.da)[m]?=some [.str q]/\ifB (decide (q=wRp)) (f0q r O (n:Int) (a0z .i64 ((d:Int)-1)) (a0z .i64 ((j:Int)+1)) (ws.map Tx.da) (p.i:Int) p.g (p.sg.map Sy.da) cs) (∃(m:Nat),(j:Int)=(m:Int)/\∃q:ByteArray,(ws.map Tx.da)[m]?=some [.str q]/\ifB (decide (q=wCm)) (ifB (decide ((d:Int)=0)) (f0q r O (a0z .i64 ((n:Int)+1)) (d:Int) (a0z .i64 ((j:Int)+1)) (ws.map Tx.da) (p.i:Int) p.g (p.sg.map Sy.da) cs) (f0q r O (n:Int) (d:Int) (a0z .i64 ((j:Int)+1)) (ws.map Tx.da) (p.i:Int) p.g (p.sg.map Sy.da) cs)) (f0q r O (n:Int) (d:Int) (a0z .i64 ((j:Int)+1)) (ws.map Tx.da) (p.i:Int) p.g (p.sg.map Sy.da) cs)):=by
    intro h1 h2 r O er eO
    subst er eO
    rw [h8q,if_neg h1,if_neg h2]
    refine ⟨j,rfl,w,hx,a3q (decide_eq_false h2) ⟨j,rfl,w,hx,b3q (fun h3=>b3q (fun h4 => ?_) fun h4 => ?_) fun h3 => ?_⟩⟩
    ·rw [if_pos ⟨h3,by omega⟩,w2]; exact nx d (n+1) hd (by omega) (by omega)
    ·rw [if_neg (fun e=>h4 (by omega))]; exact nx d n hd (by omega) (by omega)
    ·rw [if_neg (fun e=>h3 e.1)]; exact nx d n hd (by omega) (by omega)
   refine a6q (by rw [a4z]; exact k7q hj) ⟨j,rfl,w,hx,b3q (fun h => ?_) fun h=>⟨j,rfl,w,hx,b3q (fun h2=>b3q (fun h3 => ?_) fun h3=>⟨j,rfl,w,hx,a6q (decide_eq_true h2) ?_⟩) fun h2 => ?_⟩⟩
   ·rw [if_pos h,w1]; exact nx (d+1) n (by omega) (by omega) (by omega)
   ·rw [if_neg h,if_pos h2,if_pos (by omega)]; exact ⟨rfl,rfl⟩
   ·rw [if_neg h,if_pos h2,if_neg (by omega),w3 (by omega)]; exact nx (d-1) n (by omega) (by omega) (by omega)
   ·have:=rest h h2 _ _ rfl rfl
    rw [h8q] at this
    exact this
 exact key _ (p.i+1) 0 1 rfl (by omega) (by omega) (by omega)
open Classical in
theorem a9fq (ws:Ws) (w:Wd) (m:Nat) (p:Rd) (hs:p.sg.length<=10000) (cs:List (List Da)):XC pg 204 [.one (.op 2000 0),T w,Z (m:Int)] (sI ws p cs) (Z (w5q p w m).1) (sO ws (w5q p w m).2 cs):=by
 apply a60q
 refine ⟨_,P2q p.sg w,b3q (fun h0=>⟨_,K3q w,?_⟩) fun h0 => ?_⟩
 ·unfold w5q
  rw [if_pos h0]
  have no:¬(nOk w/\w≠wAc/\m<=3/\p.sg.length<8)->∀r O,r=Z (if nOk w/\w≠wAc/\m<=3/\p.sg.length<8 then ((p.sg.length:Int),(⟨p.i,p.g,p.sg++[⟨w,m,false⟩]⟩:Rd)) else (0,p.no)).1->O=sO ws (if nOk w/\w≠wAc/\m<=3/\p.sg.length<8 then ((p.sg.length:Int),(⟨p.i,p.g,p.sg++[⟨w,m,false⟩]⟩:Rd)) else (0,p.no)).2 cs->Z 0=r/\sO ws p.no cs=O:=fun h r O e1 e2=>by
   rw [if_neg h] at e1 e2; exact ⟨e1.symm,e2.symm⟩
  refine c5q (fun h1 => ?_) fun h1=>b3q (fun h2 => ?_) fun h2=>b3q (fun h3 => ?_) fun h3=>b3q (fun h4 => ?_) fun h4 => ?_
  ·exact no (fun hc=>j1q.1 (l9q h1) hc.1) _ _ rfl rfl
  ·exact no (fun hc=>hc.2.1 h2) _ _ rfl rfl
  ·exact no (fun hc=>by have:=hc.2.2.1; omega) _ _ rfl rfl
  ·exact no (fun hc=>by have:=hc.2.2.2; rw [a4z] at h4; omega) _ _ rfl rfl
  ·rw [a4z] at h4
   rw [if_pos ⟨g9q.1 (j2q h1),h2,by omega,by omega⟩]
   refine ⟨⟨by simp; omega⟩,?_,by simp [sO,Sy.da]⟩
   rw [alz,a4z,wrI (by simp only [a5z,acz]; omega) (by simp only [a5z,acz]; omega)]
   simp
 ·obtain ⟨k,x,hk,hx,hn⟩:=J9q h0
  have hkl:=(a2z.1 hx).1
  have hx1:(p.sg.map Sy.da)[k]?=some [.str x.nm,.int .i64 x.ar,.bool x.ac]:=l0q hx
  have e:w5q p w m=((k:Int),⟨p.i,p.g&&m5q x m,p.sg⟩):=by
   unfold w5q
   rw [if_neg h0,hk,apz,hx]
  rw [e,hk]
  have hl:k<(p.sg.map Sy.da).length:=by simpa using hkl
  have no:m5q x m=false->Z (k:Int)=Z (k:Int)/\sO ws p.no cs=sO ws ⟨p.i,p.g&&m5q x m,p.sg⟩ cs:=fun h=>⟨rfl,by rw [h,bhz]; rfl⟩
  have ok:m5q x m=true->Z (k:Int)=Z (k:Int)/\sO ws p cs=sO ws ⟨p.i,p.g&&m5q x m,p.sg⟩ cs:=fun h=>⟨rfl,by rw [h,aRz]⟩
  refine ⟨k,rfl,⟨hl⟩,k,rfl,_,_,_,hx1,c5q (fun h1=>b3q (fun h2 => ?_) fun h2=>⟨k,rfl,⟨hl⟩,k,rfl,_,_,_,hx1,a3q (by rw [h1]; rfl) ?_⟩) fun h1=>⟨k,rfl,⟨hl⟩,k,rfl,_,_,_,hx1,a6q (by rw [h1]; rfl) ⟨k,rfl,⟨hl⟩,k,rfl,_,_,_,hx1,b3q (fun h2 => ?_) fun h2 => ?_⟩⟩⟩
  ·exact no (by unfold m5q; rw [h1]; simp; omega)
  ·exact ok (by unfold m5q; rw [h1]; simp; omega)
  ·exact no (by unfold m5q; rw [h1]; simpa using h2)
  ·exact ok (by unfold m5q; rw [h1]; simpa using akz h2)
def dgF (s:ByteArray):Nat->Nat->Nat->Option Nat
 | 0,_,n=>some n
 | k+1,i,n=>match s[i]? with
  | some b=>if 48<=b.toNat/\b.toNat<=57 then dgF s k (i+1) (10*n+(b.toNat-48)) else none
  | none=>none
def numE (s:ByteArray):Option Nat->Int×Bool
 | some n=>if dg (n:Int)=s then ((n:Int),true) else (0,false)
 | none=>(0,false)
def b1q (s:ByteArray):Int×Bool:=if s.size<1\/6<s.size then (0,false) else numE s (dgF s s.size 0 0)
theorem a4yq (s:ByteArray):XC pg 202 [T s] [] (.tup [Z (b1q s).1,B (b1q s).2]) []:=by
 apply a66q
 unfold b1q
 refine b3q (fun h=>by rw [if_pos (.inl (by omega))]; exact ⟨rfl,rfl⟩) fun h1=>b3q (fun h=>by rw [if_pos (.inr (by omega))]; exact ⟨rfl,rfl⟩) fun h2 => ?_
 rw [if_neg (by omega)]
 have key:∀k i n:Nat,i+k=s.size->n<10 ^ i->y9q (.tup [Z (numE s (dgF s k i n)).1,B (numE s (dgF s k i n)).2]) [] s (n:Int) (i:Int):=by
  intro k
  induction k with
  | zero =>
   intro i n hk hn
   have hn':n<1000000:=aCz hn (awz (by omega) (show i<=6 by omega))
   apply U0q
   refine a3q (decide_eq_false (by omega)) ⟨_,a4Oq (n:=(n:Int)) ⟨by omega,by omega⟩,?_⟩
   rw [dgF,numE]
   refine b3q (fun h=>by rw [if_neg h]; exact ⟨rfl,rfl⟩) fun h=>by rw [if_pos (akz h)]; exact ⟨rfl,rfl⟩
  | succ k ih =>
   intro i n hk hn
   have hi:i<=5:=by omega
   have hn':n<100000:=aCz hn (awz (by omega) hi)
   obtain ⟨b,hb⟩:=J5q (t:=s) (i:=i) (by omega)
   have bl:=b.toNat_lt
   apply U0q
   have e:dgF s (k+1) i n=if 48<=b.toNat/\b.toNat<=57 then dgF s k (i+1) (10*n+(b.toNat-48)) else none:=by rw [dgF,hb]
   rw [e]
   refine a6q (decide_eq_true (by omega)) ⟨i,b,rfl,hb,b3q (fun h=>by rw [if_neg (by omega)]; exact ⟨rfl,rfl⟩) fun h3=>⟨i,b,rfl,hb,b3q (fun h=>by rw [if_neg (by omega)]; exact ⟨rfl,rfl⟩) fun h4=>⟨i,b,rfl,hb,?_⟩⟩⟩
   rw [if_pos ⟨by omega,by omega⟩]
   have w1:a0z .i64 (a0z .i64 (a0z .i64 (10*(n:Int))+a0z .i64 (b.toNat:Int))-48)=((10*n+(b.toNat-48):Nat):Int):=by
    rw [wrI (x:=10*(n:Int)) (by omega) (by omega),wrI (x:=(b.toNat:Int)) (by omega) (by omega),wrI (x:=10*(n:Int)+(b.toNat:Int)) (by omega) (by omega),wrI (by omega) (by omega)]
    omega
   have w2:a0z .i64 ((i:Int)+1)=((i+1:Nat):Int):=wr1 (n:=7) (by omega) (by omega)
   rw [w1,w2]
   exact ih (i+1) _ (by omega) (by rw [aVz]; omega)
 exact key s.size 0 0 (by omega) (by decide)
theorem a4Mq (s:ByteArray):XC pg 186 [T s] [] (.tup [Z (b1q s).1,B (b1q s).2]) []:=by
 apply a5Gq
 unfold b1q
 refine b3q (fun h=>by rw [if_pos (.inl (by rw [h]; decide))]; exact ⟨rfl,rfl⟩) fun h1=>b3q (fun h=>by rw [if_pos (.inr (by omega))]; exact ⟨rfl,rfl⟩) fun h2 => ?_
 have hz:s.size≠0:=fun h=>h1 (by apply axz; exact aLz h)
 rw [if_neg (by omega)]
 have key:∀k i n:Nat,i+k=s.size->n<10 ^ i->A0q (.tup [Z (numE s (dgF s k i n)).1,B (numE s (dgF s k i n)).2]) [] s (n:Int) (s.size:Int) (i:Int):=by
  intro k
  induction k with
  | zero =>
   intro i n hk hn
   have hn':n<1000000:=aCz hn (awz (by omega) (show i<=6 by omega))
   apply T8q
   refine a3q (decide_eq_false (by omega)) ⟨_,a4Zq (n:=(n:Int)) ⟨by omega,by omega⟩,?_⟩
   rw [dgF,numE]
   refine b3q (fun h=>by rw [if_neg h]; exact ⟨rfl,rfl⟩) fun h=>by rw [if_pos (akz h)]; exact ⟨rfl,rfl⟩
  | succ k ih =>
   intro i n hk hn
   have hi:i<=5:=by omega
   have hn':n<100000:=aCz hn (awz (by omega) hi)
   obtain ⟨b,hb⟩:=J5q (t:=s) (i:=i) (by omega)
   have bl:=b.toNat_lt
   apply T8q
   have e:dgF s (k+1) i n=if 48<=b.toNat/\b.toNat<=57 then dgF s k (i+1) (10*n+(b.toNat-48)) else none:=by rw [dgF,hb]
   rw [e]
   refine a6q (decide_eq_true (by omega)) ⟨i,b,rfl,hb,b3q (fun h=>by rw [if_neg (by omega)]; exact ⟨rfl,rfl⟩) fun h3=>⟨i,b,rfl,hb,b3q (fun h=>by rw [if_neg (by omega)]; exact ⟨rfl,rfl⟩) fun h4=>⟨i,b,rfl,hb,?_⟩⟩⟩
   rw [if_pos ⟨by omega,by omega⟩]
   have w1:a0z .i64 (a0z .i64 (10*(n:Int))+a0z .i64 (a0z .u8 ((b.toNat:Int)-48)))=((10*n+(b.toNat-48):Nat):Int):=by
    rw [wrI (x:=10*(n:Int)) (by omega) (by omega),wrU8 (x:=(b.toNat:Int)-48) (by omega) (by omega),wrI (x:=(b.toNat:Int)-48) (by omega) (by omega),wrI (by omega) (by omega)]
    omega
   have w2:a0z .i64 ((i:Int)+1)=((i+1:Nat):Int):=wr1 (n:=7) (by omega) (by omega)
   rw [w1,w2]
   exact ih (i+1) _ (by omega) (by rw [aVz]; omega)
 exact key s.size 0 0 (by omega) (by decide)
theorem acGq (p:Rd) (w:Wd) (m:Nat) (hs:p.sg.length<=8):(w5q p w m).2.i=p.i/\(w5q p w m).2.sg.length<=8/\((w5q p w m).2.g=true->p.g=true):=by
 unfold w5q
 split
 ·split
  ·rename_i h; exact ⟨rfl,by simp; omega,id⟩
  ·exact ⟨rfl,hs,fun h=>by simp [Rd.no] at h⟩
 ·split
  ·exact ⟨rfl,hs,fun h=>by simp at h; exact h.1⟩
  ·exact ⟨rfl,hs,id⟩
theorem r5q {ws:Ws} {p:Rd} (h:noW ws p≠wNo):p.i<ws.length/\p.g=true:=by
 unfold noW at h
 split at h
 ·rename_i hg; exact ⟨o0q h,hg⟩
 ·exact absurd rfl h
theorem a7Uq (nv:NV) (ws:Ws):∀f:Nat,
  (∀p:Rd,p.i<=ws.length->p.sg.length<=8->(c4q nv ws f p).2.i<=ws.length/\(c4q nv ws f p).2.sg.length<=8/\p.i<=(c4q nv ws f p).2.i/\((c4q nv ws f p).2.g=true->p.i+1<=(c4q nv ws f p).2.i)) /\
  (∀(p:Rd) (a:List Tm),p.i<=ws.length->p.sg.length<=8->(sKids nv ws f p a).2.i<=ws.length/\(sKids nv ws f p a).2.sg.length<=8/\p.i<=(sKids nv ws f p a).2.i)
 | 0=>⟨fun p h1 h2=>by rw [c4q]; exact ⟨h1,h2,a3z _,fun h=>by simp [Rd.no] at h⟩,fun p a h1 h2=>by rw [sKids]; exact ⟨h1,h2,a3z _⟩⟩
 | f+1=>by
  obtain ⟨ihT,ihK⟩:=a7Uq nv ws f
  refine ⟨fun p h1 h2 => ?_,fun p a h1 h2 => ?_⟩
  ·rw [c4q]
   split
   ·exact ⟨h1,h2,a3z _,fun h=>by simp [Rd.no] at h⟩
   ·rename_i hn
    have hl:=(r5q hn).1
    split
    ·exact ⟨hl,h2,agz _,fun _=>a3z _⟩
    ·have hs:=acGq (p.to (p.i+1)) (noW ws p) (w7q ws (p.to (p.i+1))) h2
     change (sHd ws p).2.i=p.i+1/\(sHd ws p).2.sg.length<=8/\_ at hs
     split
     ·rename_i hlp
      have hl2:=(r5q (ws:=ws) (p:=(sHd ws p).2) (by rw [hlp]; decide)).1
      rw [hs.1] at hl2
      have:=ihK ((sHd ws p).2.to (p.i+2)) [] hl2 hs.2.1
      have h3:((sHd ws p).2.to (p.i+2)).i=p.i+2:=rfl
      rw [h3] at this
      exact ⟨this.1,this.2.1,aez (by omega) this.2.2,fun _=>aez (by omega) this.2.2⟩
     ·exact ⟨by rw [hs.1]; exact hl,hs.2.1,by rw [hs.1]; omega,fun _=>by rw [hs.1]; exact a3z _⟩
  ·rw [sKids]
   split
   ·exact ⟨h1,h2,a3z _⟩
   ·have hT:=ihT p h1 h2
    split
    ·rename_i hr
     have hl:=(r5q (ws:=ws) (p:=(c4q nv ws f p).2) (by rw [hr]; decide)).1
     exact ⟨hl,hT.2.1,by show p.i<=(c4q nv ws f p).2.i+1; omega⟩
    ·split
     ·rename_i hr
      have hl:=(r5q (ws:=ws) (p:=(c4q nv ws f p).2) (by rw [hr]; decide)).1
      have:=ihK ((c4q nv ws f p).2.to ((c4q nv ws f p).2.i+1)) (a++[(c4q nv ws f p).1]) hl hT.2.1
      have h3:((c4q nv ws f p).2.to ((c4q nv ws f p).2.i+1)).i=(c4q nv ws f p).2.i+1:=rfl
      rw [h3] at this
      exact ⟨this.1,this.2.1,by omega⟩
     ·exact ⟨hT.1,hT.2.1,hT.2.2.1⟩
theorem a6Nq (f:Int) (ks:List (List Da)):XC pg 165 [Z f,L ks] [] (.dat [.int .i64 f,.int .i64 0,.sl ks]) []:=a8Oq ⟨rfl,rfl⟩
theorem aaIq (v:Int):XC pg 166 [Z v] [] (.dat [.int .i64 (-1),.int .i64 v,.sl []]) []:=a75q ⟨rfl,rfl⟩
theorem U8q {ws:Ws} {w:Wd} {p:Rd} (h:noW ws p=w):isW ws w p=p.to (p.i+1):=by unfold isW; rw [if_pos h]
theorem V6q {ws:Ws} {w:Wd} {p:Rd} (h:¬noW ws p=w):isW ws w p=p:=by unfold isW; rw [if_neg h]
theorem acaq (ws:Ws) (hw:ws.length<=3000) (cs:List (List Da)):∀f:Nat,
  (∀p:Rd,p.i<=ws.length->p.sg.length<=8->2*(ws.length-p.i)+1<=f->XC pg 190 [.one (.op 2000 0)] (sI ws p cs) (.dat (c4q b1q ws f p).1.da) (sO ws (c4q b1q ws f p).2 cs)) /\
  (∀(p:Rd) (a:List Tm),p.i<=ws.length->p.sg.length<=8->2*(ws.length-p.i)+2<=f->a.length<=p.i->t0q (L (Tm.das (sKids b1q ws f p a).1)) (sO ws (sKids b1q ws f p a).2 cs) (ws.map Tx.da) (p.i:Int) p.g (Tm.das a) (p.sg.map Sy.da) cs)
 | 0=>⟨fun p _ _ h=>by omega,fun p a _ _ h=>by omega⟩
 | f+1=>by
  obtain ⟨ihT,ihK⟩:=acaq ws hw cs f
  refine ⟨fun p hi hs hf => ?_,fun p a hi hs hf ha => ?_⟩
  ·apply a5fq
   refine ⟨_,_,_,_,_,_,L5q ws p cs,?_⟩
   rw [c4q]
   refine b3q (fun h=>by rw [if_pos h]; exact ⟨rfl,rfl⟩) fun hn => ?_
   rw [if_neg hn]
   obtain ⟨hl,hg⟩:=r5q hn
   have w1:a0z .i64 ((p.i:Int)+1)=((p.i+1:Nat):Int):=wr1 hl (by omega)
   obtain ⟨b,hb⟩:=J5q (t:=noW ws p) (i:=0) (by
    rcases aBz (noW ws p).size with h | h
    ·exact absurd (axz (aLz h)) hn
    ·exact h)
   have hb0:=aeUq hb
   refine ⟨0,b,rfl,hb,b3q (fun h => ?_) fun h => ?_⟩
   ·have hX:isX (noW ws p)=true:=by unfold isX; rw [hb]; simp; omega
    rw [if_pos hX]
    have hN:=a4yq (L2q (noW ws p))
    refine ⟨1,rfl,⟨by omega,a3z _⟩,_,_,hN,?_⟩
    have hv:=aaIq (b1q (L2q (noW ws p))).1
    unfold vOk
    rw [w1,hg]
    refine a6q rfl (c5q (fun h2=>⟨_,_,_,hv,rfl,?_⟩) fun h2=>⟨_,_,_,hv,rfl,?_⟩)
    ·rw [h2]; rfl
    ·rw [h2]; rfl
   ·have hX:¬isX (noW ws p)=true:=by unfold isX; rw [hb]; simp; omega
    rw [if_neg hX]
    have hN1:=L5q ws (p.to (p.i+1)) cs
    have hfi:=acGq (p.to (p.i+1)) (noW ws p) (w7q ws (p.to (p.i+1))) hs
    change (sHd ws p).2.i=p.i+1/\(sHd ws p).2.sg.length<=8/\_ at hfi
    have hF:=a9fq ws (noW ws p) (w7q ws (p.to (p.i+1))) (p.to (p.i+1)) (by show p.sg.length<=10000; omega) cs
    change XC _ _ _ _ (Z (sHd ws p).1) (sO ws (sHd ws p).2 cs) at hF
    have hI:=s2q ws hw wLp (by decide) (sHd ws p).2 cs
    have tail:ifB (!decide (noW ws (sHd ws p).2=wLp))
      (∃(n1 n2:Int) (xs:List (List Da)),XC pg 165 [Z (sHd ws p).1,L []] [] (.dat [.int .i64 n1,.int .i64 n2,.sl xs]) []/\Go.Proofs.YtmgfoalfimpkjaaGreat.AM.AV.dat [.int .i64 n1,.int .i64 n2,.sl xs] = .dat (if noW ws (sHd ws p).2=wLp then (Tm.mk (sHd ws p).1 0 (sKids b1q ws f ((sHd ws p).2.to (p.i+2)) []).1,(sKids b1q ws f ((sHd ws p).2.to (p.i+2)) []).2) else (Tm.mk (sHd ws p).1 0 [],(sHd ws p).2)).1.da/\sO ws (isW ws wLp (sHd ws p).2) cs=sO ws (if noW ws (sHd ws p).2=wLp then (Tm.mk (sHd ws p).1 0 (sKids b1q ws f ((sHd ws p).2.to (p.i+2)) []).1,(sKids b1q ws f ((sHd ws p).2.to (p.i+2)) []).2) else (Tm.mk (sHd ws p).1 0 [],(sHd ws p).2)).2 cs)
      (∃(ks:List (List Da)) (xs:List (List Da)) (m:Int) (g:Bool) (s:List (List Da)) (c:List (List Da)),XC pg 205 [.one (.op 2000 0)] (sI ws (isW ws wLp (sHd ws p).2) cs) (L ks) [(2000,.var [.d (.sl xs),.d (.int .i64 m),.d (.bool g),.ol 0,.ol 1]),(0,.lst 104 3 s),(1,.lst 29 1 c)]/\∃(n1 n2:Int) (ys:List (List Da)),XC pg 165 [Z (sHd ws p).1,L ks] [] (.dat [.int .i64 n1,.int .i64 n2,.sl ys]) []/\Go.Proofs.YtmgfoalfimpkjaaGreat.AM.AV.dat [.int .i64 n1,.int .i64 n2,.sl ys] = .dat (if noW ws (sHd ws p).2=wLp then (Tm.mk (sHd ws p).1 0 (sKids b1q ws f ((sHd ws p).2.to (p.i+2)) []).1,(sKids b1q ws f ((sHd ws p).2.to (p.i+2)) []).2) else (Tm.mk (sHd ws p).1 0 [],(sHd ws p).2)).1.da/\[(2000,Ob.var [.d (.sl xs),.d (.int .i64 m),.d (.bool g),.ol 0,.ol 1]),(0,.lst 104 3 s),(1,.lst 29 1 c)]=sO ws (if noW ws (sHd ws p).2=wLp then (Tm.mk (sHd ws p).1 0 (sKids b1q ws f ((sHd ws p).2.to (p.i+2)) []).1,(sKids b1q ws f ((sHd ws p).2.to (p.i+2)) []).2) else (Tm.mk (sHd ws p).1 0 [],(sHd ws p).2)).2 cs):=by
     by_cases h2:noW ws (sHd ws p).2=wLp
     ·rw [if_pos h2,U8q h2,hfi.1]
      have hl2:=(r5q (ws:=ws) (p:=(sHd ws p).2) (by rw [h2]; decide)).1
      rw [hfi.1] at hl2
      have hK:=ihK ((sHd ws p).2.to (p.i+2)) [] hl2 hfi.2.1 (by show 2*(ws.length-(p.i+2))+2<=f; omega) (a8z _)
      exact a3q (by rw [h2]; rfl) ⟨_,_,_,_,_,_,a4Tq hK,_,_,_,a6Nq _ _,rfl,rfl⟩
     ·rw [if_neg h2,V6q h2]
      exact a6q (by rw [decide_eq_false h2]; rfl) ⟨_,_,_,a6Nq _ _,rfl,rfl⟩
    refine ⟨_,_,_,_,_,_,by rw [w1]; exact hN1,?_⟩
    by_cases h3:noW ws (p.to (p.i+1))=wLp
    ·have hl3:=(r5q (ws:=ws) (p:=p.to (p.i+1)) (by rw [h3]; decide)).1
     have hM:=a7Eq ws hw (p.to (p.i+1)) hl3 cs
     have hm:w7q ws (p.to (p.i+1))=h8q (ws.drop ((p.to (p.i+1)).i+1)) 0 1:=by unfold w7q; rw [if_pos h3]
     rw [<-hm] at hM
     exact a6q (decide_eq_true h3) ⟨_,_,_,_,_,_,hM,_,_,_,_,_,_,hF,_,_,_,_,_,_,hI,tail⟩
    ·have hm:w7q ws (p.to (p.i+1))=0:=by unfold w7q; rw [if_neg h3]
     rw [hm] at hF
     exact a3q (decide_eq_false h3) ⟨_,_,_,_,_,_,hF,_,_,_,_,_,_,hI,tail⟩
  ·obtain ⟨i,g,s⟩:=p
   apply Q9q
   rw [sKids]
   cases g with
   | false=>exact a3q rfl ⟨by rw [if_pos rfl],by rw [if_pos rfl]⟩
   | true =>
    rw [if_neg (by simp)]
    have hT:=ihT ⟨i,true,s⟩ hi hs (by show 2*(ws.length-i)+1<=f; change 2*(ws.length-i)+2<=f+1 at hf; omega)
    have hv:=(a7Uq b1q ws f).1 ⟨i,true,s⟩ hi hs
    generalize c4q b1q ws f ⟨i,true,s⟩=T at hT hv ⊢
    obtain ⟨⟨tf,tv,tk⟩,p2⟩:=T
    have hI1:=s2q ws hw wRp (by decide) p2 cs
    have ed:Tm.das a++[[.int .i64 tf,.int .i64 tv,.sl (Tm.das tk)]]=Tm.das (a++[Tm.mk tf tv tk]):=by rw [aahq]; rfl
    have ha:a.length<=i:=ha
    have hi:i<=ws.length:=hi
    refine a6q rfl ⟨_,_,_,_,_,_,_,_,hT,⟨by rw [d3q]; simp; omega⟩,_,_,_,_,_,_,hI1,?_⟩
    rw [ed]
    by_cases h1:noW ws p2=wRp
    ·rw [if_pos h1,U8q h1]
     exact a6q (decide_eq_true h1) ⟨rfl,rfl⟩
    ·rw [if_neg h1,V6q h1]
     have hI2:=s2q ws hw wCm (by decide) p2 cs
     refine a3q (decide_eq_false h1) ⟨_,_,_,_,_,_,hI2,?_⟩
     by_cases h2:noW ws p2=wCm
     ·rw [if_pos h2,U8q h2]
      obtain ⟨hl2,hg2⟩:=r5q (ws:=ws) (p:=p2) (by rw [h2]; decide)
      have hf:2*(ws.length-i)+2<=f+1:=hf
      have h4:i+1<=p2.i:=hv.2.2.2 hg2
      have:=ihK (p2.to (p2.i+1)) (a++[Tm.mk tf tv tk]) hl2 hv.2.1 (by show 2*(ws.length-(p2.i+1))+2<=f; omega) (by show (a++[Tm.mk tf tv tk]).length<=p2.i+1; simp; omega)
      exact a3q (by rw [h2]; rfl) this
     ·rw [if_neg h2,V6q h2]
      refine a6q (by rw [decide_eq_false h2]; rfl) ?_
      apply Q9q
      exact a3q rfl ⟨rfl,rfl⟩
theorem a8yq (ws:Ws) (F:Nat) (p:Rd) (h1:p.i<=ws.length) (h2:p.sg.length<=8):(q8q b1q ws F p).2.i<=ws.length/\(q8q b1q ws F p).2.sg.length<=8/\p.i<=(q8q b1q ws F p).2.i/\((q8q b1q ws F p).2.g=true->p.i+1<=(q8q b1q ws F p).2.i):=by
 have T:=(a7Uq b1q ws F).1
 have nx:∀(q:Rd) (w:Wd),w≠wNo->noW ws q=w->q.sg.length<=8->(c4q b1q ws F (q.to (q.i+1))).2.i<=ws.length/\(c4q b1q ws F (q.to (q.i+1))).2.sg.length<=8/\q.i+1<=(c4q b1q ws F (q.to (q.i+1))).2.i:=fun q w hw hq hs=>by
  have hl:=(r5q (ws:=ws) (p:=q) (by rw [hq]; exact hw)).1
  have:=T (q.to (q.i+1)) hl hs
  exact ⟨this.1,this.2.1,this.2.2.1⟩
 unfold q8q
 split
 ·rename_i h
  have:=nx p wTi (by decide) h h2
  exact ⟨this.1,this.2.1,aez (agz _) this.2.2,fun _=>this.2.2⟩
 ·have hT:=T p h1 h2
  split
  ·rename_i h
   have:=nx _ wEq (by decide) h hT.2.1
   exact ⟨this.1,this.2.1,aez hT.2.2.1 (aEz this.2.2),fun _=>aez (aSz hT.2.2.1) this.2.2⟩
  ·split
   ·rename_i h
    have:=nx _ wNe (by decide) h hT.2.1
    exact ⟨this.1,this.2.1,aez hT.2.2.1 (aEz this.2.2),fun _=>aez (aSz hT.2.2.1) this.2.2⟩
   ·exact hT
theorem a6Pq (ws:Ws) (F:Nat):∀(f:Nat) (p:Rd) (a:List Li),p.i<=ws.length->p.sg.length<=8->(r0q b1q ws F f p a).2.i<=ws.length/\(r0q b1q ws F f p a).2.sg.length<=8/\p.i<=(r0q b1q ws F f p a).2.i
 | 0,p,a,h1,h2=>by rw [r0q]; exact ⟨h1,h2,a3z _⟩
 | f+1,p,a,h1,h2=>by
  have hT:=a8yq ws F p h1 h2
  rw [r0q]
  split
  ·exact ⟨h1,h2,a3z _⟩
  ·split
   ·rename_i h
    have hl:=(r5q (ws:=ws) (p:=(q8q b1q ws F p).2) (by rw [h]; decide)).1
    have:=a6Pq ws F f ((q8q b1q ws F p).2.to ((q8q b1q ws F p).2.i+1)) (a++[(q8q b1q ws F p).1]) hl hT.2.1
    exact ⟨this.1,this.2.1,aez (ahz hT.2.2.1) this.2.2⟩
   ·exact ⟨hT.1,hT.2.1,hT.2.2.1⟩
theorem a5rq (ws:Ws):∀(f:Nat) (p:Rd) (m:Nat),p.i<=ws.length->p.sg.length<=8->(r2q ws f p m).i<=ws.length/\(r2q ws f p m).sg.length<=8/\p.i<=(r2q ws f p m).i
 | 0,p,m,h1,h2=>by rw [r2q]; exact ⟨h1,h2,a3z _⟩
 | f+1,p,m,h1,h2=>by
  rw [r2q]
  split
  ·split
   ·rename_i h3 h
    have hl:=o0q (ws:=ws) (i:=p.i) (R0q h.1.1).1
    have:=a5rq ws f ⟨p.i+1,p.g,p.sg++[⟨heW ws p.i,2,true⟩]⟩ (m+1) hl (by simp; omega)
    exact ⟨this.1,this.2.1,aez (agz _) this.2.2⟩
   ·exact ⟨h1,h2,a3z _⟩
  ·exact ⟨h1,h2,a3z _⟩
theorem ad2q (ws:Ws) (F:Nat) (p:Rd) (a:List (List Li)) (h1:p.i<=ws.length) (h2:p.sg.length<=8):(sSays b1q ws F p a).1.i<=ws.length/\(sSays b1q ws F p a).1.sg.length<=8/\((sSays b1q ws F p a).1.g=true->p.i+1<=(sSays b1q ws F p a).1.i)/\(sSays b1q ws F p a).2.length<=a.length+1:=by
 have nd:∀x:Rd,x.i<=ws.length->x.sg.length<=8->p.i<=x.i->(sSays.qNeedS ws x).i<=ws.length/\(sSays.qNeedS ws x).sg.length<=8/\((sSays.qNeedS ws x).g=true->p.i+1<=(sSays.qNeedS ws x).i):=fun x g1 g2 g3=>by
  unfold sSays.qNeedS
  split
  ·rename_i h
   exact ⟨(r5q (ws:=ws) (p:=x) (by rw [h]; decide)).1,g2,fun _=>aSz g3⟩
  ·exact ⟨g1,g2,fun h=>by simp [Rd.no] at h⟩
 unfold sSays
 split
 ·rename_i h
  have hl:=(r5q (ws:=ws) (p:=p) (by rw [h]; decide)).1
  have:=a5rq ws F (p.to (p.i+1)) 0 hl h2
  obtain ⟨g1,g2,g3⟩:=nd _ this.1 this.2.1 (aez (agz _) this.2.2)
  exact ⟨g1,g2,g3,agz _⟩
 ·have:=a6Pq ws F F p [] h1 h2
  obtain ⟨g1,g2,g3⟩:=nd _ this.1 this.2.1 this.2.2
  exact ⟨g1,g2,g3,by simp⟩
theorem a8gq (ws:Ws) (hw:ws.length<=3000) (F:Nat) (hF:2*ws.length+2<=F) (p:Rd) (hi:p.i<=ws.length) (hs:p.sg.length<=8) (cs:List (List Da)):XC pg 148 [.one (.op 2000 0)] (sI ws p cs) (.dat (q8q b1q ws F p).1.da) (sO ws (q8q b1q ws F p).2 cs):=by
 have T:=fun (q:Rd) h1 h2=>(acaq ws hw cs F).1 q h1 h2 (by omega)
 have hI:=s2q ws hw wTi (by decide) p cs
 apply a5yq
 refine ⟨_,_,_,_,_,_,hI,?_⟩
 unfold q8q
 by_cases h:noW ws p=wTi
 ·rw [if_pos h,U8q h]
  have hl:=(r5q (ws:=ws) (p:=p) (by rw [h]; decide)).1
  have hT:=T (p.to (p.i+1)) hl hs
  generalize c4q b1q ws F (p.to (p.i+1))=t at hT ⊢
  obtain ⟨⟨tf,tv,tk⟩,p2⟩:=t
  exact a6q (decide_eq_true h) ⟨_,_,_,_,_,_,_,_,hT,rfl,rfl⟩
 ·rw [if_neg h,V6q h]
  have hT:=T p hi hs
  have hv:=(a7Uq b1q ws F).1 p hi hs
  generalize c4q b1q ws F p=t at hT hv ⊢
  obtain ⟨⟨tf,tv,tk⟩,p2⟩:=t
  have hI1:=s2q ws hw wEq (by decide) p2 cs
  refine a3q (decide_eq_false h) ⟨_,_,_,_,_,_,_,_,hT,_,_,_,_,_,_,hI1,?_⟩
  by_cases h1:noW ws p2=wEq
  ·rw [if_pos h1,U8q h1]
   have hl:=(r5q (ws:=ws) (p:=p2) (by rw [h1]; decide)).1
   have hT2:=T (p2.to (p2.i+1)) hl hv.2.1
   generalize c4q b1q ws F (p2.to (p2.i+1))=t2 at hT2 ⊢
   obtain ⟨⟨uf,uv,uk⟩,p3⟩:=t2
   exact a6q (decide_eq_true h1) ⟨_,_,_,_,_,_,_,_,hT2,by rw [decide_eq_true h1]; rfl,rfl⟩
  ·rw [if_neg h1,V6q h1]
   have hI2:=s2q ws hw wNe (by decide) p2 cs
   refine a3q (decide_eq_false h1) ⟨_,_,_,_,_,_,hI2,?_⟩
   by_cases h2:noW ws p2=wNe
   ·rw [if_pos h2,U8q h2]
    have hl:=(r5q (ws:=ws) (p:=p2) (by rw [h2]; decide)).1
    have hT2:=T (p2.to (p2.i+1)) hl hv.2.1
    generalize c4q b1q ws F (p2.to (p2.i+1))=t2 at hT2 ⊢
    obtain ⟨⟨uf,uv,uk⟩,p3⟩:=t2
    exact a6q (decide_eq_true h2) ⟨_,_,_,_,_,_,_,_,hT2,by rw [decide_eq_false h1]; rfl,rfl⟩
   ·rw [if_neg h2,V6q h2]
    exact a3q (decide_eq_false h2) ⟨rfl,rfl⟩
open Classical in
theorem a15q (ws:Ws) (hw:ws.length<=3000) (cs:List (List Da)):∀(f:Nat) (p:Rd) (m:Nat),p.i<=ws.length->p.sg.length<=8->ws.length-p.i<f->m<=p.i->u8q (.tup []) (sO ws (r2q ws f p m) cs) (m:Int) (ws.map Tx.da) (p.i:Int) p.g (p.sg.map Sy.da) cs
 | 0,p,m,_,_,h,_=>by omega
 | f+1,⟨i,g,s⟩,m,hi,hs,hf,hm=>by
  apply a25q
  rw [r2q]
  have hi:i<=ws.length:=hi
  have hm:m<=i:=hm
  cases g with
  | false =>
   rw [if_neg (by simp)]
   exact a3q rfl (a3q rfl ⟨rfl,rfl⟩)
  | true =>
   have hN:=L5q ws ⟨i,true,s⟩ cs
   rw [m4q] at hN
   refine a6q rfl ⟨_,_,_,_,_,_,hN,b3q (fun h => ?_) fun h => ?_⟩
   ·rw [if_pos ⟨rfl,h⟩]
    have no:¬(G1q s (heW ws i)/\s.length<8)->∀O,O=sO ws (if G1q s (heW ws i)/\s.length<8 then r2q ws f ⟨i+1,true,s++[⟨heW ws i,2,true⟩]⟩ (m+1) else (⟨i,true,s⟩:Rd).no) cs->(.tup []:AV) = .tup []/\sO ws ⟨i,false,s⟩ cs=O:=fun hn O e=>⟨rfl,by rw [e,if_neg hn]; rfl⟩
    refine ⟨_,_,_,_,_,_,hN,_,K3q _,c5q (fun h1 => ?_) fun h1=>b3q (fun h2 => ?_) fun h2=>⟨_,P2q s _,b3q (fun h3 => ?_) fun h3=>b3q (fun h4 => ?_) fun h4 => ?_⟩⟩
    ·exact no (fun hc=>j1q.1 (l9q h1) hc.1.1) _ rfl
    ·exact no (fun hc=>hc.1.2.1 h2) _ rfl
    ·have h3:(0:Int)<=e7q s (heW ws i) 0:=h3
     exact no (fun hc=>by have:=hc.1.2.2; omega) _ rfl
    ·rw [a4z] at h4
     have h4:(8:Int)<=(s.length:Int):=h4
     exact no (fun hc=>by have:=hc.2; omega) _ rfl
    ·rw [a4z] at h4
     have h3:¬(0:Int)<=e7q s (heW ws i) 0:=h3
     have h4:¬(8:Int)<=(s.length:Int):=h4
     have hn:=g9q.1 (j2q h1)
     have hc:G1q s (heW ws i)/\s.length<8:=⟨⟨hn,h2,by omega⟩,by omega⟩
     have hl:=o0q (ws:=ws) (i:=i) (R0q hn).1
     have w1:a0z .i64 ((i:Int)+1)=((i+1:Nat):Int):=wr1 hl (by omega)
     have w2:a0z .i64 ((m:Int)+1)=((m+1:Nat):Int):=wr1 (n:=3001) (by omega) (by omega)
     rw [if_pos hc,w1,w2]
     have:=a15q ws hw cs f ⟨i+1,true,s++[⟨heW ws i,2,true⟩]⟩ (m+1) hl (by simp; omega) (by show ws.length-(i+1)<f; change ws.length-i<f+1 at hf; omega) (by show m+1<=i+1; omega)
     rw [show (s.map Sy.da++[[.str (heW ws i),.int .i64 2,.bool true]])=(s++[(⟨heW ws i,2,true⟩:Sy)]).map Sy.da by simp [Sy.da]]
     exact ⟨⟨by simp only [a4z,a5z,acz]; omega⟩,this⟩
   ·rw [if_neg (fun hc=>h hc.2)]
    refine a6q rfl ⟨rfl,?_⟩
    by_cases h0:0<m
    ·simp [h0]
    ·simp [h0]
abbrev k8q (a:List (List Li)):List (List Da):=a.map fun l=>[Da.sl (l.map Li.da)]
theorem a1nq (ws:Ws) (hw:ws.length<=3000) (x:Rd) (cs:List (List Da)):ifB x.g (∃(b:Bool) (xs:List (List Da)) (m:Int) (b1:Bool) (s c:List (List Da)),XC pg 146 [.one (.op 2000 0),T wDt] (sI ws x cs) (B b) [(2000,.var [.d (.sl xs),.d (.int .i64 m),.d (.bool b1),.ol 0,.ol 1]),(0,.lst 104 3 s),(1,.lst 29 1 c)]/\((.tup []:AV) = .tup []/\[(2000,Ob.var [.d (.sl xs),.d (.int .i64 m),.d (.bool b),.ol 0,.ol 1]),(0,.lst 104 3 s),(1,.lst 29 1 c)]=sO ws (sSays.qNeedS ws x) cs))
  ((.tup []:AV) = .tup []/\sO ws x.no cs=sO ws (sSays.qNeedS ws x) cs):=by
 have hI:=s2q ws hw wDt (by decide) x cs
 unfold sSays.qNeedS
 refine c5q (fun hg=>⟨_,_,_,_,_,_,hI,rfl,?_⟩) fun hg=>⟨rfl,?_⟩
 ·by_cases h:noW ws x=wDt
  ·rw [if_pos h,U8q h,decide_eq_true h]
   simp [sO,Rd.to,hg]
  ·rw [if_neg h,V6q h,decide_eq_false h]; rfl
 ·rw [if_neg (fun h=>by have:=(r5q (ws:=ws) (p:=x) (by rw [h]; decide)).2; rw [hg] at this; cases this)]
theorem a1Kq (ws:Ws) (hw:ws.length<=3000) (F:Nat) (hF:2*ws.length+2<=F) (cs:List (List Da)) (hcs:cs.length<=3000):∀(f:Nat) (p:Rd) (a:List Li),p.i<=ws.length->p.sg.length<=8->ws.length-p.i<f->a.length<=p.i->x4q (.tup []) (sO ws (sSays.qNeedS ws (r0q b1q ws F f p a).2) (cs++[[.sl ((r0q b1q ws F f p a).1.map Li.da)]])) (ws.map Tx.da) (p.i:Int) p.g (a.map Li.da) (p.sg.map Sy.da) cs
 | 0,p,a,_,_,h,_=>by omega
 | f+1,p,a,hi,hs,hf,ha=>by
  apply a2bq
  rw [r0q]
  refine c5q (fun hg => ?_) fun hg => ?_
  ·rw [if_neg (by simp [hg])]
   have hL:=a8gq ws hw F hF p hi hs cs
   have hv:=a8yq ws F p hi hs
   generalize q8q b1q ws F p=l at hL hv ⊢
   obtain ⟨⟨lp,⟨lf,lv,lk⟩,⟨rf,rv,rk⟩⟩,p2⟩:=l
   have hI:=s2q ws hw wBr (by decide) p2 cs
   have ed:a.map Li.da++[[.bool lp,.int .i64 lf,.int .i64 lv,.sl (Tm.das lk),.int .i64 rf,.int .i64 rv,.sl (Tm.das rk)]]=(a++[(⟨lp,⟨lf,lv,lk⟩,⟨rf,rv,rk⟩⟩:Li)]).map Li.da:=by rw [aNz]; rfl
   refine ⟨_,_,_,_,_,_,_,_,_,_,_,_,hL,⟨by simp only [a4z,a5z,acz]; omega⟩,_,_,_,_,_,_,hI,?_⟩
   rw [ed]
   by_cases h1:noW ws p2=wBr
   ·rw [if_pos h1,U8q h1]
    have hl:=(r5q (ws:=ws) (p:=p2) (by rw [h1]; decide)).1
    have h4:p.i<=p2.i:=hv.2.2.1
    have:=a1Kq ws hw F hF cs hcs f (p2.to (p2.i+1)) (a++[⟨lp,⟨lf,lv,lk⟩,⟨rf,rv,rk⟩⟩]) hl hv.2.1 (by show ws.length-(p2.i+1)<f; omega) (by show (a++[_]).length<=p2.i+1; rw [alz,auz]; omega)
    exact a3q (by rw [h1]; rfl) this
   ·rw [if_neg h1,V6q h1]
    exact a6q (by rw [decide_eq_false h1]; rfl) ⟨⟨by simp only [a5z,acz]; omega⟩,a1nq ws hw p2 _⟩
  ·rw [if_pos hg]
   refine ⟨⟨by simp only [a5z,acz]; omega⟩,?_⟩
   have:=a1nq ws hw p (cs++[[.sl (a.map Li.da)]])
   exact this
theorem a7aq (ws:Ws) (hw:ws.length<=3000) (F:Nat) (hF:2*ws.length+2<=F) (p:Rd) (hi:p.i<=ws.length) (hs:p.sg.length<=8) (a:List (List Li)) (ha:a.length<=3000):XC pg 93 [.one (.op 2000 0)] (sI ws p (k8q a)) (.tup []) (sO ws (sSays b1q ws F p a).1 (k8q (sSays b1q ws F p a).2)):=by
 have hI:=s2q ws hw wAc (by decide) p (k8q a)
 apply a57q
 refine ⟨_,_,_,_,_,_,hI,?_⟩
 unfold sSays
 by_cases h:noW ws p=wAc
 ·rw [if_pos h,U8q h]
  have hl:=(r5q (ws:=ws) (p:=p) (by rw [h]; decide)).1
  have hB:=a15q ws hw (k8q a) F (p.to (p.i+1)) 0 hl hs (by omega) (a8z _)
  exact a6q (decide_eq_true h) ⟨_,_,_,_,_,a48q hB,a1nq ws hw _ _⟩
 ·rw [if_neg h,V6q h]
  have:=a1Kq ws hw F hF (k8q a) (by simpa using ha) F p [] hi hs (by omega) (a8z _)
  refine a3q (decide_eq_false h) ?_
  rw [show k8q (a++[(r0q b1q ws F F p []).1])=k8q a++[[.sl ((r0q b1q ws F F p []).1.map Li.da)]] by simp [k8q]]
  exact this
abbrev qI (ws:Ws) (p:Rd):List (Nat×Ob):=[(2000,.var [.d (.sl (ws.map Tx.da)),.d (.int .i64 (p.i:Int)),.ol 2001,.d (.bool (!p.g))]),(2001,.tr 104 3 (p.sg.map Sy.da))]
abbrev qO (ws:Ws) (p:Rd):List (Nat×Ob):=[(2000,.var [.d (.sl (ws.map Tx.da)),.d (.int .i64 (p.i:Int)),.ol 0,.d (.bool (!p.g))]),(0,.tr 104 3 (p.sg.map Sy.da))]
def tkW (ws:Ws) (w:Wd) (p:Rd):Rd:=if heW ws p.i=w then p.to (p.i+1) else p
theorem V7q {ws:Ws} {w:Wd} {p:Rd} (h:heW ws p.i=w):tkW ws w p=p.to (p.i+1):=by unfold tkW; rw [if_pos h]
theorem V0q {ws:Ws} {w:Wd} {p:Rd} (h:¬heW ws p.i=w):tkW ws w p=p:=by unfold tkW; rw [if_neg h]
theorem a5qq {s:List Sy} {k:Nat} {x:Sy}:(s.map Sy.da).set k x.da=(s.set k x).map Sy.da:=(List.map_set).symm
theorem H4q (ws:Ws) (p:Rd):XC pg 142 [.one (.op 2000 0)] (qI ws p) (T (heW ws p.i)) (qO ws p):=by
 apply a21q
 rw [a4z]
 refine b3q (fun h=>⟨by rw [acNq (by omega)],rfl⟩) fun h=>⟨p.i,rfl,_,aagq (by omega),rfl,rfl⟩
theorem q6q (ws:Ws) (hw:ws.length<=3000) (w:Wd) (hn:w≠wNo) (p:Rd):XC pg 85 [.one (.op 2000 0),T w] (qI ws p) (B (decide (heW ws p.i=w))) (qO ws (tkW ws w p)):=by
 apply a2aq
 refine ⟨_,_,_,_,_,H4q ws p,b3q (fun h=>⟨rfl,?_⟩) fun h=>⟨rfl,by rw [V0q h]⟩⟩
 have hl:=o0q (ws:=ws) (i:=p.i) (by rw [h]; exact hn)
 rw [V7q h,wr1 hl (by omega)]; rfl
theorem H2q (ws:Ws) (hw:ws.length<=3000) (w:Wd) (hn:w≠wNo) (p:Rd):XC pg 88 [.one (.op 2000 0),T w] (qI ws p) (.tup []) (qO ws (e4q ws w p)):=by
 apply a1Xq
 refine ⟨_,_,_,_,_,q6q ws hw w hn p,?_⟩
 unfold e4q
 by_cases h:heW ws p.i=w
 ·rw [if_pos h,V7q h]; exact a3q (by rw [decide_eq_true h]; rfl) ⟨rfl,rfl⟩
 ·rw [if_neg h,V0q h]; exact a6q (by rw [decide_eq_false h]; rfl) ⟨rfl,rfl⟩
open Classical in
theorem a2rq (ws:Ws) (w:Wd) (m:Nat) (p:Rd) (hs:p.sg.length<=1000000):XC pg 188 [.one (.op 2000 0),T w,Z (m:Int)] (qI ws p) (Z (v5q p w m).1) (qO ws (v5q p w m).2):=by
 apply Z9q
 refine ⟨_,G0q p.sg w,_,D0q w,?_⟩
 have no:¬(nOk w/\w≠wAc)->v5q p w m=(e7q p.sg w 0,p.no):=fun h=>by unfold v5q; rw [if_neg h]
 refine c5q (fun h1 => ?_) fun h1=>b3q (fun h2 => ?_) fun h2 => ?_
 ·rw [no fun hc=>j1q.1 (l9q h1) hc.1]; exact ⟨rfl,rfl⟩
 ·rw [no fun hc=>hc.2 h2]; exact ⟨rfl,rfl⟩
 have hc:nOk w/\w≠wAc:=⟨g9q.1 (j2q h1),h2⟩
 refine b3q (fun h0 => ?_) fun h0 => ?_
 ·have e:v5q p w m=((p.sg.length:Int),⟨p.i,p.g,p.sg++[⟨w,m,false⟩]⟩):=by unfold v5q; rw [if_pos hc,if_pos h0]
  rw [e]
  refine ⟨⟨by simp only [a4z,a5z,acz]; omega⟩,?_,by simp [qO,Sy.da]⟩
  rw [alz,a4z,wrI (by simp only [a5z,acz]; omega) (by simp only [a5z,acz]; omega)]
  simp
 ·obtain ⟨k,x,hk,hx,hn⟩:=J9q h0
  have hkl:=(a2z.1 hx).1
  have hx1:(p.sg.map Sy.da)[k]?=some [.str x.nm,.int .i64 x.ar,.bool x.ac]:=l0q hx
  have hl:k<(p.sg.map Sy.da).length:=by simpa using hkl
  have e:v5q p w m=((k:Int),if x.ar = -1 then ⟨p.i,p.g,p.sg.set k ⟨x.nm,m,x.ac⟩⟩ else ⟨p.i,p.g&&m5q x m,p.sg⟩):=by
   unfold v5q
   rw [if_pos hc,if_neg h0,hk,apz,hx]
  rw [e,hk]
  refine ⟨k,rfl,⟨hl⟩,k,rfl,_,_,_,hx1,b3q (fun h3=>⟨k,rfl,⟨hl⟩,k,rfl,_,_,_,hx1,rfl,?_⟩) fun h3 => ?_⟩
  ·have e':(p.sg.map Sy.da).set k ([Da.str x.nm]++[Da.int .i64 (m:Int)]++[Da.bool x.ac])=(p.sg.set k ⟨x.nm,m,x.ac⟩).map Sy.da:=a5qq (x:=⟨x.nm,m,x.ac⟩)
   rw [if_pos h3,e']
  ·rw [if_neg h3]
   have no:m5q x m=false->Z (k:Int)=Z (k:Int)/\qO ws p.no=qO ws ⟨p.i,p.g&&m5q x m,p.sg⟩:=fun h=>⟨rfl,by rw [h,bhz]; rfl⟩
   have ok:m5q x m=true->Z (k:Int)=Z (k:Int)/\qO ws p=qO ws ⟨p.i,p.g&&m5q x m,p.sg⟩:=fun h=>⟨rfl,by rw [h,aRz]⟩
   refine ⟨k,rfl,⟨hl⟩,k,rfl,_,_,_,hx1,c5q (fun h1=>b3q (fun h2 => ?_) fun h2=>⟨k,rfl,⟨hl⟩,k,rfl,_,_,_,hx1,a3q (by rw [h1]; rfl) ?_⟩) fun h1=>⟨k,rfl,⟨hl⟩,k,rfl,_,_,_,hx1,a6q (by rw [h1]; rfl) ⟨k,rfl,⟨hl⟩,k,rfl,_,_,_,hx1,b3q (fun h2 => ?_) fun h2 => ?_⟩⟩⟩
   ·exact no (by unfold m5q; rw [h1]; simp; omega)
   ·exact ok (by unfold m5q; rw [h1]; simp; omega)
   ·exact no (by unfold m5q; rw [h1]; simpa using fun e:x.ar=(m:Int)=>h2 e.symm)
   ·exact ok (by unfold m5q; rw [h1]; simpa using (akz h2:(m:Int)=x.ar).symm)
theorem afZq (p:Rd) (w:Wd) (m:Nat):(v5q p w m).2.i=p.i/\(v5q p w m).2.sg.length<=p.sg.length+1:=by
 unfold v5q
 split
 ·split
  ·exact ⟨rfl,by simp⟩
  ·split
   ·split
    ·exact ⟨rfl,by simp⟩
    ·exact ⟨rfl,agz _⟩
   ·exact ⟨rfl,agz _⟩
 ·exact ⟨rfl,agz _⟩
theorem adJq (b:Prop) (k n:Nat) (p:Rd):(q9q b k n p).sg.length=p.sg.length:=by
 unfold q9q
 split
 ·split
  ·split
   ·simp
   ·rfl
  ·rfl
 ·rfl
theorem a8Rq (ws:Ws) (p:Rd):(g1q ws p).i=p.i+1/\(g1q ws p).sg.length<=p.sg.length+1:=by
 unfold g1q
 split
 ·exact ⟨rfl,by simp⟩
 ·exact ⟨rfl,agz _⟩
theorem a5tq (ws:Ws) (p:Rd) (y:List Tm×Rd):(q2q ws p y).2.i=y.2.i/\(q2q ws p y).2.sg.length<=y.2.sg.length+1/\((q2q ws p y).2.g=true->nOk (heW ws p.i)):=by
 have h1:=a5Rq (qFi ws p) p.sg.length y.1.length y.2
 have h2:=afZq (q9q (qFi ws p) p.sg.length y.1.length y.2) (heW ws p.i) y.1.length
 have h3:=adJq (qFi ws p) p.sg.length y.1.length y.2
 exact ⟨h2.1.trans h1.2.2,by rw [<-h3]; exact h2.2,fun h=>((a6lq _ _ _).2 h).2.1⟩
theorem a83q (nv:NV) (ws:Ws):∀f:Nat,
  (∀p:Rd,p.i<=ws.length->(b0q nv ws f p).2.i<=ws.length+1/\((b0q nv ws f p).2.g=true->(b0q nv ws f p).2.i<=ws.length)/\p.i<=(b0q nv ws f p).2.i/\(0<f->p.i+1<=(b0q nv ws f p).2.i)/\(b0q nv ws f p).2.sg.length+2*p.i<=p.sg.length+2*(b0q nv ws f p).2.i) /\
  (∀(p:Rd) (a:List Tm),p.i<=ws.length->(qKids nv ws f p a).2.i<=ws.length+1/\((qKids nv ws f p a).2.g=true->(qKids nv ws f p a).2.i<=ws.length)/\p.i<=(qKids nv ws f p a).2.i/\(qKids nv ws f p a).2.sg.length+2*p.i<=p.sg.length+2*(qKids nv ws f p a).2.i)
 | 0=>⟨fun p h=>by rw [b0q]; exact ⟨ahz h,fun _=>h,a3z _,fun h=>by omega,a3z _⟩,fun p a h=>by rw [qKids]; exact ⟨ahz h,fun _=>h,a3z _,a3z _⟩⟩
 | f+1=>by
  obtain ⟨ihT,ihK⟩:=a83q nv ws f
  refine ⟨fun p hp => ?_,fun p a hp => ?_⟩
  ·rw [b0q]
   split
   ·rename_i hx
    have hl:=o0q (ws:=ws) (i:=p.i) (a9dq hx).1
    exact ⟨ahz hl,fun _=>hl,agz _,fun _=>a3z _,by show p.sg.length+2*p.i<=p.sg.length+2*(p.i+1); omega⟩
   ·have hN:=a8Rq ws p
    split
    ·rename_i hlp
     have hl:=o0q (ws:=ws) (i:=p.i+1) (by rw [hlp]; decide)
     have hK:=ihK ((g1q ws p).to (p.i+2)) [] hl
     generalize qKids nv ws f ((g1q ws p).to (p.i+2)) []=kk at hK ⊢
     have e:((g1q ws p).to (p.i+2)).i=p.i+2:=rfl
     have e2:((g1q ws p).to (p.i+2)).sg=(g1q ws p).sg:=rfl
     rw [e,e2] at hK
     have hE:=a5tq ws p (kk.1,e4q ws wRp kk.2)
     have hD:(e4q ws wRp kk.2).i<=ws.length+1/\((e4q ws wRp kk.2).g=true->(e4q ws wRp kk.2).i<=ws.length)/\kk.2.i<=(e4q ws wRp kk.2).i/\(e4q ws wRp kk.2).sg=kk.2.sg:=by
      unfold e4q
      split
      ·rename_i hr
       have hl:=o0q (ws:=ws) (i:=kk.2.i) (by rw [hr]; decide)
       exact ⟨ahz hl,fun _=>hl,agz _,rfl⟩
      ·exact ⟨hK.1,fun h=>by simp [Rd.no] at h,a3z _,rfl⟩
     have hg:=(W3q ws p (kk.1,e4q ws wRp kk.2)).2
     refine ⟨by rw [hE.1]; exact hD.1,fun h=>by rw [hE.1]; exact hD.2.1 (hg h),by rw [hE.1]; show p.i<=(e4q ws wRp kk.2).i; omega,fun _=>by rw [hE.1]; show p.i+1<=(e4q ws wRp kk.2).i; omega,?_⟩
     rw [hE.1]
     have h5:(q2q ws p (kk.1,e4q ws wRp kk.2)).2.sg.length<=kk.2.sg.length+1:=by rw [<-hD.2.2.2]; exact hE.2.1
     show (q2q ws p (kk.1,e4q ws wRp kk.2)).2.sg.length+2*p.i<=p.sg.length+2*(e4q ws wRp kk.2).i
     omega
    ·have hE:=a5tq ws p ([],g1q ws p)
     have e:(([],g1q ws p):List Tm×Rd).2=g1q ws p:=rfl
     rw [e,hN.1] at hE
     refine ⟨by rw [hE.1]; omega,fun h=>by rw [hE.1]; exact o0q (R0q (hE.2.2 h)).1,by rw [hE.1]; omega,fun _=>by rw [hE.1]; omega,by rw [hE.1]; omega⟩
  ·rw [qKids]
   split
   ·exact ⟨ahz hp,fun _=>hp,a3z _,a3z _⟩
   ·have hT:=ihT p hp
    split
    ·rename_i hr
     have hl:=o0q (ws:=ws) (i:=(b0q nv ws f p).2.i) (by rw [hr]; decide)
     have hK:=ihK ((b0q nv ws f p).2.to ((b0q nv ws f p).2.i+1)) (a++[(b0q nv ws f p).1]) hl
     have e:((b0q nv ws f p).2.to ((b0q nv ws f p).2.i+1)).i=(b0q nv ws f p).2.i+1:=rfl
     have e2:((b0q nv ws f p).2.to ((b0q nv ws f p).2.i+1)).sg=(b0q nv ws f p).2.sg:=rfl
     rw [e,e2] at hK
     exact ⟨hK.1,hK.2.1,by omega,by omega⟩
    ·exact ⟨hT.1,hT.2.1,hT.2.2.1,hT.2.2.2.2⟩
theorem aejq (w:Wd) (h:1<=w.size):w.extract 0 1=⟨#[88]⟩↔isX w=true:=by
 obtain ⟨b,hb⟩:=J5q (t:=w) (i:=0) (by omega)
 have h1:=a2Tq hb
 have e:w.extract 0 1=⟨#[b]⟩:=by
  apply axz
  apply bdz.1
  simp only [aFz,aMz,ayz,avz]
  cases hl:w.data.toList with
  | nil=>rw [hl] at h1; simp at h1
  | cons c r=>rw [hl] at h1; simp at h1; subst h1; simp
 rw [e]
 unfold isX
 rw [hb]
 constructor
 ·intro h
  have:b=88:=by cases h; rfl
  subst this; rfl
 ·intro h
  have h:b.toNat=88:=by simpa using h
  have:b=88:=by apply aYz.1; rw [h]; rfl
  subst this; rfl
theorem a9aq {w:Wd} (h:isX w=true):1<=w.size:=by
 unfold isX at h
 rcases aBz w.size with h0 | h0
 ·have:w[0]?=none:=by simp [h0]
  rw [this] at h; simp at h
 ·exact h0
theorem a6Wq (w:Wd):XC pg 183 [T w,T ⟨#[88]⟩] [] (B (isX w)) []:=by
 apply E0q
 have e1:(⟨#[88]⟩:ByteArray).size=1:=rfl
 rw [e1]
 refine b3q (fun h=>⟨1,rfl,⟨⟨a8z _,by omega⟩⟩,?_,rfl⟩) fun h=>⟨?_,rfl⟩
 ·congr 1
  rw [azz,decide_eq_true_eq]
  exact aejq w (by omega)
 ·congr 1
  symm
  rw [a9z]
  intro h2
  have:=a9aq h2
  omega
theorem ac3q (w:Wd):∃q:ByteArray,(isX w=true->q=L2q w)/\XC pg 185 [T w,T ⟨#[88]⟩] [] (.tup [T q,B (isX w)]) []:=by
 cases h:isX w with
 | false =>
  have hx:=a6Wq w
  rw [h] at hx
  exact ⟨w,(fun h=>by cases h),M6q ⟨_,_,D9q ⟨_,hx,a6q rfl ⟨rfl,rfl⟩⟩,rfl,rfl⟩⟩
 | true =>
  have:=a9aq h
  have hx:=a6Wq w
  rw [h] at hx
  exact ⟨L2q w,(fun _=>rfl),M6q ⟨_,_,D9q ⟨_,hx,a3q rfl ⟨1,rfl,⟨by omega,a3z _⟩,rfl,rfl⟩⟩,rfl,rfl⟩⟩
theorem a77q (v:Int):XC pg 187 [Z v] [] (.agg [.d (.int .i64 (-1)),.d (.int .i64 v),.e0]) []:=a4kq ⟨rfl,rfl⟩
theorem a8nq (ws:Ws) (p0 p3:Rd) (ts:List Tm) (b:Bool) (hb:b=true↔qFi ws p0) (hl:p0.sg.length<=p3.sg.length) (hlt:b=true->p0.sg.length<p3.sg.length) (hs:p3.sg.length<=1000000) (ks:List (List Da)) (hk:ks=Tm.das ts) {place:Int} (hpl:place=(p0.sg.length:Int)) (xs:List (List Da)) (hxs:xs=p3.sg.map Sy.da):ifB b
  (∃m:Nat,place=(m:Int)/\Do (m<xs.length)/\∃n:Nat,m*3+1=n*3+Nat.succ (nat_lit 0)/\∃(q:ByteArray) (z:Int) (c:Bool),xs[n]?=some [.str q,.int .i64 z,.bool c]/\ifB (decide (z = -1))
   (∃m:Nat,place=(m:Int)/\Do (m<xs.length)/\∃n:Nat,m*3+1=n*3+Nat.succ (nat_lit 0)/\∃(q:ByteArray) (z:Int) (c:Bool),xs[n]?=some [.str q,.int .i64 z,.bool c]/\∃(k:Int) (us:List (List Da)) (i:Int) (vs:List (List Da)) (g:Bool),XC pg 188 [.one (.op 2000 0),T (heW ws p0.i),Z (ks.length:Int)] [(2000,.var [.d (.sl (ws.map Tx.da)),.d (.int .i64 (p3.i:Int)),.ol 2001,.d (.bool (!p3.g))]),(2001,.tr 104 3 (List.set xs n ([Da.str q]++[Da.int .i64 (ks.length:Int)]++[Da.bool c])))] (Z k) [(2000,.var [.d (.sl us),.d (.int .i64 i),.ol 0,.d (.bool g)]),(0,.tr 104 3 vs)]/\Go.Proofs.YtmgfoalfimpkjaaGreat.AM.AV.dat [.int .i64 k,.int .i64 0,.sl ks] = .dat (q2q ws p0 (ts,p3)).1.da/\[(2000,Ob.var [.d (.sl us),.d (.int .i64 i),.ol 0,.d (.bool g)]),(0,.tr 104 3 vs)]=qO ws (q2q ws p0 (ts,p3)).2)
   (∃(k:Int) (us:List (List Da)) (i:Int) (vs:List (List Da)) (g:Bool),XC pg 188 [.one (.op 2000 0),T (heW ws p0.i),Z (ks.length:Int)] [(2000,.var [.d (.sl (ws.map Tx.da)),.d (.int .i64 (p3.i:Int)),.ol 2001,.d (.bool (!p3.g))]),(2001,.tr 104 3 xs)] (Z k) [(2000,.var [.d (.sl us),.d (.int .i64 i),.ol 0,.d (.bool g)]),(0,.tr 104 3 vs)]/\Go.Proofs.YtmgfoalfimpkjaaGreat.AM.AV.dat [.int .i64 k,.int .i64 0,.sl ks] = .dat (q2q ws p0 (ts,p3)).1.da/\[(2000,Ob.var [.d (.sl us),.d (.int .i64 i),.ol 0,.d (.bool g)]),(0,.tr 104 3 vs)]=qO ws (q2q ws p0 (ts,p3)).2))
  (∃(k:Int) (us:List (List Da)) (i:Int) (vs:List (List Da)) (g:Bool),XC pg 188 [.one (.op 2000 0),T (heW ws p0.i),Z (ks.length:Int)] [(2000,.var [.d (.sl (ws.map Tx.da)),.d (.int .i64 (p3.i:Int)),.ol 2001,.d (.bool (!p3.g))]),(2001,.tr 104 3 xs)] (Z k) [(2000,.var [.d (.sl us),.d (.int .i64 i),.ol 0,.d (.bool g)]),(0,.tr 104 3 vs)]/\Go.Proofs.YtmgfoalfimpkjaaGreat.AM.AV.dat [.int .i64 k,.int .i64 0,.sl ks] = .dat (q2q ws p0 (ts,p3)).1.da/\[(2000,Ob.var [.d (.sl us),.d (.int .i64 i),.ol 0,.d (.bool g)]),(0,.tr 104 3 vs)]=qO ws (q2q ws p0 (ts,p3)).2):=by
 subst hk hpl hxs
 rw [d3q]
 have plain:q9q (qFi ws p0) p0.sg.length ts.length p3=p3->XC pg 188 [.one (.op 2000 0),T (heW ws p0.i),Z (ts.length:Int)] (qI ws p3) (Z (v5q (q9q (qFi ws p0) p0.sg.length ts.length p3) (heW ws p0.i) ts.length).1) (qO ws (q2q ws p0 (ts,p3)).2):=fun h=>by
  have:=a2rq ws (heW ws p0.i) ts.length p3 hs
  unfold q2q
  simp only [h]
  exact this
 refine c5q (fun h => ?_) fun h => ?_
 ·have hf:=hb.1 h
  obtain ⟨x,hx⟩:=d4q (hlt h)
  have hx1:(p3.sg.map Sy.da)[p0.sg.length]?=some [.str x.nm,.int .i64 x.ar,.bool x.ac]:=l0q hx
  have hl:p0.sg.length<(p3.sg.map Sy.da).length:=by simpa using hlt h
  refine ⟨_,rfl,⟨hl⟩,_,rfl,_,_,_,hx1,b3q (fun h3=>⟨_,rfl,⟨hl⟩,_,rfl,_,_,_,hx1,?_⟩) fun h3 => ?_⟩
  ·have e:q9q (qFi ws p0) p0.sg.length ts.length p3=⟨p3.i,p3.g,p3.sg.set p0.sg.length ⟨x.nm,ts.length,x.ac⟩⟩:=by
    unfold q9q; rw [if_pos hf,hx]; simp only [h3,if_true]
   have hF:=a2rq ws (heW ws p0.i) ts.length ⟨p3.i,p3.g,p3.sg.set p0.sg.length ⟨x.nm,ts.length,x.ac⟩⟩ (by simp; omega)
   have e':(p3.sg.map Sy.da).set p0.sg.length ([Da.str x.nm]++[Da.int .i64 (ts.length:Int)]++[Da.bool x.ac])=(p3.sg.set p0.sg.length ⟨x.nm,ts.length,x.ac⟩).map Sy.da:=a5qq (x:=⟨x.nm,ts.length,x.ac⟩)
   rw [e']
   unfold q2q
   simp only [e]
   exact ⟨_,_,_,_,_,hF,rfl,rfl⟩
  ·have e:q9q (qFi ws p0) p0.sg.length ts.length p3=p3:=by unfold q9q; rw [if_pos hf,hx]; simp only [h3,if_false]
   exact ⟨_,_,_,_,_,plain e,rfl,rfl⟩
 ·have e:q9q (qFi ws p0) p0.sg.length ts.length p3=p3:=by unfold q9q; rw [if_neg (fun hf=>by rw [hb.2 hf] at h; cases h)]
  exact ⟨_,_,_,_,_,plain e,rfl,rfl⟩
theorem a0kq (ws:Ws) (w:Wd) (p:Rd):(e4q ws w p).sg.length=p.sg.length:=by rw [(B2q ws w p).1]
theorem acIq (ws:Ws) (hw:ws.length<=3000):∀f:Nat,
  (∀p:Rd,p.i<=ws.length->p.sg.length<=100000+2*p.i->2*(ws.length-p.i)+1<=f->XC pg 143 [.one (.op 2000 0)] (qI ws p) (.dat (b0q b1q ws f p).1.da) (qO ws (b0q b1q ws f p).2)) /\
  (∀(p:Rd) (a:List Tm) (p0:Rd) (b:Bool),(b=true↔qFi ws p0)->p0.sg.length<=p.sg.length->(b=true->p0.sg.length<p.sg.length)->p.i<=ws.length->p.sg.length<=100000+2*p.i->2*(ws.length-p.i)+2<=f->a.length<=p.i ->
   l3q (.dat (q2q ws p0 ((qKids b1q ws f p a).1,e4q ws wRp (qKids b1q ws f p a).2)).1.da) (qO ws (q2q ws p0 ((qKids b1q ws f p a).1,e4q ws wRp (qKids b1q ws f p a).2)).2) (heW ws p0.i) (p0.sg.length:Int) b (ws.map Tx.da) (p.i:Int) (!p.g) 0 0 (Tm.das a) (p.sg.map Sy.da))
 | 0=>⟨fun p _ _ h=>by omega,fun p a p0 b _ _ _ _ _ h=>by omega⟩
 | f+1=>by
  obtain ⟨ihT,ihK⟩:=acIq ws hw f
  refine ⟨fun p hi hs hf => ?_,fun p a p0 b hb hl0 hl1 hi hs hf ha => ?_⟩
  ·apply a1Wq
   have w1:a0z .i64 ((p.i:Int)+1)=((p.i+1:Nat):Int):=wr1 (n:=3001) (by omega) (by omega)
   obtain ⟨q,hq,hX⟩:=ac3q (heW ws p.i)
   refine ⟨_,_,_,_,_,H4q ws p,_,_,hX,?_⟩
   rw [w1,b0q]
   cases hx:isX (heW ws p.i) with
   | true =>
    have:=hq hx
    subst this
    rw [if_pos rfl]
    have hN:=a4Mq (L2q (heW ws p.i))
    have hv:=a77q (b1q (L2q (heW ws p.i))).1
    refine a6q rfl ⟨_,_,hN,?_⟩
    unfold vOk
    refine c5q (fun h=>⟨_,_,hv,rfl,?_⟩) fun h=>c5q (fun h2=>⟨_,_,hv,rfl,?_⟩) fun h2=>⟨_,_,hv,rfl,?_⟩
    ·have h:p.g=false:=by simpa using h
     simp [qO,h]
    ·have h2:(b1q (L2q (heW ws p.i))).2=false:=by simpa using h2
     simp [qO,h2]
    ·have h:p.g=true:=by simpa using h
     have h2:(b1q (L2q (heW ws p.i))).2=true:=by simpa using h2
     have e:decide ((19:Int)<(b1q (L2q (heW ws p.i))).1) = !decide ((b1q (L2q (heW ws p.i))).1<20):=by
      rw [azz]; simp; omega
     simp [qO,h,h2,e]
   | false =>
    rw [if_neg (by simp)]
    have hNi:=a8Rq ws p
    have hNl:=a5Aq ws p
    have hNe:p.sg.length<=(g1q ws p).sg.length:=hNl.1.len
    have hS:=G0q p.sg (heW ws p.i)
    have hO:=D0q (heW ws p.i)
    have hTk:=q6q ws hw wLp (by decide) (g1q ws p)
    rw [hNi.1] at hTk
    have ed:p.sg.map Sy.da++[[Da.str (heW ws p.i),Da.int .i64 (-1),Da.bool false]]=(p.sg++[(⟨heW ws p.i,-1,false⟩:Sy)]).map Sy.da:=by simp [Sy.da]
    have eA:qFi ws p->g1q ws p=⟨p.i+1,p.g,p.sg++[⟨heW ws p.i,-1,false⟩]⟩:=fun h=>by unfold g1q; rw [if_pos h]
    have eB:¬qFi ws p->g1q ws p=⟨p.i+1,p.g,p.sg⟩:=fun h=>by unfold g1q; rw [if_neg h]; rfl
    have hdo:Do ((amz (p.sg.map Sy.da)+amz [[Da.str (heW ws p.i),Da.int .i64 (-1),Da.bool false]])*32<=140737488355328):=⟨by simp only [a4z,a5z,acz]; omega⟩
    have fi:∀b:Bool,(b=true↔qFi ws p)->b=true->p.sg.length<(g1q ws p).sg.length:=fun b hb h=>by rw [eA (hb.1 h)]; simp
    by_cases hlp:heW ws (p.i+1)=wLp
    ·have hl2:=o0q (ws:=ws) (i:=p.i+1) (by rw [hlp]; decide)
     have Lk:=fun (b:Bool) (hb:b=true↔qFi ws p)=>ihK ((g1q ws p).to (p.i+2)) [] p b hb hNe (fi b hb) hl2 (by show (g1q ws p).sg.length<=100000+2*(p.i+2); omega) (by show 2*(ws.length-(p.i+2))+2<=f; omega) (a8z _)
     have et:tkW ws wLp (g1q ws p)=(g1q ws p).to (p.i+2):=by rw [V7q (by rw [hNi.1]; exact hlp),hNi.1]
     rw [et] at hTk
     rw [if_pos hlp]
     refine a3q rfl ⟨_,hS,b3q (fun h0=>⟨_,hO,c5q (fun h1 => ?_) fun h1 => ?_⟩) fun h0 => ?_⟩
     ·have hf:qFi ws p:=⟨h0,g9q.1 h1⟩
      have L1:=Lk (dB (nOk (heW ws p.i))) ⟨fun _=>hf,fun h=>g9q.2 h.2⟩
      rw [eA hf] at hTk L1
      refine ⟨hdo,?_⟩
      rw [ed,a4z]
      rw [eA hf]
      exact ⟨_,_,_,_,_,hTk,a6q (decide_eq_true hlp) L1⟩
     ·have hf:¬qFi ws p:=fun h=>j1q.1 h1 h.2
      have L1:=Lk (dB (nOk (heW ws p.i))) ⟨(fun h=>by rw [h1] at h; cases h),fun h=>absurd h hf⟩
      rw [eB hf] at hTk L1
      rw [a4z]
      rw [eB hf]
      exact ⟨_,_,_,_,_,hTk,a6q (decide_eq_true hlp) L1⟩
     ·have hf:¬qFi ws p:=fun h=>h0 h.1
      have L1:=Lk false ⟨fun h=>(by cases h),fun h=>absurd h hf⟩
      rw [eB hf] at hTk L1
      rw [a4z]
      rw [eB hf]
      exact ⟨_,_,_,_,_,hTk,a6q (decide_eq_true hlp) L1⟩
    ·have et:tkW ws wLp (g1q ws p)=g1q ws p:=V0q (by rw [hNi.1]; exact hlp)
     rw [et] at hTk
     rw [if_neg hlp]
     have Lk:=fun (b:Bool) (hb:b=true↔qFi ws p)=>a8nq ws p (g1q ws p) [] b hb hNe (fi b hb) (by omega) [] rfl (place:=(p.sg.length:Int)) rfl _ rfl
     refine a3q rfl ⟨_,hS,b3q (fun h0=>⟨_,hO,c5q (fun h1 => ?_) fun h1 => ?_⟩) fun h0 => ?_⟩
     ·have hf:qFi ws p:=⟨h0,g9q.1 h1⟩
      have L1:=Lk (dB (nOk (heW ws p.i))) ⟨fun _=>hf,fun h=>g9q.2 h.2⟩
      rw [eA hf] at hTk L1
      refine ⟨hdo,?_⟩
      rw [ed,a4z]
      rw [eA hf]
      exact ⟨_,_,_,_,_,hTk,a3q (decide_eq_false hlp) L1⟩
     ·have hf:¬qFi ws p:=fun h=>j1q.1 h1 h.2
      have L1:=Lk (dB (nOk (heW ws p.i))) ⟨(fun h=>by rw [h1] at h; cases h),fun h=>absurd h hf⟩
      rw [eB hf] at hTk L1
      rw [a4z]
      rw [eB hf]
      exact ⟨_,_,_,_,_,hTk,a3q (decide_eq_false hlp) L1⟩
     ·have hf:¬qFi ws p:=fun h=>h0 h.1
      have L1:=Lk false ⟨fun h=>(by cases h),fun h=>absurd h hf⟩
      rw [eB hf] at hTk L1
      rw [eB hf]
      exact ⟨_,_,_,_,_,hTk,a3q (decide_eq_false hlp) L1⟩
  ·apply a00q
   have tl:=fun (p3:Rd) (ts:List Tm) (h1:p.sg.length<=p3.sg.length) (h2:p3.sg.length<=1000000)=>a8nq ws p0 p3 ts b hb (by omega) (fun h=>by have:=hl1 h; omega) h2 _ rfl (place:=(p0.sg.length:Int)) rfl _ rfl
   rw [qKids]
   refine c5q (fun hg => ?_) fun hg => ?_
   ·have hg:p.g=true:=by simpa using hg
    rw [if_neg (by simp [hg])]
    have hT:=ihT p hi hs (by omega)
    have hv:=(a83q b1q ws f).1 p hi
    have hL:=((q_le b1q ws f).1 p).1.len
    generalize b0q b1q ws f p=T at hT hv hL ⊢
    obtain ⟨⟨tf,tv,tk⟩,p2⟩:=T
    have hI:=q6q ws hw wCm (by decide) p2
    have ed:Tm.das a++[[.int .i64 tf,.int .i64 tv,.sl (Tm.das tk)]]=Tm.das (a++[Tm.mk tf tv tk]):=by rw [aahq]; rfl
    refine ⟨_,_,_,_,_,_,_,hT,⟨by rw [d3q]; simp only [a5z,acz]; omega⟩,_,_,_,_,_,hI,?_⟩
    rw [ed]
    by_cases h1:heW ws p2.i=wCm
    ·have hl2:=o0q (ws:=ws) (i:=p2.i) (by rw [h1]; decide)
     rw [V7q h1,if_pos h1]
     have h5:=hv.2.2.2.1 (by omega)
     have h6:=hv.2.2.2.2
     have h7:p.sg.length<=p2.sg.length:=hL
     simp only at h5 h6
     have:=ihK (p2.to (p2.i+1)) (a++[Tm.mk tf tv tk]) p0 b hb (by show p0.sg.length<=p2.sg.length; omega) (fun h=>by show p0.sg.length<p2.sg.length; have:=hl1 h; omega) hl2 (by show p2.sg.length<=100000+2*(p2.i+1); omega) (by show 2*(ws.length-(p2.i+1))+2<=f; omega) (by show (a++[_]).length<=p2.i+1; rw [alz,auz]; omega)
     exact a3q (by rw [decide_eq_true h1]; rfl) this
    ·rw [V0q h1,if_neg h1]
     have hN:=H2q ws hw wRp (by decide) p2
     have h6:=hv.2.2.2.2
     have h8:=hv.1
     have h7:p.sg.length<=p2.sg.length:=hL
     simp only at h6 h8
     exact a6q (by rw [decide_eq_false h1]; rfl) ⟨_,_,_,_,hN,tl (e4q ws wRp p2) _ (by rw [a0kq]; exact h7) (by rw [a0kq]; omega)⟩
   ·have hg:p.g=false:=by simpa using hg
    rw [if_pos hg]
    have hN:=H2q ws hw wRp (by decide) p
    exact ⟨_,_,_,_,hN,tl (e4q ws wRp p) a (by rw [a0kq]; exact a3z _) (by rw [a0kq]; omega)⟩
theorem a1Mq:∀(l:List Li) (P:List (List Da)) (k:Nat),P.length+l.length<=10000000000000->k+mkN l<=10000000000000->u6q (Z ((k+mkN l:Nat):Int)) [(2000,.mt 54 7 (P++(y4q k l).map Li.da))] (k:Int) (P.length:Int) (P++l.map Li.da)
 | [],P,k,_,_=>by
  apply N8q
  exact a3q (decide_eq_false (by simp)) ⟨by simp [mkN],by simp [y4q]⟩
 | ⟨b,.mk f v ks,.mk g u ms⟩::r,P,k,hl,hk=>by
  have hN:mkN (⟨b,.mk f v ks,.mk g u ms⟩::r)=5+2*(Tm.cns ks+Tm.cns ms)+mkN r:=rfl
  rw [hN] at hk
  simp only [a5z] at hl
  have e1:(⟨b,.mk f v ks,.mk g u ms⟩::r:List Li).map Li.da=[.bool b,.int .i64 f,.int .i64 v,.sl (Tm.das ks),.int .i64 g,.int .i64 u,.sl (Tm.das ms)]::r.map Li.da:=rfl
  apply N8q
  rw [e1]
  have w1:a0z .i64 ((k:Int)+1)=((k+1:Nat):Int):=wrN (by omega) 1 (by omega)
  have w2:a0z .i64 (((k+1:Nat):Int)+1)=((k+2:Nat):Int):=wrN (by omega) 1 (by omega)
  have w3:a0z .i64 (((k+2:Nat):Int)+1)=((k+3:Nat):Int):=wrN (by omega) 1 (by omega)
  have w4:a0z .i64 (((k+3+2*Tm.cns ks:Nat):Int)+1)=((k+4+2*Tm.cns ks:Nat):Int):=by rw [wrI (by omega) (by omega)]; omega
  have w5:a0z .i64 (((k+4+2*Tm.cns ks:Nat):Int)+1)=((k+5+2*Tm.cns ks:Nat):Int):=by rw [wrI (by omega) (by omega)]; omega
  have wp:a0z .i64 ((P.length:Int)+1)=((P.length+1:Nat):Int):=wrN (by omega) 1 (by omega)
  rw [w1,w2,w3,wp]
  have hlen:∀y:List Da,P.length<(P++y::r.map Li.da).length:=fun y=>by simp
  have hm1:XC pg 157 [.one (.ol 2000),Z ((k+3:Nat):Int)] [(2000,.mt 52 3 (Tm.das ks))] (Z ((k+3+2*Tm.cns ks:Nat):Int)) [(2000,.mt 52 3 (Tm.das (Tm.mkL (k+3) ks)))]:=a0Gq (.mk f v ks) (k+3) (by simp only [Tm.cn]; omega)
  have hm2:XC pg 157 [.one (.ol 2000),Z (a0z .i64 (a0z .i64 (((k+3+2*Tm.cns ks:Nat):Int)+1)+1))] [(2000,.mt 52 3 (Tm.das ms))] (Z ((k+5+2*Tm.cns ks+2*Tm.cns ms:Nat):Int)) [(2000,.mt 52 3 (Tm.das (Tm.mkL (k+5+2*Tm.cns ks) ms)))]:=by
   rw [w4,w5]
   exact a0Gq (.mk g u ms) (k+5+2*Tm.cns ks) (by simp only [Tm.cn]; omega)
  refine a6q (decide_eq_true (by simp; omega)) ⟨⟨by decide⟩,P.length,rfl,⟨hlen _⟩,P.length,rfl,_,_,_,_,_,_,_,h1q,
   P.length,rfl,⟨by rw [b6q]; exact hlen _⟩,P.length,rfl,_,_,_,_,_,_,_,by rw [b6q]; exact h1q,
   P.length,rfl,⟨by rw [b6q,b6q]; exact hlen _⟩,P.length,rfl,_,_,_,_,_,_,_,by rw [b6q,b6q]; exact h1q,
   P.length,rfl,⟨by rw [b6q,b6q,b6q]; exact hlen _⟩,P.length,rfl,_,_,_,_,_,_,_,by rw [b6q,b6q,b6q]; exact h1q,fun _ _ _=>⟨⟨rfl,rfl,rfl⟩,_,_,_,_,_,_,_,by rw [b6q,b6q,b6q]; exact h1q,⟨das3 _⟩,_,_,hm1,
   P.length,rfl,⟨by rw [b6q,b6q,b6q,b6q]; exact hlen _⟩,P.length,rfl,_,_,_,_,_,_,_,by rw [b6q,b6q,b6q,b6q]; exact h1q,
   P.length,rfl,⟨by rw [b6q,b6q,b6q,b6q,b6q]; exact hlen _⟩,P.length,rfl,_,_,_,_,_,_,_,by rw [b6q,b6q,b6q,b6q,b6q]; exact h1q,
   P.length,rfl,⟨by rw [b6q,b6q,b6q,b6q,b6q,b6q]; exact hlen _⟩,P.length,rfl,_,_,_,_,_,_,_,by rw [b6q,b6q,b6q,b6q,b6q,b6q]; exact h1q,fun _ _ _=>⟨⟨rfl,rfl,rfl⟩,_,_,_,_,_,_,_,by rw [b6q,b6q,b6q,b6q,b6q,b6q]; exact h1q,⟨das3 _⟩,_,_,hm2,?_⟩⟩⟩
  rw [b6q,b6q,b6q,b6q,b6q,b6q,b6q,w4]
  have ih:=a1Mq r (P++[[.bool (decide (aqz (k:Int) 3=0)),.int .i64 ((k+1:Nat):Int),.int .i64 ((k+2:Nat):Int),.sl (Tm.das (Tm.mkL (k+3) ks)),.int .i64 ((k+3+2*Tm.cns ks:Nat):Int),.int .i64 ((k+4+2*Tm.cns ks:Nat):Int),.sl (Tm.das (Tm.mkL (k+5+2*Tm.cns ks) ms))]]) (k+5+2*(Tm.cns ks+Tm.cns ms)) (by simp; omega) (by omega)
  have e2:(y4q k (⟨b,.mk f v ks,.mk g u ms⟩::r)).map Li.da=[.bool (decide (aqz (k:Int) 3=0)),.int .i64 ((k+1:Nat):Int),.int .i64 ((k+2:Nat):Int),.sl (Tm.das (Tm.mkL (k+3) ks)),.int .i64 ((k+3+2*Tm.cns ks:Nat):Int),.int .i64 ((k+4+2*Tm.cns ks:Nat):Int),.sl (Tm.das (Tm.mkL (k+5+2*Tm.cns ks) ms))]::(y4q (k+5+2*(Tm.cns ks+Tm.cns ms)) r).map Li.da:=rfl
  rw [e2,hN,show k+(5+2*(Tm.cns ks+Tm.cns ms)+mkN r)=k+5+2*(Tm.cns ks+Tm.cns ms)+mkN r by omega,show k+5+2*Tm.cns ks+2*Tm.cns ms=k+5+2*(Tm.cns ks+Tm.cns ms) by omega]
  have e4:(P++[[Da.bool (decide (aqz (k:Int) 3=0)),.int .i64 ((k+1:Nat):Int),.int .i64 ((k+2:Nat):Int),.sl (Tm.das (Tm.mkL (k+3) ks)),.int .i64 ((k+3+2*Tm.cns ks:Nat):Int),.int .i64 ((k+4+2*Tm.cns ks:Nat):Int),.sl (Tm.das (Tm.mkL (k+5+2*Tm.cns ks) ms))]]).length=P.length+1:=by simp
  rw [e4,adz,adz] at ih
  exact ih
theorem a7sq (l:List Li) (k:Nat) (hl:l.length<=10000000000000) (hk:k+mkN l<=10000000000000):XC pg 103 [.one (.ol 2000),Z (k:Int)] [(2000,.mt 54 7 (l.map Li.da))] (Z ((k+mkN l:Nat):Int)) [(2000,.mt 54 7 ((y4q k l).map Li.da))]:=by
 apply a45q
 have:=a1Mq l [] k (by simpa using hl) hk
 simpa using this
theorem a1Rq:∀(l:List Li) (P:List (List Da)) (k:Nat),P.length+l.length<=10000000000000->k+mkN l<=10000000000000->v3q (Z ((k+mkN l:Nat):Int)) [] (P++(y4q k l).map Li.da) (k:Int) (P.length:Int)
 | [],P,k,_,_=>by
  apply N4q
  exact a3q (decide_eq_false (by simp [y4q])) ⟨by simp [mkN],rfl⟩
 | ⟨b,.mk f v ks,.mk g u ms⟩::r,P,k,hl,hk=>by
  have hN:mkN (⟨b,.mk f v ks,.mk g u ms⟩::r)=5+2*(Tm.cns ks+Tm.cns ms)+mkN r:=rfl
  rw [hN] at hk
  simp only [a5z] at hl
  have e2:(y4q k (⟨b,.mk f v ks,.mk g u ms⟩::r)).map Li.da=[.bool (decide (aqz (k:Int) 3=0)),.int .i64 ((k+1:Nat):Int),.int .i64 ((k+2:Nat):Int),.sl (Tm.das (Tm.mkL (k+3) ks)),.int .i64 ((k+3+2*Tm.cns ks:Nat):Int),.int .i64 ((k+4+2*Tm.cns ks:Nat):Int),.sl (Tm.das (Tm.mkL (k+5+2*Tm.cns ks) ms))]::(y4q (k+5+2*(Tm.cns ks+Tm.cns ms)) r).map Li.da:=rfl
  apply N4q
  rw [e2]
  have w1:a0z .i64 ((k:Int)+1)=((k+1:Nat):Int):=wrN (by omega) 1 (by omega)
  have w2:a0z .i64 (((k+1:Nat):Int)+1)=((k+2:Nat):Int):=wrN (by omega) 1 (by omega)
  have w3:a0z .i64 (((k+2:Nat):Int)+1)=((k+3:Nat):Int):=wrN (by omega) 1 (by omega)
  have w4:a0z .i64 (((k+3+2*Tm.cns ks:Nat):Int)+1)=((k+4+2*Tm.cns ks:Nat):Int):=by rw [wrI (by omega) (by omega)]; omega
  have w5:a0z .i64 (((k+4+2*Tm.cns ks:Nat):Int)+1)=((k+5+2*Tm.cns ks:Nat):Int):=by rw [wrI (by omega) (by omega)]; omega
  have wp:a0z .i64 ((P.length:Int)+1)=((P.length+1:Nat):Int):=wrN (by omega) 1 (by omega)
  rw [w1,w2,w3,wp]
  have hm1:XC pg 158 [L (Tm.das (Tm.mkL (k+3) ks)),Z ((k+3:Nat):Int)] [] (Z ((k+3+2*Tm.cns ks:Nat):Int)) []:=a10q (.mk f v ks) (k+3) (by simp only [Tm.cn]; omega)
  have hm2:XC pg 158 [L (Tm.das (Tm.mkL (k+5+2*Tm.cns ks) ms)),Z (a0z .i64 (a0z .i64 (((k+3+2*Tm.cns ks:Nat):Int)+1)+1))] [] (Z ((k+5+2*Tm.cns ks+2*Tm.cns ms:Nat):Int)) []:=by
   rw [w4,w5]
   exact a10q (.mk g u ms) (k+5+2*Tm.cns ks) (by simp only [Tm.cn]; omega)
  refine a6q (decide_eq_true (by simp; omega)) ⟨P.length,rfl,_,_,_,_,_,_,_,h1q,⟨by decide⟩,a3q (by simp) ⟨P.length,rfl,_,_,_,_,_,_,_,h1q,a3q (by simp) ⟨P.length,rfl,_,_,_,_,_,_,_,h1q,a3q (by simp)
   ⟨P.length,rfl,_,_,_,_,_,_,_,h1q,_,hm1,a3q (decide_eq_false (by omega)) ⟨P.length,rfl,_,_,_,_,_,_,_,h1q,a3q (by simp) ⟨P.length,rfl,_,_,_,_,_,_,_,h1q,a3q (by rw [w4]; simp) ⟨P.length,rfl,_,_,_,_,_,_,_,h1q,_,hm2,a3q (decide_eq_false (by omega)) ?_⟩⟩⟩⟩⟩⟩⟩
  have ih:=a1Rq r (P++[[.bool (decide (aqz (k:Int) 3=0)),.int .i64 ((k+1:Nat):Int),.int .i64 ((k+2:Nat):Int),.sl (Tm.das (Tm.mkL (k+3) ks)),.int .i64 ((k+3+2*Tm.cns ks:Nat):Int),.int .i64 ((k+4+2*Tm.cns ks:Nat):Int),.sl (Tm.das (Tm.mkL (k+5+2*Tm.cns ks) ms))]]) (k+5+2*(Tm.cns ks+Tm.cns ms)) (by simp; omega) (by omega)
  rw [hN,show k+(5+2*(Tm.cns ks+Tm.cns ms)+mkN r)=k+5+2*(Tm.cns ks+Tm.cns ms)+mkN r by omega,show k+5+2*Tm.cns ks+2*Tm.cns ms=k+5+2*(Tm.cns ks+Tm.cns ms) by omega]
  have e4:(P++[[Da.bool (decide (aqz (k:Int) 3=0)),.int .i64 ((k+1:Nat):Int),.int .i64 ((k+2:Nat):Int),.sl (Tm.das (Tm.mkL (k+3) ks)),.int .i64 ((k+3+2*Tm.cns ks:Nat):Int),.int .i64 ((k+4+2*Tm.cns ks:Nat):Int),.sl (Tm.das (Tm.mkL (k+5+2*Tm.cns ks) ms))]]).length=P.length+1:=by simp
  rw [e4,adz] at ih
  exact ih
def a05q:Nat->List Cl->List Cl
 | _,[]=>[]
 | k,x::r=>⟨y4q k x.ls⟩::a05q (k+mkN x.ls) r
def C6q (l:List Cl):Nat:=(l.map fun x=>mkN x.ls).sum
theorem a2Lq (x:Cl) (r:List Cl):C6q (x::r)=mkN x.ls+C6q r:=by simp [C6q]
theorem aatq (l:List Li):l.length<=mkN l:=by
 induction l with
 | nil=>simp
 | cons x r ih=>simp only [mkN,a5z]; omega
theorem agUq (l:List Li):∀y∈l.map Li.da,y.length=7:=by
 intro y hy
 obtain ⟨t,_,rfl⟩:=anz.1 hy
 exact Li.da_len t
theorem Y2q:∀(l:List Cl) (P:List (List Da)) (k:Nat),P.length+l.length<=1000000->k+C6q l<=1000000000->r4q (Z ((k+C6q l:Nat):Int)) [(2000,.mt 29 1 (P++(a05q k l).map Cl.da))] (k:Int) (P.length:Int) (P++l.map Cl.da)
 | [],P,k,_,_=>by
  apply G8q
  exact a3q (decide_eq_false (by simp)) ⟨by simp [C6q],by simp [a05q]⟩
 | ⟨ls⟩::r,P,k,hl,hk=>by
  rw [a2Lq] at hk ⊢
  simp only [a5z] at hl
  simp only at hk
  have hlen:∀y:List Da,P.length<(P++y::r.map Cl.da).length:=fun y=>by simp
  have hm:=a7sq ls k (by have:=aatq ls; omega) (by omega)
  have ih:=Y2q r (P++[[.sl ((y4q k ls).map Li.da)]]) (k+mkN ls) (by simp; omega) (by omega)
  have e4:(P++[[Da.sl ((y4q k ls).map Li.da)]]).length=P.length+1:=by simp
  rw [e4,adz,adz] at ih
  apply G8q
  have wp:a0z .i64 ((P.length:Int)+1)=((P.length+1:Nat):Int):=wrS (by omega)
  rw [wp,<-aHz]
  refine a6q (decide_eq_true (by simp; omega)) ⟨P.length,rfl,⟨hlen _⟩,P.length,rfl,_,h1q,fun _ _ _=>⟨⟨rfl,rfl,rfl⟩,_,h1q,⟨agUq ls⟩,_,_,hm,?_⟩⟩
  rw [afz,b6q]
  exact ih
theorem a3Wq (l:List Cl) (k:Nat) (hl:l.length<=1000000) (hk:k+C6q l<=1000000000):XC pg 43 [.one (.ol 2000),Z (k:Int)] [(2000,.mt 29 1 (l.map Cl.da))] (Z ((k+C6q l:Nat):Int)) [(2000,.mt 29 1 ((a05q k l).map Cl.da))]:=by
 apply a1Yq
 simpa using Y2q l [] k (by simpa using hl) hk
theorem W8q:∀(l:List Cl) (P:List (List Da)) (k:Nat),P.length+l.length<=1000000->k+C6q l<=1000000000->r3q (Z ((k+C6q l:Nat):Int)) [] (P++(a05q k l).map Cl.da) (k:Int) (P.length:Int)
 | [],P,k,_,_=>by
  apply H0q
  exact a3q (decide_eq_false (by simp [a05q])) ⟨by simp [C6q],rfl⟩
 | ⟨ls⟩::r,P,k,hl,hk=>by
  rw [a2Lq] at hk ⊢
  simp only [a5z] at hl
  simp only at hk
  have hm:XC pg 104 [L ((y4q k ls).map Li.da),Z (k:Int)] [] (Z ((k+mkN ls:Nat):Int)) []:=by
   apply a42q
   have:=a1Rq ls [] k (by simp; have:=aatq ls; omega) (by omega)
   simpa using this
  have ih:=W8q r (P++[[.sl ((y4q k ls).map Li.da)]]) (k+mkN ls) (by simp; omega) (by omega)
  have e4:(P++[[Da.sl ((y4q k ls).map Li.da)]]).length=P.length+1:=by simp
  rw [e4,adz] at ih
  apply H0q
  have wp:a0z .i64 ((P.length:Int)+1)=((P.length+1:Nat):Int):=wrS (by omega)
  rw [wp,<-aHz]
  refine a6q (decide_eq_true (by simp [a05q]; omega)) ⟨P.length,rfl,_,h1q,_,hm,a3q (decide_eq_false (by omega)) ?_⟩
  exact ih
theorem a3Sq (l:List Cl) (k:Nat) (hl:l.length<=1000000) (hk:k+C6q l<=1000000000):XC pg 45 [L ((a05q k l).map Cl.da),Z (k:Int)] [] (Z ((k+C6q l:Nat):Int)) []:=by
 apply a26q
 simpa using W8q l [] k (by simpa using hl) hk
theorem a1Pq:∀(l:List Sy) (P:List (List Da)) (k:Nat),1<=k->P.length+l.length<=100000000->k+u3q l<=100000000->v0q (Z ((k+u3q l:Nat):Int)) [] (P++(L6q k l).map Sy.da) (k:Int) (P.length:Int)
 | [],P,k,_,_,_=>by
  apply N3q
  exact a3q (decide_eq_false (by simp [L6q])) ⟨by simp [u3q],rfl⟩
 | ⟨nm,ar,ac⟩::r,P,k,h1,hl,hk=>by
  rw [a1pq] at hk ⊢
  simp only [a5z,Q0q] at hl hk
  have ih:=a1Pq r (P++[Sy.da (P8q k ⟨nm,ar,ac⟩)]) (k+3) (by omega) (by simp; omega) (by omega)
  have e4:(P++[Sy.da (P8q k ⟨nm,ar,ac⟩)]).length=P.length+1:=by simp
  rw [e4,adz] at ih
  have eN:k+Q0q ⟨nm,ar,ac⟩=k+3:=by simp only [Q0q] <;> omega
  have eM:L6q k (⟨nm,ar,ac⟩::r)=P8q k ⟨nm,ar,ac⟩::L6q (k+3) r:=by rw [<-eN]; rfl
  rw [eM,<-aHz,eN]
  apply N3q
  rw [afz]
  have w0:a0z .i64 (((k:Nat):Int)+1)=((k+1:Nat):Int):=wrS (by omega)
  have w1:a0z .i64 (((k+1:Nat):Int)+1)=((k+2:Nat):Int):=wrS (by omega)
  have w2:a0z .i64 (((k+2:Nat):Int)+1)=((k+3:Nat):Int):=wrS (by omega)
  have wp:a0z .i64 ((P.length:Int)+1)=((P.length+1:Nat):Int):=wrS (by omega)
  rw [w0,w1,w2,wp]
  exact a6q (decide_eq_true (by simp; omega)) ⟨P.length,rfl,_,_,_,h1q,_,a1Nq k (by omega) (by omega),a3q (by simp [P8q]) ⟨P.length,rfl,_,_,_,h1q,a3q (by simp [P8q]) ⟨P.length,rfl,_,_,_,h1q,⟨by decide⟩,a3q (by simp [P8q]) ih⟩⟩⟩
theorem a7wq (l:List Sy) (k:Nat) (h1:1<=k) (hl:l.length<=100000000) (hk:k+u3q l<=100000000):XC pg 44 [L ((L6q k l).map Sy.da),Z (k:Int)] [] (Z ((k+u3q l:Nat):Int)) []:=by
 apply a4dq
 simpa using a1Pq l [] k h1 (by simpa using hl) hk
theorem a8Fq (ws:Ws) (F:Nat) (hF:0<F) (p:Rd) (h1:p.i<=ws.length):(i4q b1q ws F p).2.i<=ws.length+1/\((i4q b1q ws F p).2.g=true->(i4q b1q ws F p).2.i<=ws.length)/\p.i+1<=(i4q b1q ws F p).2.i/\(i4q b1q ws F p).2.sg.length+2*p.i<=p.sg.length+2*(i4q b1q ws F p).2.i:=by
 have T:=(a83q b1q ws F).1
 have nx:∀(q:Rd) (w:Wd),w≠wNo->heW ws q.i=w->(b0q b1q ws F (q.to (q.i+1))).2.i<=ws.length+1/\((b0q b1q ws F (q.to (q.i+1))).2.g=true->(b0q b1q ws F (q.to (q.i+1))).2.i<=ws.length)/\q.i+1<=(b0q b1q ws F (q.to (q.i+1))).2.i/\(b0q b1q ws F (q.to (q.i+1))).2.sg.length+2*(q.i+1)<=q.sg.length+2*(b0q b1q ws F (q.to (q.i+1))).2.i:=fun q w hw hq=>by
  have hl:=o0q (ws:=ws) (i:=q.i) (by rw [hq]; exact hw)
  have:=T (q.to (q.i+1)) hl
  exact ⟨this.1,this.2.1,this.2.2.1,this.2.2.2.2⟩
 unfold i4q
 split
 ·rename_i h
  have:=nx p wTi (by decide) h
  exact ⟨this.1,this.2.1,this.2.2.1,aez (Nat.add_le_add_left (Nat.mul_le_mul_left 2 (agz _)) _) this.2.2.2⟩
 ·have hT:=T p h1
  have hT3:=hT.2.2.2.1 hF
  have hT4:=hT.2.2.2.2
  have two:∀(b:Bool) (w:Wd),w≠wNo->heW ws (b0q b1q ws F p).2.i=w->∀x:Li×Rd,x.2=(b0q b1q ws F ((b0q b1q ws F p).2.to ((b0q b1q ws F p).2.i+1))).2->x.2.i<=ws.length+1/\(x.2.g=true->x.2.i<=ws.length)/\p.i+1<=x.2.i/\x.2.sg.length+2*p.i<=p.sg.length+2*x.2.i:=fun b w hw h x hx=>by
   have:=nx _ w hw h
   rw [hx]
   exact ⟨this.1,this.2.1,by omega,by omega⟩
  split
  ·rename_i h; exact two true wEq (by decide) h _ rfl
  ·split
   ·rename_i h; exact two false wNe (by decide) h _ rfl
   ·exact ⟨hT.1,hT.2.1,hT3,hT4⟩
theorem a74q (ws:Ws) (F:Nat) (hF:0<F):∀(f:Nat) (p:Rd) (a:List Li),p.i<=ws.length->(k1q b1q ws F f p a).2.i<=ws.length+1/\((k1q b1q ws F f p a).2.g=true->(k1q b1q ws F f p a).2.i<=ws.length)/\p.i<=(k1q b1q ws F f p a).2.i/\(k1q b1q ws F f p a).2.sg.length+2*p.i<=p.sg.length+2*(k1q b1q ws F f p a).2.i
 | 0,p,a,h1=>by rw [k1q]; exact ⟨ahz h1,fun _=>h1,a3z _,a3z _⟩
 | f+1,p,a,h1=>by
  have hT:=a8Fq ws F hF p h1
  rw [k1q]
  split
  ·exact ⟨ahz h1,fun _=>h1,a3z _,a3z _⟩
  ·split
   ·rename_i h
    have hl:=o0q (ws:=ws) (i:=(i4q b1q ws F p).2.i) (by rw [h]; decide)
    have:=a74q ws F hF f ((i4q b1q ws F p).2.to ((i4q b1q ws F p).2.i+1)) (a++[(i4q b1q ws F p).1]) hl
    have e:((i4q b1q ws F p).2.to ((i4q b1q ws F p).2.i+1)).i=(i4q b1q ws F p).2.i+1:=rfl
    have e2:((i4q b1q ws F p).2.to ((i4q b1q ws F p).2.i+1)).sg=(i4q b1q ws F p).2.sg:=rfl
    rw [e,e2] at this
    exact ⟨this.1,this.2.1,by omega,by omega⟩
   ·exact ⟨hT.1,hT.2.1,aEz hT.2.2.1,hT.2.2.2⟩
open Classical in
theorem a5eq (ws:Ws):∀(f:Nat) (p:Rd),p.i<=ws.length+1->(p.g=true->p.i<=ws.length)->(k0q ws f p).i<=ws.length+1/\((k0q ws f p).g=true->(k0q ws f p).i<=ws.length)/\p.i<=(k0q ws f p).i/\(k0q ws f p).sg.length+p.i<=p.sg.length+(k0q ws f p).i
 | 0,p,h1,h2=>by rw [k0q]; exact ⟨h1,fun h=>by simp [Rd.no] at h,a3z _,a3z _⟩
 | f+1,p,h1,h2=>by
  rw [k0q]
  split
  ·rename_i hc
   have hi:=h2 hc.1
   have:=a5eq ws f ⟨p.i+1,decide (G1q p.sg (heW ws p.i)),p.sg++[⟨heW ws p.i,2,true⟩]⟩ (by show p.i+1<=ws.length+1; omega) (fun h=>by
    have hn:G1q p.sg (heW ws p.i):=by simpa using h
    exact o0q (R0q hn.1).1)
   simp only [alz,auz] at this
   exact ⟨this.1,this.2.1,aEz this.2.2.1,by have:=this.2.2.2; omega⟩
  ·exact ⟨h1,h2,a3z _,a3z _⟩
theorem a8Qq (ws:Ws) (hw:ws.length<=3000) (F:Nat) (hF:2*ws.length+2<=F) (p:Rd) (hi:p.i<=ws.length) (hs:p.sg.length<=100000+2*p.i):XC pg 87 [.one (.op 2000 0)] (qI ws p) (.dat (i4q b1q ws F p).1.da) (qO ws (i4q b1q ws F p).2):=by
 have T:=fun (q:Rd) h1 h2=>(acIq ws hw F).1 q h1 h2 (by omega)
 have hI:=q6q ws hw wTi (by decide) p
 apply a2vq
 refine ⟨_,_,_,_,_,hI,?_⟩
 unfold i4q
 by_cases h:heW ws p.i=wTi
 ·rw [if_pos h,V7q h]
  have hl:=o0q (ws:=ws) (i:=p.i) (by rw [h]; decide)
  have hT:=T (p.to (p.i+1)) hl (by show p.sg.length<=100000+2*(p.i+1); omega)
  generalize b0q b1q ws F (p.to (p.i+1))=t at hT ⊢
  obtain ⟨⟨tf,tv,tk⟩,p2⟩:=t
  exact a6q (decide_eq_true h) ⟨_,_,_,_,_,_,_,hT,rfl,rfl⟩
 ·rw [if_neg h,V0q h]
  have hT:=T p hi hs
  have hv:=(a83q b1q ws F).1 p hi
  generalize b0q b1q ws F p=t at hT hv ⊢
  obtain ⟨⟨tf,tv,tk⟩,p2⟩:=t
  have hv4:=hv.2.2.2.2
  simp only at hv4
  have hI1:=q6q ws hw wEq (by decide) p2
  refine a3q (decide_eq_false h) ⟨_,_,_,_,_,_,_,hT,_,_,_,_,_,hI1,?_⟩
  by_cases h1:heW ws p2.i=wEq
  ·rw [if_pos h1,V7q h1]
   have hl:=o0q (ws:=ws) (i:=p2.i) (by rw [h1]; decide)
   have hT2:=T (p2.to (p2.i+1)) hl (by show p2.sg.length<=100000+2*(p2.i+1); omega)
   generalize b0q b1q ws F (p2.to (p2.i+1))=t2 at hT2 ⊢
   obtain ⟨⟨uf,uv,uk⟩,p3⟩:=t2
   exact a6q (decide_eq_true h1) ⟨_,_,_,_,_,_,_,hT2,rfl,rfl⟩
  ·rw [if_neg h1,V0q h1]
   have hI2:=q6q ws hw wNe (by decide) p2
   refine a3q (decide_eq_false h1) ⟨_,_,_,_,_,hI2,?_⟩
   by_cases h2:heW ws p2.i=wNe
   ·rw [if_pos h2,V7q h2]
    have hl:=o0q (ws:=ws) (i:=p2.i) (by rw [h2]; decide)
    have hT2:=T (p2.to (p2.i+1)) hl (by show p2.sg.length<=100000+2*(p2.i+1); omega)
    generalize b0q b1q ws F (p2.to (p2.i+1))=t2 at hT2 ⊢
    obtain ⟨⟨uf,uv,uk⟩,p3⟩:=t2
    exact a6q (decide_eq_true h2) ⟨_,_,_,_,_,_,_,hT2,rfl,rfl⟩
   ·rw [if_neg h2,V0q h2]
    exact a3q (decide_eq_false h2) ⟨rfl,rfl⟩
open Classical in
theorem a1dq (ws:Ws) (hw:ws.length<=3000):∀(f:Nat) (p:Rd),p.i<=ws.length+1->p.sg.length<=200000+p.i->ws.length+1-p.i<f->(p.g=true->p.i<=ws.length)->g3q (.tup []) (qO ws (k0q ws f p)) (ws.map Tx.da) (p.i:Int) (!p.g) (p.sg.map Sy.da):=by
 intro f
 induction f with
 | zero=>intro p _ _ h; omega
 | succ f ih =>
  intro p hi hs hf hgi
  obtain ⟨i,g,s⟩:=p
  apply X4q
  rw [k0q]
  have hi:i<=ws.length+1:=hi
  have hs:s.length<=200000+i:=hs
  cases g with
  | false =>
   rw [if_neg (by simp)]
   exact a3q rfl ⟨rfl,rfl⟩
  | true =>
   have hgi:i<=ws.length:=hgi rfl
   have hN:=H4q ws ⟨i,true,s⟩
   have w1:a0z .i64 ((i:Int)+1)=((i+1:Nat):Int):=wr1 (n:=3001) (by omega) (by omega)
   refine a6q rfl ⟨_,_,_,_,_,hN,b3q (fun h => ?_) fun h => ?_⟩
   ·rw [if_pos ⟨rfl,h⟩]
    have ed:s.map Sy.da++[[Da.str (heW ws i),Da.int .i64 2,Da.bool true]]=(s++[(⟨heW ws i,2,true⟩:Sy)]).map Sy.da:=by simp [Sy.da]
    have hdo:Do ((amz (s.map Sy.da)+amz [[Da.str (heW ws i),Da.int .i64 2,Da.bool true]])*32<=140737488355328):=⟨by simp only [a4z,a5z,acz]; omega⟩
    have nx:∀b:Bool,b=decide (G1q s (heW ws i))->(b=true->i+1<=ws.length)->g3q (.tup []) (qO ws (k0q ws f ⟨i+1,decide (G1q s (heW ws i)),s++[⟨heW ws i,2,true⟩]⟩)) (ws.map Tx.da) (a0z .i64 ((i:Int)+1)) (!b) (s.map Sy.da++[[Da.str (heW ws i),Da.int .i64 2,Da.bool true]]):=fun b hb hb2=>by
     rw [w1,ed,<-hb]
     have hf:ws.length+1-i<f+1:=hf
     have h1:i+1<=ws.length+1:=by omega
     have h2:(s++[(⟨heW ws i,2,true⟩:Sy)]).length<=200000+(i+1):=by rw [alz,auz]; omega
     have h3:ws.length+1-(i+1)<f:=by omega
     have:=ih ⟨i+1,b,s++[⟨heW ws i,2,true⟩]⟩ h1 h2 h3 hb2
     exact this
    have no:¬G1q s (heW ws i)->Do ((amz (s.map Sy.da)+amz [[Da.str (heW ws i),Da.int .i64 2,Da.bool true]])*32<=140737488355328)/\g3q (.tup []) (qO ws (k0q ws f ⟨i+1,decide (G1q s (heW ws i)),s++[⟨heW ws i,2,true⟩]⟩)) (ws.map Tx.da) (a0z .i64 ((i:Int)+1)) true (s.map Sy.da++[[Da.str (heW ws i),Da.int .i64 2,Da.bool true]]):=fun h=>⟨hdo,nx false (by simp [h]) (fun h=>by cases h)⟩
    refine ⟨_,_,_,_,_,hN,_,D0q _,c5q (fun h1 => ?_) fun h1=>b3q (fun h2 => ?_) fun h2=>⟨_,G0q s _,b3q (fun h3 => ?_) fun h3 => ?_⟩⟩
    ·exact no fun hc=>j1q.1 (l9q h1) hc.1
    ·exact no fun hc=>hc.2.1 h2
    ·have h3:(0:Int)<=e7q s (heW ws i) 0:=h3
     exact no fun hc=>by have:=hc.2.2; omega
    ·have h3:¬(0:Int)<=e7q s (heW ws i) 0:=h3
     have hc:G1q s (heW ws i):=⟨g9q.1 (j2q h1),h2,by omega⟩
     exact ⟨hdo,nx true (by simp [hc]) (fun _=>o0q (R0q hc.1).1)⟩
   ·rw [if_neg (fun hc=>h hc.2)]
    exact ⟨rfl,rfl⟩
theorem a5iq (ws:Ws) (hw:ws.length<=3000) (F:Nat) (hF:ws.length+2<=F) (p:Rd) (hi:p.i<=ws.length) (hs:p.sg.length<=100000+2*p.i):XC pg 86 [.one (.op 2000 0)] (qI ws p) (.tup []) (qO ws (k0q ws F (if heW ws p.i=wDt then p.no else p))):=by
 apply a0Rq
 refine ⟨_,_,_,_,_,H4q ws p,b3q (fun h => ?_) fun h => ?_⟩
 ·rw [if_pos h]
  exact a1dq ws hw F p.no (by show p.i<=_; omega) (by show p.sg.length<=200000+p.i; omega) (by show ws.length+1-p.i<F; omega) (fun h=>by simp [Rd.no] at h)
 ·rw [if_neg h]
  exact a1dq ws hw F p (by omega) (by omega) (by omega) (fun _=>hi)
end AM
end Go.Proofs.YtmgfoalfimpkjaaGreat
