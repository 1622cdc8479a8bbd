/- A part of the proof of the law that the last of these texts states, for every input; no conditions. -/
import Derived.Test.YtmgfoalfimpkjaaGreatMrE
set_option linter.unusedVariables false
set_option linter.unusedSimpArgs false
open Go.IntKind renaming wrap->a0z,bits->aTz
open List renaming eq_nil_of_length_eq_zero->a1z,length_append->a2z,length_pos_iff->a4z,append_assoc->a5z,mem_cons->a6z,take_append_drop->a7z,pairwise_cons->a8z,length_map->a9z,append_nil->aaz,map_eq_cons_iff->abz,length_cons->acz,getElem?_set_ne->adz,mem_of_getElem?->aez,drop_eq_nil_of_le->afz,length_nil->ahz,getElem?_append_right->aiz,eq_nil_or_concat->ajz,concat_eq_append->akz,getElem?_append_left->alz,mem_cons_of_mem->amz,mem_append->anz,length_set->aoz,cons_append->apz,map_cons->aqz,getElem?_take_of_lt->arz,map_append->atz,length_eq_one_iff->auz,mem_of_mem_take->avz,mem_of_mem_drop->awz,getElem?_eq_some_iff->axz,nil_append->ayz,mem_singleton->azz,getElem?_drop->aAz,set_append_right->aCz,length_take->aDz,perm_append_singleton->aGz,take_append->aHz,mem_map->aIz,map_eq_nil_iff->aKz,mem_cons_self->aMz,foldl_append->aOz,drop_append->aPz,length->aQz,foldl_cons->aRz,sum_cons->aSz
open Nat renaming le_refl->a3z,zero_le->asz,min_eq_left->aEz,zero_add->aFz,le_succ->aJz,lt_of_lt_of_le->aLz,le_of_lt_succ->aNz
open Classical renaming byContradiction->agz
open Bool renaming eq_false_iff->aBz
set_option maxRecDepth 100000
namespace Go.Proofs.YtmgfoalfimpkjaaGreat
namespace AM
open Go Go.ChangeShapes Go.WideShapes Go.RowKit
open Go.Proofs.Tryz renaming prog->pg
def TgP {α:Type} (da:α->List Da) (z:List Da×α):Prop:=z.1.map Da.u1=da z.2
theorem a1jq {α:Type} {da:α->List Da}:∀{xs':List (List Da)} {ls:List α},xs'.map (List.map Da.u1)=ls.map da->∃zs:List (List Da×α),zs.map (·.1)=xs'/\zs.map (·.2)=ls/\∀z∈zs,TgP da z
 | [],[],_=>⟨[],rfl,rfl,by simp⟩
 | [],y::s,h=>by simp at h
 | x::r,[],h=>by simp at h
 | x::r,y::s,h=>by
  simp only [aqz,List.cons.injEq] at h
  obtain ⟨zs,h1,h2,h3⟩:=a1jq h.2
  refine ⟨(x,y)::zs,by simp [h1],by simp [h2],fun z hz => ?_⟩
  rcases a6z.1 hz with rfl | hz
  ·exact h.1
  ·exact h3 z hz
theorem a1Fq {α:Type} {da:α->List Da}:∀{zs:List (List Da×α)},(∀z∈zs,TgP da z)->(zs.map (·.1)).map (List.map Da.u1)=(zs.map (·.2)).map da
 | [],_=>rfl
 | z::r,h=>by
  simp only [aqz]
  rw [a1Fq fun x hx=>h x (by simp [hx]),h z (by simp)]
theorem aeYq {y:Da} {b:Bool} (h:y.u1 = .bool b):y = .bool b:=by cases y <;> simp [Da.u1] at h ⊢; exact h
theorem a0Zq {y:Da} {k:IntKind} {n:Int} (h:y.u1 = .int k n):y = .int k n:=by cases y <;> simp [Da.u1] at h ⊢; exact h
theorem ah1q (y:Da):y.u1.ut=y.ut:=by cases y <;> simp [Da.u1,Da.ut]
theorem agtq (r:List Da):Da.utL (r.map Da.u1)=Da.utL r:=by
 rw [a0Xq,a0Xq,List.map_map]
 exact List.map_congr_left fun y _=>ah1q y
mutual
theorem Tm.ut_da:∀t:Tm,Da.utL t.da=t.da
 | .mk f v ks=>by
  have h:=Tm.ut_das ks
  simp [Tm.da,Da.utL,Da.ut,h]
theorem Tm.ut_das:∀l:List Tm,Da.utR (Tm.das l)=Tm.das l
 | []=>rfl
 | t::r=>by
  have h1:=Tm.ut_da t
  have h2:=Tm.ut_das r
  simp [Tm.das,Da.utR,h1,h2]
end
theorem afGq (a b:List Da):Da.utL (a++b)=Da.utL a++Da.utL b:=by simp [a0Xq]
theorem Li.ut_da (x:Li):Da.utL x.da=x.da:=by
 obtain ⟨p,l,r⟩:=x
 show Da.utL (.bool p::(l.da++r.da))=_
 rw [Da.utL,afGq,l.ut_da,r.ut_da]; rfl
theorem TgP.ut {α:Type} {da:α->List Da} (hd:∀x,Da.utL (da x)=da x) {z:List Da×α} (h:TgP da z):Da.utL z.1=da z.2:=by
 rw [<-agtq,h,hd]
theorem TgP.lit {z:List Da×Li} (h:TgP Li.da z):∃b n1 n2 d n3 n4 d1,z.1=[.bool b,.int .i64 n1,.int .i64 n2,d,.int .i64 n3,.int .i64 n4,d1]:=by
 obtain ⟨row,⟨p,⟨f,v,ks⟩,⟨g,u,ms⟩⟩⟩:=z
 have h:row.map Da.u1=[.bool p,.int .i64 f,.int .i64 v,.sl (Tm.das ks),.int .i64 g,.int .i64 u,.sl (Tm.das ms)]:=h
 obtain ⟨y1,r1,rfl,h1,h⟩:=abz.1 h
 obtain ⟨y2,r2,rfl,h2,h⟩:=abz.1 h
 obtain ⟨y3,r3,rfl,h3,h⟩:=abz.1 h
 obtain ⟨y4,r4,rfl,h4,h⟩:=abz.1 h
 obtain ⟨y5,r5,rfl,h5,h⟩:=abz.1 h
 obtain ⟨y6,r6,rfl,h6,h⟩:=abz.1 h
 obtain ⟨y7,r7,rfl,h7,h⟩:=abz.1 h
 rw [aKz.1 h]
 exact ⟨p,f,v,y4,g,u,y7,by rw [aeYq h1,a0Zq h2,a0Zq h3,a0Zq h5,a0Zq h6]⟩
theorem TgP.term {z:List Da×Tm} (h:TgP Tm.da z):∃n1 n2 d,z.1=[.int .i64 n1,.int .i64 n2,d]:=by
 obtain ⟨row,⟨f,v,ks⟩⟩:=z
 have h:row.map Da.u1=[.int .i64 f,.int .i64 v,.sl (Tm.das ks)]:=h
 obtain ⟨y1,r1,rfl,h1,h⟩:=abz.1 h
 obtain ⟨y2,r2,rfl,h2,h⟩:=abz.1 h
 obtain ⟨y3,r3,rfl,h3,h⟩:=abz.1 h
 rw [aKz.1 h]
 exact ⟨f,v,y3,by rw [a0Zq h1,a0Zq h2]⟩
structure SWO {β:Type} (lt:β->β->Prop):Prop where
 asym:∀{a b},lt a b->¬lt b a
 ntr:∀{a b c},¬lt b a->¬lt c b->¬lt c a
abbrev Sd {β:Type} (lt:β->β->Prop) (l:List β):Prop:=l.Pairwise (fun a b=>¬lt b a)
section
variable {β:Type} {lt:β->β->Prop}
theorem t7q {L R:List β}:Sd lt (L++R)↔Sd lt L/\Sd lt R/\∀a∈L,∀b∈R,¬lt b a:=List.pairwise_append
theorem Q8q (h:SWO lt) {L R:List β} {x:β} (hs:Sd lt (L++R)) (hR:∀y∈R,¬lt y x) (hL:∀y∈L,¬lt x y):Sd lt (L++x::R):=by
 obtain ⟨h1,h2,h3⟩:=t7q.1 hs
 refine t7q.2 ⟨h1,a8z.2 ⟨hR,h2⟩,fun a ha b hb => ?_⟩
 rcases a6z.1 hb with rfl | hb
 ·exact hL a ha
 ·exact h3 a ha b hb
theorem a5Pq (h:SWO lt) {L:List β} {z x:β} (hs:Sd lt (L++[z])) (hz:¬lt x z):∀y∈L++[z],¬lt x y:=by
 intro y hy
 rcases anz.1 hy with hy | hy
 ·exact h.ntr ((t7q.1 hs).2.2 y hy z (by simp)) hz
 ·rw [azz.1 hy]; exact hz
theorem a0iq (h:SWO lt) {R:List β} {x:β} (hs:Sd lt R) (hl:R=[]\/∃y,R[R.length-1]?=some y/\lt y x):∀y∈R,lt y x:=by
 rcases hl with rfl | ⟨y,hy,hlt⟩
 ·simp
 ·intro w hw
  rcases ajz R with rfl | ⟨R',z,rfl⟩
  ·simp at hw
  ·rw [akz] at hs hy hw
   have:z=y:=by simpa using hy
   subst this
   rcases anz.1 hw with hw | hw
   ·have h1:=(t7q.1 hs).2.2 w hw z (by simp)
    exact agz fun hn=>h.ntr hn h1 hlt
   ·rw [azz.1 hw]; exact hlt
theorem a0cq (h:SWO lt) {R:List β} {x:β} (hs:Sd lt R) (hl:R=[]\/∃y,R[R.length-1]?=some y/\¬lt x y):∀y∈R,¬lt x y:=by
 rcases hl with rfl | ⟨y,hy,hlt⟩
 ·simp
 ·intro w hw
  rcases ajz R with rfl | ⟨R',z,rfl⟩
  ·simp at hw
  ·rw [akz] at hs hy hw
   have:z=y:=by simpa using hy
   subst this
   exact a5Pq h hs hlt w hw
theorem a6Zq (h:SWO lt) {R:List β} {x:β} (hs:Sd lt R) (hl:R=[]\/∃y,R[0]?=some y/\lt x y):∀y∈R,lt x y:=by
 rcases hl with rfl | ⟨y,hy,hlt⟩
 ·simp
 ·intro w hw
  cases R with
  | nil=>simp at hw
  | cons z R' =>
   have:z=y:=by simpa using hy
   subst this
   rcases a6z.1 hw with rfl | hw
   ·exact hlt
   ·have h1:=(a8z.1 hs).1 w hw
    exact agz fun hn=>h.ntr h1 hn hlt
theorem I7q (h:SWO lt) {R:List β} {x:β} (hs:Sd lt R) (hl:R=[]\/∃y,R[0]?=some y/\¬lt y x):∀y∈R,¬lt y x:=by
 rcases hl with rfl | ⟨y,hy,hlt⟩
 ·simp
 ·intro w hw
  cases R with
  | nil=>simp at hw
  | cons z R' =>
   have:z=y:=by simpa using hy
   subst this
   rcases a6z.1 hw with rfl | hw
   ·exact hlt
   ·exact h.ntr hlt ((a8z.1 hs).1 w hw)
end
theorem V9q {ι:Type} {p:ι->Nat->Nat->Prop} {ex:ι->Nat->Prop} (f:Nat->Prop) (lo hi:Nat) (hx:∀t i,lo<=i->i<=hi->ex t i->p t i i)
  (hs:∀t i j,lo<=i->i<j->j<=hi->(f ((i+j) / 2)->p t ((i+j) / 2+1) j->p t i j)/\(¬f ((i+j) / 2)->p t i ((i+j) / 2)->p t i j)):∀(n i j:Nat),j-i<=n->lo<=i->i<=j->j<=hi->(i=lo\/f (i-1))->(j=hi\/¬f j)->∃k,i<=k/\k<=j/\(k=lo\/f (k-1))/\(k=hi\/¬f k)/\∀t,ex t k->p t i j:=by
 intro n
 induction n with
 | zero =>
  intro i j hn h1 h2 h3 hi' hj'
  have:j=i:=by omega
  subst this
  exact ⟨j,a3z _,a3z _,hi',hj',fun t=>hx t j h1 h3⟩
 | succ n ih =>
  intro i j hn h1 h2 h3 hi' hj'
  by_cases hij:i=j
  ·subst hij
   exact ⟨i,a3z _,a3z _,hi',hj',fun t=>hx t i h1 h3⟩
  ·have hlt:i<j:=by omega
   by_cases hf:f ((i+j) / 2)
   ·obtain ⟨k,k1,k2,k3,k4,k5⟩:=ih ((i+j) / 2+1) j (by omega) (by omega) (by omega) h3 (.inr (by simpa using hf)) hj'
    exact ⟨k,by omega,k2,k3,k4,fun t h=>(hs t i j h1 hlt h3).1 hf (k5 t h)⟩
   ·obtain ⟨k,k1,k2,k3,k4,k5⟩:=ih i ((i+j) / 2) (by omega) h1 (by omega) (by omega) hi' (.inr hf)
    exact ⟨k,k1,by omega,k3,k4,fun t h=>(hs t i j h1 hlt h3).2 hf (k5 t h)⟩
theorem x8q {β γ:Type} (g:β->γ) {P R Q:List β} {k:Nat} {y:β} (h:R[k]?=some y):((P++R++Q).map g)[P.length+k]?=some (g y):=by
 have hk:k<R.length:=(axz.1 h).1
 rw [List.getElem?_map,a5z,aiz (by omega),Nat.add_sub_cancel_left,alz hk,h]
 rfl
theorem midw {i j:Nat} (h:i+j<=281474976710656):a0z .i64 (a0z .u64 (a0z .i64 ((i:Int)+(j:Int))) / 2 ^ Int.toNat 1)=(((i+j) / 2:Nat):Int):=by
 rw [wrI (x:=(i:Int)+(j:Int)) (by omega) (by omega)]
 have h1:a0z .u64 ((i:Int)+(j:Int))=(i:Int)+(j:Int):=by
  unfold a0z
  simp only [aTz,IntKind.signed]
  first
  | (simp; omega)
  | omega
 rw [h1]
 have h2:(2:Int) ^ Int.toNat 1=2:=rfl
 rw [h2,wrI (by omega) (by omega)]
 omega
section
variable {β γ:Type} (g:β->γ)
theorem a0Mq {P M Q:List β} {a b:β}:(((P++a::M++b::Q).map g).set P.length (g b)).set (P.length+1+M.length) (g a)=(P++b::M++a::Q).map g:=by
 simp only [atz,aqz,a5z,apz]
 rw [aCz _ _ (by simp)]
 simp only [a9z,Nat.sub_self,List.set_cons_zero]
 rw [aCz _ _ (by simp; omega)]
 have e:P.length+1+M.length-(P.map g).length=M.length+1:=by simp; omega
 rw [e,List.set_cons_succ,aCz _ _ (by simp)]
 simp
theorem a38q {P M Q:List β} {a b:β}:(((P++a::M++b::Q).map g).set (P.length+1+M.length) (g a)).set P.length (g b)=(P++b::M++a::Q).map g:=by
 rw [List.set_comm _ _ (by omega)]
 exact a0Mq g
theorem R3q {P M Q:List β} {a b:β}:((P++a::M++b::Q).map g)[P.length]?=some (g a):=by
 rw [a5z]; simp
theorem R7q {P M Q:List β} {a b:β}:((P++a::M++b::Q).map g)[P.length+1+M.length]?=some (g b):=by
 have:P.length+1+M.length=(P++a::M).length:=by simp; omega
 rw [this]; simp
end
theorem A6q {β γ:Type} (g:β->γ) (P M Q:List β) (a b:β):((P++a::M++b::Q).map g).length=P.length+M.length+Q.length+2:=by simp; omega
theorem G9q:(0:Int)<=1/\(1:Int)<=((aTz IntKind.u64:Nat):Int):=by decide
def f2q (a b:List Da×Tm):Prop:=Tm.cmp a.2 b.2<0
instance (a b:List Da×Tm):Decidable (f2q a b):=inferInstanceAs (Decidable (_<_))
theorem a35q {z w:List Da×Tm} (hz:TgP Tm.da z) (hw:TgP Tm.da w):XC pg 112 [.dat z.1,.dat w.1] [] (Z (Tm.cmp z.2 w.2)) []:=XC.ut (by
 show XC _ _ [.dat (Da.utL z.1),.dat (Da.utL w.1)] _ _ _
 rw [hz.ut Tm.ut_da,hw.ut Tm.ut_da]; exact L0q _ _)
theorem Z2q (A Y C:List (List Da×Tm)):∀(X2 Z2 Z1 X1:List (List Da×Tm)),(∀z∈A++Z1++X2++Y++X1++Z2++C,TgP Tm.da z)->X2.length=Z2.length->X1.length=Z1.length->(A++Z1++X2++Y++X1++Z2++C).length<=3000000000000 ->
  f9q (.tup []) [(2000,.lst 52 3 ((A++Z1++Z2++Y++X1++X2++C).map (·.1)))] (A.length:Int) ((A++Z1++X2++Y).length:Int) ((Z1++X2).length:Int) (Z1.length:Int) ((A++Z1++X2++Y++X1++Z2++C).map (·.1))
 | [],Z2,Z1,X1,ht,h1,h2,hl=>by
  have:Z2=[]:=a1z h1.symm
  subst this
  apply n5q
  exact a3q (decide_eq_false (by simp)) ⟨rfl,by simp⟩
 | x::X2,[],Z1,X1,ht,h1,h2,hl=>by simp at h1
 | x::X2,z::Z2,Z1,X1,ht,h1,h2,hl=>by
  have hl':A.length+Z1.length+X2.length+Y.length+X1.length+Z2.length+C.length+2<=3000000000000:=by simp at hl; omega
  have ih:=Z2q A Y C X2 Z2 (Z1++[z]) (X1++[x]) (fun w hw=>ht w (by simp at hw ⊢; grind)) (by simpa using h1) (by simp [h2]) (by simp; omega)
  obtain ⟨_,_,_,ex⟩:=(ht x (by simp)).term
  obtain ⟨_,_,_,ez⟩:=(ht z (by simp)).term
  have eD:A++Z1++x::X2++Y++X1++z::Z2++C=(A++Z1)++x::(X2++Y++X1)++z::(Z2++C):=by simp
  have eD2:(A++Z1)++z::(X2++Y++X1)++x::(Z2++C)=A++(Z1++[z])++X2++Y++(X1++[x])++Z2++C:=by simp
  have eR:A++(Z1++[z])++Z2++Y++(X1++[x])++X2++C=A++Z1++z::Z2++Y++X1++x::X2++C:=by simp
  have en:((Z1++[z])++X2).length=(Z1++x::X2).length:=by simp
  have eb:(A++(Z1++[z])++X2++Y).length=(A++Z1++x::X2++Y).length:=by simp
  have ei:(Z1++[z]).length=Z1.length+1:=by simp
  have w1:a0z .i64 (((A++Z1++x::X2++Y).length:Int)+(Z1.length:Int))=(((A++Z1).length+1+(X2++Y++X1).length:Nat):Int):=by
   rw [wrI (by omega) (by simp; omega)]; simp; omega
  have w2:a0z .i64 ((A.length:Int)+(Z1.length:Int))=(((A++Z1).length:Nat):Int):=by
   rw [wrI (by omega) (by omega)]; simp
  have w3:a0z .i64 ((Z1.length:Int)+1)=((Z1.length+1:Nat):Int):=by
   rw [wrI (by omega) (by omega)]; simp
  rw [en,eb,ei,<-eD2,eR,<-a0Mq] at ih
  rw [eD]
  have g1:=R7q (fun z:List Da×Tm=>z.1) (P:=A++Z1) (M:=X2++Y++X1) (Q:=Z2++C) (a:=x) (b:=z)
  have g2:=R3q (fun z:List Da×Tm=>z.1) (P:=A++Z1) (M:=X2++Y++X1) (Q:=Z2++C) (a:=x) (b:=z)
  have l1:=A6q (fun z:List Da×Tm=>z.1) (A++Z1) (X2++Y++X1) (Z2++C) x z
  have g3:((((A++Z1)++x::(X2++Y++X1)++z::(Z2++C)).map (·.1)).set (A++Z1).length z.1)[(A++Z1).length+1+(X2++Y++X1).length]?=some z.1:=by
   rw [adz (by omega)]; exact g1
  rw [ex] at g2 ih
  rw [ez] at g1 g3 ih
  apply n5q
  rw [w1,w2,w3]
  refine a6q (decide_eq_true (by simp; omega)) ⟨_,rfl,⟨by rw [l1]; omega⟩,_,rfl,_,_,_,g1,_,rfl,⟨by rw [l1]; omega⟩,_,rfl,_,_,_,g2,_,rfl,⟨by rw [l1]; omega⟩,_,rfl,_,_,_,g2,_,rfl,⟨by rw [aoz,l1]; omega⟩,_,rfl,_,_,_,g3,ih⟩
theorem H8q (A U Y V C:List (List Da×Tm)) (ht:∀z∈A++U++Y++V++C,TgP Tm.da z) (h:U.length=V.length) (hl:(A++U++Y++V++C).length<=3000000000000):XC pg 216 [.one (.ol 2000),Z (A.length:Int),Z ((A++U++Y).length:Int),Z (U.length:Int),.one (.d (.fn 112))] [(2000,.lst 52 3 ((A++U++Y++V++C).map (·.1)))] (.tup []) [(2000,.lst 52 3 ((A++V++Y++U++C).map (·.1)))]:=by
 apply x5q
 have:=Z2q A Y C U V [] [] (by simpa using ht) h rfl (by simpa using hl)
 simpa using this
theorem a7Jq (T:List (List Da×Tm)):∀(n:Nat) (A U V C:List (List Da×Tm)),U.length+V.length<=n->U≠[]->V≠[]->(∀z∈A++U++V++C,TgP Tm.da z)->(A++U++V++C).length<=3000000000000->A++V++U++C=T->e9q (.tup []) [(2000,.lst 52 3 ((T).map (·.1)))] ((A++U).length:Int) (U.length:Int) (V.length:Int) ((A++U++V++C).map (·.1)):=by
 intro n
 induction n with
 | zero =>
  intro A U V C hn hU _ _ _ _
  exact absurd (a1z (by omega)) hU
 | succ n ih =>
  intro A U V C hn hU hV ht hl hT
  have hU':=a4z.2 hU
  have hV':=a4z.2 hV
  have hl':A.length+U.length+V.length+C.length<=3000000000000:=by simp at hl; omega
  have w1:a0z .i64 (((A++U).length:Int)-(U.length:Int))=(A.length:Int):=by rw [wrI (by simp <;> omega) (by simp <;> omega)]; simp <;> omega
  apply x7q
  rw [w1]
  by_cases he:U.length=V.length
  ·have c:=H8q A U [] V C (by simpa using ht) he (by simpa using hl)
   simp only [aaz] at c
   rw [hT] at c
   exact a3q (decide_eq_false (by simp [he])) ⟨_,c,rfl,rfl⟩
  ·refine a6q (decide_eq_true (by omega)) ?_
   by_cases hgt:V.length<U.length
   ·refine a6q (decide_eq_true (by omega)) ?_
    obtain ⟨U1,U2,rfl,hU1⟩:∃U1 U2,U=U1++U2/\U1.length=V.length:=⟨U.take V.length,U.drop V.length,by simp,by simp; omega⟩
    have c:=H8q A U1 U2 V C (by simpa using ht) hU1 (by simpa using hl)
    have h2:U2.length+V.length=(U1++U2).length:=by simp; omega
    have w2:a0z .i64 (((U1++U2).length:Int)-(V.length:Int))=(U2.length:Int):=by rw [wrI (by simp <;> omega) (by simp <;> omega)]; simp <;> omega
    have i1:=ih (A++V) U2 U1 C (by simp at hn; omega) (by intro h; subst h; simp at hgt hU1; omega) (by intro h; subst h; simp at hU1; omega) (fun w hw=>ht w (by simp at hw ⊢; grind)) (by simp; omega) (by simpa [a5z] using hT)
    have e1:A++(U1++U2)++V++C=A++U1++U2++V++C:=by simp
    have e2:(A++V++U2).length=(A++(U1++U2)).length:=by simp; omega
    have e3:(A++(U1++U2)).length=(A++U1++U2).length:=by simp
    rw [w2,e1]
    rw [e2] at i1
    rw [e3] at i1 ⊢
    rw [hU1] at i1 c
    exact ⟨_,c,i1⟩
   ·refine a3q (decide_eq_false (by omega)) ?_
    obtain ⟨V1,V2,rfl,hV2⟩:∃V1 V2,V=V1++V2/\V2.length=U.length:=⟨V.take (V.length-U.length),V.drop (V.length-U.length),by simp,by simp; omega⟩
    have hvl:(V1++V2).length=V1.length+V2.length:=by simp
    have c:=H8q A U V1 V2 C (by simpa using ht) hV2.symm (by simpa using hl)
    have w2:a0z .i64 (a0z .i64 (((A++U).length:Int)+((V1++V2).length:Int))-(U.length:Int))=((A++U++V1).length:Int):=by
     rw [wrI (x:=((A++U).length:Int)+_) (by omega) (by simp at hl' ⊢; omega),wrI (by simp; omega) (by simp at hl' ⊢; omega)]; simp; omega
    have w3:a0z .i64 (((V1++V2).length:Int)-(U.length:Int))=(V1.length:Int):=by rw [wrI (by simp; omega) (by simp at hl' ⊢; omega)]; simp; omega
    have i1:=ih A V2 V1 (U++C) (by omega) (by intro h; subst h; simp at hV2; omega) (by intro h; subst h; simp at he hgt hvl; omega) (fun w hw=>ht w (by simp at hw ⊢; grind)) (by simp at hl' ⊢; omega) (by simpa [a5z] using hT)
    have e1:A++U++(V1++V2)++C=A++U++V1++V2++C:=by simp
    have e2:(A++V2).length=(A++U).length:=by simp [hV2]
    have e4:A++V2++V1++(U++C)=A++V2++V1++U++C:=by simp
    rw [w2,w3,e1]
    rw [e2,hV2,e4] at i1
    exact ⟨_,c,i1⟩
theorem a7Nq (A U V C:List (List Da×Tm)) (hU:U≠[]) (hV:V≠[]) (ht:∀z∈A++U++V++C,TgP Tm.da z) (hl:(A++U++V++C).length<=3000000000000):XC pg 214 [.one (.ol 2000),Z (A.length:Int),Z ((A++U).length:Int),Z ((A++U++V).length:Int),.one (.d (.fn 112))] [(2000,.lst 52 3 ((A++U++V++C).map (·.1)))] (.tup []) [(2000,.lst 52 3 ((A++V++U++C).map (·.1)))]:=by
 have hl':A.length+U.length+V.length+C.length<=3000000000000:=by simp at hl; omega
 have w1:a0z .i64 (((A++U).length:Int)-(A.length:Int))=(U.length:Int):=by rw [wrI (by simp <;> omega) (by simp <;> omega)]; simp <;> omega
 have w2:a0z .i64 (((A++U++V).length:Int)-((A++U).length:Int))=(V.length:Int):=by rw [wrI (by simp <;> omega) (by simp <;> omega)]; simp <;> omega
 apply A5q
 rw [w1,w2]
 exact a7Jq _ _ A U V C (a3z _) hU hV ht hl rfl
theorem aaaq (hO:SWO f2q) (A:List (List Da×Tm)) (x:List Da×Tm):∀(n:Nat) (L R Q:List (List Da×Tm)),L.length=n->(∀z∈A++L++x::R++Q,TgP Tm.da z)->(A++L++x::R++Q).length<=3000000000000->Sd f2q (L++R)->(∀y∈R,f2q x y)->∃S,S.Perm (L++x::R)/\Sd f2q S/\∀(r:AV) (O:List (Nat×Ob)) (b i:Int),(c9q r O (A.length:Int) b (a0z .i64 (i+1)) ((A++S++Q).map (·.1))->e8q r O (A.length:Int) b i ((A++L).length:Int) ((A++L++x::R++Q).map (·.1))):=by
 intro n
 induction n with
 | zero =>
  intro L R Q hn ht hl hs hR
  have:L=[]:=a1z hn
  subst this
  refine ⟨x::R,by simp,Q8q hO (L:=[]) hs (fun y hy=>hO.asym (hR y hy)) (by simp),fun r O b i h => ?_⟩
  apply i7q
  refine a3q (decide_eq_false (by simp)) ?_
  simpa using h
 | succ n ih =>
  intro L R Q hn ht hl hs hR
  obtain ⟨L',z,rfl⟩:∃L' z,L=L'++[z]:=by
   rcases ajz L with rfl | ⟨L',z,h⟩
   ·simp at hn
   ·exact ⟨L',z,by rw [h,akz]⟩
  have hl':A.length+L'.length+R.length+Q.length+2<=3000000000000:=by simp at hl; omega
  have hz:=ht z (by simp)
  have hx:=ht x (by simp)
  have hcmp:=a35q hx hz
  obtain ⟨_,_,_,ex⟩:=(ht x (by simp)).term
  obtain ⟨_,_,_,ez⟩:=(ht z (by simp)).term
  have eD:A++(L'++[z])++x::R++Q=(A++L')++z::[]++x::(R++Q):=by simp
  have g1:=R7q (fun z:List Da×Tm=>z.1) (P:=A++L') (M:=[]) (Q:=R++Q) (a:=z) (b:=x)
  have g2:=R3q (fun z:List Da×Tm=>z.1) (P:=A++L') (M:=[]) (Q:=R++Q) (a:=z) (b:=x)
  have l1:=A6q (fun z:List Da×Tm=>z.1) (A++L') [] (R++Q) z x
  have g3:((((A++L')++z::[]++x::(R++Q)).map (·.1)).set ((A++L').length+1+([]:List (List Da×Tm)).length) z.1)[(A++L').length]?=some z.1:=by
   rw [adz (by simp)]; exact g2
  have w1:a0z .i64 (((A++(L'++[z])).length:Int)-1)=(((A++L').length:Nat):Int):=by rw [wrI (by simp <;> omega) (by simp <;> omega)]; simp <;> omega
  have w2:a0z .i64 ((((A++L').length+1+([]:List (List Da×Tm)).length:Nat):Int)-1)=(((A++L').length:Nat):Int):=by rw [wrI (by simp <;> omega) (by simp <;> omega)]; simp <;> omega
  have hj:((A++(L'++[z])).length:Int)=(((A++L').length+1+([]:List (List Da×Tm)).length:Nat):Int):=by simp; omega
  by_cases hlt:f2q x z
  ·obtain ⟨S,p1,p2,p3⟩:=ih L' (z::R) Q (by simpa using hn) (fun w hw=>ht w (by simp at hw ⊢; grind)) (by simp; omega) (by simpa using hs) (fun y hy=>by
    rcases a6z.1 hy with rfl | hy
    ·exact hlt
    ·exact hR y hy)
   refine ⟨S,p1.trans ?_,p2,fun r O b i h => ?_⟩
   ·have:(L'++[z])++x::R=L'++z::x::R:=by simp
    rw [this]
    exact (List.Perm.swap ..).append_left L'
   ·have h4:=p3 r O b i h
    have eS:A++L'++x::z::R++Q=(A++L')++x::[]++z::(R++Q):=by simp
    rw [eS,<-a38q] at h4
    rw [ex] at g1 hcmp
    rw [ez] at g2 g3 hcmp
    rw [ex,ez] at h4
    apply i7q
    rw [eD,hj,w2]
    refine a6q (decide_eq_true (by simp; omega)) ⟨_,rfl,⟨by rw [l1]; simp; omega⟩,_,rfl,_,_,_,g1,_,rfl,⟨by rw [l1]; simp; omega⟩,_,rfl,_,_,_,g2,_,hcmp,a6q (decide_eq_true hlt) ⟨_,rfl,⟨by rw [l1]; simp; omega⟩,_,rfl,_,_,_,g2,_,rfl,⟨by rw [l1]; simp; omega⟩,_,rfl,_,_,_,g1,_,rfl,⟨by rw [l1]; simp; omega⟩,_,rfl,_,_,_,g1,_,rfl,⟨by rw [aoz,l1]; simp; omega⟩,_,rfl,_,_,_,g3,h4⟩⟩
  ·refine ⟨(L'++[z])++x::R,.refl _,Q8q hO hs (fun y hy=>hO.asym (hR y hy)) (a5Pq hO (t7q.1 hs).1 hlt),fun r O b i h => ?_⟩
   have e2:A++(L'++[z]++x::R)++Q=(A++L')++z::[]++x::(R++Q):=by simp
   rw [e2] at h
   rw [ex] at g1 hcmp
   rw [ez] at g2 hcmp
   apply i7q
   rw [eD,hj,w2]
   exact a6q (decide_eq_true (by simp; omega)) ⟨_,rfl,⟨by rw [l1]; simp; omega⟩,_,rfl,_,_,_,g1,_,rfl,⟨by rw [l1]; simp; omega⟩,_,rfl,_,_,_,g2,_,hcmp,a3q (decide_eq_false hlt) h⟩
theorem a1Vq (hO:SWO f2q) (A C:List (List Da×Tm)):∀(R S:List (List Da×Tm)),(∀z∈A++S++R++C,TgP Tm.da z)->(A++S++R++C).length<=3000000000000->Sd f2q S->∃M,M.Perm (S++R)/\Sd f2q M/\c9q (.tup []) [(2000,.lst 52 3 ((A++M++C).map (·.1)))] (A.length:Int) ((A++S++R).length:Int) ((A++S).length:Int) ((A++S++R++C).map (·.1))
 | [],S,ht,hl,hs=>by
  refine ⟨S,by simp,hs,?_⟩
  apply i8q
  exact a3q (decide_eq_false (by simp)) ⟨rfl,by simp⟩
 | x::R,S,ht,hl,hs=>by
  have hl':A.length+S.length+R.length+C.length+1<=3000000000000:=by simp at hl; omega
  obtain ⟨S',p1,p2,p3⟩:=aaaq hO A x S.length S [] (R++C) rfl (by simpa using ht) (by simpa using hl) (by simpa using hs) (by simp)
  have pl:=p1.length_eq
  simp only [a2z,acz,ahz] at pl
  obtain ⟨M,q1,q2,q3⟩:=a1Vq hO A C R S' (fun w hw=>ht w (by
   have hp:w∈S'->w∈S++[x]:=fun h=>p1.subset h
   simp at hw hp ⊢; grind)) (by simp; omega) p2
  refine ⟨M,q1.trans ?_,q2,?_⟩
  ·have e:S++x::R=S++[x]++R:=by simp
   rw [e]
   exact p1.append_right R
  ·have h4:=p3 (.tup []) [(2000,.lst 52 3 ((A++M++C).map (·.1)))] ((A++S++x::R).length:Int) ((A++S).length:Int)
   have w1:a0z .i64 (((A++S).length:Int)+1)=((A++S').length:Int):=by rw [wrI (by simp <;> omega) (by simp <;> omega)]; simp <;> omega
   have e1:(A++S'++R).length=(A++S++x::R).length:=by simp; omega
   have e2:A++S'++(R++C)=A++S'++R++C:=by simp
   have e3:A++S++[x]++(R++C)=A++S++x::R++C:=by simp
   rw [w1,e2,e3] at h4
   rw [e1] at q3
   apply i8q
   exact a6q (decide_eq_true (by simp; omega)) (h4 q3)
theorem S5q (hO:SWO f2q) (A R C:List (List Da×Tm)) (ht:∀z∈A++R++C,TgP Tm.da z) (hl:(A++R++C).length<=3000000000000):∃M,M.Perm R/\Sd f2q M/\XC pg 207 [.one (.ol 2000),Z (A.length:Int),Z ((A++R).length:Int),.one (.d (.fn 112))] [(2000,.lst 52 3 ((A++R++C).map (·.1)))] (.tup []) [(2000,.lst 52 3 ((A++M++C).map (·.1)))]:=by
 have hl':A.length+R.length+C.length<=3000000000000:=by simp at hl; omega
 have w1:a0z .i64 ((A.length:Int)+1)=((A.length+1:Nat):Int):=by rw [wrI (by omega) (by omega)]; simp
 cases R with
 | nil =>
  refine ⟨[],.refl _,.nil,?_⟩
  apply n0q
  rw [w1]
  apply i8q
  exact a3q (decide_eq_false (by simp <;> omega)) ⟨rfl,rfl⟩
 | cons x R =>
  obtain ⟨M,p1,p2,p3⟩:=a1Vq hO A C R [x] (by simpa using ht) (by simpa using hl) (by simp)
  refine ⟨M,by simpa using p1,p2,?_⟩
  apply n0q
  rw [w1]
  have e1:(A++[x]).length=A.length+1:=by simp
  have e2:A++[x]++R=A++x::R:=by simp
  rw [e1,e2] at p3
  exact p3
theorem a5aq (i:Int) (x:List Da×Tm) (Q:List (List Da×Tm)):∀(R1 D:List (List Da×Tm)),(∀z∈D++x::R1++Q,TgP Tm.da z)->(D++x::R1++Q).length<=3000000000000->i=((D.length+R1.length+1:Nat):Int)->e5q (.tup []) [(2000,.lst 52 3 ((D++R1++x::Q).map (·.1)))] i (D.length:Int) ((D++x::R1++Q).map (·.1)):=by
 intro R1
 induction R1 with
 | nil =>
  intro D ht hl hi
  have w:a0z .i64 (i-1)=(D.length:Int):=by rw [wrI (by omega) (by simp at hl hi; omega)]; simp at hi; omega
  apply o2q
  rw [w]
  exact a3q (decide_eq_false (by omega)) ⟨rfl,by simp⟩
 | cons y R1 ih0 =>
  intro D ht hl hi
  have hl':D.length+R1.length+Q.length+2<=3000000000000:=by simp at hl; omega
  have ih:=ih0 (D++[y]) (fun w hw=>ht w (by simp at hw ⊢; grind)) (by simp; omega) (by simp at hi ⊢; omega)
  have w:a0z .i64 (i-1)=((D.length+R1.length+1:Nat):Int):=by rw [wrI (by omega) (by simp at hi; omega)]; simp at hi; omega
  have w1:a0z .i64 ((D.length:Int)+1)=((D.length+1+([]:List (List Da×Tm)).length:Nat):Int):=by rw [wrI (by omega) (by omega)]; simp
  have eD:D++x::y::R1++Q=D++x::[]++y::(R1++Q):=by simp
  have eE:D++[y]++x::R1++Q=D++y::[]++x::(R1++Q):=by simp
  have eO:D++[y]++R1++x::Q=D++y::R1++x::Q:=by simp
  have e1:(D++[y]).length=D.length+1+([]:List (List Da×Tm)).length:=by simp
  have g1:=R7q (fun z:List Da×Tm=>z.1) (P:=D) (M:=[]) (Q:=R1++Q) (a:=x) (b:=y)
  have g2:=R3q (fun z:List Da×Tm=>z.1) (P:=D) (M:=[]) (Q:=R1++Q) (a:=x) (b:=y)
  have l1:=A6q (fun z:List Da×Tm=>z.1) D [] (R1++Q) x y
  have g3:(((D++x::[]++y::(R1++Q)).map (·.1)).set D.length y.1)[D.length+1+([]:List (List Da×Tm)).length]?=some y.1:=by
   rw [adz (by simp)]; exact g1
  obtain ⟨_,_,_,ex⟩:=(ht x (by simp)).term
  obtain ⟨_,_,_,ey⟩:=(ht y (by simp)).term
  rw [eE,eO,e1,<-a0Mq (fun z:List Da×Tm=>z.1) (P:=D) (M:=[]) (Q:=R1++Q) (a:=x) (b:=y)] at ih
  rw [ex] at g2
  rw [ey] at g1 g3
  rw [ex,ey] at ih
  apply o2q
  rw [w,eD,w1]
  exact a6q (decide_eq_true (by omega)) ⟨_,rfl,⟨by rw [l1]; simp; omega⟩,_,rfl,_,_,_,g1,_,rfl,⟨by rw [l1]; simp; omega⟩,_,rfl,_,_,_,g2,_,rfl,⟨by rw [l1]; simp; omega⟩,_,rfl,_,_,_,g2,_,rfl,⟨by rw [aoz,l1]; simp; omega⟩,_,rfl,_,_,_,g3,ih⟩
theorem a6eq (D:List (List Da×Tm)) (x:List Da×Tm):∀(n:Nat) (L Q:List (List Da×Tm)),L.length=n->(∀z∈D++L++x::Q,TgP Tm.da z)->(D++L++x::Q).length<=3000000000000->e1q (.tup []) [(2000,.lst 52 3 ((D++x::L++Q).map (·.1)))] (D.length:Int) ((D++L).length:Int) ((D++L++x::Q).map (·.1)):=by
 intro n
 induction n with
 | zero =>
  intro L Q hn ht hl
  have:L=[]:=a1z hn
  subst this
  apply n3q
  exact a3q (decide_eq_false (by simp)) ⟨rfl,by simp⟩
 | succ n ih =>
  intro L Q hn ht hl
  obtain ⟨L',z,rfl⟩:∃L' z,L=L'++[z]:=by
   rcases ajz L with rfl | ⟨L',z,h⟩
   ·simp at hn
   ·exact ⟨L',z,by rw [h,akz]⟩
  have hl':D.length+L'.length+Q.length+2<=3000000000000:=by simp at hl; omega
  have i1:=ih L' (z::Q) (by simpa using hn) (fun w hw=>ht w (by simp at hw ⊢; grind)) (by simp; omega)
  have eD:D++(L'++[z])++x::Q=(D++L')++z::[]++x::Q:=by simp
  have eE:D++L'++x::z::Q=(D++L')++x::[]++z::Q:=by simp
  have eO:D++x::L'++z::Q=D++x::(L'++[z])++Q:=by simp
  have hj:((D++(L'++[z])).length:Int)=(((D++L').length+1+([]:List (List Da×Tm)).length:Nat):Int):=by simp; omega
  have w2:a0z .i64 ((((D++L').length+1+([]:List (List Da×Tm)).length:Nat):Int)-1)=(((D++L').length:Nat):Int):=by rw [wrI (by simp <;> omega) (by simp <;> omega)]; simp <;> omega
  have g1:=R7q (fun z:List Da×Tm=>z.1) (P:=D++L') (M:=[]) (Q:=Q) (a:=z) (b:=x)
  have g2:=R3q (fun z:List Da×Tm=>z.1) (P:=D++L') (M:=[]) (Q:=Q) (a:=z) (b:=x)
  have l1:=A6q (fun z:List Da×Tm=>z.1) (D++L') [] Q z x
  have g3:((((D++L')++z::[]++x::Q).map (·.1)).set ((D++L').length+1+([]:List (List Da×Tm)).length) z.1)[(D++L').length]?=some z.1:=by
   rw [adz (by simp)]; exact g2
  obtain ⟨_,_,_,ex⟩:=(ht x (by simp)).term
  obtain ⟨_,_,_,ez⟩:=(ht z (by simp)).term
  rw [eE,eO,<-a38q] at i1
  rw [ex] at g1
  rw [ez] at g2 g3
  rw [ex,ez] at i1
  apply n3q
  rw [eD,hj,w2]
  exact a6q (decide_eq_true (by simp; omega)) ⟨_,rfl,⟨by rw [l1]; simp; omega⟩,_,rfl,_,_,_,g2,_,rfl,⟨by rw [l1]; simp; omega⟩,_,rfl,_,_,_,g1,_,rfl,⟨by rw [l1]; simp; omega⟩,_,rfl,_,_,_,g1,_,rfl,⟨by rw [aoz,l1]; simp; omega⟩,_,rfl,_,_,_,g3,i1⟩
theorem adPq (hO:SWO f2q) (A R C:List (List Da×Tm)) (x:List Da×Tm) (ht:∀z∈A++x::R++C,TgP Tm.da z) (hl:(A++x::R++C).length<=3000000000000) (hs:Sd f2q R):∃M,M.Perm (x::R)/\Sd f2q M/\c3q (.tup []) [(2000,.lst 52 3 ((A++M++C).map (·.1)))] (A.length:Int) ((A.length+1:Nat):Int) ((A.length+1+R.length:Nat):Int) ((A++x::R++C).map (·.1)):=by
 have hl':A.length+R.length+C.length+1<=3000000000000:=by simp at hl; omega
 have hlen:((A++x::R++C).map (·.1)).length=A.length+R.length+C.length+1:=by simp; omega
 have eD:A++x::R++C=A++[x]++R++C:=by simp
 have gx:((A++x::R++C).map (·.1))[A.length]?=some x.1:=by
  have:=x8q (fun z:List Da×Tm=>z.1) (P:=A) (R:=x::R) (Q:=C) (k:=0) (y:=x) rfl
  exact this
 obtain ⟨k,k1,k2,k3,k4,k5⟩:=V9q (ι:=AV×List (Nat×Ob)) (p:=fun t i j=>c3q t.1 t.2 (A.length:Int) (i:Int) (j:Int) ((A++x::R++C).map (·.1))) (ex:=fun t i=>e5q t.1 t.2 (i:Int) (A.length:Int) ((A++x::R++C).map (·.1)))
  (fun h=>∃y,R[h-(A.length+1)]?=some y/\f2q y x) (A.length+1) (A.length+1+R.length) (fun t i _ _ h=>by
   apply o1q
   exact a3q (decide_eq_false (by omega)) h) (fun t i j h1 h2 h3=>by
   obtain ⟨y,hy⟩:=d4q (l:=R) (i:=(i+j) / 2-(A.length+1)) (by omega)
   have hym:=aez hy
   have hcmp:=a35q (ht y (by simp [hym])) (ht x (by simp))
   have gy:=x8q (fun z:List Da×Tm=>z.1) (P:=A++[x]) (Q:=C) hy
   have eh:(A++[x]).length+((i+j) / 2-(A.length+1))=(i+j) / 2:=by simp; omega
   rw [eh,<-eD] at gy
   obtain ⟨_,_,_,ex⟩:=(ht x (by simp)).term
   obtain ⟨_,_,_,ey⟩:=(ht y (by simp [hym])).term
   have core:(f2q y x->c3q t.1 t.2 (A.length:Int) (((i+j) / 2+1:Nat):Int) (j:Int) ((A++x::R++C).map (·.1)))->(¬f2q y x->c3q t.1 t.2 (A.length:Int) (i:Int) (((i+j) / 2:Nat):Int) ((A++x::R++C).map (·.1)))->c3q t.1 t.2 (A.length:Int) (i:Int) (j:Int) ((A++x::R++C).map (·.1)):=by
    intro c1 c2
    have w1:a0z .i64 ((((i+j) / 2:Nat):Int)+1)=(((i+j) / 2+1:Nat):Int):=by rw [wrI (by omega) (by omega)]; simp
    have gx2:=gx
    rw [ex] at gx2 hcmp
    rw [ey] at gy hcmp
    apply o1q
    rw [midw (by omega),w1]
    refine a6q (decide_eq_true (by omega)) ⟨⟨G9q⟩,_,rfl,⟨by rw [hlen]; omega⟩,_,rfl,_,_,_,gy,_,rfl,⟨by rw [hlen]; omega⟩,_,rfl,_,_,_,gx2,_,hcmp,?_⟩
    by_cases hlt:f2q y x
    ·exact a6q (decide_eq_true hlt) (c1 hlt)
    ·exact a3q (decide_eq_false hlt) (c2 hlt)
   refine ⟨fun hf hp=>core (fun _=>hp) fun hn => ?_,fun hn hp=>core (fun hlt=>absurd ⟨y,hy,hlt⟩ hn) fun _=>hp⟩
   obtain ⟨y',hy',hlt⟩:=hf
   rw [hy] at hy'
   cases hy'
   exact absurd hlt hn) R.length (A.length+1) (A.length+1+R.length) (by omega) (a3z _) (by omega) (a3z _) (.inl rfl) (.inl rfl)
 obtain ⟨q,rfl⟩:∃q,k=A.length+1+q:=⟨k-(A.length+1),by omega⟩
 have hq:q<=R.length:=by omega
 have hsR:Sd f2q (R.take q++R.drop q):=by rw [a7z]; exact hs
 obtain ⟨s1,s2,_⟩:=t7q.1 hsR
 have hR1:∀y∈R.take q,f2q y x:=by
  refine a0iq hO s1 ?_
  rcases k3 with h | ⟨y,hy,hlt⟩
  ·have:q=0:=by omega
   subst this; exact .inl (by simp)
  ·by_cases h0:q=0
   ·subst h0; exact .inl (by simp)
   ·refine .inr ⟨y,?_,hlt⟩
    rw [aDz,aEz hq,arz (by omega)]
    rw [<-hy]; congr 1; omega
 have hR2:∀y∈R.drop q,¬f2q y x:=by
  refine I7q hO s2 ?_
  rcases k4 with h | h
  ·exact .inl (afz (by omega))
  ·by_cases h0:q=R.length
   ·exact .inl (afz (by omega))
   ·obtain ⟨y,hy⟩:=d4q (l:=R) (i:=q) (by omega)
    refine .inr ⟨y,by rw [aAz]; simpa using hy,fun hlt=>h ⟨y,?_,hlt⟩⟩
    rw [<-hy]; congr 1; omega
 refine ⟨R.take q++x::R.drop q,?_,Q8q hO hsR hR2 (fun y hy=>hO.asym (hR1 y hy)),k5 (_,_) ?_⟩
 ·refine List.perm_middle.trans ?_
  rw [a7z]
 ·have h:=a5aq ((A.length+1+q:Nat):Int) x (R.drop q++C) (R.take q) A (fun w hw=>ht w (by
   have e:A++x::R.take q++(R.drop q++C)=A++x::R++C:=by
    simp only [a5z,apz]; rw [<-a5z (R.take q),a7z]
   rw [e] at hw; exact hw)) (by simp; omega) (by simp; omega)
  have e1:A++x::R.take q++(R.drop q++C)=A++x::R++C:=by
   simp only [a5z,apz]; rw [<-a5z (R.take q),a7z]
  have e2:A++R.take q++x::(R.drop q++C)=A++(R.take q++x::R.drop q)++C:=by simp
  rw [e1,e2] at h
  exact h
theorem acEq (hO:SWO f2q) (A L C:List (List Da×Tm)) (x:List Da×Tm) (ht:∀z∈A++L++x::C,TgP Tm.da z) (hl:(A++L++x::C).length<=3000000000000) (hs:Sd f2q L):∃M,M.Perm (L++[x])/\Sd f2q M/\c2q (.tup []) [(2000,.lst 52 3 ((A++M++C).map (·.1)))] ((A.length+L.length:Nat):Int) (A.length:Int) ((A.length+L.length:Nat):Int) ((A++L++x::C).map (·.1)):=by
 have hl':A.length+L.length+C.length+1<=3000000000000:=by simp at hl; omega
 have hlen:((A++L++x::C).map (·.1)).length=A.length+L.length+C.length+1:=by simp; omega
 have gx:((A++L++x::C).map (·.1))[A.length+L.length]?=some x.1:=by simp
 obtain ⟨k,k1,k2,k3,k4,k5⟩:=V9q (ι:=AV×List (Nat×Ob)) (p:=fun t i j=>c2q t.1 t.2 ((A.length+L.length:Nat):Int) (i:Int) (j:Int) ((A++L++x::C).map (·.1))) (ex:=fun t i=>e1q t.1 t.2 (i:Int) ((A.length+L.length:Nat):Int) ((A++L++x::C).map (·.1)))
  (fun h=>∃y,L[h-A.length]?=some y/\¬f2q x y) A.length (A.length+L.length) (fun t i _ _ h=>by
   apply n4q
   exact a3q (decide_eq_false (by omega)) h) (fun t i j h1 h2 h3=>by
   obtain ⟨y,hy⟩:=d4q (l:=L) (i:=(i+j) / 2-A.length) (by omega)
   have hym:=aez hy
   have hcmp:=a35q (ht x (by simp)) (ht y (by simp [hym]))
   have gy:=x8q (fun z:List Da×Tm=>z.1) (P:=A) (Q:=x::C) hy
   have eh:A.length+((i+j) / 2-A.length)=(i+j) / 2:=by omega
   rw [eh] at gy
   obtain ⟨_,_,_,ex⟩:=(ht x (by simp)).term
   obtain ⟨_,_,_,ey⟩:=(ht y (by simp [hym])).term
   have core:(¬f2q x y->c2q t.1 t.2 ((A.length+L.length:Nat):Int) (((i+j) / 2+1:Nat):Int) (j:Int) ((A++L++x::C).map (·.1)))->(f2q x y->c2q t.1 t.2 ((A.length+L.length:Nat):Int) (i:Int) (((i+j) / 2:Nat):Int) ((A++L++x::C).map (·.1)))->c2q t.1 t.2 ((A.length+L.length:Nat):Int) (i:Int) (j:Int) ((A++L++x::C).map (·.1)):=by
    intro c1 c2
    have w1:a0z .i64 ((((i+j) / 2:Nat):Int)+1)=(((i+j) / 2+1:Nat):Int):=by rw [wrI (by omega) (by omega)]; simp
    have gx2:=gx
    rw [ex] at gx2 hcmp
    rw [ey] at gy hcmp
    apply n4q
    rw [midw (by omega),w1]
    refine a6q (decide_eq_true (by omega)) ⟨⟨G9q⟩,_,rfl,⟨by rw [hlen]; omega⟩,_,rfl,_,_,_,gx2,_,rfl,⟨by rw [hlen]; omega⟩,_,rfl,_,_,_,gy,_,hcmp,?_⟩
    by_cases hlt:f2q x y
    ·exact a3q (by rw [decide_eq_true (show Tm.cmp x.2 y.2<0 from hlt)]; rfl) (c2 hlt)
    ·exact a6q (by rw [decide_eq_false (show ¬Tm.cmp x.2 y.2<0 from hlt)]; rfl) (c1 hlt)
   refine ⟨fun hf hp=>core (fun _=>hp) fun hn => ?_,fun hn hp=>core (fun hlt=>absurd ⟨y,hy,hlt⟩ hn) fun _=>hp⟩
   obtain ⟨y',hy',hlt⟩:=hf
   rw [hy] at hy'
   cases hy'
   exact absurd hn hlt) L.length A.length (A.length+L.length) (by omega) (a3z _) (by omega) (a3z _) (.inl rfl) (.inl rfl)
 obtain ⟨q,rfl⟩:∃q,k=A.length+q:=⟨k-A.length,by omega⟩
 have hq:q<=L.length:=by omega
 have hsL:Sd f2q (L.take q++L.drop q):=by rw [a7z]; exact hs
 obtain ⟨s1,s2,_⟩:=t7q.1 hsL
 have hL1:∀y∈L.take q,¬f2q x y:=by
  refine a0cq hO s1 ?_
  by_cases h0:q=0
  ·subst h0; exact .inl (by simp)
  ·rcases k3 with h | ⟨y,hy,hlt⟩
   ·exact absurd (by omega) h0
   ·refine .inr ⟨y,?_,hlt⟩
    rw [aDz,aEz hq,arz (by omega)]
    rw [<-hy]; congr 1; omega
 have hL2:∀y∈L.drop q,f2q x y:=by
  refine a6Zq hO s2 ?_
  by_cases h0:q=L.length
  ·exact .inl (afz (by omega))
  ·rcases k4 with h | h
   ·exact absurd (by omega) h0
   ·obtain ⟨y,hy⟩:=d4q (l:=L) (i:=q) (by omega)
    refine .inr ⟨y,by rw [aAz]; simpa using hy,agz fun hlt=>h ⟨y,?_,hlt⟩⟩
    rw [<-hy]; congr 1; omega
 refine ⟨L.take q++x::L.drop q,?_,Q8q hO hsL (fun y hy=>hO.asym (hL2 y hy)) hL1,k5 (_,_) ?_⟩
 ·refine List.perm_middle.trans ?_
  rw [a7z]
  exact (aGz x L).symm
 ·have e1:A++L.take q++L.drop q++x::C=A++L++x::C:=by rw [a5z A,a7z]
  have h:=a6eq (A++L.take q) x (L.drop q).length (L.drop q) C rfl (by rw [e1]; exact ht) (by rw [e1]; exact hl)
  have e2:A++L.take q++x::L.drop q++C=A++(L.take q++x::L.drop q)++C:=by simp
  have e3:(A++L.take q).length=A.length+q:=by simp; omega
  have e4:(A++L.take q++L.drop q).length=A.length+L.length:=by simp
  rw [e1,e2,e3,e4] at h
  exact h
theorem adWq (hO:SWO f2q) (A L1 L2 R1 R2 C:List (List Da×Tm)) (a m b mid k e:Nat) (ha:a=A.length) (hk:k=a+L1.length) (hm:m=k+L2.length) (he:e=m+R1.length) (hb:b=e+R2.length) (hmid:mid=k+R1.length) (ht:∀z∈A++L1++L2++R1++R2++C,TgP Tm.da z) (hl:(A++L1++L2++R1++R2++C).length<=3000000000000) (hL:Sd f2q (L1++L2)) (hR:Sd f2q (R1++R2))
  (f1:(L1=[]\/R2=[])\/∃y0 z0,L1[L1.length-1]?=some y0/\R2[0]?=some z0/\¬f2q z0 y0) (f2:(L2=[]\/R1=[])\/∃y0 z0,L2[0]?=some y0/\R1[R1.length-1]?=some z0/\f2q z0 y0)
  (ih:∀(A L R C:List (List Da×Tm)),(L++R).length<(L1++L2++R1++R2).length->L≠[]->R≠[]->(∀z∈A++L++R++C,TgP Tm.da z)->(A++L++R++C).length<=3000000000000->Sd f2q L->Sd f2q R->∃M,M.Perm (L++R)/\Sd f2q M/\XC pg 208 [.one (.ol 2000),Z (A.length:Int),Z ((A++L).length:Int),Z ((A++L++R).length:Int),.one (.d (.fn 112))] [(2000,.lst 52 3 ((A++L++R++C).map (·.1)))] (.tup []) [(2000,.lst 52 3 ((A++M++C).map (·.1)))])
  (hlt1:(L1++R1).length<(L1++L2++R1++R2).length) (hlt2:(L2++R2).length<(L1++L2++R1++R2).length) :
  ∃M,M.Perm (L1++L2++(R1++R2))/\Sd f2q M/\∀s21 s22:Int,s21=k->a9q (.tup []) [(2000,.lst 52 3 ((A++M++C).map (·.1)))] (a:Int) (m:Int) (b:Int) (mid:Int) ((mid+m:Nat):Int) (k:Int) s21 s22 ((A++L1++L2++R1++R2++C).map (·.1)):=by
 have hl':A.length+L1.length+L2.length+R1.length+R2.length+C.length<=3000000000000:=by simp at hl; omega
 obtain ⟨hs1,hs2,hs12⟩:=t7q.1 hL
 obtain ⟨hr1,hr2,hr12⟩:=t7q.1 hR
 obtain ⟨M1,p1,q1,z1,c1⟩:∃M1,M1.Perm (L1++R1)/\Sd f2q M1/\((L1=[]\/R1=[])->M1=L1++R1)/\(L1≠[]->R1≠[]->XC pg 208 [.one (.ol 2000),Z (a:Int),Z (k:Int),Z (mid:Int),.one (.d (.fn 112))] [(2000,.lst 52 3 ((A++L1++R1++L2++R2++C).map (·.1)))] (.tup []) [(2000,.lst 52 3 ((A++M1++L2++R2++C).map (·.1)))]):=by
  by_cases h:L1=[]\/R1=[]
  ·refine ⟨L1++R1,.refl _,?_,fun _=>rfl,fun h1 h2=>absurd h (by simp [h1,h2])⟩
   rcases h with rfl | rfl
   ·simpa using hr1
   ·simpa using hs1
  ·have h1:L1≠[]:=fun e=>h (.inl e)
   have h2:R1≠[]:=fun e=>h (.inr e)
   obtain ⟨M1,p,q,c⟩:=ih A L1 R1 (L2++R2++C) hlt1 h1 h2 (fun w hw=>ht w (by simp at hw ⊢; grind)) (by simp; omega) hs1 hr1
   refine ⟨M1,p,q,fun e=>absurd e h,fun _ _ => ?_⟩
   have e1:(A++L1).length=k:=by simp; omega
   have e2:(A++L1++R1).length=mid:=by simp; omega
   have e3:A++L1++R1++(L2++R2++C)=A++L1++R1++L2++R2++C:=by simp
   have e4:A++M1++(L2++R2++C)=A++M1++L2++R2++C:=by simp
   rw [e1,e2,e3,e4,<-ha] at c
   exact c
 have pl1:=p1.length_eq
 simp only [a2z] at pl1
 obtain ⟨M2,p2,q2,z2,c2⟩:∃M2,M2.Perm (L2++R2)/\Sd f2q M2/\((L2=[]\/R2=[])->M2=L2++R2)/\(L2≠[]->R2≠[]->XC pg 208 [.one (.ol 2000),Z (mid:Int),Z (e:Int),Z (b:Int),.one (.d (.fn 112))] [(2000,.lst 52 3 ((A++M1++L2++R2++C).map (·.1)))] (.tup []) [(2000,.lst 52 3 ((A++M1++M2++C).map (·.1)))]):=by
  by_cases h:L2=[]\/R2=[]
  ·refine ⟨L2++R2,.refl _,?_,fun _=>rfl,fun h1 h2=>absurd h (by simp [h1,h2])⟩
   rcases h with rfl | rfl
   ·simpa using hr2
   ·simpa using hs2
  ·have h1:L2≠[]:=fun e=>h (.inl e)
   have h2:R2≠[]:=fun e=>h (.inr e)
   obtain ⟨M2,p,q,c⟩:=ih (A++M1) L2 R2 C hlt2 h1 h2 (fun w hw=>ht w (by
    have hp:w∈M1->w∈L1++R1:=fun h=>p1.subset h
    simp at hw hp ⊢; grind)) (by simp; omega) hs2 hr2
   refine ⟨M2,p,q,fun e=>absurd e h,fun _ _ => ?_⟩
   have e1:(A++M1).length=mid:=by simp; omega
   have e2:(A++M1++L2).length=e:=by simp; omega
   have e3:(A++M1++L2++R2).length=b:=by simp; omega
   rw [e1,e2,e3] at c
   exact c
 have hcross1:∀x∈L1,∀y∈R2,¬f2q y x:=fun x hx y hy=>by
  rcases f1 with (h | h) | ⟨y0,z0,g1,g2,g3⟩
  ·simp [h] at hx
  ·simp [h] at hy
  ·exact I7q hO hr2 (.inr ⟨z0,g2,a0cq hO hs1 (.inr ⟨y0,g1,g3⟩) x hx⟩) y hy
 have hcross2:∀x∈R1,∀y∈L2,¬f2q y x:=fun x hx y hy=>by
  rcases f2 with (h | h) | ⟨y0,z0,g1,g2,g3⟩
  ·simp [h] at hy
  ·simp [h] at hx
  ·exact I7q hO hs2 (.inr ⟨y0,g1,hO.asym (a0iq hO hr1 (.inr ⟨z0,g2,g3⟩) x hx)⟩) y hy
 refine ⟨M1++M2,?_,t7q.2 ⟨q1,q2,fun x hx y hy => ?_⟩,fun s21 s22 h21 => ?_⟩
 ·refine (p1.append p2).trans ?_
  have e1:L1++R1++(L2++R2)=L1++((R1++L2)++R2):=by simp
  have e2:L1++L2++(R1++R2)=L1++((L2++R1)++R2):=by simp
  rw [e1,e2]
  exact (List.perm_append_comm.append_right R2).append_left L1
 ·have hx:=p1.subset hx
  have hy:=p2.subset hy
  rcases anz.1 hx with hx | hx <;> rcases anz.1 hy with hy | hy
  ·exact hs12 x hx y hy
  ·exact hcross1 x hx y hy
  ·exact hcross2 x hx y hy
  ·exact hr12 x hx y hy
 ·subst h21
  obtain ⟨D3,hD3⟩:∃D3,D3=A++M1++M2++C:=⟨_,rfl⟩
  have eO:A++(M1++M2)++C=D3:=by rw [hD3]; simp
  rw [eO]
  have hRight:ifB (decide ((mid:Int)<((e:Nat):Int))) (ifB (decide (((e:Nat):Int)<(b:Int))) (∃xs',XC pg 208 [.one (.ol 2000),Z (mid:Int),Z ((e:Nat):Int),Z (b:Int),.one (.d (.fn 112))] [(2000,.lst 52 3 ((A++M1++L2++R2++C).map (·.1)))] (.tup []) [(2000,.lst 52 3 xs')]/\((AV.tup []) = .tup []/\[((2000:Nat),Ob.lst 52 3 (xs'))]=[(2000,Ob.lst 52 3 (D3.map (·.1)))])) ((AV.tup []) = .tup []/\[((2000:Nat),Ob.lst 52 3 ((A++M1++L2++R2++C).map (·.1)))]=[(2000,Ob.lst 52 3 (D3.map (·.1)))])) ((AV.tup []) = .tup []/\[((2000:Nat),Ob.lst 52 3 ((A++M1++L2++R2++C).map (·.1)))]=[(2000,Ob.lst 52 3 (D3.map (·.1)))]):=by
   by_cases h2:L2=[]
   ·refine a3q (decide_eq_false (by subst h2; simp at hm; omega)) ⟨rfl,?_⟩
    rw [hD3,z2 (.inl h2)]; simp
   ·have:=a4z.2 h2
    refine a6q (decide_eq_true (by omega)) ?_
    by_cases h3:R2=[]
    ·refine a3q (decide_eq_false (by subst h3; simp at hb; omega)) ⟨rfl,?_⟩
     rw [hD3,z2 (.inr h3)]; simp
    ·have:=a4z.2 h3
     exact a6q (decide_eq_true (by omega)) ⟨_,c2 h2 h3,rfl,by rw [hD3]⟩
  have hLeft:ifB (decide ((a:Int)<(k:Int))) (ifB (decide ((k:Int)<(mid:Int))) (∃xs1,XC pg 208 [.one (.ol 2000),Z (a:Int),Z (k:Int),Z (mid:Int),.one (.d (.fn 112))] [(2000,.lst 52 3 ((A++L1++R1++L2++R2++C).map (·.1)))] (.tup []) [(2000,.lst 52 3 xs1)]/\ifB (decide ((mid:Int)<((e:Nat):Int))) (ifB (decide (((e:Nat):Int)<(b:Int))) (∃xs',XC pg 208 [.one (.ol 2000),Z (mid:Int),Z ((e:Nat):Int),Z (b:Int),.one (.d (.fn 112))] [(2000,.lst 52 3 (xs1))] (.tup []) [(2000,.lst 52 3 xs')]/\((AV.tup []) = .tup []/\[((2000:Nat),Ob.lst 52 3 (xs'))]=[(2000,Ob.lst 52 3 (D3.map (·.1)))])) ((AV.tup []) = .tup []/\[((2000:Nat),Ob.lst 52 3 (xs1))]=[(2000,Ob.lst 52 3 (D3.map (·.1)))])) ((AV.tup []) = .tup []/\[((2000:Nat),Ob.lst 52 3 (xs1))]=[(2000,Ob.lst 52 3 (D3.map (·.1)))])) (ifB (decide ((mid:Int)<((e:Nat):Int))) (ifB (decide (((e:Nat):Int)<(b:Int))) (∃xs',XC pg 208 [.one (.ol 2000),Z (mid:Int),Z ((e:Nat):Int),Z (b:Int),.one (.d (.fn 112))] [(2000,.lst 52 3 ((A++L1++R1++L2++R2++C).map (·.1)))] (.tup []) [(2000,.lst 52 3 xs')]/\((AV.tup []) = .tup []/\[((2000:Nat),Ob.lst 52 3 (xs'))]=[(2000,Ob.lst 52 3 (D3.map (·.1)))])) ((AV.tup []) = .tup []/\[((2000:Nat),Ob.lst 52 3 ((A++L1++R1++L2++R2++C).map (·.1)))]=[(2000,Ob.lst 52 3 (D3.map (·.1)))])) ((AV.tup []) = .tup []/\[((2000:Nat),Ob.lst 52 3 ((A++L1++R1++L2++R2++C).map (·.1)))]=[(2000,Ob.lst 52 3 (D3.map (·.1)))]))) (ifB (decide ((mid:Int)<((e:Nat):Int))) (ifB (decide (((e:Nat):Int)<(b:Int))) (∃xs',XC pg 208 [.one (.ol 2000),Z (mid:Int),Z ((e:Nat):Int),Z (b:Int),.one (.d (.fn 112))] [(2000,.lst 52 3 ((A++L1++R1++L2++R2++C).map (·.1)))] (.tup []) [(2000,.lst 52 3 xs')]/\((AV.tup []) = .tup []/\[((2000:Nat),Ob.lst 52 3 (xs'))]=[(2000,Ob.lst 52 3 (D3.map (·.1)))])) ((AV.tup []) = .tup []/\[((2000:Nat),Ob.lst 52 3 ((A++L1++R1++L2++R2++C).map (·.1)))]=[(2000,Ob.lst 52 3 (D3.map (·.1)))])) ((AV.tup []) = .tup []/\[((2000:Nat),Ob.lst 52 3 ((A++L1++R1++L2++R2++C).map (·.1)))]=[(2000,Ob.lst 52 3 (D3.map (·.1)))])):=by
   by_cases h2:L1=[]
   ·refine a3q (decide_eq_false (by subst h2; simp at hk; omega)) ?_
    rw [z1 (.inl h2)] at hRight
    simpa using hRight
   ·have:=a4z.2 h2
    refine a6q (decide_eq_true (by omega)) ?_
    by_cases h3:R1=[]
    ·refine a3q (decide_eq_false (by subst h3; simp at hmid; omega)) ?_
     rw [z1 (.inr h3)] at hRight
     simpa using hRight
    ·have:=a4z.2 h3
     exact a6q (decide_eq_true (by omega)) ⟨_,c1 h2 h3,hRight⟩
  have w:a0z .i64 (((mid+m:Nat):Int)-(k:Int))=((e:Nat):Int):=by rw [wrI (by omega) (by omega)]; omega
  apply n6q
  rw [w]
  refine a3q (decide_eq_false (by omega)) ?_
  by_cases h2:L2=[]
  ·refine a3q (decide_eq_false (by subst h2; simp at hm; omega)) ?_
   have e1:A++L1++L2++R1++R2++C=A++L1++R1++L2++R2++C:=by subst h2; simp
   rw [e1]
   exact hLeft
  ·have:=a4z.2 h2
   refine a6q (decide_eq_true (by omega)) ?_
   by_cases h3:R1=[]
   ·refine a3q (decide_eq_false (by subst h3; simp at he; omega)) ?_
    have e1:A++L1++L2++R1++R2++C=A++L1++R1++L2++R2++C:=by subst h3; simp
    rw [e1]
    exact hLeft
   ·have:=a4z.2 h3
    have c:=a7Nq (A++L1) L2 R1 (R2++C) h2 h3 (fun w hw=>ht w (by simp at hw ⊢; grind)) (by simp; omega)
    have e1:A++L1++L2++R1++(R2++C)=A++L1++L2++R1++R2++C:=by simp
    have e2:A++L1++R1++L2++(R2++C)=A++L1++R1++L2++R2++C:=by simp
    have e3:(A++L1).length=k:=by simp; omega
    have e4:(A++L1++L2).length=m:=by simp; omega
    have e5:(A++L1++L2++R1).length=e:=by simp; omega
    rw [e1,e2,e3,e4,e5] at c
    exact a6q (decide_eq_true (by omega)) ⟨_,c,hLeft⟩
theorem aa7q (A L R C:List (List Da×Tm)) (a m b mid lo hi:Nat) (ha:a=A.length) (hm:m=a+L.length) (hb:b=m+R.length) (hlh:lo<=hi) (hla:a<=lo) (hhm:hi<=m) (hc:∀c,lo<=c->c<hi->m+c<=mid+m-1/\mid+m-1-c<b) (ht:∀z∈A++L++R++C,TgP Tm.da z) (hl:(A++L++R++C).length<=3000000000000) (hmid:mid<=3000000000000) :
  ∃k,lo<=k/\k<=hi/\(k=lo\/∃y z,L[k-1-a]?=some y/\R[mid+m-1-(k-1)-m]?=some z/\¬f2q z y)/\(k=hi\/¬ ∃y z,L[k-a]?=some y/\R[mid+m-1-k-m]?=some z/\¬f2q z y) /\
  ∀t:AV×List (Nat×Ob),a9q t.1 t.2 (a:Int) (m:Int) (b:Int) (mid:Int) ((mid+m:Nat):Int) (k:Int) (k:Int) ((mid+m-1:Nat):Int) ((A++L++R++C).map (·.1))->a9q t.1 t.2 (a:Int) (m:Int) (b:Int) (mid:Int) ((mid+m:Nat):Int) (lo:Int) (hi:Int) ((mid+m-1:Nat):Int) ((A++L++R++C).map (·.1)):=by
 have hl':A.length+L.length+R.length+C.length<=3000000000000:=by simp at hl; omega
 have hlen:((A++L++R++C).map (·.1)).length=A.length+L.length+R.length+C.length:=by simp; omega
 refine V9q (ι:=AV×List (Nat×Ob)) (p:=fun t i j=>a9q t.1 t.2 (a:Int) (m:Int) (b:Int) (mid:Int) ((mid+m:Nat):Int) (i:Int) (j:Int) ((mid+m-1:Nat):Int) ((A++L++R++C).map (·.1))) (ex:=fun t i=>a9q t.1 t.2 (a:Int) (m:Int) (b:Int) (mid:Int) ((mid+m:Nat):Int) (i:Int) (i:Int) ((mid+m-1:Nat):Int) ((A++L++R++C).map (·.1)))
  (fun c=>∃y z,L[c-a]?=some y/\R[mid+m-1-c-m]?=some z/\¬f2q z y) lo hi (fun t i _ _ h=>h) (fun t i j h1 h2 h3 => ?_) (hi-lo) lo hi (a3z _) (a3z _) hlh (a3z _) (.inl rfl) (.inl rfl)
 obtain ⟨hc1,hc2⟩:=hc ((i+j) / 2) (by omega) (by omega)
 obtain ⟨y,hy⟩:=d4q (l:=L) (i:=(i+j) / 2-a) (by omega)
 obtain ⟨z,hz⟩:=d4q (l:=R) (i:=mid+m-1-(i+j) / 2-m) (by omega)
 have hym:=aez hy
 have hzm:=aez hz
 have hcmp:=a35q (ht z (by simp [hzm])) (ht y (by simp [hym]))
 have gy:=x8q (fun z:List Da×Tm=>z.1) (P:=A) (Q:=R++C) hy
 have gz:=x8q (fun z:List Da×Tm=>z.1) (P:=A++L) (Q:=C) hz
 have eh:A.length+((i+j) / 2-a)=(i+j) / 2:=by omega
 have eg:(A++L).length+(mid+m-1-(i+j) / 2-m)=mid+m-1-(i+j) / 2:=by simp; omega
 have eD:A++L++(R++C)=A++L++R++C:=by simp
 rw [eh,eD] at gy
 rw [eg] at gz
 obtain ⟨_,_,_,ez⟩:=(ht z (by simp [hzm])).term
 obtain ⟨_,_,_,ey⟩:=(ht y (by simp [hym])).term
 have core:(¬f2q z y->a9q t.1 t.2 (a:Int) (m:Int) (b:Int) (mid:Int) ((mid+m:Nat):Int) (((i+j) / 2+1:Nat):Int) (j:Int) ((mid+m-1:Nat):Int) ((A++L++R++C).map (·.1)))->(f2q z y->a9q t.1 t.2 (a:Int) (m:Int) (b:Int) (mid:Int) ((mid+m:Nat):Int) (i:Int) (((i+j) / 2:Nat):Int) ((mid+m-1:Nat):Int) ((A++L++R++C).map (·.1)))->a9q t.1 t.2 (a:Int) (m:Int) (b:Int) (mid:Int) ((mid+m:Nat):Int) (i:Int) (j:Int) ((mid+m-1:Nat):Int) ((A++L++R++C).map (·.1)):=by
  intro c1 c2
  have w1:a0z .i64 ((((i+j) / 2:Nat):Int)+1)=(((i+j) / 2+1:Nat):Int):=by rw [wrI (by omega) (by omega)]; simp
  have w2:a0z .i64 (((mid+m-1:Nat):Int)-(((i+j) / 2:Nat):Int))=((mid+m-1-(i+j) / 2:Nat):Int):=by rw [wrI (by omega) (by omega)]; omega
  rw [ez] at gz hcmp
  rw [ey] at gy hcmp
  apply n6q
  rw [midw (by omega),w1,w2]
  refine a6q (decide_eq_true (by omega)) ⟨⟨G9q⟩,_,rfl,⟨by rw [hlen]; omega⟩,_,rfl,_,_,_,gz,_,rfl,⟨by rw [hlen]; omega⟩,_,rfl,_,_,_,gy,_,hcmp,?_⟩
  by_cases hlt:f2q z y
  ·exact a3q (by rw [decide_eq_true (show Tm.cmp z.2 y.2<0 from hlt)]; rfl) (c2 hlt)
  ·exact a6q (by rw [decide_eq_false (show ¬Tm.cmp z.2 y.2<0 from hlt)]; rfl) (c1 hlt)
 refine ⟨fun hf hp=>core (fun _=>hp) fun hn => ?_,fun hn hp=>core (fun hlt=>absurd ⟨y,z,hy,hz,hlt⟩ hn) fun _=>hp⟩
 obtain ⟨y',z',hy',hz',hlt⟩:=hf
 rw [hy] at hy'
 rw [hz] at hz'
 cases hy'
 cases hz'
 exact absurd hn hlt
theorem a0nq (hO:SWO f2q):∀(n:Nat) (A L R C:List (List Da×Tm)),(L++R).length<=n->L≠[]->R≠[]->(∀z∈A++L++R++C,TgP Tm.da z)->(A++L++R++C).length<=3000000000000->Sd f2q L->Sd f2q R->∃M,M.Perm (L++R)/\Sd f2q M/\XC pg 208 [.one (.ol 2000),Z (A.length:Int),Z ((A++L).length:Int),Z ((A++L++R).length:Int),.one (.d (.fn 112))] [(2000,.lst 52 3 ((A++L++R++C).map (·.1)))] (.tup []) [(2000,.lst 52 3 ((A++M++C).map (·.1)))]:=by
 intro n
 induction n with
 | zero =>
  intro A L R C hn hL _ _ _ _ _
  exact absurd (a1z (by simp at hn; simp [hn])) hL
 | succ n ih =>
  intro A L R C hn hL hR ht hl hsL hsR
  have hL':=a4z.2 hL
  have hR':=a4z.2 hR
  have hl':A.length+L.length+R.length+C.length<=3000000000000:=by simp at hl; omega
  have hn':L.length+R.length<=n+1:=by simpa using hn
  have em:(A++L).length=A.length+L.length:=by simp
  have eb:(A++L++R).length=A.length+L.length+R.length:=by simp; omega
  have w1:a0z .i64 (((A.length+L.length:Nat):Int)-(A.length:Int))=(L.length:Int):=by rw [wrI (by omega) (by omega)]; omega
  have w2:a0z .i64 (((A.length+L.length+R.length:Nat):Int)-((A.length+L.length:Nat):Int))=(R.length:Int):=by rw [wrI (by omega) (by omega)]; omega
  rw [em,eb]
  by_cases h1:L.length=1
  ·obtain ⟨x,rfl⟩:∃x,L=[x]:=auz.1 h1
   obtain ⟨M,p1,p2,p3⟩:=adPq hO A R C x (by simpa using ht) (by simpa using hl) hsR
   refine ⟨M,p1,p2,?_⟩
   apply i3q
   rw [w1]
   refine a6q (decide_eq_true (by omega)) ?_
   have e1:A++[x]++R++C=A++x::R++C:=by simp
   rw [e1]
   exact p3
  ·by_cases h2:R.length=1
   ·obtain ⟨x,rfl⟩:∃x,R=[x]:=auz.1 h2
    obtain ⟨M,p1,p2,p3⟩:=acEq hO A L C x (by simpa using ht) (by simpa using hl) hsL
    refine ⟨M,p1,p2,?_⟩
    apply i3q
    rw [w1,w2]
    refine a3q (decide_eq_false (by omega)) (a6q (decide_eq_true (by omega)) ?_)
    have e1:A++L++[x]++C=A++L++x::C:=by simp
    rw [e1]
    exact p3
   ·obtain ⟨a,ha⟩:∃a,a=A.length:=⟨_,rfl⟩
    obtain ⟨m,hm⟩:∃m,m=a+L.length:=⟨_,rfl⟩
    obtain ⟨b,hb⟩:∃b,b=m+R.length:=⟨_,rfl⟩
    rw [<-ha,<-hm] at w1
    rw [<-ha,<-hm,<-hb] at w2 ⊢
    obtain ⟨mid,hmid⟩:∃mid,mid=(a+b) / 2:=⟨_,rfl⟩
    have wm:a0z .i64 (((mid:Nat):Int)+(m:Int))=((mid+m:Nat):Int):=by rw [wrI (by omega) (by omega)]; simp
    have wp:a0z .i64 (((mid+m:Nat):Int)-1)=((mid+m-1:Nat):Int):=by rw [wrI (by omega) (by omega)]; omega
    have hcases:∃lo hi,lo<=hi/\a<=lo/\hi<=m/\hi<=mid/\mid+m<=b+lo/\(∀c,lo<=c->c<hi->m+c<=mid+m-1/\mid+m-1-c<b)/\(lo=a\/mid+m=b+lo)/\(hi=m\/hi=mid) /\
      ∀(r:AV) (O:List (Nat×Ob)),a9q r O (a:Int) (m:Int) (b:Int) (mid:Int) ((mid+m:Nat):Int) (lo:Int) (hi:Int) ((mid+m-1:Nat):Int) ((A++L++R++C).map (·.1))->XC pg 208 [.one (.ol 2000),Z (a:Int),Z (m:Int),Z (b:Int),.one (.d (.fn 112))] [(2000,.lst 52 3 ((A++L++R++C).map (·.1)))] r O:=by
     by_cases hgt:mid<m
     ·refine ⟨mid+m-b,mid,by omega,by omega,by omega,by omega,by omega,fun c h1 h2=>by omega,by omega,.inr rfl,fun r O h => ?_⟩
      have w3:a0z .i64 (((mid+m:Nat):Int)-(b:Int))=((mid+m-b:Nat):Int):=by rw [wrI (by omega) (by omega)]; omega
      apply i3q
      rw [w1,w2,midw (by omega),<-hmid,wm,wp,w3]
      exact a3q (decide_eq_false (by omega)) (a3q (decide_eq_false (by omega)) ⟨⟨G9q⟩,a6q (decide_eq_true (by omega)) h⟩)
     ·refine ⟨a,m,by omega,by omega,by omega,by omega,by omega,fun c h1 h2=>by omega,.inl rfl,.inl rfl,fun r O h => ?_⟩
      apply i3q
      rw [w1,w2,midw (by omega),<-hmid,wm,wp]
      exact a3q (decide_eq_false (by omega)) (a3q (decide_eq_false (by omega)) ⟨⟨G9q⟩,a3q (decide_eq_false (by omega)) h⟩)
    obtain ⟨lo,hi,c1,c2,c3,c4,c5,c6,c7,c8,c9⟩:=hcases
    obtain ⟨k,k1,k2,k3,k4,k5⟩:=aa7q A L R C a m b mid lo hi ha hm hb c1 c2 c3 c6 ht hl (by omega)
    obtain ⟨L1,L2,rfl,hL1⟩:∃L1 L2,L=L1++L2/\L1.length=k-a:=⟨L.take (k-a),L.drop (k-a),by simp,by simp; omega⟩
    obtain ⟨R1,R2,rfl,hR1⟩:∃R1 R2,R=R1++R2/\R1.length=mid-k:=⟨R.take (mid-k),R.drop (mid-k),by simp,by simp; omega⟩
    rw [a2z] at hm hb
    have f1:(L1=[]\/R2=[])\/∃y0 z0,L1[L1.length-1]?=some y0/\R2[0]?=some z0/\¬f2q z0 y0:=by
     by_cases hk0:k=lo
     ·left
      rcases c7 with h | h
      ·exact .inl (a1z (by omega))
      ·exact .inr (a1z (by omega))
     ·right
      rcases k3 with h | ⟨y,z,hy,hz,hlt⟩
      ·exact absurd h hk0
      ·refine ⟨y,z,?_,?_,hlt⟩
       ·rw [<-hy,alz (by omega)]; congr 1; omega
       ·rw [<-hz,aiz (by omega)]; congr 1; omega
    have f2:(L2=[]\/R1=[])\/∃y0 z0,L2[0]?=some y0/\R1[R1.length-1]?=some z0/\f2q z0 y0:=by
     by_cases hk0:k=hi
     ·left
      rcases c8 with h | h
      ·exact .inl (a1z (by omega))
      ·exact .inr (a1z (by omega))
     ·right
      have hc:=c6 k k1 (by omega)
      obtain ⟨y,hy⟩:=d4q (l:=L2) (i:=0) (by omega)
      obtain ⟨z,hz⟩:=d4q (l:=R1) (i:=R1.length-1) (by omega)
      refine ⟨y,z,hy,hz,agz fun hlt => ?_⟩
      rcases k4 with h | h
      ·exact hk0 h
      ·refine h ⟨y,z,?_,?_,hlt⟩
       ·rw [<-hy,aiz (by omega)]; congr 1; omega
       ·rw [<-hz,alz (by omega)]; congr 1; omega
    have eD:A++(L1++L2)++(R1++R2)++C=A++L1++L2++R1++R2++C:=by simp
    have hfacts:k=a+L1.length/\m=k+L2.length/\b=m+R1.length+R2.length/\mid=k+R1.length:=by
     clear c7 c8 c9 k3 k4 k5 f1 f2 c6 w1 w2 wm wp ih ht hl
     omega
    have hsz:mid<b/\a<mid:=by
     clear c7 c8 c9 k3 k4 k5 f1 f2 c6 w1 w2 wm wp ih ht hl
     simp only [a2z] at h1 h2 hL' hR'
     omega
    have hsum:(L1++L2++R1++R2).length=L1.length+L2.length+R1.length+R2.length:=by simp; omega
    have hs1:(L1++R1).length<(L1++L2++R1++R2).length:=by
     clear c7 c8 c9 k3 k4 k5 f1 f2 c6 w1 w2 wm wp ih ht hl
     rw [hsum,a2z]; omega
    have hs2:(L2++R2).length<(L1++L2++R1++R2).length:=by
     clear c7 c8 c9 k3 k4 k5 f1 f2 c6 w1 w2 wm wp ih ht hl
     rw [hsum,a2z]; omega
    have hn2:(L1++L2++R1++R2).length<=n+1:=by
     rw [hsum]; simp only [a2z] at hn'; omega
    obtain ⟨g1,g2,g3,g4⟩:=hfacts
    obtain ⟨M,p1,p2,p3⟩:=adWq hO A L1 L2 R1 R2 C a m b mid k (m+R1.length) ha g1 g2 rfl g3 g4 (by rw [<-eD]; exact ht) (by rw [<-eD]; exact hl) hsL hsR f1 f2 (fun A' L' R' C' hlt h1 h2 h3 h4 h5 h6=>ih A' L' R' C' (aNz (aLz hlt hn2)) h1 h2 h3 h4 h5 h6) hs1 hs2
    refine ⟨M,p1,p2,c9 _ _ (k5 (_,_) ?_)⟩
    rw [eD]
    exact p3 _ _ rfl
inductive Q7q (k:Nat):List (List Da×Tm)->Prop
 | last {l}:l.length<=k->Sd f2q l->Q7q k l
 | cons {b r}:b.length=k->Sd f2q b->Q7q k r->Q7q k (b++r)
theorem a1uq {k:Nat} (hk:0<k) {l:List (List Da×Tm)} (h:Q7q k l) (hl:l.length<=k):Sd f2q l:=by
 cases h with
 | last _ h=>exact h
 | @cons b r h1 h2 _ =>
  have:r=[]:=a1z (by simp at hl; omega)
  subst this
  simpa using h2
theorem aa8q (hO:SWO f2q) (k:Nat) (hk:0<k) (hk2:k<=6000000000000):∀(n:Nat) (D S:List (List Da×Tm)),S.length<=n->(∀z∈D++S,TgP Tm.da z)->(D++S).length<=3000000000000->Q7q k S->∃S',S'.Perm S/\Q7q (2*k) S'/\∀(r:AV) (O:List (Nat×Ob)),d1q r O ((D++S).length:Int) ((2*k:Nat):Int) ((D++S').map (·.1))->g6q r O ((D++S).length:Int) (k:Int) (D.length:Int) ((D.length+2*k:Nat):Int) ((D++S).map (·.1)):=by
 intro n
 induction n with
 | zero =>
  intro D S hn ht hl hb
  have:S=[]:=a1z (by omega)
  subst this
  refine ⟨[],.refl _,.last (by simp) .nil,fun r O h => ?_⟩
  have w1:a0z .i64 ((D.length:Int)+(k:Int))=((D.length+k:Nat):Int):=by rw [wrI (by omega) (by simp at hl; omega)]; simp
  have w2:a0z .i64 ((k:Int)*2)=((2*k:Nat):Int):=by rw [wrI (by omega) (by omega)]; omega
  apply h9q
  rw [w1,w2]
  exact a3q (decide_eq_false (by simp; omega)) (a3q (decide_eq_false (by simp; omega)) h)
 | succ n ih =>
  intro D S hn ht hl hb
  have hl':D.length+S.length<=3000000000000:=by simpa using hl
  have hlen:(D++S).length=D.length+S.length:=by simp
  have w1:a0z .i64 ((D.length:Int)+(k:Int))=((D.length+k:Nat):Int):=by rw [wrI (by omega) (by omega)]; simp
  have w2:a0z .i64 ((k:Int)*2)=((2*k:Nat):Int):=by rw [wrI (by omega) (by omega)]; omega
  have w3:a0z .i64 (2*(k:Int))=((2*k:Nat):Int):=by rw [wrI (by omega) (by omega)]; omega
  have w4:a0z .i64 (((D.length+2*k:Nat):Int)+((2*k:Nat):Int))=((D.length+2*k+2*k:Nat):Int):=by rw [wrI (by omega) (by omega)]; omega
  by_cases h1:S.length<=k
  ·refine ⟨S,.refl _,.last (by omega) (a1uq hk hb h1),fun r O h => ?_⟩
   apply h9q
   rw [w1,w2]
   exact a3q (decide_eq_false (by omega)) (a3q (decide_eq_false (by omega)) h)
  ·obtain ⟨b1,S1,rfl,hb1,hs1,hb2⟩:∃b1 S1,S=b1++S1/\b1.length=k/\Sd f2q b1/\Q7q k S1:=by
    cases hb with
    | last h _=>exact absurd h h1
    | cons h2 h3 h4=>exact ⟨_,_,rfl,h2,h3,h4⟩
   simp only [a2z] at h1 hn hl'
   have hlen:(D++(b1++S1)).length=D.length+(b1.length+S1.length):=by simp
   by_cases h2:S1.length<k
   ·have hs2:=a1uq hk hb2 (by omega)
    obtain ⟨M,p1,p2,p3⟩:=a0nq hO _ D b1 S1 [] (a3z _) (by intro h; subst h; simp at hb1; omega) (by intro h; subst h; simp at h1; omega) (by simpa using ht) (by simpa using hl) hs1 hs2
    refine ⟨M,p1,.last (by rw [p1.length_eq]; simp; omega) p2,fun r O h => ?_⟩
    apply h9q
    rw [w1,w2]
    have e1:(D++b1).length=D.length+k:=by simp [hb1]
    have e2:(D++b1++S1).length=(D++(b1++S1)).length:=by simp <;> omega
    have e3:D++b1++S1++[]=D++(b1++S1):=by simp
    rw [e1,e2,e3,aaz] at p3
    exact a3q (decide_eq_false (by omega)) (a6q (decide_eq_true (by omega)) ⟨_,p3,h⟩)
   ·obtain ⟨b2,S2,rfl,hb2l,hs2,hb3⟩:∃b2 S2,S1=b2++S2/\b2.length=k/\Sd f2q b2/\Q7q k S2:=by
     cases hb2 with
     | last g g'=>exact ⟨_,[],by simp,by omega,g',.last (by simp) .nil⟩
     | cons g2 g3 g4=>exact ⟨_,_,rfl,g2,g3,g4⟩
    simp only [a2z] at h1 h2 hn hl'
    have hlen:(D++(b1++(b2++S2))).length=D.length+(b1.length+(b2.length+S2.length)):=by simp
    obtain ⟨M,p1,p2,p3⟩:=a0nq hO _ D b1 b2 S2 (a3z _) (by intro h; subst h; simp at hb1; omega) (by intro h; subst h; simp at hb2l; omega) (by simpa using ht) (by simpa using hl) hs1 hs2
    have pl:=p1.length_eq
    simp only [a2z] at pl
    obtain ⟨S',q1,q2,q3⟩:=ih (D++M) S2 (by omega) (fun w hw=>ht w (by
     have hp:w∈M->w∈b1++b2:=fun h=>p1.subset h
     simp at hw hp ⊢; grind)) (by simp; omega) hb3
    refine ⟨M++S',?_,.cons (by omega) p2 q2,fun r O h => ?_⟩
    ·have:=(p1.append q1)
     simpa using this
    ·have e4:D++M++S'=D++(M++S'):=by simp
     have e5:(D++M++S2).length=(D++(b1++(b2++S2))).length:=by simp; omega
     have e6:(D++M).length=D.length+2*k:=by simp; omega
     have h5:=q3 r O
     rw [e4,e5,e6] at h5
     have e1:(D++b1).length=D.length+k:=by simp [hb1]
     have e2:(D++b1++b2).length=D.length+2*k:=by simp; omega
     have e3:D++b1++b2++S2=D++(b1++(b2++S2)):=by simp
     rw [e1,e2,e3] at p3
     apply h9q
     rw [w1,w3,w4]
     exact a6q (decide_eq_true (by omega)) ⟨_,p3,h5 h⟩
theorem a9Xq (hO:SWO f2q):∀(n k:Nat) (S:List (List Da×Tm)),S.length<=n+k->0<k->k<=6000000000000->(∀z∈S,TgP Tm.da z)->S.length<=3000000000000->Q7q k S->∃S',S'.Perm S/\Sd f2q S'/\d1q (.tup []) [(2000,.lst 52 3 ((S').map (·.1)))] (S.length:Int) (k:Int) (S.map (·.1)):=by
 intro n
 induction n with
 | zero =>
  intro k S hn hk hk2 ht hl hb
  refine ⟨S,.refl _,a1uq hk hb (by omega),?_⟩
  apply k3q
  exact a3q (decide_eq_false (by omega)) ⟨rfl,rfl⟩
 | succ n ih =>
  intro k S hn hk hk2 ht hl hb
  by_cases h:S.length<=k
  ·refine ⟨S,.refl _,a1uq hk hb h,?_⟩
   apply k3q
   exact a3q (decide_eq_false (by omega)) ⟨rfl,rfl⟩
  ·obtain ⟨S1,p1,p2,p3⟩:=aa8q hO k hk hk2 S.length [] S (a3z _) (by simpa using ht) (by simpa using hl) hb
   have pl:=p1.length_eq
   obtain ⟨S',q1,q2,q3⟩:=ih (2*k) S1 (by omega) (by omega) (by omega) (fun z hz=>ht z (p1.subset hz)) (by omega) p2
   refine ⟨S',q1.trans p1,q2,?_⟩
   have w3:a0z .i64 (2*(k:Int))=((2*k:Nat):Int):=by rw [wrI (by omega) (by omega)]; omega
   have h5:=p3 (.tup []) [(2000,.lst 52 3 ((S').map (·.1)))]
   simp only [ayz,ahz,aFz] at h5
   rw [pl] at q3
   apply k3q
   rw [w3]
   exact a6q (decide_eq_true (by omega)) (h5 q3)
theorem a5Sq (hO:SWO f2q):∀(n:Nat) (D S:List (List Da×Tm)),S.length<=n->(∀z∈D++S,TgP Tm.da z)->(D++S).length<=3000000000000->∃S',S'.Perm S/\Q7q 20 S'/\∀(r:AV) (O:List (Nat×Ob)),d1q r O ((D++S).length:Int) 20 ((D++S').map (·.1))->g5q r O ((D++S).length:Int) 20 (D.length:Int) ((D.length+20:Nat):Int) ((D++S).map (·.1)):=by
 intro n
 induction n with
 | zero =>
  intro D S hn ht hl
  have:S=[]:=a1z (by omega)
  subst this
  obtain ⟨M,p1,p2,p3⟩:=S5q hO D [] [] (by simpa using ht) (by simpa using hl)
  have:M=[]:=a1z (by rw [p1.length_eq]; rfl)
  subst this
  refine ⟨[],.refl _,.last (by simp) .nil,fun r O h => ?_⟩
  simp only [aaz] at p3 h ⊢
  apply k2q
  exact a3q (decide_eq_false (by omega)) ⟨_,p3,h⟩
 | succ n ih =>
  intro D S hn ht hl
  have hl':D.length+S.length<=3000000000000:=by simpa using hl
  have hlen:(D++S).length=D.length+S.length:=by simp
  by_cases h1:S.length<20
  ·obtain ⟨M,p1,p2,p3⟩:=S5q hO D S [] (by simpa using ht) (by simpa using hl)
   refine ⟨M,p1,.last (by rw [p1.length_eq]; omega) p2,fun r O h => ?_⟩
   apply k2q
   rw [aaz,aaz] at p3
   exact a3q (decide_eq_false (by omega)) ⟨_,p3,h⟩
  ·obtain ⟨b,S2,rfl,hb⟩:∃b S2,S=b++S2/\b.length=20:=⟨S.take 20,S.drop 20,by simp,by simp; omega⟩
   simp only [a2z] at h1 hn hl'
   have hlen:(D++(b++S2)).length=D.length+(b.length+S2.length):=by simp
   obtain ⟨M,p1,p2,p3⟩:=S5q hO D b S2 (by simpa using ht) (by simpa using hl)
   have pl:=p1.length_eq
   obtain ⟨S',q1,q2,q3⟩:=ih (D++M) S2 (by omega) (fun w hw=>ht w (by
    have hp:w∈M->w∈b:=fun h=>p1.subset h
    simp at hw hp ⊢; grind)) (by simp; omega)
   refine ⟨M++S',p1.append q1,.cons (by omega) p2 q2,fun r O h => ?_⟩
   have e4:D++M++S'=D++(M++S'):=by simp
   have e5:(D++M++S2).length=(D++(b++S2)).length:=by simp; omega
   have e6:(D++M).length=D.length+20:=by simp; omega
   have h5:=q3 r O
   rw [e4,e5,e6] at h5
   have e1:(D++b).length=D.length+20:=by simp [hb]
   have e3:D++b++S2=D++(b++S2):=by simp
   have w4:a0z .i64 (((D.length+20:Nat):Int)+20)=((D.length+20+20:Nat):Int):=by rw [wrI (by omega) (by omega)]; omega
   rw [e1,e3] at p3
   apply k2q
   rw [w4]
   exact a6q (decide_eq_true (by omega)) ⟨_,p3,h5 h⟩
theorem a9Lq (hO:SWO f2q) (S:List (List Da×Tm)) (ht:∀z∈S,TgP Tm.da z) (hl:S.length<=3000000000000):∃S',S'.Perm S/\Sd f2q S'/\XC pg 162 [.one (.ol 2000),.one (.d (.fn 112))] [(2000,.lst 52 3 ((S).map (·.1)))] (.tup []) [(2000,.lst 52 3 ((S').map (·.1)))]:=by
 obtain ⟨S1,p1,p2,p3⟩:=a5Sq hO S.length [] S (a3z _) (by simpa using ht) (by simpa using hl)
 have pl:=p1.length_eq
 obtain ⟨S',q1,q2,q3⟩:=a9Xq hO S.length 20 S1 (by omega) (by omega) (by omega) (fun z hz=>ht z (p1.subset hz)) (by omega) p2
 refine ⟨S',q1.trans p1,q2,?_⟩
 have h5:=p3 (.tup []) [(2000,.lst 52 3 ((S').map (·.1)))]
 simp only [ayz,ahz,aFz] at h5
 rw [pl] at q3
 apply z0q
 refine ⟨_,A2q ?_,rfl,rfl⟩
 rw [a9z]
 exact h5 q3
def f1q (a b:List Da×Li):Prop:=Li.cmp a.2 b.2<0
instance (a b:List Da×Li):Decidable (f1q a b):=inferInstanceAs (Decidable (_<_))
theorem a39q {z w:List Da×Li} (hz:TgP Li.da z) (hw:TgP Li.da w):XC pg 54 [.dat z.1,.dat w.1] [] (Z (Li.cmp z.2 w.2)) []:=XC.ut (by
 show XC _ _ [.dat (Da.utL z.1),.dat (Da.utL w.1)] _ _ _
 rw [hz.ut Li.ut_da,hw.ut Li.ut_da]; exact I3q _ _)
theorem X2q (A Y C:List (List Da×Li)):∀(X2 Z2 Z1 X1:List (List Da×Li)),(∀z∈A++Z1++X2++Y++X1++Z2++C,TgP Li.da z)->X2.length=Z2.length->X1.length=Z1.length->(A++Z1++X2++Y++X1++Z2++C).length<=3000000000000 ->
  f3q (.tup []) [(2000,.lst 54 7 ((A++Z1++Z2++Y++X1++X2++C).map (·.1)))] (A.length:Int) ((A++Z1++X2++Y).length:Int) ((Z1++X2).length:Int) (Z1.length:Int) ((A++Z1++X2++Y++X1++Z2++C).map (·.1))
 | [],Z2,Z1,X1,ht,h1,h2,hl=>by
  have:Z2=[]:=a1z h1.symm
  subst this
  apply l8q
  exact a3q (decide_eq_false (by simp)) ⟨rfl,by simp⟩
 | x::X2,[],Z1,X1,ht,h1,h2,hl=>by simp at h1
 | x::X2,z::Z2,Z1,X1,ht,h1,h2,hl=>by
  have hl':A.length+Z1.length+X2.length+Y.length+X1.length+Z2.length+C.length+2<=3000000000000:=by simp at hl; omega
  have ih:=X2q A Y C X2 Z2 (Z1++[z]) (X1++[x]) (fun w hw=>ht w (by simp at hw ⊢; grind)) (by simpa using h1) (by simp [h2]) (by simp; omega)
  obtain ⟨_,_,_,_,_,_,_,ex⟩:=(ht x (by simp)).lit
  obtain ⟨_,_,_,_,_,_,_,ez⟩:=(ht z (by simp)).lit
  have eD:A++Z1++x::X2++Y++X1++z::Z2++C=(A++Z1)++x::(X2++Y++X1)++z::(Z2++C):=by simp
  have eD2:(A++Z1)++z::(X2++Y++X1)++x::(Z2++C)=A++(Z1++[z])++X2++Y++(X1++[x])++Z2++C:=by simp
  have eR:A++(Z1++[z])++Z2++Y++(X1++[x])++X2++C=A++Z1++z::Z2++Y++X1++x::X2++C:=by simp
  have en:((Z1++[z])++X2).length=(Z1++x::X2).length:=by simp
  have eb:(A++(Z1++[z])++X2++Y).length=(A++Z1++x::X2++Y).length:=by simp
  have ei:(Z1++[z]).length=Z1.length+1:=by simp
  have w1:a0z .i64 (((A++Z1++x::X2++Y).length:Int)+(Z1.length:Int))=(((A++Z1).length+1+(X2++Y++X1).length:Nat):Int):=by
   rw [wrI (by omega) (by simp; omega)]; simp; omega
  have w2:a0z .i64 ((A.length:Int)+(Z1.length:Int))=(((A++Z1).length:Nat):Int):=by
   rw [wrI (by omega) (by omega)]; simp
  have w3:a0z .i64 ((Z1.length:Int)+1)=((Z1.length+1:Nat):Int):=by
   rw [wrI (by omega) (by omega)]; simp
  rw [en,eb,ei,<-eD2,eR,<-a0Mq] at ih
  rw [eD]
  have g1:=R7q (fun z:List Da×Li=>z.1) (P:=A++Z1) (M:=X2++Y++X1) (Q:=Z2++C) (a:=x) (b:=z)
  have g2:=R3q (fun z:List Da×Li=>z.1) (P:=A++Z1) (M:=X2++Y++X1) (Q:=Z2++C) (a:=x) (b:=z)
  have l1:=A6q (fun z:List Da×Li=>z.1) (A++Z1) (X2++Y++X1) (Z2++C) x z
  have g3:((((A++Z1)++x::(X2++Y++X1)++z::(Z2++C)).map (·.1)).set (A++Z1).length z.1)[(A++Z1).length+1+(X2++Y++X1).length]?=some z.1:=by
   rw [adz (by omega)]; exact g1
  rw [ex] at g2 ih
  rw [ez] at g1 g3 ih
  apply l8q
  rw [w1,w2,w3]
  refine a6q (decide_eq_true (by simp; omega)) ⟨_,rfl,⟨by rw [l1]; omega⟩,_,rfl,_,_,_,_,_,_,_,g1,_,rfl,⟨by rw [l1]; omega⟩,_,rfl,_,_,_,_,_,_,_,g2,_,rfl,⟨by rw [l1]; omega⟩,_,rfl,_,_,_,_,_,_,_,g2,_,rfl,⟨by rw [aoz,l1]; omega⟩,_,rfl,_,_,_,_,_,_,_,g3,ih⟩
theorem H9q (A U Y V C:List (List Da×Li)) (ht:∀z∈A++U++Y++V++C,TgP Li.da z) (h:U.length=V.length) (hl:(A++U++Y++V++C).length<=3000000000000):XC pg 209 [.one (.ol 2000),Z (A.length:Int),Z ((A++U++Y).length:Int),Z (U.length:Int),.one (.d (.fn 54))] [(2000,.lst 54 7 ((A++U++Y++V++C).map (·.1)))] (.tup []) [(2000,.lst 54 7 ((A++V++Y++U++C).map (·.1)))]:=by
 apply w3q
 have:=X2q A Y C U V [] [] (by simpa using ht) h rfl (by simpa using hl)
 simpa using this
theorem a7Mq (T:List (List Da×Li)):∀(n:Nat) (A U V C:List (List Da×Li)),U.length+V.length<=n->U≠[]->V≠[]->(∀z∈A++U++V++C,TgP Li.da z)->(A++U++V++C).length<=3000000000000->A++V++U++C=T->e2q (.tup []) [(2000,.lst 54 7 ((T).map (·.1)))] ((A++U).length:Int) (U.length:Int) (V.length:Int) ((A++U++V++C).map (·.1)):=by
 intro n
 induction n with
 | zero =>
  intro A U V C hn hU _ _ _ _
  exact absurd (a1z (by omega)) hU
 | succ n ih =>
  intro A U V C hn hU hV ht hl hT
  have hU':=a4z.2 hU
  have hV':=a4z.2 hV
  have hl':A.length+U.length+V.length+C.length<=3000000000000:=by simp at hl; omega
  have w1:a0z .i64 (((A++U).length:Int)-(U.length:Int))=(A.length:Int):=by rw [wrI (by simp <;> omega) (by simp <;> omega)]; simp <;> omega
  apply w4q
  rw [w1]
  by_cases he:U.length=V.length
  ·have c:=H9q A U [] V C (by simpa using ht) he (by simpa using hl)
   simp only [aaz] at c
   rw [hT] at c
   exact a3q (decide_eq_false (by simp [he])) ⟨_,c,rfl,rfl⟩
  ·refine a6q (decide_eq_true (by omega)) ?_
   by_cases hgt:V.length<U.length
   ·refine a6q (decide_eq_true (by omega)) ?_
    obtain ⟨U1,U2,rfl,hU1⟩:∃U1 U2,U=U1++U2/\U1.length=V.length:=⟨U.take V.length,U.drop V.length,by simp,by simp; omega⟩
    have c:=H9q A U1 U2 V C (by simpa using ht) hU1 (by simpa using hl)
    have h2:U2.length+V.length=(U1++U2).length:=by simp; omega
    have w2:a0z .i64 (((U1++U2).length:Int)-(V.length:Int))=(U2.length:Int):=by rw [wrI (by simp <;> omega) (by simp <;> omega)]; simp <;> omega
    have i1:=ih (A++V) U2 U1 C (by simp at hn; omega) (by intro h; subst h; simp at hgt hU1; omega) (by intro h; subst h; simp at hU1; omega) (fun w hw=>ht w (by simp at hw ⊢; grind)) (by simp; omega) (by simpa [a5z] using hT)
    have e1:A++(U1++U2)++V++C=A++U1++U2++V++C:=by simp
    have e2:(A++V++U2).length=(A++(U1++U2)).length:=by simp; omega
    have e3:(A++(U1++U2)).length=(A++U1++U2).length:=by simp
    rw [w2,e1]
    rw [e2] at i1
    rw [e3] at i1 ⊢
    rw [hU1] at i1 c
    exact ⟨_,c,i1⟩
   ·refine a3q (decide_eq_false (by omega)) ?_
    obtain ⟨V1,V2,rfl,hV2⟩:∃V1 V2,V=V1++V2/\V2.length=U.length:=⟨V.take (V.length-U.length),V.drop (V.length-U.length),by simp,by simp; omega⟩
    have hvl:(V1++V2).length=V1.length+V2.length:=by simp
    have c:=H9q A U V1 V2 C (by simpa using ht) hV2.symm (by simpa using hl)
    have w2:a0z .i64 (a0z .i64 (((A++U).length:Int)+((V1++V2).length:Int))-(U.length:Int))=((A++U++V1).length:Int):=by
     rw [wrI (x:=((A++U).length:Int)+_) (by omega) (by simp at hl' ⊢; omega),wrI (by simp; omega) (by simp at hl' ⊢; omega)]; simp; omega
    have w3:a0z .i64 (((V1++V2).length:Int)-(U.length:Int))=(V1.length:Int):=by rw [wrI (by simp; omega) (by simp at hl' ⊢; omega)]; simp; omega
    have i1:=ih A V2 V1 (U++C) (by omega) (by intro h; subst h; simp at hV2; omega) (by intro h; subst h; simp at he hgt hvl; omega) (fun w hw=>ht w (by simp at hw ⊢; grind)) (by simp at hl' ⊢; omega) (by simpa [a5z] using hT)
    have e1:A++U++(V1++V2)++C=A++U++V1++V2++C:=by simp
    have e2:(A++V2).length=(A++U).length:=by simp [hV2]
    have e4:A++V2++V1++(U++C)=A++V2++V1++U++C:=by simp
    rw [w2,w3,e1]
    rw [e2,hV2,e4] at i1
    exact ⟨_,c,i1⟩
theorem a7qq (A U V C:List (List Da×Li)) (hU:U≠[]) (hV:V≠[]) (ht:∀z∈A++U++V++C,TgP Li.da z) (hl:(A++U++V++C).length<=3000000000000):XC pg 193 [.one (.ol 2000),Z (A.length:Int),Z ((A++U).length:Int),Z ((A++U++V).length:Int),.one (.d (.fn 54))] [(2000,.lst 54 7 ((A++U++V++C).map (·.1)))] (.tup []) [(2000,.lst 54 7 ((A++V++U++C).map (·.1)))]:=by
 have hl':A.length+U.length+V.length+C.length<=3000000000000:=by simp at hl; omega
 have w1:a0z .i64 (((A++U).length:Int)-(A.length:Int))=(U.length:Int):=by rw [wrI (by simp <;> omega) (by simp <;> omega)]; simp <;> omega
 have w2:a0z .i64 (((A++U++V).length:Int)-((A++U).length:Int))=(V.length:Int):=by rw [wrI (by simp <;> omega) (by simp <;> omega)]; simp <;> omega
 apply y3q
 rw [w1,w2]
 exact a7Mq _ _ A U V C (a3z _) hU hV ht hl rfl
theorem aa9q (hO:SWO f1q) (A:List (List Da×Li)) (x:List Da×Li):∀(n:Nat) (L R Q:List (List Da×Li)),L.length=n->(∀z∈A++L++x::R++Q,TgP Li.da z)->(A++L++x::R++Q).length<=3000000000000->Sd f1q (L++R)->(∀y∈R,f1q x y)->∃S,S.Perm (L++x::R)/\Sd f1q S/\∀(r:AV) (O:List (Nat×Ob)) (b i:Int),(c7q r O (A.length:Int) b (a0z .i64 (i+1)) ((A++S++Q).map (·.1))->e3q r O (A.length:Int) b i ((A++L).length:Int) ((A++L++x::R++Q).map (·.1))):=by
 intro n
 induction n with
 | zero =>
  intro L R Q hn ht hl hs hR
  have:L=[]:=a1z hn
  subst this
  refine ⟨x::R,by simp,Q8q hO (L:=[]) hs (fun y hy=>hO.asym (hR y hy)) (by simp),fun r O b i h => ?_⟩
  apply i0q
  refine a3q (decide_eq_false (by simp)) ?_
  simpa using h
 | succ n ih =>
  intro L R Q hn ht hl hs hR
  obtain ⟨L',z,rfl⟩:∃L' z,L=L'++[z]:=by
   rcases ajz L with rfl | ⟨L',z,h⟩
   ·simp at hn
   ·exact ⟨L',z,by rw [h,akz]⟩
  have hl':A.length+L'.length+R.length+Q.length+2<=3000000000000:=by simp at hl; omega
  have hz:=ht z (by simp)
  have hx:=ht x (by simp)
  have hcmp:=a39q hx hz
  obtain ⟨_,_,_,_,_,_,_,ex⟩:=(ht x (by simp)).lit
  obtain ⟨_,_,_,_,_,_,_,ez⟩:=(ht z (by simp)).lit
  have eD:A++(L'++[z])++x::R++Q=(A++L')++z::[]++x::(R++Q):=by simp
  have g1:=R7q (fun z:List Da×Li=>z.1) (P:=A++L') (M:=[]) (Q:=R++Q) (a:=z) (b:=x)
  have g2:=R3q (fun z:List Da×Li=>z.1) (P:=A++L') (M:=[]) (Q:=R++Q) (a:=z) (b:=x)
  have l1:=A6q (fun z:List Da×Li=>z.1) (A++L') [] (R++Q) z x
  have g3:((((A++L')++z::[]++x::(R++Q)).map (·.1)).set ((A++L').length+1+([]:List (List Da×Li)).length) z.1)[(A++L').length]?=some z.1:=by
   rw [adz (by simp)]; exact g2
  have w1:a0z .i64 (((A++(L'++[z])).length:Int)-1)=(((A++L').length:Nat):Int):=by rw [wrI (by simp <;> omega) (by simp <;> omega)]; simp <;> omega
  have w2:a0z .i64 ((((A++L').length+1+([]:List (List Da×Li)).length:Nat):Int)-1)=(((A++L').length:Nat):Int):=by rw [wrI (by simp <;> omega) (by simp <;> omega)]; simp <;> omega
  have hj:((A++(L'++[z])).length:Int)=(((A++L').length+1+([]:List (List Da×Li)).length:Nat):Int):=by simp; omega
  by_cases hlt:f1q x z
  ·obtain ⟨S,p1,p2,p3⟩:=ih L' (z::R) Q (by simpa using hn) (fun w hw=>ht w (by simp at hw ⊢; grind)) (by simp; omega) (by simpa using hs) (fun y hy=>by
    rcases a6z.1 hy with rfl | hy
    ·exact hlt
    ·exact hR y hy)
   refine ⟨S,p1.trans ?_,p2,fun r O b i h => ?_⟩
   ·have:(L'++[z])++x::R=L'++z::x::R:=by simp
    rw [this]
    exact (List.Perm.swap ..).append_left L'
   ·have h4:=p3 r O b i h
    have eS:A++L'++x::z::R++Q=(A++L')++x::[]++z::(R++Q):=by simp
    rw [eS,<-a38q] at h4
    rw [ex] at g1 hcmp
    rw [ez] at g2 g3 hcmp
    rw [ex,ez] at h4
    apply i0q
    rw [eD,hj,w2]
    refine a6q (decide_eq_true (by simp; omega)) ⟨_,rfl,⟨by rw [l1]; simp; omega⟩,_,rfl,_,_,_,_,_,_,_,g1,_,rfl,⟨by rw [l1]; simp; omega⟩,_,rfl,_,_,_,_,_,_,_,g2,_,hcmp,a6q (decide_eq_true hlt) ⟨_,rfl,⟨by rw [l1]; simp; omega⟩,_,rfl,_,_,_,_,_,_,_,g2,_,rfl,⟨by rw [l1]; simp; omega⟩,_,rfl,_,_,_,_,_,_,_,g1,_,rfl,⟨by rw [l1]; simp; omega⟩,_,rfl,_,_,_,_,_,_,_,g1,_,rfl,⟨by rw [aoz,l1]; simp; omega⟩,_,rfl,_,_,_,_,_,_,_,g3,h4⟩⟩
  ·refine ⟨(L'++[z])++x::R,.refl _,Q8q hO hs (fun y hy=>hO.asym (hR y hy)) (a5Pq hO (t7q.1 hs).1 hlt),fun r O b i h => ?_⟩
   have e2:A++(L'++[z]++x::R)++Q=(A++L')++z::[]++x::(R++Q):=by simp
   rw [e2] at h
   rw [ex] at g1 hcmp
   rw [ez] at g2 hcmp
   apply i0q
   rw [eD,hj,w2]
   exact a6q (decide_eq_true (by simp; omega)) ⟨_,rfl,⟨by rw [l1]; simp; omega⟩,_,rfl,_,_,_,_,_,_,_,g1,_,rfl,⟨by rw [l1]; simp; omega⟩,_,rfl,_,_,_,_,_,_,_,g2,_,hcmp,a3q (decide_eq_false hlt) h⟩
theorem a1Jq (hO:SWO f1q) (A C:List (List Da×Li)):∀(R S:List (List Da×Li)),(∀z∈A++S++R++C,TgP Li.da z)->(A++S++R++C).length<=3000000000000->Sd f1q S->∃M,M.Perm (S++R)/\Sd f1q M/\c7q (.tup []) [(2000,.lst 54 7 ((A++M++C).map (·.1)))] (A.length:Int) ((A++S++R).length:Int) ((A++S).length:Int) ((A++S++R++C).map (·.1))
 | [],S,ht,hl,hs=>by
  refine ⟨S,by simp,hs,?_⟩
  apply i1q
  exact a3q (decide_eq_false (by simp)) ⟨rfl,by simp⟩
 | x::R,S,ht,hl,hs=>by
  have hl':A.length+S.length+R.length+C.length+1<=3000000000000:=by simp at hl; omega
  obtain ⟨S',p1,p2,p3⟩:=aa9q hO A x S.length S [] (R++C) rfl (by simpa using ht) (by simpa using hl) (by simpa using hs) (by simp)
  have pl:=p1.length_eq
  simp only [a2z,acz,ahz] at pl
  obtain ⟨M,q1,q2,q3⟩:=a1Jq hO A C R S' (fun w hw=>ht w (by
   have hp:w∈S'->w∈S++[x]:=fun h=>p1.subset h
   simp at hw hp ⊢; grind)) (by simp; omega) p2
  refine ⟨M,q1.trans ?_,q2,?_⟩
  ·have e:S++x::R=S++[x]++R:=by simp
   rw [e]
   exact p1.append_right R
  ·have h4:=p3 (.tup []) [(2000,.lst 54 7 ((A++M++C).map (·.1)))] ((A++S++x::R).length:Int) ((A++S).length:Int)
   have w1:a0z .i64 (((A++S).length:Int)+1)=((A++S').length:Int):=by rw [wrI (by simp <;> omega) (by simp <;> omega)]; simp <;> omega
   have e1:(A++S'++R).length=(A++S++x::R).length:=by simp; omega
   have e2:A++S'++(R++C)=A++S'++R++C:=by simp
   have e3:A++S++[x]++(R++C)=A++S++x::R++C:=by simp
   rw [w1,e2,e3] at h4
   rw [e1] at q3
   apply i1q
   exact a6q (decide_eq_true (by simp; omega)) (h4 q3)
theorem T4q (hO:SWO f1q) (A R C:List (List Da×Li)) (ht:∀z∈A++R++C,TgP Li.da z) (hl:(A++R++C).length<=3000000000000):∃M,M.Perm R/\Sd f1q M/\XC pg 163 [.one (.ol 2000),Z (A.length:Int),Z ((A++R).length:Int),.one (.d (.fn 54))] [(2000,.lst 54 7 ((A++R++C).map (·.1)))] (.tup []) [(2000,.lst 54 7 ((A++M++C).map (·.1)))]:=by
 have hl':A.length+R.length+C.length<=3000000000000:=by simp at hl; omega
 have w1:a0z .i64 ((A.length:Int)+1)=((A.length+1:Nat):Int):=by rw [wrI (by omega) (by omega)]; simp
 cases R with
 | nil =>
  refine ⟨[],.refl _,.nil,?_⟩
  apply l6q
  rw [w1]
  apply i1q
  exact a3q (decide_eq_false (by simp <;> omega)) ⟨rfl,rfl⟩
 | cons x R =>
  obtain ⟨M,p1,p2,p3⟩:=a1Jq hO A C R [x] (by simpa using ht) (by simpa using hl) (by simp)
  refine ⟨M,by simpa using p1,p2,?_⟩
  apply l6q
  rw [w1]
  have e1:(A++[x]).length=A.length+1:=by simp
  have e2:A++[x]++R=A++x::R:=by simp
  rw [e1,e2] at p3
  exact p3
theorem a56q (i:Int) (x:List Da×Li) (Q:List (List Da×Li)):∀(R1 D:List (List Da×Li)),(∀z∈D++x::R1++Q,TgP Li.da z)->(D++x::R1++Q).length<=3000000000000->i=((D.length+R1.length+1:Nat):Int)->d7q (.tup []) [(2000,.lst 54 7 ((D++R1++x::Q).map (·.1)))] i (D.length:Int) ((D++x::R1++Q).map (·.1)):=by
 intro R1
 induction R1 with
 | nil =>
  intro D ht hl hi
  have w:a0z .i64 (i-1)=(D.length:Int):=by rw [wrI (by omega) (by simp at hl hi; omega)]; simp at hi; omega
  apply m7q
  rw [w]
  exact a3q (decide_eq_false (by omega)) ⟨rfl,by simp⟩
 | cons y R1 ih0 =>
  intro D ht hl hi
  have hl':D.length+R1.length+Q.length+2<=3000000000000:=by simp at hl; omega
  have ih:=ih0 (D++[y]) (fun w hw=>ht w (by simp at hw ⊢; grind)) (by simp; omega) (by simp at hi ⊢; omega)
  have w:a0z .i64 (i-1)=((D.length+R1.length+1:Nat):Int):=by rw [wrI (by omega) (by simp at hi; omega)]; simp at hi; omega
  have w1:a0z .i64 ((D.length:Int)+1)=((D.length+1+([]:List (List Da×Li)).length:Nat):Int):=by rw [wrI (by omega) (by omega)]; simp
  have eD:D++x::y::R1++Q=D++x::[]++y::(R1++Q):=by simp
  have eE:D++[y]++x::R1++Q=D++y::[]++x::(R1++Q):=by simp
  have eO:D++[y]++R1++x::Q=D++y::R1++x::Q:=by simp
  have e1:(D++[y]).length=D.length+1+([]:List (List Da×Li)).length:=by simp
  have g1:=R7q (fun z:List Da×Li=>z.1) (P:=D) (M:=[]) (Q:=R1++Q) (a:=x) (b:=y)
  have g2:=R3q (fun z:List Da×Li=>z.1) (P:=D) (M:=[]) (Q:=R1++Q) (a:=x) (b:=y)
  have l1:=A6q (fun z:List Da×Li=>z.1) D [] (R1++Q) x y
  have g3:(((D++x::[]++y::(R1++Q)).map (·.1)).set D.length y.1)[D.length+1+([]:List (List Da×Li)).length]?=some y.1:=by
   rw [adz (by simp)]; exact g1
  obtain ⟨_,_,_,_,_,_,_,ex⟩:=(ht x (by simp)).lit
  obtain ⟨_,_,_,_,_,_,_,ey⟩:=(ht y (by simp)).lit
  rw [eE,eO,e1,<-a0Mq (fun z:List Da×Li=>z.1) (P:=D) (M:=[]) (Q:=R1++Q) (a:=x) (b:=y)] at ih
  rw [ex] at g2
  rw [ey] at g1 g3
  rw [ex,ey] at ih
  apply m7q
  rw [w,eD,w1]
  exact a6q (decide_eq_true (by omega)) ⟨_,rfl,⟨by rw [l1]; simp; omega⟩,_,rfl,_,_,_,_,_,_,_,g1,_,rfl,⟨by rw [l1]; simp; omega⟩,_,rfl,_,_,_,_,_,_,_,g2,_,rfl,⟨by rw [l1]; simp; omega⟩,_,rfl,_,_,_,_,_,_,_,g2,_,rfl,⟨by rw [aoz,l1]; simp; omega⟩,_,rfl,_,_,_,_,_,_,_,g3,ih⟩
theorem a6uq (D:List (List Da×Li)) (x:List Da×Li):∀(n:Nat) (L Q:List (List Da×Li)),L.length=n->(∀z∈D++L++x::Q,TgP Li.da z)->(D++L++x::Q).length<=3000000000000->d6q (.tup []) [(2000,.lst 54 7 ((D++x::L++Q).map (·.1)))] (D.length:Int) ((D++L).length:Int) ((D++L++x::Q).map (·.1)):=by
 intro n
 induction n with
 | zero =>
  intro L Q hn ht hl
  have:L=[]:=a1z hn
  subst this
  apply m0q
  exact a3q (decide_eq_false (by simp)) ⟨rfl,by simp⟩
 | succ n ih =>
  intro L Q hn ht hl
  obtain ⟨L',z,rfl⟩:∃L' z,L=L'++[z]:=by
   rcases ajz L with rfl | ⟨L',z,h⟩
   ·simp at hn
   ·exact ⟨L',z,by rw [h,akz]⟩
  have hl':D.length+L'.length+Q.length+2<=3000000000000:=by simp at hl; omega
  have i1:=ih L' (z::Q) (by simpa using hn) (fun w hw=>ht w (by simp at hw ⊢; grind)) (by simp; omega)
  have eD:D++(L'++[z])++x::Q=(D++L')++z::[]++x::Q:=by simp
  have eE:D++L'++x::z::Q=(D++L')++x::[]++z::Q:=by simp
  have eO:D++x::L'++z::Q=D++x::(L'++[z])++Q:=by simp
  have hj:((D++(L'++[z])).length:Int)=(((D++L').length+1+([]:List (List Da×Li)).length:Nat):Int):=by simp; omega
  have w2:a0z .i64 ((((D++L').length+1+([]:List (List Da×Li)).length:Nat):Int)-1)=(((D++L').length:Nat):Int):=by rw [wrI (by simp <;> omega) (by simp <;> omega)]; simp <;> omega
  have g1:=R7q (fun z:List Da×Li=>z.1) (P:=D++L') (M:=[]) (Q:=Q) (a:=z) (b:=x)
  have g2:=R3q (fun z:List Da×Li=>z.1) (P:=D++L') (M:=[]) (Q:=Q) (a:=z) (b:=x)
  have l1:=A6q (fun z:List Da×Li=>z.1) (D++L') [] Q z x
  have g3:((((D++L')++z::[]++x::Q).map (·.1)).set ((D++L').length+1+([]:List (List Da×Li)).length) z.1)[(D++L').length]?=some z.1:=by
   rw [adz (by simp)]; exact g2
  obtain ⟨_,_,_,_,_,_,_,ex⟩:=(ht x (by simp)).lit
  obtain ⟨_,_,_,_,_,_,_,ez⟩:=(ht z (by simp)).lit
  rw [eE,eO,<-a38q] at i1
  rw [ex] at g1
  rw [ez] at g2 g3
  rw [ex,ez] at i1
  apply m0q
  rw [eD,hj,w2]
  exact a6q (decide_eq_true (by simp; omega)) ⟨_,rfl,⟨by rw [l1]; simp; omega⟩,_,rfl,_,_,_,_,_,_,_,g2,_,rfl,⟨by rw [l1]; simp; omega⟩,_,rfl,_,_,_,_,_,_,_,g1,_,rfl,⟨by rw [l1]; simp; omega⟩,_,rfl,_,_,_,_,_,_,_,g1,_,rfl,⟨by rw [aoz,l1]; simp; omega⟩,_,rfl,_,_,_,_,_,_,_,g3,i1⟩
theorem adMq (hO:SWO f1q) (A R C:List (List Da×Li)) (x:List Da×Li) (ht:∀z∈A++x::R++C,TgP Li.da z) (hl:(A++x::R++C).length<=3000000000000) (hs:Sd f1q R):∃M,M.Perm (x::R)/\Sd f1q M/\b8q (.tup []) [(2000,.lst 54 7 ((A++M++C).map (·.1)))] (A.length:Int) ((A.length+1:Nat):Int) ((A.length+1+R.length:Nat):Int) ((A++x::R++C).map (·.1)):=by
 have hl':A.length+R.length+C.length+1<=3000000000000:=by simp at hl; omega
 have hlen:((A++x::R++C).map (·.1)).length=A.length+R.length+C.length+1:=by simp; omega
 have eD:A++x::R++C=A++[x]++R++C:=by simp
 have gx:((A++x::R++C).map (·.1))[A.length]?=some x.1:=by
  have:=x8q (fun z:List Da×Li=>z.1) (P:=A) (R:=x::R) (Q:=C) (k:=0) (y:=x) rfl
  exact this
 obtain ⟨k,k1,k2,k3,k4,k5⟩:=V9q (ι:=AV×List (Nat×Ob)) (p:=fun t i j=>b8q t.1 t.2 (A.length:Int) (i:Int) (j:Int) ((A++x::R++C).map (·.1))) (ex:=fun t i=>d7q t.1 t.2 (i:Int) (A.length:Int) ((A++x::R++C).map (·.1)))
  (fun h=>∃y,R[h-(A.length+1)]?=some y/\f1q y x) (A.length+1) (A.length+1+R.length) (fun t i _ _ h=>by
   apply m9q
   exact a3q (decide_eq_false (by omega)) h) (fun t i j h1 h2 h3=>by
   obtain ⟨y,hy⟩:=d4q (l:=R) (i:=(i+j) / 2-(A.length+1)) (by omega)
   have hym:=aez hy
   have hcmp:=a39q (ht y (by simp [hym])) (ht x (by simp))
   have gy:=x8q (fun z:List Da×Li=>z.1) (P:=A++[x]) (Q:=C) hy
   have eh:(A++[x]).length+((i+j) / 2-(A.length+1))=(i+j) / 2:=by simp; omega
   rw [eh,<-eD] at gy
   obtain ⟨_,_,_,_,_,_,_,ex⟩:=(ht x (by simp)).lit
   obtain ⟨_,_,_,_,_,_,_,ey⟩:=(ht y (by simp [hym])).lit
   have core:(f1q y x->b8q t.1 t.2 (A.length:Int) (((i+j) / 2+1:Nat):Int) (j:Int) ((A++x::R++C).map (·.1)))->(¬f1q y x->b8q t.1 t.2 (A.length:Int) (i:Int) (((i+j) / 2:Nat):Int) ((A++x::R++C).map (·.1)))->b8q t.1 t.2 (A.length:Int) (i:Int) (j:Int) ((A++x::R++C).map (·.1)):=by
    intro c1 c2
    have w1:a0z .i64 ((((i+j) / 2:Nat):Int)+1)=(((i+j) / 2+1:Nat):Int):=by rw [wrI (by omega) (by omega)]; simp
    have gx2:=gx
    rw [ex] at gx2 hcmp
    rw [ey] at gy hcmp
    apply m9q
    rw [midw (by omega),w1]
    refine a6q (decide_eq_true (by omega)) ⟨⟨G9q⟩,_,rfl,⟨by rw [hlen]; omega⟩,_,rfl,_,_,_,_,_,_,_,gy,_,rfl,⟨by rw [hlen]; omega⟩,_,rfl,_,_,_,_,_,_,_,gx2,_,hcmp,?_⟩
    by_cases hlt:f1q y x
    ·exact a6q (decide_eq_true hlt) (c1 hlt)
    ·exact a3q (decide_eq_false hlt) (c2 hlt)
   refine ⟨fun hf hp=>core (fun _=>hp) fun hn => ?_,fun hn hp=>core (fun hlt=>absurd ⟨y,hy,hlt⟩ hn) fun _=>hp⟩
   obtain ⟨y',hy',hlt⟩:=hf
   rw [hy] at hy'
   cases hy'
   exact absurd hlt hn) R.length (A.length+1) (A.length+1+R.length) (by omega) (a3z _) (by omega) (a3z _) (.inl rfl) (.inl rfl)
 obtain ⟨q,rfl⟩:∃q,k=A.length+1+q:=⟨k-(A.length+1),by omega⟩
 have hq:q<=R.length:=by omega
 have hsR:Sd f1q (R.take q++R.drop q):=by rw [a7z]; exact hs
 obtain ⟨s1,s2,_⟩:=t7q.1 hsR
 have hR1:∀y∈R.take q,f1q y x:=by
  refine a0iq hO s1 ?_
  rcases k3 with h | ⟨y,hy,hlt⟩
  ·have:q=0:=by omega
   subst this; exact .inl (by simp)
  ·by_cases h0:q=0
   ·subst h0; exact .inl (by simp)
   ·refine .inr ⟨y,?_,hlt⟩
    rw [aDz,aEz hq,arz (by omega)]
    rw [<-hy]; congr 1; omega
 have hR2:∀y∈R.drop q,¬f1q y x:=by
  refine I7q hO s2 ?_
  rcases k4 with h | h
  ·exact .inl (afz (by omega))
  ·by_cases h0:q=R.length
   ·exact .inl (afz (by omega))
   ·obtain ⟨y,hy⟩:=d4q (l:=R) (i:=q) (by omega)
    refine .inr ⟨y,by rw [aAz]; simpa using hy,fun hlt=>h ⟨y,?_,hlt⟩⟩
    rw [<-hy]; congr 1; omega
 refine ⟨R.take q++x::R.drop q,?_,Q8q hO hsR hR2 (fun y hy=>hO.asym (hR1 y hy)),k5 (_,_) ?_⟩
 ·refine List.perm_middle.trans ?_
  rw [a7z]
 ·have h:=a56q ((A.length+1+q:Nat):Int) x (R.drop q++C) (R.take q) A (fun w hw=>ht w (by
   have e:A++x::R.take q++(R.drop q++C)=A++x::R++C:=by
    simp only [a5z,apz]; rw [<-a5z (R.take q),a7z]
   rw [e] at hw; exact hw)) (by simp; omega) (by simp; omega)
  have e1:A++x::R.take q++(R.drop q++C)=A++x::R++C:=by
   simp only [a5z,apz]; rw [<-a5z (R.take q),a7z]
  have e2:A++R.take q++x::(R.drop q++C)=A++(R.take q++x::R.drop q)++C:=by simp
  rw [e1,e2] at h
  exact h
theorem aciq (hO:SWO f1q) (A L C:List (List Da×Li)) (x:List Da×Li) (ht:∀z∈A++L++x::C,TgP Li.da z) (hl:(A++L++x::C).length<=3000000000000) (hs:Sd f1q L):∃M,M.Perm (L++[x])/\Sd f1q M/\b7q (.tup []) [(2000,.lst 54 7 ((A++M++C).map (·.1)))] ((A.length+L.length:Nat):Int) (A.length:Int) ((A.length+L.length:Nat):Int) ((A++L++x::C).map (·.1)):=by
 have hl':A.length+L.length+C.length+1<=3000000000000:=by simp at hl; omega
 have hlen:((A++L++x::C).map (·.1)).length=A.length+L.length+C.length+1:=by simp; omega
 have gx:((A++L++x::C).map (·.1))[A.length+L.length]?=some x.1:=by simp
 obtain ⟨k,k1,k2,k3,k4,k5⟩:=V9q (ι:=AV×List (Nat×Ob)) (p:=fun t i j=>b7q t.1 t.2 ((A.length+L.length:Nat):Int) (i:Int) (j:Int) ((A++L++x::C).map (·.1))) (ex:=fun t i=>d6q t.1 t.2 (i:Int) ((A.length+L.length:Nat):Int) ((A++L++x::C).map (·.1)))
  (fun h=>∃y,L[h-A.length]?=some y/\¬f1q x y) A.length (A.length+L.length) (fun t i _ _ h=>by
   apply m2q
   exact a3q (decide_eq_false (by omega)) h) (fun t i j h1 h2 h3=>by
   obtain ⟨y,hy⟩:=d4q (l:=L) (i:=(i+j) / 2-A.length) (by omega)
   have hym:=aez hy
   have hcmp:=a39q (ht x (by simp)) (ht y (by simp [hym]))
   have gy:=x8q (fun z:List Da×Li=>z.1) (P:=A) (Q:=x::C) hy
   have eh:A.length+((i+j) / 2-A.length)=(i+j) / 2:=by omega
   rw [eh] at gy
   obtain ⟨_,_,_,_,_,_,_,ex⟩:=(ht x (by simp)).lit
   obtain ⟨_,_,_,_,_,_,_,ey⟩:=(ht y (by simp [hym])).lit
   have core:(¬f1q x y->b7q t.1 t.2 ((A.length+L.length:Nat):Int) (((i+j) / 2+1:Nat):Int) (j:Int) ((A++L++x::C).map (·.1)))->(f1q x y->b7q t.1 t.2 ((A.length+L.length:Nat):Int) (i:Int) (((i+j) / 2:Nat):Int) ((A++L++x::C).map (·.1)))->b7q t.1 t.2 ((A.length+L.length:Nat):Int) (i:Int) (j:Int) ((A++L++x::C).map (·.1)):=by
    intro c1 c2
    have w1:a0z .i64 ((((i+j) / 2:Nat):Int)+1)=(((i+j) / 2+1:Nat):Int):=by rw [wrI (by omega) (by omega)]; simp
    have gx2:=gx
    rw [ex] at gx2 hcmp
    rw [ey] at gy hcmp
    apply m2q
    rw [midw (by omega),w1]
    refine a6q (decide_eq_true (by omega)) ⟨⟨G9q⟩,_,rfl,⟨by rw [hlen]; omega⟩,_,rfl,_,_,_,_,_,_,_,gx2,_,rfl,⟨by rw [hlen]; omega⟩,_,rfl,_,_,_,_,_,_,_,gy,_,hcmp,?_⟩
    by_cases hlt:f1q x y
    ·exact a3q (by rw [decide_eq_true (show Li.cmp x.2 y.2<0 from hlt)]; rfl) (c2 hlt)
    ·exact a6q (by rw [decide_eq_false (show ¬Li.cmp x.2 y.2<0 from hlt)]; rfl) (c1 hlt)
   refine ⟨fun hf hp=>core (fun _=>hp) fun hn => ?_,fun hn hp=>core (fun hlt=>absurd ⟨y,hy,hlt⟩ hn) fun _=>hp⟩
   obtain ⟨y',hy',hlt⟩:=hf
   rw [hy] at hy'
   cases hy'
   exact absurd hn hlt) L.length A.length (A.length+L.length) (by omega) (a3z _) (by omega) (a3z _) (.inl rfl) (.inl rfl)
 obtain ⟨q,rfl⟩:∃q,k=A.length+q:=⟨k-A.length,by omega⟩
 have hq:q<=L.length:=by omega
 have hsL:Sd f1q (L.take q++L.drop q):=by rw [a7z]; exact hs
 obtain ⟨s1,s2,_⟩:=t7q.1 hsL
 have hL1:∀y∈L.take q,¬f1q x y:=by
  refine a0cq hO s1 ?_
  by_cases h0:q=0
  ·subst h0; exact .inl (by simp)
  ·rcases k3 with h | ⟨y,hy,hlt⟩
   ·exact absurd (by omega) h0
   ·refine .inr ⟨y,?_,hlt⟩
    rw [aDz,aEz hq,arz (by omega)]
    rw [<-hy]; congr 1; omega
 have hL2:∀y∈L.drop q,f1q x y:=by
  refine a6Zq hO s2 ?_
  by_cases h0:q=L.length
  ·exact .inl (afz (by omega))
  ·rcases k4 with h | h
   ·exact absurd (by omega) h0
   ·obtain ⟨y,hy⟩:=d4q (l:=L) (i:=q) (by omega)
    refine .inr ⟨y,by rw [aAz]; simpa using hy,agz fun hlt=>h ⟨y,?_,hlt⟩⟩
    rw [<-hy]; congr 1; omega
 refine ⟨L.take q++x::L.drop q,?_,Q8q hO hsL (fun y hy=>hO.asym (hL2 y hy)) hL1,k5 (_,_) ?_⟩
 ·refine List.perm_middle.trans ?_
  rw [a7z]
  exact (aGz x L).symm
 ·have e1:A++L.take q++L.drop q++x::C=A++L++x::C:=by rw [a5z A,a7z]
  have h:=a6uq (A++L.take q) x (L.drop q).length (L.drop q) C rfl (by rw [e1]; exact ht) (by rw [e1]; exact hl)
  have e2:A++L.take q++x::L.drop q++C=A++(L.take q++x::L.drop q)++C:=by simp
  have e3:(A++L.take q).length=A.length+q:=by simp; omega
  have e4:(A++L.take q++L.drop q).length=A.length+L.length:=by simp
  rw [e1,e2,e3,e4] at h
  exact h
theorem aegq (hO:SWO f1q) (A L1 L2 R1 R2 C:List (List Da×Li)) (a m b mid k e:Nat) (ha:a=A.length) (hk:k=a+L1.length) (hm:m=k+L2.length) (he:e=m+R1.length) (hb:b=e+R2.length) (hmid:mid=k+R1.length) (ht:∀z∈A++L1++L2++R1++R2++C,TgP Li.da z) (hl:(A++L1++L2++R1++R2++C).length<=3000000000000) (hL:Sd f1q (L1++L2)) (hR:Sd f1q (R1++R2))
  (f1:(L1=[]\/R2=[])\/∃y0 z0,L1[L1.length-1]?=some y0/\R2[0]?=some z0/\¬f1q z0 y0) (f2:(L2=[]\/R1=[])\/∃y0 z0,L2[0]?=some y0/\R1[R1.length-1]?=some z0/\f1q z0 y0)
  (ih:∀(A L R C:List (List Da×Li)),(L++R).length<(L1++L2++R1++R2).length->L≠[]->R≠[]->(∀z∈A++L++R++C,TgP Li.da z)->(A++L++R++C).length<=3000000000000->Sd f1q L->Sd f1q R->∃M,M.Perm (L++R)/\Sd f1q M/\XC pg 164 [.one (.ol 2000),Z (A.length:Int),Z ((A++L).length:Int),Z ((A++L++R).length:Int),.one (.d (.fn 54))] [(2000,.lst 54 7 ((A++L++R++C).map (·.1)))] (.tup []) [(2000,.lst 54 7 ((A++M++C).map (·.1)))])
  (hlt1:(L1++R1).length<(L1++L2++R1++R2).length) (hlt2:(L2++R2).length<(L1++L2++R1++R2).length) :
  ∃M,M.Perm (L1++L2++(R1++R2))/\Sd f1q M/\∀s21 s22:Int,s21=k->a8q (.tup []) [(2000,.lst 54 7 ((A++M++C).map (·.1)))] (a:Int) (m:Int) (b:Int) (mid:Int) ((mid+m:Nat):Int) (k:Int) s21 s22 ((A++L1++L2++R1++R2++C).map (·.1)):=by
 have hl':A.length+L1.length+L2.length+R1.length+R2.length+C.length<=3000000000000:=by simp at hl; omega
 obtain ⟨hs1,hs2,hs12⟩:=t7q.1 hL
 obtain ⟨hr1,hr2,hr12⟩:=t7q.1 hR
 obtain ⟨M1,p1,q1,z1,c1⟩:∃M1,M1.Perm (L1++R1)/\Sd f1q M1/\((L1=[]\/R1=[])->M1=L1++R1)/\(L1≠[]->R1≠[]->XC pg 164 [.one (.ol 2000),Z (a:Int),Z (k:Int),Z (mid:Int),.one (.d (.fn 54))] [(2000,.lst 54 7 ((A++L1++R1++L2++R2++C).map (·.1)))] (.tup []) [(2000,.lst 54 7 ((A++M1++L2++R2++C).map (·.1)))]):=by
  by_cases h:L1=[]\/R1=[]
  ·refine ⟨L1++R1,.refl _,?_,fun _=>rfl,fun h1 h2=>absurd h (by simp [h1,h2])⟩
   rcases h with rfl | rfl
   ·simpa using hr1
   ·simpa using hs1
  ·have h1:L1≠[]:=fun e=>h (.inl e)
   have h2:R1≠[]:=fun e=>h (.inr e)
   obtain ⟨M1,p,q,c⟩:=ih A L1 R1 (L2++R2++C) hlt1 h1 h2 (fun w hw=>ht w (by simp at hw ⊢; grind)) (by simp; omega) hs1 hr1
   refine ⟨M1,p,q,fun e=>absurd e h,fun _ _ => ?_⟩
   have e1:(A++L1).length=k:=by simp; omega
   have e2:(A++L1++R1).length=mid:=by simp; omega
   have e3:A++L1++R1++(L2++R2++C)=A++L1++R1++L2++R2++C:=by simp
   have e4:A++M1++(L2++R2++C)=A++M1++L2++R2++C:=by simp
   rw [e1,e2,e3,e4,<-ha] at c
   exact c
 have pl1:=p1.length_eq
 simp only [a2z] at pl1
 obtain ⟨M2,p2,q2,z2,c2⟩:∃M2,M2.Perm (L2++R2)/\Sd f1q M2/\((L2=[]\/R2=[])->M2=L2++R2)/\(L2≠[]->R2≠[]->XC pg 164 [.one (.ol 2000),Z (mid:Int),Z (e:Int),Z (b:Int),.one (.d (.fn 54))] [(2000,.lst 54 7 ((A++M1++L2++R2++C).map (·.1)))] (.tup []) [(2000,.lst 54 7 ((A++M1++M2++C).map (·.1)))]):=by
  by_cases h:L2=[]\/R2=[]
  ·refine ⟨L2++R2,.refl _,?_,fun _=>rfl,fun h1 h2=>absurd h (by simp [h1,h2])⟩
   rcases h with rfl | rfl
   ·simpa using hr2
   ·simpa using hs2
  ·have h1:L2≠[]:=fun e=>h (.inl e)
   have h2:R2≠[]:=fun e=>h (.inr e)
   obtain ⟨M2,p,q,c⟩:=ih (A++M1) L2 R2 C hlt2 h1 h2 (fun w hw=>ht w (by
    have hp:w∈M1->w∈L1++R1:=fun h=>p1.subset h
    simp at hw hp ⊢; grind)) (by simp; omega) hs2 hr2
   refine ⟨M2,p,q,fun e=>absurd e h,fun _ _ => ?_⟩
   have e1:(A++M1).length=mid:=by simp; omega
   have e2:(A++M1++L2).length=e:=by simp; omega
   have e3:(A++M1++L2++R2).length=b:=by simp; omega
   rw [e1,e2,e3] at c
   exact c
 have hcross1:∀x∈L1,∀y∈R2,¬f1q y x:=fun x hx y hy=>by
  rcases f1 with (h | h) | ⟨y0,z0,g1,g2,g3⟩
  ·simp [h] at hx
  ·simp [h] at hy
  ·exact I7q hO hr2 (.inr ⟨z0,g2,a0cq hO hs1 (.inr ⟨y0,g1,g3⟩) x hx⟩) y hy
 have hcross2:∀x∈R1,∀y∈L2,¬f1q y x:=fun x hx y hy=>by
  rcases f2 with (h | h) | ⟨y0,z0,g1,g2,g3⟩
  ·simp [h] at hy
  ·simp [h] at hx
  ·exact I7q hO hs2 (.inr ⟨y0,g1,hO.asym (a0iq hO hr1 (.inr ⟨z0,g2,g3⟩) x hx)⟩) y hy
 refine ⟨M1++M2,?_,t7q.2 ⟨q1,q2,fun x hx y hy => ?_⟩,fun s21 s22 h21 => ?_⟩
 ·refine (p1.append p2).trans ?_
  have e1:L1++R1++(L2++R2)=L1++((R1++L2)++R2):=by simp
  have e2:L1++L2++(R1++R2)=L1++((L2++R1)++R2):=by simp
  rw [e1,e2]
  exact (List.perm_append_comm.append_right R2).append_left L1
 ·have hx:=p1.subset hx
  have hy:=p2.subset hy
  rcases anz.1 hx with hx | hx <;> rcases anz.1 hy with hy | hy
  ·exact hs12 x hx y hy
  ·exact hcross1 x hx y hy
  ·exact hcross2 x hx y hy
  ·exact hr12 x hx y hy
 ·subst h21
  obtain ⟨D3,hD3⟩:∃D3,D3=A++M1++M2++C:=⟨_,rfl⟩
  have eO:A++(M1++M2)++C=D3:=by rw [hD3]; simp
  rw [eO]
  have hRight:ifB (decide ((mid:Int)<((e:Nat):Int))) (ifB (decide (((e:Nat):Int)<(b:Int))) (∃xs',XC pg 164 [.one (.ol 2000),Z (mid:Int),Z ((e:Nat):Int),Z (b:Int),.one (.d (.fn 54))] [(2000,.lst 54 7 ((A++M1++L2++R2++C).map (·.1)))] (.tup []) [(2000,.lst 54 7 xs')]/\((AV.tup []) = .tup []/\[((2000:Nat),Ob.lst 54 7 (xs'))]=[(2000,Ob.lst 54 7 (D3.map (·.1)))])) ((AV.tup []) = .tup []/\[((2000:Nat),Ob.lst 54 7 ((A++M1++L2++R2++C).map (·.1)))]=[(2000,Ob.lst 54 7 (D3.map (·.1)))])) ((AV.tup []) = .tup []/\[((2000:Nat),Ob.lst 54 7 ((A++M1++L2++R2++C).map (·.1)))]=[(2000,Ob.lst 54 7 (D3.map (·.1)))]):=by
   by_cases h2:L2=[]
   ·refine a3q (decide_eq_false (by subst h2; simp at hm; omega)) ⟨rfl,?_⟩
    rw [hD3,z2 (.inl h2)]; simp
   ·have:=a4z.2 h2
    refine a6q (decide_eq_true (by omega)) ?_
    by_cases h3:R2=[]
    ·refine a3q (decide_eq_false (by subst h3; simp at hb; omega)) ⟨rfl,?_⟩
     rw [hD3,z2 (.inr h3)]; simp
    ·have:=a4z.2 h3
     exact a6q (decide_eq_true (by omega)) ⟨_,c2 h2 h3,rfl,by rw [hD3]⟩
  have hLeft:ifB (decide ((a:Int)<(k:Int))) (ifB (decide ((k:Int)<(mid:Int))) (∃xs1,XC pg 164 [.one (.ol 2000),Z (a:Int),Z (k:Int),Z (mid:Int),.one (.d (.fn 54))] [(2000,.lst 54 7 ((A++L1++R1++L2++R2++C).map (·.1)))] (.tup []) [(2000,.lst 54 7 xs1)]/\ifB (decide ((mid:Int)<((e:Nat):Int))) (ifB (decide (((e:Nat):Int)<(b:Int))) (∃xs',XC pg 164 [.one (.ol 2000),Z (mid:Int),Z ((e:Nat):Int),Z (b:Int),.one (.d (.fn 54))] [(2000,.lst 54 7 (xs1))] (.tup []) [(2000,.lst 54 7 xs')]/\((AV.tup []) = .tup []/\[((2000:Nat),Ob.lst 54 7 (xs'))]=[(2000,Ob.lst 54 7 (D3.map (·.1)))])) ((AV.tup []) = .tup []/\[((2000:Nat),Ob.lst 54 7 (xs1))]=[(2000,Ob.lst 54 7 (D3.map (·.1)))])) ((AV.tup []) = .tup []/\[((2000:Nat),Ob.lst 54 7 (xs1))]=[(2000,Ob.lst 54 7 (D3.map (·.1)))])) (ifB (decide ((mid:Int)<((e:Nat):Int))) (ifB (decide (((e:Nat):Int)<(b:Int))) (∃xs',XC pg 164 [.one (.ol 2000),Z (mid:Int),Z ((e:Nat):Int),Z (b:Int),.one (.d (.fn 54))] [(2000,.lst 54 7 ((A++L1++R1++L2++R2++C).map (·.1)))] (.tup []) [(2000,.lst 54 7 xs')]/\((AV.tup []) = .tup []/\[((2000:Nat),Ob.lst 54 7 (xs'))]=[(2000,Ob.lst 54 7 (D3.map (·.1)))])) ((AV.tup []) = .tup []/\[((2000:Nat),Ob.lst 54 7 ((A++L1++R1++L2++R2++C).map (·.1)))]=[(2000,Ob.lst 54 7 (D3.map (·.1)))])) ((AV.tup []) = .tup []/\[((2000:Nat),Ob.lst 54 7 ((A++L1++R1++L2++R2++C).map (·.1)))]=[(2000,Ob.lst 54 7 (D3.map (·.1)))]))) (ifB (decide ((mid:Int)<((e:Nat):Int))) (ifB (decide (((e:Nat):Int)<(b:Int))) (∃xs',XC pg 164 [.one (.ol 2000),Z (mid:Int),Z ((e:Nat):Int),Z (b:Int),.one (.d (.fn 54))] [(2000,.lst 54 7 ((A++L1++R1++L2++R2++C).map (·.1)))] (.tup []) [(2000,.lst 54 7 xs')]/\((AV.tup []) = .tup []/\[((2000:Nat),Ob.lst 54 7 (xs'))]=[(2000,Ob.lst 54 7 (D3.map (·.1)))])) ((AV.tup []) = .tup []/\[((2000:Nat),Ob.lst 54 7 ((A++L1++R1++L2++R2++C).map (·.1)))]=[(2000,Ob.lst 54 7 (D3.map (·.1)))])) ((AV.tup []) = .tup []/\[((2000:Nat),Ob.lst 54 7 ((A++L1++R1++L2++R2++C).map (·.1)))]=[(2000,Ob.lst 54 7 (D3.map (·.1)))])):=by
   by_cases h2:L1=[]
   ·refine a3q (decide_eq_false (by subst h2; simp at hk; omega)) ?_
    rw [z1 (.inl h2)] at hRight
    simpa using hRight
   ·have:=a4z.2 h2
    refine a6q (decide_eq_true (by omega)) ?_
    by_cases h3:R1=[]
    ·refine a3q (decide_eq_false (by subst h3; simp at hmid; omega)) ?_
     rw [z1 (.inr h3)] at hRight
     simpa using hRight
    ·have:=a4z.2 h3
     exact a6q (decide_eq_true (by omega)) ⟨_,c1 h2 h3,hRight⟩
  have w:a0z .i64 (((mid+m:Nat):Int)-(k:Int))=((e:Nat):Int):=by rw [wrI (by omega) (by omega)]; omega
  apply m3q
  rw [w]
  refine a3q (decide_eq_false (by omega)) ?_
  by_cases h2:L2=[]
  ·refine a3q (decide_eq_false (by subst h2; simp at hm; omega)) ?_
   have e1:A++L1++L2++R1++R2++C=A++L1++R1++L2++R2++C:=by subst h2; simp
   rw [e1]
   exact hLeft
  ·have:=a4z.2 h2
   refine a6q (decide_eq_true (by omega)) ?_
   by_cases h3:R1=[]
   ·refine a3q (decide_eq_false (by subst h3; simp at he; omega)) ?_
    have e1:A++L1++L2++R1++R2++C=A++L1++R1++L2++R2++C:=by subst h3; simp
    rw [e1]
    exact hLeft
   ·have:=a4z.2 h3
    have c:=a7qq (A++L1) L2 R1 (R2++C) h2 h3 (fun w hw=>ht w (by simp at hw ⊢; grind)) (by simp; omega)
    have e1:A++L1++L2++R1++(R2++C)=A++L1++L2++R1++R2++C:=by simp
    have e2:A++L1++R1++L2++(R2++C)=A++L1++R1++L2++R2++C:=by simp
    have e3:(A++L1).length=k:=by simp; omega
    have e4:(A++L1++L2).length=m:=by simp; omega
    have e5:(A++L1++L2++R1).length=e:=by simp; omega
    rw [e1,e2,e3,e4,e5] at c
    exact a6q (decide_eq_true (by omega)) ⟨_,c,hLeft⟩
theorem a9Dq (A L R C:List (List Da×Li)) (a m b mid lo hi:Nat) (ha:a=A.length) (hm:m=a+L.length) (hb:b=m+R.length) (hlh:lo<=hi) (hla:a<=lo) (hhm:hi<=m) (hc:∀c,lo<=c->c<hi->m+c<=mid+m-1/\mid+m-1-c<b) (ht:∀z∈A++L++R++C,TgP Li.da z) (hl:(A++L++R++C).length<=3000000000000) (hmid:mid<=3000000000000) :
  ∃k,lo<=k/\k<=hi/\(k=lo\/∃y z,L[k-1-a]?=some y/\R[mid+m-1-(k-1)-m]?=some z/\¬f1q z y)/\(k=hi\/¬ ∃y z,L[k-a]?=some y/\R[mid+m-1-k-m]?=some z/\¬f1q z y) /\
  ∀t:AV×List (Nat×Ob),a8q t.1 t.2 (a:Int) (m:Int) (b:Int) (mid:Int) ((mid+m:Nat):Int) (k:Int) (k:Int) ((mid+m-1:Nat):Int) ((A++L++R++C).map (·.1))->a8q t.1 t.2 (a:Int) (m:Int) (b:Int) (mid:Int) ((mid+m:Nat):Int) (lo:Int) (hi:Int) ((mid+m-1:Nat):Int) ((A++L++R++C).map (·.1)):=by
 have hl':A.length+L.length+R.length+C.length<=3000000000000:=by simp at hl; omega
 have hlen:((A++L++R++C).map (·.1)).length=A.length+L.length+R.length+C.length:=by simp; omega
 refine V9q (ι:=AV×List (Nat×Ob)) (p:=fun t i j=>a8q t.1 t.2 (a:Int) (m:Int) (b:Int) (mid:Int) ((mid+m:Nat):Int) (i:Int) (j:Int) ((mid+m-1:Nat):Int) ((A++L++R++C).map (·.1))) (ex:=fun t i=>a8q t.1 t.2 (a:Int) (m:Int) (b:Int) (mid:Int) ((mid+m:Nat):Int) (i:Int) (i:Int) ((mid+m-1:Nat):Int) ((A++L++R++C).map (·.1)))
  (fun c=>∃y z,L[c-a]?=some y/\R[mid+m-1-c-m]?=some z/\¬f1q z y) lo hi (fun t i _ _ h=>h) (fun t i j h1 h2 h3 => ?_) (hi-lo) lo hi (a3z _) (a3z _) hlh (a3z _) (.inl rfl) (.inl rfl)
 obtain ⟨hc1,hc2⟩:=hc ((i+j) / 2) (by omega) (by omega)
 obtain ⟨y,hy⟩:=d4q (l:=L) (i:=(i+j) / 2-a) (by omega)
 obtain ⟨z,hz⟩:=d4q (l:=R) (i:=mid+m-1-(i+j) / 2-m) (by omega)
 have hym:=aez hy
 have hzm:=aez hz
 have hcmp:=a39q (ht z (by simp [hzm])) (ht y (by simp [hym]))
 have gy:=x8q (fun z:List Da×Li=>z.1) (P:=A) (Q:=R++C) hy
 have gz:=x8q (fun z:List Da×Li=>z.1) (P:=A++L) (Q:=C) hz
 have eh:A.length+((i+j) / 2-a)=(i+j) / 2:=by omega
 have eg:(A++L).length+(mid+m-1-(i+j) / 2-m)=mid+m-1-(i+j) / 2:=by simp; omega
 have eD:A++L++(R++C)=A++L++R++C:=by simp
 rw [eh,eD] at gy
 rw [eg] at gz
 obtain ⟨_,_,_,_,_,_,_,ez⟩:=(ht z (by simp [hzm])).lit
 obtain ⟨_,_,_,_,_,_,_,ey⟩:=(ht y (by simp [hym])).lit
 have core:(¬f1q z y->a8q t.1 t.2 (a:Int) (m:Int) (b:Int) (mid:Int) ((mid+m:Nat):Int) (((i+j) / 2+1:Nat):Int) (j:Int) ((mid+m-1:Nat):Int) ((A++L++R++C).map (·.1)))->(f1q z y->a8q t.1 t.2 (a:Int) (m:Int) (b:Int) (mid:Int) ((mid+m:Nat):Int) (i:Int) (((i+j) / 2:Nat):Int) ((mid+m-1:Nat):Int) ((A++L++R++C).map (·.1)))->a8q t.1 t.2 (a:Int) (m:Int) (b:Int) (mid:Int) ((mid+m:Nat):Int) (i:Int) (j:Int) ((mid+m-1:Nat):Int) ((A++L++R++C).map (·.1)):=by
  intro c1 c2
  have w1:a0z .i64 ((((i+j) / 2:Nat):Int)+1)=(((i+j) / 2+1:Nat):Int):=by rw [wrI (by omega) (by omega)]; simp
  have w2:a0z .i64 (((mid+m-1:Nat):Int)-(((i+j) / 2:Nat):Int))=((mid+m-1-(i+j) / 2:Nat):Int):=by rw [wrI (by omega) (by omega)]; omega
  rw [ez] at gz hcmp
  rw [ey] at gy hcmp
  apply m3q
  rw [midw (by omega),w1,w2]
  refine a6q (decide_eq_true (by omega)) ⟨⟨G9q⟩,_,rfl,⟨by rw [hlen]; omega⟩,_,rfl,_,_,_,_,_,_,_,gz,_,rfl,⟨by rw [hlen]; omega⟩,_,rfl,_,_,_,_,_,_,_,gy,_,hcmp,?_⟩
  by_cases hlt:f1q z y
  ·exact a3q (by rw [decide_eq_true (show Li.cmp z.2 y.2<0 from hlt)]; rfl) (c2 hlt)
  ·exact a6q (by rw [decide_eq_false (show ¬Li.cmp z.2 y.2<0 from hlt)]; rfl) (c1 hlt)
 refine ⟨fun hf hp=>core (fun _=>hp) fun hn => ?_,fun hn hp=>core (fun hlt=>absurd ⟨y,z,hy,hz,hlt⟩ hn) fun _=>hp⟩
 obtain ⟨y',z',hy',hz',hlt⟩:=hf
 rw [hy] at hy'
 rw [hz] at hz'
 cases hy'
 cases hz'
 exact absurd hn hlt
theorem a07q (hO:SWO f1q):∀(n:Nat) (A L R C:List (List Da×Li)),(L++R).length<=n->L≠[]->R≠[]->(∀z∈A++L++R++C,TgP Li.da z)->(A++L++R++C).length<=3000000000000->Sd f1q L->Sd f1q R->∃M,M.Perm (L++R)/\Sd f1q M/\XC pg 164 [.one (.ol 2000),Z (A.length:Int),Z ((A++L).length:Int),Z ((A++L++R).length:Int),.one (.d (.fn 54))] [(2000,.lst 54 7 ((A++L++R++C).map (·.1)))] (.tup []) [(2000,.lst 54 7 ((A++M++C).map (·.1)))]:=by
 intro n
 induction n with
 | zero =>
  intro A L R C hn hL _ _ _ _ _
  exact absurd (a1z (by simp at hn; simp [hn])) hL
 | succ n ih =>
  intro A L R C hn hL hR ht hl hsL hsR
  have hL':=a4z.2 hL
  have hR':=a4z.2 hR
  have hl':A.length+L.length+R.length+C.length<=3000000000000:=by simp at hl; omega
  have hn':L.length+R.length<=n+1:=by simpa using hn
  have em:(A++L).length=A.length+L.length:=by simp
  have eb:(A++L++R).length=A.length+L.length+R.length:=by simp; omega
  have w1:a0z .i64 (((A.length+L.length:Nat):Int)-(A.length:Int))=(L.length:Int):=by rw [wrI (by omega) (by omega)]; omega
  have w2:a0z .i64 (((A.length+L.length+R.length:Nat):Int)-((A.length+L.length:Nat):Int))=(R.length:Int):=by rw [wrI (by omega) (by omega)]; omega
  rw [em,eb]
  by_cases h1:L.length=1
  ·obtain ⟨x,rfl⟩:∃x,L=[x]:=auz.1 h1
   obtain ⟨M,p1,p2,p3⟩:=adMq hO A R C x (by simpa using ht) (by simpa using hl) hsR
   refine ⟨M,p1,p2,?_⟩
   apply h2q
   rw [w1]
   refine a6q (decide_eq_true (by omega)) ?_
   have e1:A++[x]++R++C=A++x::R++C:=by simp
   rw [e1]
   exact p3
  ·by_cases h2:R.length=1
   ·obtain ⟨x,rfl⟩:∃x,R=[x]:=auz.1 h2
    obtain ⟨M,p1,p2,p3⟩:=aciq hO A L C x (by simpa using ht) (by simpa using hl) hsL
    refine ⟨M,p1,p2,?_⟩
    apply h2q
    rw [w1,w2]
    refine a3q (decide_eq_false (by omega)) (a6q (decide_eq_true (by omega)) ?_)
    have e1:A++L++[x]++C=A++L++x::C:=by simp
    rw [e1]
    exact p3
   ·obtain ⟨a,ha⟩:∃a,a=A.length:=⟨_,rfl⟩
    obtain ⟨m,hm⟩:∃m,m=a+L.length:=⟨_,rfl⟩
    obtain ⟨b,hb⟩:∃b,b=m+R.length:=⟨_,rfl⟩
    rw [<-ha,<-hm] at w1
    rw [<-ha,<-hm,<-hb] at w2 ⊢
    obtain ⟨mid,hmid⟩:∃mid,mid=(a+b) / 2:=⟨_,rfl⟩
    have wm:a0z .i64 (((mid:Nat):Int)+(m:Int))=((mid+m:Nat):Int):=by rw [wrI (by omega) (by omega)]; simp
    have wp:a0z .i64 (((mid+m:Nat):Int)-1)=((mid+m-1:Nat):Int):=by rw [wrI (by omega) (by omega)]; omega
    have hcases:∃lo hi,lo<=hi/\a<=lo/\hi<=m/\hi<=mid/\mid+m<=b+lo/\(∀c,lo<=c->c<hi->m+c<=mid+m-1/\mid+m-1-c<b)/\(lo=a\/mid+m=b+lo)/\(hi=m\/hi=mid) /\
      ∀(r:AV) (O:List (Nat×Ob)),a8q r O (a:Int) (m:Int) (b:Int) (mid:Int) ((mid+m:Nat):Int) (lo:Int) (hi:Int) ((mid+m-1:Nat):Int) ((A++L++R++C).map (·.1))->XC pg 164 [.one (.ol 2000),Z (a:Int),Z (m:Int),Z (b:Int),.one (.d (.fn 54))] [(2000,.lst 54 7 ((A++L++R++C).map (·.1)))] r O:=by
     by_cases hgt:mid<m
     ·refine ⟨mid+m-b,mid,by omega,by omega,by omega,by omega,by omega,fun c h1 h2=>by omega,by omega,.inr rfl,fun r O h => ?_⟩
      have w3:a0z .i64 (((mid+m:Nat):Int)-(b:Int))=((mid+m-b:Nat):Int):=by rw [wrI (by omega) (by omega)]; omega
      apply h2q
      rw [w1,w2,midw (by omega),<-hmid,wm,wp,w3]
      exact a3q (decide_eq_false (by omega)) (a3q (decide_eq_false (by omega)) ⟨⟨G9q⟩,a6q (decide_eq_true (by omega)) h⟩)
     ·refine ⟨a,m,by omega,by omega,by omega,by omega,by omega,fun c h1 h2=>by omega,.inl rfl,.inl rfl,fun r O h => ?_⟩
      apply h2q
      rw [w1,w2,midw (by omega),<-hmid,wm,wp]
      exact a3q (decide_eq_false (by omega)) (a3q (decide_eq_false (by omega)) ⟨⟨G9q⟩,a3q (decide_eq_false (by omega)) h⟩)
    obtain ⟨lo,hi,c1,c2,c3,c4,c5,c6,c7,c8,c9⟩:=hcases
    obtain ⟨k,k1,k2,k3,k4,k5⟩:=a9Dq A L R C a m b mid lo hi ha hm hb c1 c2 c3 c6 ht hl (by omega)
    obtain ⟨L1,L2,rfl,hL1⟩:∃L1 L2,L=L1++L2/\L1.length=k-a:=⟨L.take (k-a),L.drop (k-a),by simp,by simp; omega⟩
    obtain ⟨R1,R2,rfl,hR1⟩:∃R1 R2,R=R1++R2/\R1.length=mid-k:=⟨R.take (mid-k),R.drop (mid-k),by simp,by simp; omega⟩
    rw [a2z] at hm hb
    have f1:(L1=[]\/R2=[])\/∃y0 z0,L1[L1.length-1]?=some y0/\R2[0]?=some z0/\¬f1q z0 y0:=by
     by_cases hk0:k=lo
     ·left
      rcases c7 with h | h
      ·exact .inl (a1z (by omega))
      ·exact .inr (a1z (by omega))
     ·right
      rcases k3 with h | ⟨y,z,hy,hz,hlt⟩
      ·exact absurd h hk0
      ·refine ⟨y,z,?_,?_,hlt⟩
       ·rw [<-hy,alz (by omega)]; congr 1; omega
       ·rw [<-hz,aiz (by omega)]; congr 1; omega
    have f2:(L2=[]\/R1=[])\/∃y0 z0,L2[0]?=some y0/\R1[R1.length-1]?=some z0/\f1q z0 y0:=by
     by_cases hk0:k=hi
     ·left
      rcases c8 with h | h
      ·exact .inl (a1z (by omega))
      ·exact .inr (a1z (by omega))
     ·right
      have hc:=c6 k k1 (by omega)
      obtain ⟨y,hy⟩:=d4q (l:=L2) (i:=0) (by omega)
      obtain ⟨z,hz⟩:=d4q (l:=R1) (i:=R1.length-1) (by omega)
      refine ⟨y,z,hy,hz,agz fun hlt => ?_⟩
      rcases k4 with h | h
      ·exact hk0 h
      ·refine h ⟨y,z,?_,?_,hlt⟩
       ·rw [<-hy,aiz (by omega)]; congr 1; omega
       ·rw [<-hz,alz (by omega)]; congr 1; omega
    have eD:A++(L1++L2)++(R1++R2)++C=A++L1++L2++R1++R2++C:=by simp
    have hfacts:k=a+L1.length/\m=k+L2.length/\b=m+R1.length+R2.length/\mid=k+R1.length:=by
     clear c7 c8 c9 k3 k4 k5 f1 f2 c6 w1 w2 wm wp ih ht hl
     omega
    have hsz:mid<b/\a<mid:=by
     clear c7 c8 c9 k3 k4 k5 f1 f2 c6 w1 w2 wm wp ih ht hl
     simp only [a2z] at h1 h2 hL' hR'
     omega
    have hsum:(L1++L2++R1++R2).length=L1.length+L2.length+R1.length+R2.length:=by simp; omega
    have hs1:(L1++R1).length<(L1++L2++R1++R2).length:=by
     clear c7 c8 c9 k3 k4 k5 f1 f2 c6 w1 w2 wm wp ih ht hl
     rw [hsum,a2z]; omega
    have hs2:(L2++R2).length<(L1++L2++R1++R2).length:=by
     clear c7 c8 c9 k3 k4 k5 f1 f2 c6 w1 w2 wm wp ih ht hl
     rw [hsum,a2z]; omega
    have hn2:(L1++L2++R1++R2).length<=n+1:=by
     rw [hsum]; simp only [a2z] at hn'; omega
    obtain ⟨g1,g2,g3,g4⟩:=hfacts
    obtain ⟨M,p1,p2,p3⟩:=aegq hO A L1 L2 R1 R2 C a m b mid k (m+R1.length) ha g1 g2 rfl g3 g4 (by rw [<-eD]; exact ht) (by rw [<-eD]; exact hl) hsL hsR f1 f2 (fun A' L' R' C' hlt h1 h2 h3 h4 h5 h6=>ih A' L' R' C' (aNz (aLz hlt hn2)) h1 h2 h3 h4 h5 h6) hs1 hs2
    refine ⟨M,p1,p2,c9 _ _ (k5 (_,_) ?_)⟩
    rw [eD]
    exact p3 _ _ rfl
inductive P9q (k:Nat):List (List Da×Li)->Prop
 | last {l}:l.length<=k->Sd f1q l->P9q k l
 | cons {b r}:b.length=k->Sd f1q b->P9q k r->P9q k (b++r)
theorem a1yq {k:Nat} (hk:0<k) {l:List (List Da×Li)} (h:P9q k l) (hl:l.length<=k):Sd f1q l:=by
 cases h with
 | last _ h=>exact h
 | @cons b r h1 h2 _ =>
  have:r=[]:=a1z (by simp at hl; omega)
  subst this
  simpa using h2
theorem a9Sq (hO:SWO f1q) (k:Nat) (hk:0<k) (hk2:k<=6000000000000):∀(n:Nat) (D S:List (List Da×Li)),S.length<=n->(∀z∈D++S,TgP Li.da z)->(D++S).length<=3000000000000->P9q k S->∃S',S'.Perm S/\P9q (2*k) S'/\∀(r:AV) (O:List (Nat×Ob)),c8q r O ((D++S).length:Int) ((2*k:Nat):Int) ((D++S').map (·.1))->g0q r O ((D++S).length:Int) (k:Int) (D.length:Int) ((D.length+2*k:Nat):Int) ((D++S).map (·.1)):=by
 intro n
 induction n with
 | zero =>
  intro D S hn ht hl hb
  have:S=[]:=a1z (by omega)
  subst this
  refine ⟨[],.refl _,.last (by simp) .nil,fun r O h => ?_⟩
  have w1:a0z .i64 ((D.length:Int)+(k:Int))=((D.length+k:Nat):Int):=by rw [wrI (by omega) (by simp at hl; omega)]; simp
  have w2:a0z .i64 ((k:Int)*2)=((2*k:Nat):Int):=by rw [wrI (by omega) (by omega)]; omega
  apply h0q
  rw [w1,w2]
  exact a3q (decide_eq_false (by simp; omega)) (a3q (decide_eq_false (by simp; omega)) h)
 | succ n ih =>
  intro D S hn ht hl hb
  have hl':D.length+S.length<=3000000000000:=by simpa using hl
  have hlen:(D++S).length=D.length+S.length:=by simp
  have w1:a0z .i64 ((D.length:Int)+(k:Int))=((D.length+k:Nat):Int):=by rw [wrI (by omega) (by omega)]; simp
  have w2:a0z .i64 ((k:Int)*2)=((2*k:Nat):Int):=by rw [wrI (by omega) (by omega)]; omega
  have w3:a0z .i64 (2*(k:Int))=((2*k:Nat):Int):=by rw [wrI (by omega) (by omega)]; omega
  have w4:a0z .i64 (((D.length+2*k:Nat):Int)+((2*k:Nat):Int))=((D.length+2*k+2*k:Nat):Int):=by rw [wrI (by omega) (by omega)]; omega
  by_cases h1:S.length<=k
  ·refine ⟨S,.refl _,.last (by omega) (a1yq hk hb h1),fun r O h => ?_⟩
   apply h0q
   rw [w1,w2]
   exact a3q (decide_eq_false (by omega)) (a3q (decide_eq_false (by omega)) h)
  ·obtain ⟨b1,S1,rfl,hb1,hs1,hb2⟩:∃b1 S1,S=b1++S1/\b1.length=k/\Sd f1q b1/\P9q k S1:=by
    cases hb with
    | last h _=>exact absurd h h1
    | cons h2 h3 h4=>exact ⟨_,_,rfl,h2,h3,h4⟩
   simp only [a2z] at h1 hn hl'
   have hlen:(D++(b1++S1)).length=D.length+(b1.length+S1.length):=by simp
   by_cases h2:S1.length<k
   ·have hs2:=a1yq hk hb2 (by omega)
    obtain ⟨M,p1,p2,p3⟩:=a07q hO _ D b1 S1 [] (a3z _) (by intro h; subst h; simp at hb1; omega) (by intro h; subst h; simp at h1; omega) (by simpa using ht) (by simpa using hl) hs1 hs2
    refine ⟨M,p1,.last (by rw [p1.length_eq]; simp; omega) p2,fun r O h => ?_⟩
    apply h0q
    rw [w1,w2]
    have e1:(D++b1).length=D.length+k:=by simp [hb1]
    have e2:(D++b1++S1).length=(D++(b1++S1)).length:=by simp <;> omega
    have e3:D++b1++S1++[]=D++(b1++S1):=by simp
    rw [e1,e2,e3,aaz] at p3
    exact a3q (decide_eq_false (by omega)) (a6q (decide_eq_true (by omega)) ⟨_,p3,h⟩)
   ·obtain ⟨b2,S2,rfl,hb2l,hs2,hb3⟩:∃b2 S2,S1=b2++S2/\b2.length=k/\Sd f1q b2/\P9q k S2:=by
     cases hb2 with
     | last g g'=>exact ⟨_,[],by simp,by omega,g',.last (by simp) .nil⟩
     | cons g2 g3 g4=>exact ⟨_,_,rfl,g2,g3,g4⟩
    simp only [a2z] at h1 h2 hn hl'
    have hlen:(D++(b1++(b2++S2))).length=D.length+(b1.length+(b2.length+S2.length)):=by simp
    obtain ⟨M,p1,p2,p3⟩:=a07q hO _ D b1 b2 S2 (a3z _) (by intro h; subst h; simp at hb1; omega) (by intro h; subst h; simp at hb2l; omega) (by simpa using ht) (by simpa using hl) hs1 hs2
    have pl:=p1.length_eq
    simp only [a2z] at pl
    obtain ⟨S',q1,q2,q3⟩:=ih (D++M) S2 (by omega) (fun w hw=>ht w (by
     have hp:w∈M->w∈b1++b2:=fun h=>p1.subset h
     simp at hw hp ⊢; grind)) (by simp; omega) hb3
    refine ⟨M++S',?_,.cons (by omega) p2 q2,fun r O h => ?_⟩
    ·have:=(p1.append q1)
     simpa using this
    ·have e4:D++M++S'=D++(M++S'):=by simp
     have e5:(D++M++S2).length=(D++(b1++(b2++S2))).length:=by simp; omega
     have e6:(D++M).length=D.length+2*k:=by simp; omega
     have h5:=q3 r O
     rw [e4,e5,e6] at h5
     have e1:(D++b1).length=D.length+k:=by simp [hb1]
     have e2:(D++b1++b2).length=D.length+2*k:=by simp; omega
     have e3:D++b1++b2++S2=D++(b1++(b2++S2)):=by simp
     rw [e1,e2,e3] at p3
     apply h0q
     rw [w1,w3,w4]
     exact a6q (decide_eq_true (by omega)) ⟨_,p3,h5 h⟩
theorem aa5q (hO:SWO f1q):∀(n k:Nat) (S:List (List Da×Li)),S.length<=n+k->0<k->k<=6000000000000->(∀z∈S,TgP Li.da z)->S.length<=3000000000000->P9q k S->∃S',S'.Perm S/\Sd f1q S'/\c8q (.tup []) [(2000,.lst 54 7 ((S').map (·.1)))] (S.length:Int) (k:Int) (S.map (·.1)):=by
 intro n
 induction n with
 | zero =>
  intro k S hn hk hk2 ht hl hb
  refine ⟨S,.refl _,a1yq hk hb (by omega),?_⟩
  apply j6q
  exact a3q (decide_eq_false (by omega)) ⟨rfl,rfl⟩
 | succ n ih =>
  intro k S hn hk hk2 ht hl hb
  by_cases h:S.length<=k
  ·refine ⟨S,.refl _,a1yq hk hb h,?_⟩
   apply j6q
   exact a3q (decide_eq_false (by omega)) ⟨rfl,rfl⟩
  ·obtain ⟨S1,p1,p2,p3⟩:=a9Sq hO k hk hk2 S.length [] S (a3z _) (by simpa using ht) (by simpa using hl) hb
   have pl:=p1.length_eq
   obtain ⟨S',q1,q2,q3⟩:=ih (2*k) S1 (by omega) (by omega) (by omega) (fun z hz=>ht z (p1.subset hz)) (by omega) p2
   refine ⟨S',q1.trans p1,q2,?_⟩
   have w3:a0z .i64 (2*(k:Int))=((2*k:Nat):Int):=by rw [wrI (by omega) (by omega)]; omega
   have h5:=p3 (.tup []) [(2000,.lst 54 7 ((S').map (·.1)))]
   simp only [ayz,ahz,aFz] at h5
   rw [pl] at q3
   apply j6q
   rw [w3]
   exact a6q (decide_eq_true (by omega)) (h5 q3)
theorem a69q (hO:SWO f1q):∀(n:Nat) (D S:List (List Da×Li)),S.length<=n->(∀z∈D++S,TgP Li.da z)->(D++S).length<=3000000000000->∃S',S'.Perm S/\P9q 20 S'/\∀(r:AV) (O:List (Nat×Ob)),c8q r O ((D++S).length:Int) 20 ((D++S').map (·.1))->f8q r O ((D++S).length:Int) 20 (D.length:Int) ((D.length+20:Nat):Int) ((D++S).map (·.1)):=by
 intro n
 induction n with
 | zero =>
  intro D S hn ht hl
  have:S=[]:=a1z (by omega)
  subst this
  obtain ⟨M,p1,p2,p3⟩:=T4q hO D [] [] (by simpa using ht) (by simpa using hl)
  have:M=[]:=a1z (by rw [p1.length_eq]; rfl)
  subst this
  refine ⟨[],.refl _,.last (by simp) .nil,fun r O h => ?_⟩
  simp only [aaz] at p3 h ⊢
  apply j5q
  exact a3q (decide_eq_false (by omega)) ⟨_,p3,h⟩
 | succ n ih =>
  intro D S hn ht hl
  have hl':D.length+S.length<=3000000000000:=by simpa using hl
  have hlen:(D++S).length=D.length+S.length:=by simp
  by_cases h1:S.length<20
  ·obtain ⟨M,p1,p2,p3⟩:=T4q hO D S [] (by simpa using ht) (by simpa using hl)
   refine ⟨M,p1,.last (by rw [p1.length_eq]; omega) p2,fun r O h => ?_⟩
   apply j5q
   rw [aaz,aaz] at p3
   exact a3q (decide_eq_false (by omega)) ⟨_,p3,h⟩
  ·obtain ⟨b,S2,rfl,hb⟩:∃b S2,S=b++S2/\b.length=20:=⟨S.take 20,S.drop 20,by simp,by simp; omega⟩
   simp only [a2z] at h1 hn hl'
   have hlen:(D++(b++S2)).length=D.length+(b.length+S2.length):=by simp
   obtain ⟨M,p1,p2,p3⟩:=T4q hO D b S2 (by simpa using ht) (by simpa using hl)
   have pl:=p1.length_eq
   obtain ⟨S',q1,q2,q3⟩:=ih (D++M) S2 (by omega) (fun w hw=>ht w (by
    have hp:w∈M->w∈b:=fun h=>p1.subset h
    simp at hw hp ⊢; grind)) (by simp; omega)
   refine ⟨M++S',p1.append q1,.cons (by omega) p2 q2,fun r O h => ?_⟩
   have e4:D++M++S'=D++(M++S'):=by simp
   have e5:(D++M++S2).length=(D++(b++S2)).length:=by simp; omega
   have e6:(D++M).length=D.length+20:=by simp; omega
   have h5:=q3 r O
   rw [e4,e5,e6] at h5
   have e1:(D++b).length=D.length+20:=by simp [hb]
   have e3:D++b++S2=D++(b++S2):=by simp
   have w4:a0z .i64 (((D.length+20:Nat):Int)+20)=((D.length+20+20:Nat):Int):=by rw [wrI (by omega) (by omega)]; omega
   rw [e1,e3] at p3
   apply j5q
   rw [w4]
   exact a6q (decide_eq_true (by omega)) ⟨_,p3,h5 h⟩
theorem a9Gq (hO:SWO f1q) (S:List (List Da×Li)) (ht:∀z∈S,TgP Li.da z) (hl:S.length<=3000000000000):∃S',S'.Perm S/\Sd f1q S'/\XC pg 53 [.one (.ol 2000),.one (.d (.fn 54))] [(2000,.lst 54 7 ((S).map (·.1)))] (.tup []) [(2000,.lst 54 7 ((S').map (·.1)))]:=by
 obtain ⟨S1,p1,p2,p3⟩:=a69q hO S.length [] S (a3z _) (by simpa using ht) (by simpa using hl)
 have pl:=p1.length_eq
 obtain ⟨S',q1,q2,q3⟩:=aa5q hO S.length 20 S1 (by omega) (by omega) (by omega) (fun z hz=>ht z (p1.subset hz)) (by omega) p2
 refine ⟨S',q1.trans p1,q2,?_⟩
 have h5:=p3 (.tup []) [(2000,.lst 54 7 ((S').map (·.1)))]
 simp only [ayz,ahz,aFz] at h5
 rw [pl] at q3
 apply x3q
 refine ⟨_,y0q ?_,rfl,rfl⟩
 rw [a9z]
 exact h5 q3
theorem a3Tq {x y r s:Int} (h:r = -s):v2q x y r = -v2q y x s:=by
 unfold v2q; split <;> split <;> (try split) <;> omega
theorem a5wq {x y r:Int}:v2q x y r<=0↔x<y\/(x=y/\r<=0):=by
 unfold v2q; split
 ·omega
 ·split <;> omega
mutual
theorem Tm.cmp_neg:∀a b:Tm,Tm.cmp a b = -Tm.cmp b a
 | .mk f v ks,.mk g u ls=>by
  rw [Tm.cmp_mk,Tm.cmp_mk]
  exact a3Tq (a3Tq (a3Tq (Tm.cmps_neg ks ls)))
theorem Tm.cmps_neg:∀a b:List Tm,Tm.cmps a b = -Tm.cmps b a
 | [],[]=>by simp [Tm.cmps]
 | [],_::_=>by simp [Tm.cmps]
 | _::_,[]=>by simp [Tm.cmps]
 | t::r,u::s=>by
  have h1:=Tm.cmp_neg t u
  have h2:=Tm.cmps_neg r s
  rw [Tm.cmps_cons,Tm.cmps_cons]
  split <;> split <;> omega
end
mutual
theorem Tm.cmp_eq:∀a b:Tm,Tm.cmp a b=0->a=b
 | .mk f v ks,.mk g u ls,h=>by
  obtain ⟨h1,h2,h3,h4⟩:=Tm.cmp0.1 h
  rw [h1,h2,Tm.cmps_eq ks ls h3 h4]
theorem Tm.cmps_eq:∀a b:List Tm,a.length=b.length->Tm.cmps a b=0->a=b
 | [],[],_,_=>rfl
 | [],_::_,h,_=>by simp at h
 | _::_,[],h,_=>by simp at h
 | t::r,u::s,h,h2=>by
  rw [Tm.cmps_cons] at h2
  split at h2
  ·rename_i h3
   rw [Tm.cmp_eq t u h3,Tm.cmps_eq r s (by simpa using h) h2]
  ·rename_i h3
   exact absurd h2 h3
end
mutual
theorem Tm.cmp_tr:∀a b c:Tm,Tm.cmp a b<=0->Tm.cmp b c<=0->Tm.cmp a c<=0
 | .mk f v ks,.mk g u ls,.mk p w ms,h1,h2=>by
  have ih:=Tm.cmps_tr ks ls ms
  rw [Tm.cmp_mk,a5wq,a5wq,a5wq] at h1 h2 ⊢
  rcases h1 with h1 | ⟨h1,h1' | ⟨h1',h1'' | ⟨h1'',h3⟩⟩⟩ <;> rcases h2 with h2 | ⟨h2,h2' | ⟨h2',h2'' | ⟨h2'',h4⟩⟩⟩
  all_goals first
   | omega
   | exact .inr ⟨by omega,.inr ⟨by omega,.inr ⟨by omega,ih (by omega) (by omega) h3 h4⟩⟩⟩
theorem Tm.cmps_tr:∀a b c:List Tm,a.length=b.length->b.length=c.length->Tm.cmps a b<=0->Tm.cmps b c<=0->Tm.cmps a c<=0
 | [],[],[],_,_,_,_=>by simp [Tm.cmps]
 | [],_::_,_,h,_,_,_=>by simp at h
 | _::_,[],_,h,_,_,_=>by simp at h
 | _,[],_::_,_,h,_,_=>by simp at h
 | _,_::_,[],_,h,_,_=>by simp at h
 | t::r,u::s,w::q,h1,h2,h3,h4=>by
  have i1:=Tm.cmp_tr t u w
  have i2:=Tm.cmps_tr r s q (by simpa using h1) (by simpa using h2)
  have n1:=Tm.cmp_neg t u
  rw [Tm.cmps_cons] at h3 h4 ⊢
  by_cases e1:Tm.cmp t u=0
  ·have:=Tm.cmp_eq t u e1
   subst this
   rw [if_pos e1] at h3
   by_cases e2:Tm.cmp t w=0
   ·rw [if_pos e2] at h4 ⊢; exact i2 h3 h4
   ·rw [if_neg e2] at h4 ⊢; exact h4
  ·rw [if_neg e1] at h3
   by_cases e2:Tm.cmp u w=0
   ·have:=Tm.cmp_eq u w e2
    subst this
    rw [if_neg e1]; exact h3
   ·rw [if_neg e2] at h4
    have h5:=i1 h3 h4
    by_cases e3:Tm.cmp t w=0
    ·have:=Tm.cmp_eq t w e3
     subst this
     omega
    ·rw [if_neg e3]; exact h5
end
theorem Li.cmp_neg (a b:Li):Li.cmp a b = -Li.cmp b a:=by
 have h1:=Tm.cmp_neg a.l b.l
 have h2:=Tm.cmp_neg a.r b.r
 unfold Li.cmp
 by_cases hp:a.p=b.p
 ·rw [if_pos hp,if_pos hp.symm]
  split <;> split <;> omega
 ·have e:b.p = !a.p:=by cases hb:b.p <;> cases ha:a.p <;> simp_all
  rw [if_neg hp,if_neg (show ¬b.p=a.p from fun h=>hp h.symm),e]
  cases a.p <;> rfl
theorem Li.cmp_eq (a b:Li) (h:Li.cmp a b=0):a=b:=by
 obtain ⟨p,l,r⟩:=a
 obtain ⟨p',l',r'⟩:=b
 unfold Li.cmp at h
 dsimp only at h
 by_cases hp:p=p'
 ·rw [if_pos hp] at h
  split at h
  ·rename_i hl
   rw [hp,Tm.cmp_eq l l' hl,Tm.cmp_eq r r' h]
  ·rename_i hl
   exact absurd h hl
 ·rw [if_neg hp] at h
  split at h <;> simp at h
theorem Li.cmp_tr (a b c:Li) (h1:Li.cmp a b<=0) (h2:Li.cmp b c<=0):Li.cmp a c<=0:=by
 obtain ⟨p,l,r⟩:=a
 obtain ⟨p',l',r'⟩:=b
 obtain ⟨p2,l2,r2⟩:=c
 unfold Li.cmp at h1 h2 ⊢
 dsimp only at h1 h2 ⊢
 have n1:=Tm.cmp_neg l l'
 have t1:=Tm.cmp_tr l l' l2
 have t2:=Tm.cmp_tr r r' r2
 have e1:=Tm.cmp_eq l l'
 have e2:=Tm.cmp_eq l' l2
 have e3:=Tm.cmp_eq l l2
 cases p <;> cases p' <;> cases p2 <;> simp at h1 h2 ⊢
 all_goals
  by_cases c1:Tm.cmp l l'=0
  ·have:=e1 c1
   subst this
   rw [if_pos c1] at h1
   by_cases c2:Tm.cmp l l2=0
   ·rw [if_pos c2] at h2 ⊢; exact t2 h1 h2
   ·rw [if_neg c2] at h2 ⊢; exact h2
  ·rw [if_neg c1] at h1
   by_cases c2:Tm.cmp l' l2=0
   ·have:=e2 c2
    subst this
    rw [if_neg c1]; exact h1
   ·rw [if_neg c2] at h2
    have h5:=t1 h1 h2
    by_cases c3:Tm.cmp l l2=0
    ·have:=e3 c3
     subst this
     omega
    ·rw [if_neg c3]; exact h5
theorem agHq:SWO f2q:=⟨fun {a b} h h2=>by have:=Tm.cmp_neg a.2 b.2; unfold f2q at h h2; omega,fun {a b c} h1 h2 h3=>by
 have n1:=Tm.cmp_neg a.2 b.2
 have n2:=Tm.cmp_neg b.2 c.2
 have n3:=Tm.cmp_neg a.2 c.2
 have t:=Tm.cmp_tr a.2 b.2 c.2
 unfold f2q at h1 h2 h3
 have:=t (by omega) (by omega)
 omega⟩
theorem agIq:SWO f1q:=⟨fun {a b} h h2=>by have:=Li.cmp_neg a.2 b.2; unfold f1q at h h2; omega,fun {a b c} h1 h2 h3=>by
 have n1:=Li.cmp_neg a.2 b.2
 have n2:=Li.cmp_neg b.2 c.2
 have n3:=Li.cmp_neg a.2 c.2
 have t:=Li.cmp_tr a.2 b.2 c.2
 unfold f1q at h1 h2 h3
 have:=t (by omega) (by omega)
 omega⟩
def y7q {α:Type} (cmp:α->α->Int) (x:α):List α->List α
 | []=>[x]
 | y::r=>if cmp y x<=0 then y::y7q cmp x r else x::y::r
def s3q {α:Type} (cmp:α->α->Int) (l:List α):List α:=l.foldl (fun a x=>y7q cmp x a) []
theorem a2Mq {α:Type} (cmp:α->α->Int) (x:α):∀l:List α,(y7q cmp x l).Perm (x::l)
 | []=>.refl _
 | y::r=>by
  unfold y7q; split
  ·exact ((a2Mq cmp x r).cons y).trans (.swap ..)
  ·exact .refl _
theorem B4q {α:Type} (cmp:α->α->Int) (l:List α):(s3q cmp l).Perm l:=by
 have:∀(l a:List α),(l.foldl (fun a x=>y7q cmp x a) a).Perm (a++l):=by
  intro l
  induction l with
  | nil=>intro a; simp
  | cons x r ih =>
   intro a
   refine (ih _).trans ?_
   refine ((a2Mq cmp x a).append_right r).trans ?_
   exact List.perm_middle.symm
 have h:=this l []
 rw [ayz] at h
 exact h
abbrev SdC {α:Type} (cmp:α->α->Int) (l:List α):Prop:=l.Pairwise (fun a b=>cmp a b<=0)
structure TotC {α:Type} (cmp:α->α->Int):Prop where
 neg:∀a b,cmp a b = -cmp b a
 eq:∀a b,cmp a b=0->a=b
 tr:∀a b c,cmp a b<=0->cmp b c<=0->cmp a c<=0
theorem aaXq:TotC Tm.cmp:=⟨Tm.cmp_neg,Tm.cmp_eq,Tm.cmp_tr⟩
theorem a84q:TotC Li.cmp:=⟨Li.cmp_neg,Li.cmp_eq,Li.cmp_tr⟩
theorem aakq {α:Type} {cmp:α->α->Int} (h:TotC cmp) (x:α):∀{l:List α},SdC cmp l->SdC cmp (y7q cmp x l)
 | [],_=>by simp [y7q,SdC]
 | y::r,hs=>by
  obtain ⟨h1,h2⟩:=a8z.1 hs
  unfold y7q; split
  ·rename_i hy
   refine a8z.2 ⟨fun z hz => ?_,aakq h x h2⟩
   rcases a6z.1 ((a2Mq cmp x r).subset hz) with rfl | hz
   ·exact hy
   ·exact h1 z hz
  ·rename_i hy
   have hxy:cmp x y<=0:=by have:=h.neg x y; omega
   refine a8z.2 ⟨fun z hz => ?_,hs⟩
   rcases a6z.1 hz with rfl | hz
   ·exact hxy
   ·exact h.tr _ _ _ hxy (h1 z hz)
theorem a47q {α:Type} {cmp:α->α->Int} (h:TotC cmp) (l:List α):SdC cmp (s3q cmp l):=by
 have:∀(l a:List α),SdC cmp a->SdC cmp (l.foldl (fun a x=>y7q cmp x a) a):=by
  intro l
  induction l with
  | nil=>intro a h; exact h
  | cons x r ih=>intro a ha; exact ih _ (aakq h x ha)
 exact this l [] (by simp [SdC])
theorem a5Vq {α:Type} {cmp:α->α->Int} (h:TotC cmp):∀{a b:List α},SdC cmp a->SdC cmp b->a.Perm b->a=b
 | [],b,_,_,hp=>(List.Perm.nil_eq hp)
 | x::r,b,ha,hb,hp=>by
  cases b with
  | nil=>exact absurd hp.length_eq (by simp)
  | cons y s =>
   obtain ⟨a1,a2⟩:=a8z.1 ha
   obtain ⟨b1,b2⟩:=a8z.1 hb
   have hxy:x=y:=by
    have h1:cmp x y<=0:=by
     rcases a6z.1 (hp.symm.subset (aMz (a:=y) (l:=s))) with e | h1
     ·have:=h.neg x y; rw [e] at this ⊢; omega
     ·exact a1 y h1
    have h2:cmp y x<=0:=by
     rcases a6z.1 (hp.subset (aMz (a:=x) (l:=r))) with e | h2
     ·have:=h.neg x y; rw [e] at this ⊢; omega
     ·exact b1 x h2
    exact h.eq x y (by have:=h.neg x y; omega)
   subst hxy
   rw [a5Vq h a2 b2 hp.cons_inv]
theorem acLq {α:Type} {cmp:α->α->Int} (h:TotC cmp) {l:List (List Da×α)} (hs:Sd (fun a b:List Da×α=>cmp a.2 b.2<0) l):SdC cmp (l.map (·.2)):=by
 rw [SdC,List.pairwise_map]
 exact hs.imp fun {a b} h1=>by have:=h.neg a.2 b.2; omega
theorem aa4q (ts:List Tm) (hl:ts.length<=3000000000000):XC pg 162 [.one (.ol 2000),.one (.d (.fn 112))] [(2000,.tr 52 3 (Tm.das ts))] (.tup []) [(2000,.tr 52 3 (Tm.das (s3q Tm.cmp ts)))]:=by
 refine aaHq fun xs' hx => ?_
 rw [Tm.das_map] at hx
 obtain ⟨zs,rfl,rfl,ht⟩:=a1jq hx
 obtain ⟨S',p1,p2,p3⟩:=a9Lq agHq zs ht (by simpa using hl)
 refine ⟨S'.map (·.1),⟨[],by rw [aaz]; exact p1.map _⟩,?_,p3⟩
 rw [a1Fq fun z hz=>ht z (p1.subset hz),Tm.das_map]
 congr 1
 exact a5Vq aaXq (acLq aaXq p2) (a47q aaXq _) ((p1.map _).trans (B4q _ _).symm)
theorem a9Yq (ts:List Li) (hl:ts.length<=3000000000000):XC pg 53 [.one (.ol 2000),.one (.d (.fn 54))] [(2000,.tr 54 7 (ts.map Li.da))] (.tup []) [(2000,.tr 54 7 ((s3q Li.cmp ts).map Li.da))]:=by
 refine aaHq fun xs' hx => ?_
 obtain ⟨zs,rfl,rfl,ht⟩:=a1jq hx
 obtain ⟨S',p1,p2,p3⟩:=a9Gq agIq zs ht (by simpa using hl)
 refine ⟨S'.map (·.1),⟨[],by rw [aaz]; exact p1.map _⟩,?_,p3⟩
 rw [a1Fq fun z hz=>ht z (p1.subset hz)]
 congr 1
 exact a5Vq a84q (acLq a84q p2) (a47q a84q _) ((p1.map _).trans (B4q _ _).symm)
def bl (s:List Sy) (f:Int):Bool:=inR f 0 ((s.length:Int)-1)&&((s[f.toNat]?).map (·.ac)).getD false
mutual
def nrm (s:List Sy):Tm->Tm
 | .mk f v ks=>.mk f v (if bl s f then s3q Tm.cmp (nrmK s (bl s f) f ks) else nrmK s (bl s f) f ks)
def nrmK (s:List Sy) (b:Bool) (f:Int):List Tm->List Tm
 | []=>[]
 | t::r=>(if b=true/\(nrm s t).f=f then (nrm s t).ks else [nrm s t])++nrmK s b f r
end
theorem afvq (a b:List Tm):Tm.cns (a++b)=Tm.cns a+Tm.cns b:=by
 induction a with
 | nil=>simp [Tm.cns]
 | cons x r ih=>simp only [apz,Tm.cns,ih]; omega
theorem aeaq {a b:List Tm} (h:a.Perm b):Tm.cns a=Tm.cns b:=by
 rw [Tm.cns_cnL,Tm.cns_cnL,cnL,cnL,h.length_eq,(h.map _).sum_nat]
theorem Tm.cn_ks (t:Tm):Tm.cns t.ks=t.cn:=by cases t; simp [Tm.ks,Tm.cn]
mutual
theorem a2Gq (s:List Sy):∀t:Tm,(nrm s t).cn<=t.cn
 | .mk f v ks=>by
  have h:=nrmK_cns s (bl s f) f ks
  simp only [nrm,Tm.cn]
  split
  ·rw [aeaq (B4q _ _)]; exact h
  ·exact h
theorem nrmK_cns (s:List Sy) (b:Bool) (f:Int):∀l:List Tm,Tm.cns (nrmK s b f l)<=Tm.cns l
 | []=>by simp [nrmK,Tm.cns]
 | t::r=>by
  have h1:=a2Gq s t
  have h2:=nrmK_cns s b f r
  simp only [nrmK,afvq,Tm.cns]
  split
  ·rw [Tm.cn_ks]; omega
  ·simp only [Tm.cns]; omega
end
theorem a5Zq {x lo hi:Int}:inR x lo hi=true↔lo<=x/\x<=hi:=by simp [inR]
theorem ad1q {s:List Sy} {f:Int} {m:Nat} {x:Sy} (hf:f=(m:Int)) (hm:s[m]?=some x):bl s f=x.ac:=by
 have h:=(axz.1 hm).1
 subst hf
 have:inR (m:Int) 0 ((s.length:Int)-1)=true:=a5Zq.2 ⟨by omega,by omega⟩
 simp [bl,this,hm]
theorem a5Jq (s:List Sy) (f:Int) (hs:s.length<=10000000):XC pg 167 [L (s.map Sy.da),Z f] [] (B (bl s f)) []:=by
 have w:a0z .i64 ((s.length:Int)-1)=(s.length:Int)-1:=wrI (by omega) (by omega)
 apply a7zq
 rw [a9z,w]
 refine ⟨_,D4q f 0 _,?_⟩
 by_cases h:inR f 0 ((s.length:Int)-1)=true
 ·obtain ⟨h1,h2⟩:=a5Zq.1 h
  obtain ⟨m,rfl⟩:∃m:Nat,f=(m:Int):=⟨f.toNat,by omega⟩
  obtain ⟨x,hx⟩:=d4q (l:=s) (i:=m) (by omega)
  have hx2:=l0q (g:=Sy.da) hx
  refine a6q h ⟨m,rfl,_,_,_,hx2,?_,rfl⟩
  rw [ad1q rfl hx]
 ·exact a3q (aBz.2 h) ⟨by simp [bl,h],rfl⟩
theorem a9Pq (s:List Sy) (f:Int) (hs:s.length<=10000000):XC pg 171 [L (s.map Sy.da),Z f] [] (B (inR f 0 ((s.length:Int)-1))) []:=by
 have w:a0z .i64 ((s.length:Int)-1)=(s.length:Int)-1:=wrI (by omega) (by omega)
 apply a1Tq
 rw [a9z,w]
 exact ⟨_,F5q f 0 _,rfl,rfl⟩
theorem a12q (s:List Sy) (f:Int) (hs:s.length<=10000000):XC pg 161 [L (s.map Sy.da),Z f] [] (B (bl s f)) []:=by
 apply a7fq
 refine ⟨_,a9Pq s f hs,?_⟩
 by_cases h:inR f 0 ((s.length:Int)-1)=true
 ·obtain ⟨h1,h2⟩:=a5Zq.1 h
  obtain ⟨m,rfl⟩:∃m:Nat,f=(m:Int):=⟨f.toNat,by omega⟩
  obtain ⟨x,hx⟩:=d4q (l:=s) (i:=m) (by omega)
  have hx2:=l0q (g:=Sy.da) hx
  refine a6q h ⟨m,rfl,_,_,_,hx2,?_,rfl⟩
  rw [ad1q rfl hx]
 ·exact a3q (aBz.2 h) ⟨by simp [bl,h],rfl⟩
theorem M7q {α β:Type} (g:α->β) (p:List α):List.drop p.length (p.map g)=[]:=afz (by simp)
theorem a4tq {α:Type} (cmp:α->α->Int) (l:List α) (x:α):s3q cmp (l++[x])=y7q cmp x (s3q cmp l):=by simp [s3q,aOz]
theorem a2Zq (a b:List Tm):Tm.das (a++b)=Tm.das a++Tm.das b:=by simp [Tm.das_map]
theorem a4zq (t:Tm) (l:List Tm) (hl:l.length<=3000000000000):∀(q p:List Tm),l=p++q->B8q (.one (.ol 0)) [(0,.lst 52 3 (Tm.das (p++y7q Tm.cmp t q)))] (Tm.das l) (p.length:Int) t.f t.v (Tm.das t.ks)
 | [],p,e=>by
  have e3:[]++(Tm.das l).take p.length++[[.int .i64 t.f,.int .i64 t.v,.sl (Tm.das t.ks)]]++(Tm.das l).drop p.length=Tm.das (p++y7q Tm.cmp t []):=by
   subst e
   obtain ⟨f,v,ks⟩:=t
   simp [Tm.das_map,y7q,F4q,M7q,Tm.da,Tm.f,Tm.v,Tm.ks]
  have hpl:l.length=p.length:=by rw [e]; simp
  apply X9q
  refine a3q (decide_eq_false (by rw [d3q]; omega)) ⟨p.length,rfl,⟨by rw [d3q]; omega⟩,⟨das3 _⟩,⟨fun y hy=>das3 _ y (avz (awz hy))⟩,⟨?_⟩,⟨?_⟩,p.length,rfl,⟨by rw [d3q]; omega⟩,⟨das3 _⟩,⟨fun y hy=>das3 _ y (avz (awz hy))⟩,⟨?_⟩,rfl,?_⟩
  ·simp [d3q]; omega
  ·simp [d3q]; omega
  ·simp [d3q]; omega
  ·rw [<-e3]; simp
 | y::q,p,e=>by
  have ih:=a4zq t l hl q (p++[y]) (by simp [e])
  have hb:=C1q t y
  have hn:=Tm.cmp_neg t y
  have hx:(Tm.das l)[p.length]?=some y.da:=by rw [e]; exact Q5q
  have hpl:l.length=p.length+q.length+1:=by rw [e]; simp; omega
  rw [H7q] at ih
  have e3:Tm.cmp t y<0->[]++(Tm.das l).take p.length++[[.int .i64 t.f,.int .i64 t.v,.sl (Tm.das t.ks)]]++(Tm.das l).drop p.length=Tm.das (p++y7q Tm.cmp t (y::q)):=fun h=>by
   subst e
   have e4:y7q Tm.cmp t (y::q)=t::y::q:=by rw [y7q,if_neg (by omega)]
   rw [e4]
   obtain ⟨f,v,ks⟩:=t
   simp [Tm.das_map,aHz,aPz,F4q,M7q,Tm.da,Tm.f,Tm.v,Tm.ks]
  have et:t.da=[.int .i64 t.f,.int .i64 t.v,.sl (Tm.das t.ks)]:=by obtain ⟨f,v,ks⟩:=t; rfl
  rw [et] at hb
  have ih2:¬Tm.cmp t y<0->p++y7q Tm.cmp t (y::q)=p++[y]++y7q Tm.cmp t q:=fun h=>by
   rw [y7q,if_pos (by omega)]; simp
  obtain ⟨g,u,ms⟩:=y
  apply X9q
  refine a6q (decide_eq_true (by rw [d3q]; omega)) ⟨p.length,rfl,g,u,Tm.das ms,hx,_,hb,?_⟩
  by_cases h:Tm.cmp t (.mk g u ms)<0
  ·refine a3q (by simp [h]) ⟨p.length,rfl,⟨by rw [d3q]; omega⟩,⟨das3 _⟩,⟨fun y hy=>das3 _ y (avz (awz hy))⟩,⟨?_⟩,⟨?_⟩,p.length,rfl,⟨by rw [d3q]; omega⟩,⟨das3 _⟩,⟨fun y hy=>das3 _ y (avz (awz hy))⟩,⟨?_⟩,rfl,?_⟩
   ·simp [d3q]; omega
   ·simp [d3q]; omega
   ·simp [d3q]; omega
   ·rw [<-e3 h]; simp
  ·rw [ih2 h,wr1 (n:=p.length+1) (by omega) (by omega)]
   exact a6q (by simp [h]) ih
theorem a5sq (t:Tm) (l:List Tm) (hl:l.length<=3000000000000):XC pg 168 [L (Tm.das l),.dat t.da] [] (.one (.ol 0)) [(0,.lst 52 3 (Tm.das (y7q Tm.cmp t l)))]:=by
 have h:=a4zq t l hl l [] rfl
 obtain ⟨f,v,ks⟩:=t
 exact a7Hq h
theorem a3Bq (r:AV) (O:List (Nat×Ob)) (s0:List (List Da)) (s6 s3 s31:Int) (s32:List (List Da)) (s5 s51 n2 n3:Int) (w:List Tm):∀(q p acc:List Tm),w=p++q->acc.length+q.length<=2500000000000->p.length+q.length<=2500000000000->s4q r O s0 (a0z .i64 (s6+1)) s3 s31 s32 0 0 s5 s51 (Tm.das (s3q Tm.cmp (acc++q)))->D8q r O s0 s6 (p.length:Int) s3 s31 s32 0 0 s5 s51 n2 n3 (Tm.das w) (Tm.das (s3q Tm.cmp acc))
 | [],p,acc,e,_,_,h=>by
  apply a0mq
  subst e
  exact a3q (j4q (by simp [d3q])) (by simpa using h)
 | y::q,p,acc,e,h1,h2,h=>by
  simp only [acz] at h1 h2
  have ih:=a3Bq r O s0 s6 s3 s31 s32 s5 s51 n2 n3 w q (p++[y]) (acc++[y]) (by simp [e]) (by simp; omega) (by simp; omega) (by simpa using h)
  have c:=a5sq y (s3q Tm.cmp acc) (by rw [(B4q _ _).length_eq]; omega)
  have hx:(Tm.das w)[p.length]?=some y.da:=by rw [e]; exact Q5q
  have hlt:p.length<w.length:=by rw [e]; simp
  rw [H7q,a4tq] at ih
  obtain ⟨g,u,ms⟩:=y
  apply a0mq
  refine a6q (k7q (by rw [d3q]; exact hlt)) ⟨p.length,rfl,g,u,Tm.das ms,hx,_,c,?_⟩
  rw [wr1 (n:=p.length+1) (by omega) (by omega)]
  exact ih
theorem a1Sq (s:List Sy) (hs:s.length<=10000000) (f v:Int) (ks:List Tm) (hk:Tm.cns ks<=1200000000000):∀(q p acc:List Tm),ks=p++q->acc.length+Tm.cns q<=2400000000000->(∀t∈q,t.cn<=1200000000000/\XC pg 117 [L (s.map Sy.da),.dat t.da] [] (.dat (nrm s t).da) [])->s4q (.dat (Tm.mk f v (if bl s f then s3q Tm.cmp (acc++nrmK s (bl s f) f q) else acc++nrmK s (bl s f) f q)).da) [] (s.map Sy.da) (p.length:Int) f v (Tm.das ks) 0 0 f v (Tm.das (if bl s f then s3q Tm.cmp acc else acc))
 | [],p,acc,e,_,_=>by
  apply a01q
  subst e
  refine a3q (j4q (by simp [d3q])) ⟨?_,rfl⟩
  simp only [nrmK,aaz]
  rfl
 | y::q,p,acc,e,ha,hc=>by
  have hcn:Tm.cns (y::q)=1+y.cn+Tm.cns q:=by simp [Tm.cns]
  have hkl:=Tm.cns_cnL ks ▸ B9q Tm.cn ks
  obtain ⟨hyc,cy⟩:=hc y (by simp)
  have hnc:=a2Gq s y
  have hnl:=Tm.len_cns (nrm s y).ks
  rw [Tm.cn_ks] at hnl
  have hx:(Tm.das ks)[p.length]?=some y.da:=by rw [e]; exact Q5q
  have hlt:p.length<ks.length:=by rw [e]; simp
  have hw:=wr1 hlt (by omega)
  have ih:=fun acc' h=>a1Sq s hs f v ks hk q (p++[y]) acc' (by simp [e]) h (fun t ht=>hc t (amz _ ht))
  rw [H7q] at ih
  have eb:=a5Jq s f hs
  have eK:nrmK s (bl s f) f (y::q)=(if bl s f=true/\(nrm s y).f=f then (nrm s y).ks else [nrm s y])++nrmK s (bl s f) f q:=by rw [nrmK]
  rw [eK]
  have cP:=a5sq (nrm s y) (s3q Tm.cmp acc) (by rw [(B4q _ _).length_eq]; omega)
  generalize hny:nrm s y=ny at *
  generalize bl s f=b at *
  obtain ⟨g,u,ms⟩:=y
  obtain ⟨g',u',ms'⟩:=ny
  apply a01q
  rw [hw]
  refine a6q (k7q (by rw [d3q]; exact hlt)) ⟨p.length,rfl,g,u,Tm.das ms,hx,_,_,_,cy,_,eb,?_⟩
  cases b with
  | false =>
   refine a6q rfl ⟨⟨by simp [d3q]; omega⟩,?_⟩
   have:=ih (acc++[.mk g' u' ms']) (by simp; omega)
   simpa [a2Zq,Tm.das,Tm.da] using this
  | true =>
   refine a3q rfl ?_
   by_cases hg:g'=f
   ·refine a3q (decide_eq_false (by simp [hg])) ?_
    have:=ih (acc++ms') (by simp [Tm.ks] at hnl ⊢; omega)
    have h7:=a3Bq (.dat (Tm.mk f v (if true=true then s3q Tm.cmp (acc++((if true=true/\(Tm.mk g' u' ms').f=f then (Tm.mk g' u' ms').ks else [.mk g' u' ms'])++nrmK s true f q)) else acc++((if true=true/\(Tm.mk g' u' ms').f=f then (Tm.mk g' u' ms').ks else [.mk g' u' ms'])++nrmK s true f q))).da) [] (s.map Sy.da) (p.length:Int) f v (Tm.das ks) f v g' u' ms' ms' [] acc rfl (by simp [Tm.ks] at hnl; omega) (by simp [Tm.ks] at hnl ⊢; omega)
    rw [hw] at h7
    refine h7 ?_
    simpa [Tm.f,Tm.ks,hg,a5z] using this
   ·refine a6q (decide_eq_true (by simpa using hg)) ⟨_,cP,?_⟩
    have:=ih (acc++[.mk g' u' ms']) (by simp; omega)
    simp only [if_true,a4tq] at this
    simpa [Tm.f,hg,a5z] using this
theorem a1Hq (s:List Sy) (hs:s.length<=10000000) (t:Tm):t.cn<=1200000000000->XC pg 117 [L (s.map Sy.da),.dat t.da] [] (.dat (nrm s t).da) []:=by
 induction t using Tm.ind with
 | h f v ks ih =>
 intro hc
 have hcn:(Tm.mk f v ks).cn=Tm.cns ks:=by simp [Tm.cn]
 rw [hcn] at hc
 apply a8Xq
 have:=a1Sq s hs f v ks hc ks [] [] rfl (by simp; omega) (fun t ht=>by
  have hb:t.cn<=1200000000000:=by have:=Tm.cns_cnL ks ▸ O1q (cn:=Tm.cn) ht; omega
  exact ⟨hb,ih t ht hb⟩)
 simpa [nrm,s3q,Tm.das] using this
theorem a1Qq (s:List Sy) (hs:s.length<=10000000) (f v:Int) (ks:List Tm) (hk:Tm.cns ks<=1200000000000):∀(q p acc:List Tm),ks=p++q->acc.length+Tm.cns q<=2400000000000->(∀t∈q,t.cn<=1200000000000/\XC pg 109 [L (s.map Sy.da),.dat t.da] [] (.agg [.d (.int .i64 (nrm s t).f),.d (.int .i64 (nrm s t).v),.ol 0]) [(0,.tr 52 3 (Tm.das (nrm s t).ks))])->v1q (.agg [.d (.int .i64 f),.d (.int .i64 v),.ol 0]) [(0,.tr 52 3 (Tm.das (if bl s f then s3q Tm.cmp (acc++nrmK s (bl s f) f q) else acc++nrmK s (bl s f) f q)))] (s.map Sy.da) (Tm.das ks) (ks.length:Int) (p.length:Int) f v (Tm.das ks) 0 0 (Tm.das acc)
 | [],p,acc,e,ha,_=>by
  have eb:=a12q s f hs
  have cs:=aa4q acc (by omega)
  apply a09q
  subst e
  refine a3q (j4q (by simp)) ⟨_,eb,?_⟩
  simp only [nrmK,aaz]
  generalize bl s f=b at *
  cases b with
  | true=>exact a6q rfl ⟨_,cs,by simp⟩
  | false=>exact a3q rfl (by simp)
 | y::q,p,acc,e,ha,hc=>by
  have hcn:Tm.cns (y::q)=1+y.cn+Tm.cns q:=by simp [Tm.cns]
  have hkl:=Tm.cns_cnL ks ▸ B9q Tm.cn ks
  obtain ⟨hyc,cy⟩:=hc y (by simp)
  have hnc:=a2Gq s y
  have hnl:=Tm.len_cns (nrm s y).ks
  rw [Tm.cn_ks] at hnl
  have hx:(Tm.das ks)[p.length]?=some y.da:=by rw [e]; exact Q5q
  have hlt:p.length<ks.length:=by rw [e]; simp
  have hw:=wr1 hlt (by omega)
  have ih:=fun acc' h=>a1Qq s hs f v ks hk q (p++[y]) acc' (by simp [e]) h (fun t ht=>hc t (amz _ ht))
  rw [H7q] at ih
  have eb:=a12q s f hs
  have eK:nrmK s (bl s f) f (y::q)=(if bl s f=true/\(nrm s y).f=f then (nrm s y).ks else [nrm s y])++nrmK s (bl s f) f q:=by rw [nrmK]
  rw [eK]
  generalize hny:nrm s y=ny at *
  generalize bl s f=b at *
  obtain ⟨g,u,ms⟩:=y
  obtain ⟨g',u',ms'⟩:=ny
  apply a09q
  rw [hw]
  refine a6q (k7q hlt) ⟨p.length,rfl,g,u,Tm.das ms,hx,_,_,_,cy,_,eb,?_⟩
  simp only [Tm.f,Tm.v,Tm.ks] at hnl ⊢
  cases b with
  | false =>
   refine a3q rfl ⟨⟨by simp [d3q]; omega⟩,?_⟩
   have:=ih (acc++[.mk g' u' ms']) (by simp; omega)
   simpa [a2Zq,Tm.das,Tm.da] using this
  | true =>
   refine a6q rfl ?_
   by_cases hg:g'=f
   ·refine a6q (decide_eq_true hg) ⟨⟨by simp [d3q]; omega⟩,?_⟩
    have:=ih (acc++ms') (by simp; omega)
    simpa [a2Zq,hg,a5z] using this
   ·refine a3q (decide_eq_false hg) ⟨⟨by simp [d3q]; omega⟩,?_⟩
    have:=ih (acc++[.mk g' u' ms']) (by simp; omega)
    simpa [a2Zq,Tm.das,Tm.da,hg,a5z] using this
theorem a1Oq (s:List Sy) (hs:s.length<=10000000) (t:Tm):t.cn<=1200000000000->XC pg 109 [L (s.map Sy.da),.dat t.da] [] (.agg [.d (.int .i64 (nrm s t).f),.d (.int .i64 (nrm s t).v),.ol 0]) [(0,.tr 52 3 (Tm.das (nrm s t).ks))]:=by
 induction t using Tm.ind with
 | h f v ks ih =>
 intro hc
 have hcn:(Tm.mk f v ks).cn=Tm.cns ks:=by simp [Tm.cn]
 rw [hcn] at hc
 apply a8Uq
 have:=a1Qq s hs f v ks hc ks [] [] rfl (by simp; omega) (fun t ht=>by
  have hb:t.cn<=1200000000000:=by have:=Tm.cns_cnL ks ▸ O1q (cn:=Tm.cn) ht; omega
  exact ⟨hb,ih t ht hb⟩)
 rw [d3q]
 simpa [nrm,Tm.f,Tm.v,Tm.ks,Tm.das] using this
def lmk (s:List Sy) (pos:Bool) (a b:Tm):Li:=if Tm.cmp (nrm s a) (nrm s b)<0 then ⟨pos,nrm s b,nrm s a⟩ else ⟨pos,nrm s a,nrm s b⟩
theorem agmq (s:List Sy) (pos:Bool) (a b:Tm):(lmk s pos a b).cn<=a.cn+b.cn:=by
 have h1:=a2Gq s a
 have h2:=a2Gq s b
 unfold lmk Li.cn; split <;> dsimp only <;> omega
theorem a4hq (s:List Sy) (hs:s.length<=10000000) (pos:Bool) (a b:Tm) (ha:a.cn<=1200000000000) (hb:b.cn<=1200000000000):XC pg 64 [L (s.map Sy.da),B pos,.dat a.da,.dat b.da] [] (.dat (lmk s pos a b).da) []:=by
 have h1:=a1Hq s hs a ha
 have h2:=a1Hq s hs b hb
 have h3:=C1q (nrm s a) (nrm s b)
 unfold lmk
 generalize nrm s a=x at *
 generalize nrm s b=y at *
 obtain ⟨f,v,ks⟩:=a
 obtain ⟨g,u,ls⟩:=b
 obtain ⟨f',v',ks'⟩:=x
 obtain ⟨g',u',ls'⟩:=y
 apply a4pq
 refine ⟨_,_,_,h1,_,_,_,h2,_,h3,?_⟩
 by_cases h:Tm.cmp (.mk f' v' ks') (.mk g' u' ls')<0
 ·rw [if_pos h]; exact a6q (decide_eq_true h) ⟨rfl,rfl⟩
 ·rw [if_neg h]; exact a3q (decide_eq_false h) ⟨rfl,rfl⟩
theorem a3Iq (s:List Sy) (hs:s.length<=10000000) (pos:Bool) (a b:Tm) (ha:a.cn<=1200000000000) (hb:b.cn<=1200000000000):XC pg 52 [L (s.map Sy.da),B pos,.dat a.da,.dat b.da] [] (.agg [.d (.bool (lmk s pos a b).p),.d (.int .i64 (lmk s pos a b).l.f),.d (.int .i64 (lmk s pos a b).l.v),.ol 0,.d (.int .i64 (lmk s pos a b).r.f),.d (.int .i64 (lmk s pos a b).r.v),.ol 1]) [(0,.tr 52 3 (Tm.das (lmk s pos a b).l.ks)),(1,.tr 52 3 (Tm.das (lmk s pos a b).r.ks))]:=by
 have h1:=a1Oq s hs a ha
 have h2:=a1Oq s hs b hb
 have h3:=K5q (nrm s a) (nrm s b)
 unfold lmk
 generalize nrm s a=x at *
 generalize nrm s b=y at *
 obtain ⟨f,v,ks⟩:=a
 obtain ⟨g,u,ls⟩:=b
 obtain ⟨f',v',ks'⟩:=x
 obtain ⟨g',u',ls'⟩:=y
 apply a4Xq
 refine ⟨_,_,_,h1,_,_,_,h2,_,h3,?_⟩
 by_cases h:Tm.cmp (.mk f' v' ks') (.mk g' u' ls')<0
 ·rw [if_pos h]; exact a6q (decide_eq_true h) ⟨rfl,rfl⟩
 ·rw [if_neg h]; exact a3q (decide_eq_false h) ⟨rfl,rfl⟩
def q1q {α:Type} (cmp:α->α->Int) (x:α):List α->List α
 | []=>[x]
 | y::r=>if cmp y x<0 then y::q1q cmp x r else if cmp y x=0 then y::r else x::y::r
def P1q {α:Type} (cmp:α->α->Int) (l:List α):List α:=l.foldl (fun a x=>q1q cmp x a) []
def o9q {β:Type} (eq:β->β->Bool):β->List β->List β
 | _,[]=>[]
 | p,y::r=>if eq y p then o9q eq y r else y::o9q eq y r
def S7q {β:Type} (eq:β->β->Bool):List β->List β
 | []=>[]
 | x::r=>x::o9q eq x r
abbrev SsC {α:Type} (cmp:α->α->Int) (l:List α):Prop:=l.Pairwise (fun a b=>cmp a b<0)
section
variable {α:Type} {cmp:α->α->Int}
theorem TotC.lt_tr (h:TotC cmp) {a b c:α} (h1:cmp a b<0) (h2:cmp b c<=0):cmp a c<0:=by
 have h3:=h.tr a b c (by omega) h2
 by_cases h4:cmp a c=0
 ·have:=h.eq a c h4
  subst this
  have:=h.neg a b
  omega
 ·omega
theorem TotC.self (h:TotC cmp) (a:α):cmp a a=0:=by have:=h.neg a a; omega
theorem a3Pq (h:TotC cmp) {x y:α}:∀{l:List α},y∈q1q cmp x l↔y=x\/y∈l
 | []=>by simp [q1q]
 | z::r=>by
  have ih:=a3Pq h (x:=x) (y:=y) (l:=r)
  unfold q1q
  split
  ·rw [a6z,ih,a6z]
   constructor <;> rintro (h | h | h) <;> simp [h]
  ·split
   ·rename_i h2
    have:=h.eq _ _ h2
    subst this
    simp
   ·simp
theorem aalq (h:TotC cmp) {x:α}:∀{l:List α},SsC cmp l->SsC cmp (q1q cmp x l)
 | [],_=>by simp [q1q,SsC]
 | z::r,hs=>by
  obtain ⟨h1,h2⟩:=a8z.1 hs
  unfold q1q
  split
  ·rename_i hz
   refine a8z.2 ⟨fun w hw => ?_,aalq h h2⟩
   rcases (a3Pq h).1 hw with rfl | hw
   ·exact hz
   ·exact h1 w hw
  ·split
   ·exact hs
   ·have hxz:cmp x z<0:=by have:=h.neg x z; omega
    refine a8z.2 ⟨fun w hw => ?_,hs⟩
    rcases a6z.1 hw with rfl | hw
    ·exact hxz
    ·exact h.lt_tr hxz (by have:=h1 w hw; omega)
theorem aesq (h:TotC cmp) (l:List α):∀a:List α,SsC cmp a->SsC cmp (l.foldl (fun a x=>q1q cmp x a) a)/\∀y,y∈l.foldl (fun a x=>q1q cmp x a) a↔y∈l\/y∈a:=by
 induction l with
 | nil=>intro a ha; exact ⟨ha,by simp⟩
 | cons x r ih =>
  intro a ha
  obtain ⟨h1,h2⟩:=ih _ (aalq h ha)
  refine ⟨h1,fun y => ?_⟩
  rw [aRz,h2,a3Pq h,a6z]
  constructor
  ·rintro (h | h | h) <;> simp [h]
  ·rintro ((h | h) | h) <;> simp [h]
theorem aaxq (h:TotC cmp):∀{a b:List α},SsC cmp a->SsC cmp b->(∀x,x∈a↔x∈b)->a=b
 | [],[],_,_,_=>rfl
 | [],y::s,_,_,hm=>by have:=(hm y).2 (by simp); simp at this
 | x::r,[],_,_,hm=>by have:=(hm x).1 (by simp); simp at this
 | x::r,y::s,ha,hb,hm=>by
  obtain ⟨a1,a2⟩:=a8z.1 ha
  obtain ⟨b1,b2⟩:=a8z.1 hb
  have hxy:x=y:=by
   rcases a6z.1 ((hm x).1 (by simp)) with e | h1
   ·exact e
   ·rcases a6z.1 ((hm y).2 (by simp)) with e | h2
    ·exact e.symm
    ·have:=a1 y h2; have:=b1 x h1; have:=h.neg x y; omega
  subst hxy
  rw [aaxq h a2 b2 fun z => ?_]
  have:=hm z
  rw [a6z,a6z] at this
  constructor
  ·intro hz
   rcases this.1 (.inr hz) with e | h1
   ·subst e; have:=a1 z hz; have:=h.self z; omega
   ·exact h1
  ·intro hz
   rcases this.2 (.inr hz) with e | h1
   ·subst e; have:=b1 z hz; have:=h.self z; omega
   ·exact h1
theorem a8mq {eq:α->α->Bool} (he:∀a b,eq a b=true->a=b) {y:α}:∀{l:List α} {p:α},(y∈o9q eq p l->y∈l)/\(y∈l->y=p\/y∈o9q eq p l)
 | [],p=>by simp [o9q]
 | x::r,p=>by
  obtain ⟨h1,h2⟩:=a8mq he (y:=y) (l:=r) (p:=x)
  unfold o9q
  split
  ·rename_i h3
   have:=he _ _ h3
   subst this
   exact ⟨fun h=>amz _ (h1 h),fun h=>by
    rcases a6z.1 h with h | h
    ·exact .inl h
    ·exact h2 h⟩
  ·refine ⟨fun h => ?_,fun h => ?_⟩
   ·rcases a6z.1 h with h | h
    ·simp [h]
    ·exact amz _ (h1 h)
   ·rcases a6z.1 h with h | h
    ·simp [h]
    ·rcases h2 h with h | h <;> simp [h]
theorem aaBq (h:TotC cmp) {eq:α->α->Bool} (he:∀a b,eq a b=decide (cmp a b=0)):∀{l:List α} {p:α},SdC cmp (p::l)->SsC cmp (p::o9q eq p l)
 | [],p,_=>by simp [o9q,SsC]
 | x::r,p,hs=>by
  obtain ⟨h1,h2⟩:=a8z.1 hs
  have ih:=aaBq h he h2
  unfold o9q
  split
  ·rename_i h3
   rw [he,decide_eq_true_eq] at h3
   have:=h.eq _ _ h3
   subst this
   exact ih
  ·rename_i h3
   rw [he,decide_eq_true_eq] at h3
   have hpx:cmp p x<0:=by have:=h1 x (by simp); have:=h.neg p x; omega
   refine a8z.2 ⟨fun w hw => ?_,ih⟩
   rcases a6z.1 hw with rfl | hw
   ·exact hpx
   ·exact h.lt_tr hpx (by have:=(a8z.1 ih).1 w hw; omega)
theorem abSq (h:TotC cmp) {eq:α->α->Bool} (he:∀a b,eq a b=decide (cmp a b=0)) (l:List α):S7q eq (s3q cmp l)=P1q cmp l:=by
 obtain ⟨h1,h2⟩:=aesq h l [] (by simp [SsC])
 have hs:=a47q h l
 have hp:=B4q cmp l
 have hee:∀a b,eq a b=true->a=b:=fun a b e=>h.eq a b (by simpa [he] using e)
 generalize s3q cmp l=s at hs hp
 refine aaxq h ?_ h1 fun x => ?_
 ·cases s with
  | nil=>simp [S7q,SsC]
  | cons p r=>exact aaBq h he hs
 ·rw [P1q,h2,<-hp.mem_iff]
  cases s with
  | nil=>simp [S7q]
  | cons p r =>
   obtain ⟨g1,g2⟩:=a8mq hee (y:=x) (l:=r) (p:=p)
   simp only [S7q,a6z,List.not_mem_nil,or_false]
   constructor
   ·rintro (h | h)
    ·exact .inl h
    ·exact .inr (g1 h)
   ·rintro (h | h)
    ·exact .inl h
    ·exact g2 h
theorem a73q {β:Type} (eq:β->β->Bool):∀(l:List β) (p:β),∃r,(o9q eq p l++r).Perm l
 | [],p=>⟨[],by simp [o9q]⟩
 | y::l,p=>by
  obtain ⟨r,h⟩:=a73q eq l y
  unfold o9q
  split
  ·exact ⟨y::r,List.perm_middle.trans (h.cons y)⟩
  ·exact ⟨r,h.cons y⟩
theorem a9iq {β γ:Type} (g:β->γ) (eq:γ->γ->Bool):∀(l:List β) (p:β),(o9q (fun a b=>eq (g a) (g b)) p l).map g=o9q eq (g p) (l.map g)
 | [],p=>rfl
 | y::l,p=>by
  have h:=a9iq g eq l y
  simp only [o9q,aqz]
  split
  ·exact h
  ·rw [aqz,h]
theorem a87q {cn:α->Nat} {x:α}:∀l:List α,(((q1q cmp x l).map cn).sum+(q1q cmp x l).length)<=cn x+1+((l.map cn).sum+l.length)
 | []=>by simp [q1q]
 | y::r=>by
  have h:=a87q (cn:=cn) (x:=x) r
  unfold q1q; split
  ·simp only [aqz,aSz,acz]; omega
  ·split <;> simp only [aqz,aSz,acz] <;> omega
end
theorem a8Lq (a b:Li):XC pg 66 [.dat a.da,.dat b.da] [] (B (decide (Li.cmp a b=0))) []:=by
 have h1:=H6q a.l b.l
 have h2:=H6q a.r b.r
 obtain ⟨p,⟨f,v,ks⟩,⟨g,u,ls⟩⟩:=a
 obtain ⟨p',⟨f',v',ks'⟩,⟨g',u',ls'⟩⟩:=b
 apply a5bq
 refine b3q (fun h=>⟨_,h1,c5q (fun h3=>⟨_,h2,bE ?_⟩) fun h3=>bE ?_⟩) fun h=>bE ?_
 ·subst h
  have h3:Tm.cmp (.mk f v ks) (.mk f' v' ks')=0:=by simpa using h3
  simp only [Li.cmp,if_true,if_pos h3]
 ·subst h
  have h3:¬Tm.cmp (.mk f v ks) (.mk f' v' ks')=0:=by simpa using h3
  simp only [Li.cmp,if_true,if_neg h3]
  simp [h3]
 ·simp only [Li.cmp,if_neg h]
  cases p <;> cases p' <;> simp_all
def a4wq (a b:Li):Bool:=decide (Li.cmp a b=0)
def t6q (a b:List Da×Li):Bool:=a4wq a.2 b.2
theorem a3wq {z w:List Da×Li} (hz:TgP Li.da z) (hw:TgP Li.da w):XC pg 56 [.dat z.1,.dat w.1] [] (B (t6q z w)) []:=XC.ut (by
 show XC _ _ [.dat (Da.utL z.1),.dat (Da.utL w.1)] _ _ _
 rw [hz.ut Li.ut_da,hw.ut Li.ut_da]; exact a43q _ _)
theorem acmq:∀(R F G:List (List Da×Li)) (y:List Da×Li) (K j:Nat),(∀z∈F++G++y::R,TgP Li.da z)->K+j=F.length+G.length+1->1<=j->(F++G++y::R).length<=3000000000000->f7q (.one (.ol 0)) [(0,.lst 54 7 ((F++o9q t6q y R).map (·.1)))] (F.length:Int) K (j+R.length) (j:Int) ((F++G++y::R).map (·.1)):=by
 intro R
 induction R with
 | nil =>
  intro F G y K j ht hK hj hl
  apply q0q
  refine a3q (decide_eq_false (by simp)) ⟨F.length,rfl,⟨by simp,a3z _⟩,⟨by simp⟩,F.length,rfl,⟨by omega,by simp⟩,⟨by simp⟩,rfl,?_⟩
  simp [o9q,aHz,F4q]
 | cons x R ih =>
  intro F G y K j ht hK hj hl
  have hlen:(F++G++y::x::R).length=F.length+G.length+R.length+2:=by simp; omega
  have hx:=ht x (by simp)
  have hy:=ht y (by simp)
  have c:=a3wq hx hy
  obtain ⟨b,n1,n2,d,n3,n4,d1,ex⟩:=hx.lit
  obtain ⟨b',m1,m2,d',m3,m4,d1',ey⟩:=hy.lit
  have gx:((F++G++y::x::R).map (·.1))[K+j]?=some x.1:=by
   have h:=u4q (g:=fun z:List Da×Li=>z.1) (p:=F++G++[y]) (x:=x) (q:=R)
   rw [show (F++G++[y]).length=K+j by simp; omega] at h
   simpa using h
  have gy:((F++G++y::x::R).map (·.1))[K+(j-1)]?=some y.1:=by
   have h:=u4q (g:=fun z:List Da×Li=>z.1) (p:=F++G) (x:=y) (q:=x::R)
   rw [show (F++G).length=K+(j-1) by simp; omega] at h
   exact h
  have w0:a0z .i64 ((j:Int)-1)=((j-1:Nat):Int):=by rw [wrI (by omega) (by omega)]; omega
  have w1:a0z .i64 ((j:Int)+1)=((j+1:Nat):Int):=by rw [wrI (by omega) (by omega)]; omega
  have w2:a0z .i64 ((F.length:Int)+1)=((F.length+1:Nat):Int):=by rw [wrI (by omega) (by omega)]; omega
  have gx2:=gx
  rw [ex] at c gx2
  rw [ey] at c gy
  apply q0q
  rw [w0,w1,w2]
  refine a6q (decide_eq_true (by simp; omega)) ⟨j,rfl,⟨by simp⟩,K+j,rfl,_,_,_,_,_,_,_,gx2,j-1,rfl,⟨by simp; omega⟩,K+(j-1),rfl,_,_,_,_,_,_,_,gy,_,c,?_⟩
  by_cases hs:t6q x y=true
  ·refine a3q (by simp [hs]) ?_
   have h:=ih F (G++[y]) x K (j+1) (by simpa using ht) (by simp; omega) (by omega) (by simp at hl ⊢; omega)
   have e1:F++(G++[y])++x::R=F++G++y::x::R:=by simp
   have e2:o9q t6q y (x::R)=o9q t6q x R:=by rw [o9q,if_pos hs]
   rw [e1] at h
   rw [e2,show j+(x::R).length=j+1+R.length by simp; omega]
   exact h
  ·refine a6q (by simpa using hs) ?_
   obtain ⟨g,H,eG⟩:∃g H,G++[y]=g::H:=by
    cases G with
    | nil=>exact ⟨y,[],rfl⟩
    | cons g G'=>exact ⟨g,G'++[y],rfl⟩
   have hHl:H.length=G.length:=by have:=congrArg aQz eG; simp at this; omega
   have e0:F++G++y::x::R=F++g::(H++x::R):=by
    rw [show F++G++y::x::R=F++(G++[y])++x::R by simp,eG]; simp
   have hg:=ht g (by rw [e0]; simp)
   obtain ⟨b2,k1,k2,d2,k3,k4,d3,eg⟩:=hg.lit
   have gg:((F++G++y::x::R).map (·.1))[F.length]?=some g.1:=by rw [e0]; exact u4q
   rw [eg] at gg
   refine ⟨j,rfl,⟨by simp⟩,K+j,rfl,_,_,_,_,_,_,_,gx2,F.length,rfl,⟨by simp; omega⟩,F.length,rfl,_,_,_,_,_,_,_,gg,?_⟩
   have h:=ih (F++[x]) H x K (j+1) (fun z hz=>by
    apply ht z
    rw [e0]
    simp at hz ⊢
    rcases hz with h | h | h | h | h <;> simp [h]) (by simp; omega) (by omega) (by simp at hl ⊢; omega)
   have e3:(F++[x]++H++x::R).map (·.1)=((F++G++y::x::R).map (·.1)).set F.length x.1:=by rw [e0]; simp [List.set_append]
   have e2:F++o9q t6q y (x::R)=F++[x]++o9q t6q x R:=by rw [o9q,if_neg hs]; simp
   rw [e3,ex,show (F++[x]).length=F.length+1 by simp] at h
   rw [e2,show j+(x::R).length=j+1+R.length by simp; omega]
   exact h
theorem abKq:∀(R P:List (List Da×Li)) (y:List Da×Li),(∀z∈P++y::R,TgP Li.da z)->(P++y::R).length<=3000000000000->h3q (.one (.ol 0)) [(0,.lst 54 7 ((P++y::o9q t6q y R).map (·.1)))] ((P.length+1:Nat):Int) ((P++y::R).map (·.1)):=by
 intro R
 induction R with
 | nil =>
  intro P y ht hl
  apply p9q
  exact a3q (decide_eq_false (by simp)) ⟨rfl,by simp [o9q]⟩
 | cons x R ih =>
  intro P y ht hl
  have hx:=ht x (by simp)
  have hy:=ht y (by simp)
  have c:=a3wq hx hy
  obtain ⟨b,n1,n2,d,n3,n4,d1,ex⟩:=hx.lit
  obtain ⟨b',m1,m2,d',m3,m4,d1',ey⟩:=hy.lit
  have gx:((P++y::x::R).map (·.1))[P.length+1]?=some x.1:=by
   have h:=u4q (g:=fun z:List Da×Li=>z.1) (p:=P++[y]) (x:=x) (q:=R)
   rw [show (P++[y]).length=P.length+1 by simp,show P++[y]++x::R=P++y::x::R by simp] at h
   exact h
  have gy:((P++y::x::R).map (·.1))[P.length]?=some y.1:=u4q
  have hlen:(P++y::x::R).length=P.length+R.length+2:=by simp; omega
  have w0:a0z .i64 (((P.length+1:Nat):Int)-1)=(P.length:Int):=by rw [wrI (by omega) (by omega)]; omega
  have w1:a0z .i64 (((P.length+1:Nat):Int)+1)=((P.length+1+1:Nat):Int):=by rw [wrI (by omega) (by omega)]; omega
  rw [ex] at c gx
  rw [ey] at c gy
  apply p9q
  rw [w0,w1]
  refine a6q (decide_eq_true (by simp; omega)) ⟨P.length+1,rfl,⟨by simp⟩,P.length+1,rfl,_,_,_,_,_,_,_,gx,P.length,rfl,⟨by simp⟩,P.length,rfl,_,_,_,_,_,_,_,gy,_,c,?_⟩
  by_cases hs:t6q x y=true
  ·refine a6q hs ⟨P.length+1,rfl,⟨by simp,a3z _⟩,?_⟩
   have h:=acmq R (P++[y]) [] x (P.length+1) 1 (by simpa using ht) (by simp) (a3z _) (by simp at hl ⊢; omega)
   have e1:P++[y]++[]++x::R=P++y::x::R:=by simp
   have e2:P++y::o9q t6q y (x::R)=P++[y]++o9q t6q x R:=by rw [o9q,if_pos hs]; simp
   rw [e1,show (P++[y]).length=P.length+1 by simp] at h
   rw [e2,show ((P++y::x::R).map (·.1)).length-(P.length+1)=1+R.length by simp; omega,aFz]
   exact h
  ·refine a3q (by simpa using hs) ?_
   have h:=ih (P++[y]) x (by simpa using ht) (by simp at hl ⊢; omega)
   have e1:P++[y]++x::R=P++y::x::R:=by simp
   have e2:P++y::o9q t6q y (x::R)=P++[y]++x::o9q t6q x R:=by rw [o9q,if_neg hs]; simp
   rw [e1,show (P++[y]).length=P.length+1 by simp] at h
   rw [e2]
   exact h
theorem a9Hq (zs:List (List Da×Li)) (ht:∀z∈zs,TgP Li.da z) (hl:zs.length<=3000000000000):XC pg 55 [.one (.ol 2000),.one (.d (.fn 56))] [(2000,.lst 54 7 (zs.map (·.1)))] (.one (.ol 0)) [(0,.lst 54 7 ((S7q t6q zs).map (·.1)))]:=by
 apply C4q
 match zs,ht,hl with
 | [],_,_=>exact a6q (by simp) ⟨rfl,rfl⟩
 | [z],_,_=>exact a6q (by simp) ⟨rfl,rfl⟩
 | z::x::R,ht,hl =>
  refine a3q (decide_eq_false (by simp; omega)) ?_
  exact abKq (x::R) [] z ht hl
theorem acjq {β:Type} (eq:β->β->Bool):∀l:List β,∃r,(S7q eq l++r).Perm l
 | []=>⟨[],by simp [S7q]⟩
 | x::l=>by
  obtain ⟨r,h⟩:=a73q eq l x
  exact ⟨r,h.cons x⟩
theorem adqq {β γ:Type} (g:β->γ) (eq:γ->γ->Bool):∀l:List β,(S7q (fun a b=>eq (g a) (g b)) l).map g=S7q eq (l.map g)
 | []=>rfl
 | x::l=>by
  show g x::_=_
  rw [a9iq g eq l x]; rfl
theorem a9Iq (ls:List Li) (hl:ls.length<=3000000000000):XC pg 55 [.one (.ol 2000),.one (.d (.fn 56))] [(2000,.tr 54 7 (ls.map Li.da))] (.one (.ol 0)) [(0,.tr 54 7 ((S7q a4wq ls).map Li.da))]:=by
 refine adeq fun xs' hx => ?_
 obtain ⟨zs,rfl,rfl,ht⟩:=a1jq hx
 obtain ⟨r,hp⟩:=acjq t6q zs
 refine ⟨(S7q t6q zs).map (·.1),⟨r.map (·.1),?_⟩,?_,a9Hq zs ht (by simpa using hl)⟩
 ·rw [<-atz]
  exact hp.map _
 ·rw [a1Fq fun z hz=>ht z (hp.subset (List.mem_append_left _ hz))]
  congr 1
  exact adqq (fun z:List Da×Li=>z.2) a4wq zs
def u2q (s:List Sy) (x:Li):Li:=lmk s x.p x.l x.r
def clm (s:List Sy) (ls:List Li):List Li:=P1q Li.cmp (ls.map (u2q s))
theorem af4q (s:List Sy) (x:Li):(u2q s x).cn<=x.cn:=agmq s x.p x.l x.r
theorem a9rq (l:List Li):∀a:List Li,cnL Li.cn (l.foldl (fun a x=>q1q Li.cmp x a) a)<=cnL Li.cn a+cnL Li.cn l:=by
 induction l with
 | nil=>intro a; simp
 | cons x r ih =>
  intro a
  have h1:=ih (q1q Li.cmp x a)
  have h2:=a87q (cmp:=Li.cmp) (cn:=Li.cn) (x:=x) a
  have e1:cnL Li.cn (x::r)=1+x.cn+cnL Li.cn r:=by simp [cnL]; omega
  have e2:cnL Li.cn a=a.length+(a.map Li.cn).sum:=by simp [cnL]
  have e3:cnL Li.cn (q1q Li.cmp x a)=(q1q Li.cmp x a).length+((q1q Li.cmp x a).map Li.cn).sum:=by simp [cnL]
  rw [aRz]
  omega
theorem a9nq (s:List Sy) (l:List Li):cnL Li.cn (l.map (u2q s))<=cnL Li.cn l:=by
 induction l with
 | nil=>simp
 | cons x r ih =>
  have h:=af4q s x
  have e1:cnL Li.cn (x::r)=1+x.cn+cnL Li.cn r:=by simp [cnL]; omega
  have e2:cnL Li.cn ((x::r).map (u2q s))=1+(u2q s x).cn+cnL Li.cn (r.map (u2q s)):=by simp [cnL]; omega
  omega
theorem a9tq (s:List Sy) (ls:List Li):cnL Li.cn (clm s ls)<=cnL Li.cn ls:=by
 have h1:=a9rq (ls.map (u2q s)) []
 have h2:=a9nq s ls
 have h3:cnL Li.cn ([]:List Li)=0:=by simp [cnL]
 unfold clm P1q
 omega
theorem N7q (s:List Sy) (hs:s.length<=10000000) (ls:List Li) (hc:cnL Li.cn ls<=1200000000000):∀(q p:List Li),ls=p++q->s7q (.agg [.ol 0]) [(0,.tr 54 7 ((clm s ls).map Li.da))] (s.map Sy.da) (ls.map Li.da) (ls.length:Int) (p.length:Int) ((p.map (u2q s)).map Li.da)
 | [],p,e=>by
  have hl:=B9q Li.cn ls
  have c1:=a9Yq (ls.map (u2q s)) (by simp; omega)
  have c2:=a9Iq (s3q Li.cmp (ls.map (u2q s))) (by rw [(B4q _ _).length_eq]; simp; omega)
  have e1:S7q a4wq (s3q Li.cmp (ls.map (u2q s)))=clm s ls:=abSq a84q (fun _ _=>rfl) _
  rw [e1] at c2
  apply J1q
  have ep:ls=p:=by simpa using e
  subst ep
  exact a3q (decide_eq_false (by omega)) ⟨_,c1,_,c2,rfl,rfl⟩
 | x::q,p,e=>by
  have ih:=N7q s hs ls hc q (p++[x]) (by simp [e])
  have hm:=O1q (cn:=Li.cn) (l:=ls) (x:=x) (by simp [e])
  have hl:=B9q Li.cn ls
  have hxc:x.cn=x.l.cn+x.r.cn:=rfl
  have c:=a3Iq s hs x.p x.l x.r (by omega) (by omega)
  have hx:(ls.map Li.da)[p.length]?=some x.da:=by rw [e]; exact u4q
  have hlt:p.length<ls.length:=by rw [e]; simp
  have hw:=wr1 hlt (by omega)
  have e2:((p++[x]).map (u2q s)).map Li.da=(p.map (u2q s)).map Li.da++[(u2q s x).da]:=by simp
  have e3:u2q s x=lmk s x.p x.l x.r:=rfl
  rw [H7q,e2,e3] at ih
  generalize lmk s x.p x.l x.r=y at *
  obtain ⟨pp,⟨f,v,ks⟩,⟨g,u,ms⟩⟩:=x
  obtain ⟨pp',⟨f',v',ks'⟩,⟨g',u',ms'⟩⟩:=y
  apply J1q
  rw [hw]
  exact a6q (decide_eq_true (by omega)) ⟨p.length,rfl,_,_,_,_,_,_,_,hx,_,_,_,_,_,_,_,c,⟨by simp; omega⟩,ih⟩
theorem a22q (s:List Sy) (hs:s.length<=10000000) (ls:List Li) (hc:cnL Li.cn ls<=1200000000000):XC pg 8 [L (s.map Sy.da),L (ls.map Li.da)] [] (.agg [.ol 0]) [(0,.tr 54 7 ((clm s ls).map Li.da))]:=by
 apply a2Dq
 rw [a9z]
 exact N7q s hs ls hc ls [] rfl
theorem lis7 (l:List Li):∀y∈l.map Li.da,y.length=7:=by
 intro y hy
 obtain ⟨x,_,rfl⟩:=aIz.1 hy
 obtain ⟨p,⟨f,v,ks⟩,⟨g,u,ms⟩⟩:=x
 rfl
theorem U7q (r:AV) (O:List (Nat×Ob)) (s1:List (List Da)) (s0:List (List Da)) (s6:Int) (x:Li) (l:List Li) (hl:l.length<=1200000000000) (h:g4q r O s0 s1 (a0z .i64 (s6+1)) ((q1q Li.cmp x l).map Li.da)):∀(q p:List Li),l=p++q->q1q Li.cmp x l=p++q1q Li.cmp x q->s8q r O s0 s1 s6 (p.length:Int) x.p x.l.f x.l.v (Tm.das x.l.ks) x.r.f x.r.v (Tm.das x.r.ks) (l.map Li.da)
 | [],p,e,e2=>by
  have hpl:l.length=p.length:=by rw [e]; simp
  have ed:x.da=[.bool x.p,.int .i64 x.l.f,.int .i64 x.l.v,.sl (Tm.das x.l.ks),.int .i64 x.r.f,.int .i64 x.r.v,.sl (Tm.das x.r.ks)]:=by obtain ⟨pp,⟨f,v,ks⟩,⟨g,u,ms⟩⟩:=x; rfl
  apply I6q
  refine a3q (decide_eq_false (by simp; omega)) (a3q (decide_eq_false (by simp; omega)) ⟨p.length,rfl,⟨by omega,by simp; omega⟩,⟨by simp; omega⟩,⟨lis7 l⟩,⟨by simp; omega⟩,⟨by simp; omega⟩,p.length,rfl,⟨by simp; omega,a3z _⟩,⟨by simp; omega⟩,⟨lis7 l⟩,⟨by simp; omega⟩,?_⟩)
  have h':g4q r O s0 s1 (a0z .i64 (s6+1)) ([]++((l.map Li.da).drop (0+0)).take (p.length-0)++[x.da]++((l.map Li.da).drop (0+p.length)).take ((l.map Li.da).length-p.length)):=by
   rw [e2] at h
   subst e
   simpa [q1q,F4q,M7q] using h
  rw [ed] at h'
  exact h'
 | y::q,p,e,e2=>by
  have hpl:l.length=p.length+q.length+1:=by rw [e]; simp; omega
  have ed:x.da=[.bool x.p,.int .i64 x.l.f,.int .i64 x.l.v,.sl (Tm.das x.l.ks),.int .i64 x.r.f,.int .i64 x.r.v,.sl (Tm.das x.r.ks)]:=by obtain ⟨pp,⟨f,v,ks⟩,⟨g,u,ms⟩⟩:=x; rfl
  have hx:(l.map Li.da)[p.length]?=some y.da:=by rw [e]; exact u4q
  have c1:=a0Uq y x
  have c2:=a8Lq y x
  rw [ed] at c1 c2
  have hlt:p.length<l.length:=by omega
  have hw:=wr1 hlt (by omega)
  have ih:=fun h2=>U7q r O s1 s0 s6 x l hl h q (p++[y]) (by simp [e]) h2
  rw [H7q] at ih
  apply I6q
  rw [hw]
  by_cases hb:Li.cmp y x<0
  ·have ih2:=ih (by rw [e2,q1q,if_pos hb]; simp)
   clear ih
   obtain ⟨pp,⟨f,v,ks⟩,⟨g,u,ms⟩⟩:=y
   exact a6q (decide_eq_true (by simp; omega)) ⟨p.length,rfl,⟨by simp; omega⟩,p.length,rfl,_,_,_,_,_,_,_,hx,_,c1,a6q (decide_eq_true hb) ih2⟩
  ·by_cases hs:Li.cmp y x=0
   ·have el:q1q Li.cmp x l=l:=by rw [e2,q1q,if_neg hb,if_pos hs,<-e]
    rw [el] at h
    obtain ⟨pp,⟨f,v,ks⟩,⟨g,u,ms⟩⟩:=y
    exact a6q (decide_eq_true (by simp; omega)) ⟨p.length,rfl,⟨by simp; omega⟩,p.length,rfl,_,_,_,_,_,_,_,hx,_,c1,a3q (decide_eq_false hb) (a6q (decide_eq_true (by simp; omega)) ⟨p.length,rfl,⟨by simp; omega⟩,p.length,rfl,_,_,_,_,_,_,_,hx,_,c2,a6q (decide_eq_true hs) h⟩)⟩
   ·have el:q1q Li.cmp x l=p++x::y::q:=by rw [e2,q1q,if_neg hb,if_neg hs]
    rw [el] at h
    have h':g4q r O s0 s1 (a0z .i64 (s6+1)) ([]++((l.map Li.da).drop (0+0)).take (p.length-0)++[x.da]++((l.map Li.da).drop (0+p.length)).take ((l.map Li.da).length-p.length)):=by
     have e3:[]++((l.map Li.da).drop (0+0)).take (p.length-0)++[x.da]++((l.map Li.da).drop (0+p.length)).take ((l.map Li.da).length-p.length)=(p++x::y::q).map Li.da:=by
      rw [e]; simp [aHz,aPz,F4q,M7q]
     rw [e3]; exact h
    rw [ed] at h'
    obtain ⟨pp,⟨f,v,ks⟩,⟨g,u,ms⟩⟩:=y
    exact a6q (decide_eq_true (by simp; omega)) ⟨p.length,rfl,⟨by simp; omega⟩,p.length,rfl,_,_,_,_,_,_,_,hx,_,c1,a3q (decide_eq_false hb) (a6q (decide_eq_true (by simp; omega)) ⟨p.length,rfl,⟨by simp; omega⟩,p.length,rfl,_,_,_,_,_,_,_,hx,_,c2,a3q (decide_eq_false hs) ⟨p.length,rfl,⟨by omega,by simp; omega⟩,⟨by simp; omega⟩,⟨lis7 l⟩,⟨by simp; omega⟩,⟨by simp; omega⟩,p.length,rfl,⟨by simp; omega,a3z _⟩,⟨by simp; omega⟩,⟨lis7 l⟩,⟨by simp; omega⟩,h'⟩⟩)⟩
theorem O0q (s:List Sy) (hs:s.length<=10000000) (ls:List Li) (hc:cnL Li.cn ls<=1200000000000):∀(q p:List Li),ls=p++q->g4q (.dat (Cl.mk (clm s ls)).da) [] (s.map Sy.da) (ls.map Li.da) (p.length:Int) ((P1q Li.cmp (p.map (u2q s))).map Li.da)
 | [],p,e=>by
  apply J8q
  have ep:ls=p:=by simpa using e
  subst ep
  exact a3q (decide_eq_false (by simp)) ⟨rfl,rfl⟩
 | x::q,p,e=>by
  have ih:=O0q s hs ls hc q (p++[x]) (by simp [e])
  have hm:=O1q (cn:=Li.cn) (l:=ls) (x:=x) (by simp [e])
  have hl:=B9q Li.cn ls
  have hxc:x.cn=x.l.cn+x.r.cn:=rfl
  have c:=a4hq s hs x.p x.l x.r (by omega) (by omega)
  have hx:(ls.map Li.da)[p.length]?=some x.da:=by rw [e]; exact u4q
  have hlt:p.length<ls.length:=by rw [e]; simp
  have hw:=wr1 hlt (by omega)
  have e2:P1q Li.cmp ((p++[x]).map (u2q s))=q1q Li.cmp (lmk s x.p x.l x.r) (P1q Li.cmp (p.map (u2q s))):=by simp [P1q,aOz,u2q]
  have hlen:(P1q Li.cmp (p.map (u2q s))).length<=1200000000000:=by
   have h1:=a9rq (p.map (u2q s)) []
   have h2:=a9nq s p
   have h3:cnL Li.cn ([]:List Li)=0:=by simp [cnL]
   have h4:=B9q Li.cn (P1q Li.cmp (p.map (u2q s)))
   have h5:cnL Li.cn ls=cnL Li.cn p+cnL Li.cn (x::q):=by rw [e]; simp [cnL]; omega
   unfold P1q at h4 ⊢
   omega
  rw [H7q,e2,<-hw] at ih
  have h7:=U7q _ _ _ _ _ (lmk s x.p x.l x.r) (P1q Li.cmp (p.map (u2q s))) hlen ih (P1q Li.cmp (p.map (u2q s))) [] rfl rfl
  generalize lmk s x.p x.l x.r=y at *
  obtain ⟨pp,⟨f,v,ks⟩,⟨g,u,ms⟩⟩:=x
  obtain ⟨pp',⟨f',v',ks'⟩,⟨g',u',ms'⟩⟩:=y
  apply J8q
  exact a6q (decide_eq_true (by simp; omega)) ⟨p.length,rfl,_,_,_,_,_,_,_,hx,p.length,rfl,_,_,_,_,_,_,_,hx,p.length,rfl,_,_,_,_,_,_,_,hx,_,_,_,_,_,_,_,c,h7⟩
theorem a23q (s:List Sy) (hs:s.length<=10000000) (ls:List Li) (hc:cnL Li.cn ls<=1200000000000):XC pg 18 [L (s.map Sy.da),L (ls.map Li.da)] [] (.dat (Cl.mk (clm s ls)).da) []:=by
 apply a2Cq
 exact O0q s hs ls hc ls [] rfl
theorem a44q:∀(a:List Tm) (t:Tm),Tm.cns (a++[t])=Tm.cns a+1+t.cn
 | [],t=>by simp [Tm.cns]
 | x::r,t=>by simp only [apz,Tm.cns,a44q r t]; omega
theorem a89q (a:List Li) (l:Li):cnL Li.cn (a++[l])=cnL Li.cn a+1+l.cn:=by simp [cnL]; omega
theorem q_cn (nv:NV) (ws:Ws):∀f:Nat,
  (∀p:Rd,(b0q nv ws f p).1.cn+p.i<=(b0q nv ws f p).2.i) /\
  (∀(p:Rd) (a:List Tm),Tm.cns (qKids nv ws f p a).1+p.i<=Tm.cns a+1+(qKids nv ws f p a).2.i)
 | 0=>⟨fun p=>by rw [b0q]; simp [Tm.cn,Tm.cns,Rd.no],fun p a=>by rw [qKids]; show Tm.cns a+p.i<=Tm.cns a+1+p.i; omega⟩
 | f+1=>by
  obtain ⟨ihT,ihK⟩:=q_cn nv ws f
  have hE:∀(p:Rd) (y:List Tm×Rd),(q2q ws p y).1.cn=Tm.cns y.1:=fun p y=>rfl
  refine ⟨fun p => ?_,fun p a => ?_⟩
  ·rw [b0q]
   split
   ·show Tm.cns []+p.i<=p.i+1; simp [Tm.cns]
   ·have hN:=a8Rq ws p
    split
    ·have hK:=ihK ((g1q ws p).to (p.i+2)) []
     generalize qKids nv ws f ((g1q ws p).to (p.i+2)) []=kk at hK ⊢
     have e:((g1q ws p).to (p.i+2)).i=p.i+2:=rfl
     rw [e] at hK
     rw [hE,(a5tq ws p (kk.1,e4q ws wRp kk.2)).1]
     have hD:kk.2.i<=(e4q ws wRp kk.2).i:=by
      unfold e4q
      split
      ·exact aJz _
      ·exact a3z _
     have h0:Tm.cns []=0:=by simp [Tm.cns]
     rw [h0] at hK
     show Tm.cns kk.1+p.i<=(e4q ws wRp kk.2).i
     omega
    ·rw [hE,(a5tq ws p ([],g1q ws p)).1]
     show Tm.cns []+p.i<=(g1q ws p).i
     rw [hN.1]; simp [Tm.cns]
  ·rw [qKids]
   split
   ·show Tm.cns a+p.i<=Tm.cns a+1+p.i; omega
   ·have hT:=ihT p
    split
    ·have hK:=ihK ((b0q nv ws f p).2.to ((b0q nv ws f p).2.i+1)) (a++[(b0q nv ws f p).1])
     have e:((b0q nv ws f p).2.to ((b0q nv ws f p).2.i+1)).i=(b0q nv ws f p).2.i+1:=rfl
     rw [e,a44q] at hK
     omega
    ·show Tm.cns (a++[(b0q nv ws f p).1])+p.i<=Tm.cns a+1+(b0q nv ws f p).2.i
     rw [a44q]; omega
theorem afDq (nv:NV) (ws:Ws) (F:Nat) (p:Rd):(i4q nv ws F p).1.cn+p.i<=(i4q nv ws F p).2.i:=by
 have T:=(q_cn nv ws F).1
 have h0:Tm.cn t0=0:=by simp [Tm.cn,Tm.cns]
 have two:∀(b:Bool),(⟨b,(b0q nv ws F p).1,(b0q nv ws F ((b0q nv ws F p).2.to ((b0q nv ws F p).2.i+1))).1⟩:Li).cn+p.i<=(b0q nv ws F ((b0q nv ws F p).2.to ((b0q nv ws F p).2.i+1))).2.i:=fun b=>by
  have h1:=T p
  have h2:=T ((b0q nv ws F p).2.to ((b0q nv ws F p).2.i+1))
  have e:((b0q nv ws F p).2.to ((b0q nv ws F p).2.i+1)).i=(b0q nv ws F p).2.i+1:=rfl
  rw [e] at h2
  unfold Li.cn
  simp only
  omega
 have one:∀(b:Bool) (q:Rd),p.i<=q.i->(⟨b,(b0q nv ws F q).1,t0⟩:Li).cn+p.i<=(b0q nv ws F q).2.i:=fun b q hq=>by
  have h1:=T q
  unfold Li.cn
  simp only [h0]
  omega
 unfold i4q
 split
 ·exact one false (p.to (p.i+1)) (aJz _)
 ·split
  ·exact two true
  ·split
   ·exact two false
   ·exact one true p (a3z _)
theorem a8Hq (nv:NV) (ws:Ws) (F:Nat):∀(f:Nat) (p:Rd) (a:List Li),cnL Li.cn (k1q nv ws F f p a).1+p.i<=cnL Li.cn a+1+(k1q nv ws F f p a).2.i
 | 0,p,a=>by rw [k1q]; show cnL Li.cn a+p.i<=cnL Li.cn a+1+p.i; omega
 | f+1,p,a=>by
  have hT:=afDq nv ws F p
  rw [k1q]
  split
  ·show cnL Li.cn a+p.i<=cnL Li.cn a+1+p.i; omega
  ·split
   ·have hK:=a8Hq nv ws F f ((i4q nv ws F p).2.to ((i4q nv ws F p).2.i+1)) (a++[(i4q nv ws F p).1])
    have e:((i4q nv ws F p).2.to ((i4q nv ws F p).2.i+1)).i=(i4q nv ws F p).2.i+1:=rfl
    rw [e,a89q] at hK
    omega
   ·show cnL Li.cn (a++[(i4q nv ws F p).1])+p.i<=cnL Li.cn a+1+(i4q nv ws F p).2.i
    rw [a89q]; omega
theorem aaCq (ws:Ws) (w:Wd) (hw:w≠wNo) (p:Rd) (h:p.i<=ws.length+1):p.i<=(e4q ws w p).i/\(e4q ws w p).i<=ws.length+1/\((e4q ws w p).g=true->(e4q ws w p).i<=ws.length/\p.i+1<=(e4q ws w p).i):=by
 unfold e4q
 split
 ·rename_i hr
  have hl:=o0q (ws:=ws) (i:=p.i) (by rw [hr]; exact hw)
  exact ⟨aJz _,Nat.le_succ_of_le hl,fun _=>⟨hl,a3z _⟩⟩
 ·exact ⟨a3z _,h,fun h=>by simp [Rd.no] at h⟩
theorem a6Xq (ws:Ws) (F:Nat) (hF:0<F) (p:Rd) (a:List (List Li)) (h1:p.i<=ws.length) (hg:p.g=true) (ha:∀l∈a,cnL Li.cn l<=ws.length+2):(p6q b1q ws F p a).1.i<=ws.length+1/\((p6q b1q ws F p a).1.g=true->(p6q b1q ws F p a).1.i<=ws.length/\p.i+1<=(p6q b1q ws F p a).1.i)/\p.i<=(p6q b1q ws F p a).1.i/\(p6q b1q ws F p a).1.sg.length+2*p.i<=p.sg.length+2*(p6q b1q ws F p a).1.i/\(∀l∈(p6q b1q ws F p a).2,cnL Li.cn l<=ws.length+2)/\(p6q b1q ws F p a).2.length<=a.length+1:=by
 unfold p6q
 split
 ·rename_i h
  have hl:=o0q (ws:=ws) (i:=p.i) (by rw [h]; decide)
  have hB:=a5eq ws F (if heW ws (p.i+1)=wDt then (p.to (p.i+1)).no else p.to (p.i+1)) (by split <;> (show p.i+1<=_; omega)) (by split <;> (intro _; exact hl))
  have e1:(if heW ws (p.i+1)=wDt then (p.to (p.i+1)).no else p.to (p.i+1)).i=p.i+1:=by split <;> rfl
  have e2:(if heW ws (p.i+1)=wDt then (p.to (p.i+1)).no else p.to (p.i+1)).sg=p.sg:=by split <;> rfl
  rw [e1,e2] at hB
  generalize k0q ws F (if heW ws (p.i+1)=wDt then (p.to (p.i+1)).no else p.to (p.i+1))=x at hB ⊢
  have hN:=aaCq ws wDt (by decide) x hB.1
  have hl2:(e4q ws wDt x).sg.length=x.sg.length:=by rw [(B2q ws wDt x).1]
  refine ⟨hN.2.1,fun h=>⟨(hN.2.2 h).1,?_⟩,?_,?_,ha,aJz _⟩
  ·have:=(hN.2.2 h).2; have:=hB.2.2.1; show p.i+1<=(e4q ws wDt x).i; omega
  ·have:=hN.1; have:=hB.2.2.1; show p.i<=(e4q ws wDt x).i; omega
  ·have:=hN.1; have:=hB.2.2.2; show (e4q ws wDt x).sg.length+2*p.i<=p.sg.length+2*(e4q ws wDt x).i; omega
 ·have hB:=a74q ws F hF F p [] h1
  have hC:=a8Hq b1q ws F F p []
  generalize k1q b1q ws F F p []=x at hB hC ⊢
  have hN:=aaCq ws wDt (by decide) x.2 hB.1
  have hl2:(e4q ws wDt x.2).sg.length=x.2.sg.length:=by rw [(B2q ws wDt x.2).1]
  refine ⟨hN.2.1,fun h=>⟨(hN.2.2 h).1,?_⟩,?_,?_,?_,by simp⟩
  ·have:=(hN.2.2 h).2; have:=hB.2.2.1; show p.i+1<=(e4q ws wDt x.2).i; omega
  ·have:=hN.1; have:=hB.2.2.1; show p.i<=(e4q ws wDt x.2).i; omega
  ·have:=hN.1; have:=hB.2.2.2; show (e4q ws wDt x.2).sg.length+2*p.i<=p.sg.length+2*(e4q ws wDt x.2).i; omega
  ·intro l hl
   rcases anz.1 hl with hl | hl
   ·exact ha l hl
   ·rw [azz.1 hl]
    have h0:cnL Li.cn []=0:=rfl
    rw [h0] at hC
    have:=hB.1
    omega
theorem a4iq (ws:Ws) (F:Nat) (hF:0<F):∀(f:Nat) (p:Rd) (a:List (List Li)),(p.g=true->p.i<=ws.length)->(∀l∈a,cnL Li.cn l<=ws.length+2)->∀l∈(o4q b1q ws F f p a).2,cnL Li.cn l<=ws.length+2
 | 0,p,a,h1,ha=>by rw [o4q]; exact ha
 | f+1,p,a,h1,ha=>by
  rw [o4q]
  split
  ·rename_i hc
   have hS:=a6Xq ws F hF p a (h1 hc.1) hc.1 ha
   exact a4iq ws F hF f _ _ (fun h=>(hS.2.1 h).1) hS.2.2.2.2.1
  ·exact ha
abbrev RdR:=List Sy×List Cl×Bool
def clsR (x:St1):List Cl:=x.2.map fun l=>⟨clm x.1.sg l⟩
open Classical in
noncomputable def rdE (x:St1):RdR:=if x.1.g=true/\C7q x.1.sg/\(1<=x.2.length/\x.2.length<=20)/\(∀c∈clsR x,B3q x.1.sg c) then (x.1.sg,clsR x,true) else ([],[],false)
theorem z6q {x:St1} (h:¬(x.1.g=true/\C7q x.1.sg/\(1<=x.2.length/\x.2.length<=20)/\(∀c∈clsR x,B3q x.1.sg c))):rdE x=([],[],false):=by unfold rdE; rw [if_neg h]
theorem aaoq {x:St1} (h:x.1.g=true/\C7q x.1.sg/\(1<=x.2.length/\x.2.length<=20)/\(∀c∈clsR x,B3q x.1.sg c)):rdE x=(x.1.sg,clsR x,true):=by unfold rdE; rw [if_pos h]
def tt0:List Sy:=[⟨⟨#[116,116]⟩,0,false⟩]
theorem kn0 : Kn tt0 := by
  constructor
  · intro x hx
    rw [tt0, List.mem_singleton] at hx
    subst hx
    refine ⟨⟨fun i hi c hc => ?_, by decide, by decide⟩, by decide⟩
    left
    unfold smB
    have hi : i < 2 := hi
    match i, hi with
    | 0, _ => have : c = 116 := by
                have e : (⟨#[116, 116]⟩ : ByteArray)[0]? = some 116 := rfl
                rw [e] at hc; exact (Option.some.inj hc).symm
              subst this; decide
    | 1, _ => have : c = 116 := by
                have e : (⟨#[116, 116]⟩ : ByteArray)[1]? = some 116 := rfl
                rw [e] at hc; exact (Option.some.inj hc).symm
              subst this; decide
  · intro x hx
    rw [tt0, List.mem_singleton] at hx
    subst hx; decide
theorem afuq {s:List Sy} (h:C7q s):Lm s:=⟨h.2.1.2,fun y hy=>by
 obtain ⟨i,hi⟩:=List.mem_iff_getElem?.1 hy
 exact (h.1 i (axz.1 hi).1 y hi).2.2.1.2⟩
theorem afmq (ws:Ws) (F f:Nat) (g:Bool):rdE (s5q b1q ws F f ⟨0,g,tt0⟩ [])=rdE (o4q b1q ws F f ⟨0,g,tt0⟩ []):=by
 cases g with
 | false =>
  rw [z6q (fun h=>by have:=a8Aq (nv:=b1q) (ws:=ws) (F:=F) (f:=f) (p:=⟨0,false,tt0⟩) (a:=[]) rfl; rw [this] at h; cases h.1),z6q (fun h=>by have:=adbq (nv:=b1q) (ws:=ws) (F:=F) (f:=f) (p:=⟨0,false,tt0⟩) (a:=[]) rfl; rw [this] at h; cases h.1)]
 | true =>
  by_cases hs:(s5q b1q ws F f ⟨0,true,tt0⟩ []).1.g=true
  ·have e:s5q b1q ws F f ⟨0,true,tt0⟩ []=(⟨(s5q b1q ws F f ⟨0,true,tt0⟩ []).1.i,true,(s5q b1q ws F f ⟨0,true,tt0⟩ []).1.sg⟩,(s5q b1q ws F f ⟨0,true,tt0⟩ []).2):=Prod.ext (a1bq hs) rfl
   rw [e,aaZq f _ _ _ _ _ _ e kn0]
  ·by_cases hq:(o4q b1q ws F f ⟨0,true,tt0⟩ []).1.g=true/\C7q (o4q b1q ws F f ⟨0,true,tt0⟩ []).1.sg
   ·have e:o4q b1q ws F f ⟨0,true,tt0⟩ []=(⟨(o4q b1q ws F f ⟨0,true,tt0⟩ []).1.i,true,(o4q b1q ws F f ⟨0,true,tt0⟩ []).1.sg⟩,(o4q b1q ws F f ⟨0,true,tt0⟩ []).2):=Prod.ext (a1bq hq.1) rfl
    have e2:=aeAq f _ _ _ _ _ _ e kn0 (afuq hq.2)
    rw [e2] at hs
    exact absurd rfl hs
   ·rw [z6q (fun h=>hs h.1),z6q (fun h=>hq ⟨h.1,h.2.1⟩)]
theorem abRq (ws:Ws) (p:Rd) (c:Cl) (hc:c.cn<=1200000000000):XC pg 91 [.dat c.da,.one (.op 2000 0)] [(2000,.var [.op 2001 0]),(2001,.var [.d (.sl (ws.map Tx.da)),.d (.int .i64 (p.i:Int)),.ol 2002,.d (.bool (!p.g))]),(2002,.tr 104 3 (p.sg.map Sy.da))] (B (!dB (B3q p.sg c))) [(2000,.var [.op 2001 0]),(2001,.var [.d (.sl (ws.map Tx.da)),.d (.int .i64 (p.i:Int)),.ol 0,.d (.bool (!p.g))]),(0,.tr 104 3 (p.sg.map Sy.da))]:=a61q ⟨_,a3sq p.sg c hc,rfl,rfl⟩
abbrev cfO (ws:Ws) (p:Rd) (cs:List Cl):List (Nat×Ob):=[(2000,.tr 29 1 (cs.map Cl.da)),(2001,.var [.op 2002 0]),(2002,.var [.d (.sl (ws.map Tx.da)),.d (.int .i64 (p.i:Int)),.ol 0,.d (.bool (!p.g))]),(0,.tr 104 3 (p.sg.map Sy.da))]
theorem afIq (ws:Ws) (p:Rd) (cs:List Cl) (hl:cs.length<=1000000) (hc:∀c∈cs,c.cn<=1200000000000):∀(q P:List Cl),cs=P++q->∃n:Int,(0<=n↔¬ ∀c∈q,B3q p.sg c)/\h4q (Z n) (cfO ws p cs) (cs.length:Int) (P.length:Int) (cs.map Cl.da) (ws.map Tx.da) (p.i:Int) (!p.g) (p.sg.map Sy.da):=by
 intro q
 induction q with
 | nil =>
  intro P e
  refine ⟨-1,⟨fun h=>by omega,fun h=>absurd (fun c hc=>by cases hc) h⟩,?_⟩
  apply k9q
  exact a3q (j4q (by rw [e]; simp)) ⟨rfl,rfl⟩
 | cons c q ih =>
  intro P e
  have hP:P.length<cs.length:=by rw [e]; simp
  have hx:(cs.map Cl.da)[P.length]?=some c.da:=by rw [e]; simp
  have hcall:=abRq ws p c (hc c (by rw [e]; simp))
  obtain ⟨n,hn,ihn⟩:=ih (P++[c]) (by rw [e]; simp)
  rw [show (P++[c]).length=P.length+1 by simp] at ihn
  have w1:a0z .i64 ((P.length:Int)+1)=((P.length+1:Nat):Int):=wr1 hP (by omega)
  have hm:P.length<(cs.map Cl.da).length:=by simpa using hP
  by_cases hk:B3q p.sg c
  ·refine ⟨n,?_,?_⟩
   ·rw [hn]
    constructor
    ·intro h h2; exact h fun c' hc'=>h2 c' (amz _ hc')
    ·intro h h2; exact h fun c' hc'=>by
      rcases a6z.1 hc' with rfl | hc'
      ·exact hk
      ·exact h2 c' hc'
   ·apply k9q
    refine a6q (k7q hP) ⟨P.length,rfl,⟨hm⟩,P.length,rfl,_,hx,_,_,_,_,_,hcall,a3q (by rw [g9q.2 hk]; rfl) ?_⟩
    rw [w1]; exact ihn
  ·refine ⟨(P.length:Int),⟨fun _ h2=>hk (h2 c (by simp)),fun _=>by omega⟩,?_⟩
   apply k9q
   exact a6q (k7q hP) ⟨P.length,rfl,⟨hm⟩,P.length,rfl,_,hx,_,_,_,_,_,hcall,a6q (by rw [j1q.2 hk]; rfl) ⟨rfl,rfl⟩⟩
theorem aeKq (ws:Ws) (p:Rd) (cs:List Cl) (hl:cs.length<=1000000) (hc:∀c∈cs,c.cn<=1200000000000):XC pg 90 [.one (.ol 2000),.one (.clo 91 [(2001,0)])] [(2000,.tr 29 1 (cs.map Cl.da)),(2001,.var [.op 2002 0]),(2002,.var [.d (.sl (ws.map Tx.da)),.d (.int .i64 (p.i:Int)),.ol 2003,.d (.bool (!p.g))]),(2003,.tr 104 3 (p.sg.map Sy.da))] (B (!dB (∀c∈cs,B3q p.sg c))) (cfO ws p cs):=by
 obtain ⟨n,hn,h⟩:=afIq ws p cs hl hc cs [] rfl
 apply A3q
 refine ⟨n,_,_,_,_,_,C3q (by rw [a9z]; exact h),?_,rfl⟩
 congr 1
 rw [Bool.eq_iff_iff,decide_eq_true_eq,hn]
 simp [dB]
def rdO (x:RdR):List (Nat×Ob):=[(0,.tr 104 3 (x.1.map Sy.da)),(1,.tr 29 1 (x.2.1.map Cl.da))]
def rdV (x:RdR):AV:=.tup [.one (.ol 0),.one (.ol 1),B x.2.2]
theorem aeNq (s:List Sy) (a:List (List Li)):(a.map fun l=>[Da.sl ((clm s l).map Li.da)])=(a.map fun l=>(⟨clm s l⟩:Cl)).map Cl.da:=by simp [Cl.da]
theorem agOq (ws:Ws) (p:Rd) (hg:p.g=true) (a:List (List Li)) (hs:C7q p.sg) (hal:1<=a.length/\a.length<=20) (hcn:∀l∈a,cnL Li.cn l<=5000):∀(q P:List (List Li)),a=P++q->q7q (rdV (rdE (p,a))) (rdO (rdE (p,a))) (a.length:Int) (P.length:Int) (P.map fun l=>[Da.sl ((clm p.sg l).map Li.da)]) (k8q a) (ws.map Tx.da) (p.i:Int) (!p.g) (p.sg.map Sy.da):=by
 have hs8:=hs.2.1.2
 intro q
 induction q with
 | nil =>
  intro P e
  have e:P=a:=by simpa using e.symm
  subst e
  have hcls:∀c∈(P.map fun l=>(⟨clm p.sg l⟩:Cl)),c.cn<=1200000000000:=fun c hc=>by
   obtain ⟨l,hl,rfl⟩:=aIz.1 hc
   have:=a9tq p.sg l
   have:=hcn l hl
   show cnL Li.cn (clm p.sg l)<=_
   omega
  have hcf:=aeKq ws p (P.map fun l=>(⟨clm p.sg l⟩:Cl)) (by simp; omega) hcls
  rw [<-aeNq] at hcf
  apply Z3q
  refine a3q (j4q (by simp)) ⟨_,_,_,_,_,_,hcf,?_⟩
  by_cases hk:∀c∈(P.map fun l=>(⟨clm p.sg l⟩:Cl)),B3q p.sg c
  ·rw [aaoq (x:=(p,P)) ⟨hg,hs,hal,hk⟩]
   exact a3q (by rw [g9q.2 hk]; rfl) ⟨rfl,rfl⟩
  ·rw [z6q (x:=(p,P)) fun h=>hk h.2.2.2]
   exact a6q (by rw [j1q.2 hk]; rfl) ⟨rfl,rfl⟩
 | cons l q ih =>
  intro P e
  have hP:P.length<a.length:=by rw [e]; simp
  have hx:(k8q a)[P.length]?=some [.sl (l.map Li.da)]:=by rw [e]; simp [k8q]
  have hm:P.length<(k8q a).length:=by simpa [k8q] using hP
  have hC:=a22q p.sg (by omega) l (by have:=hcn l (by rw [e]; simp); omega)
  have:=ih (P++[l]) (by rw [e]; simp)
  rw [show (P++[l]).length=P.length+1 by simp,atz] at this
  have w1:a0z .i64 ((P.length:Int)+1)=((P.length+1:Nat):Int):=wr1 hP (by omega)
  apply Z3q
  refine a6q (k7q hP) ⟨P.length,rfl,⟨hm⟩,P.length,rfl,_,hx,_,hC,⟨by simp only [a9z,acz,ahz]; omega⟩,?_⟩
  rw [w1]
  exact this
theorem ah3q (ws:Ws) (s6:Int) (h6:s6<0) (p:Rd) (a:List (List Li)) (hal:a.length<=3001) (hcn:∀l∈a,cnL Li.cn l<=5000):ifB (decide ((0:Int)<=s6)) (rdV ([],[],false)=rdV (rdE (p,a))/\rdO ([],[],false)=rdO (rdE (p,a)))
  (ifB (!p.g) (rdV ([],[],false)=rdV (rdE (p,a))/\rdO ([],[],false)=rdO (rdE (p,a)))
  (∃b:Bool,XC pg 39 [L (p.sg.map Sy.da)] [] (B b) []/\ifB (!b) (rdV ([],[],false)=rdV (rdE (p,a))/\rdO ([],[],false)=rdO (rdE (p,a)))
  (∃b:Bool,XC pg 89 [Z ((k8q a).length:Int),Z 1,Z 20] [] (B b) []/\ifB (!b) (rdV ([],[],false)=rdV (rdE (p,a))/\rdO ([],[],false)=rdO (rdE (p,a)))
  (q7q (rdV (rdE (p,a))) (rdO (rdE (p,a))) ((k8q a).length:Int) 0 [] (k8q a) (ws.map Tx.da) (p.i:Int) (!p.g) (p.sg.map Sy.da))))):=by
 have hlen:(k8q a).length=a.length:=by simp [k8q]
 rw [hlen]
 refine a3q (decide_eq_false (by omega)) (c5q (fun h => ?_) fun h=>⟨_,a0Iq p.sg,c5q (fun h1 => ?_) fun h1=>⟨_,F5q _ _ _,c5q (fun h2 => ?_) fun h2 => ?_⟩⟩)
 ·rw [z6q (x:=(p,a)) fun hc=>by have h3:p.g=true:=hc.1; rw [h3] at h; cases h]; exact ⟨rfl,rfl⟩
 ·rw [z6q (x:=(p,a)) fun hc=>j1q.1 (l9q h1) hc.2.1]; exact ⟨rfl,rfl⟩
 ·rw [z6q (x:=(p,a)) fun hc => ?_]; exact ⟨rfl,rfl⟩
  have h3:=l9q h2
  rw [aBz] at h3
  exact h3 (m1q.2 ⟨by have:=hc.2.2.1.1; show (1:Int)<=(a.length:Int); simp only at this; omega,by have:=hc.2.2.1.2; show (a.length:Int)<=20; simp only at this; omega⟩)
 ·have h3:=m1q.1 (j2q h2)
  exact agOq ws p (by simpa using h) a (g9q.1 (j2q h1)) ⟨by omega,by omega⟩ hcn a [] rfl
theorem aclq (ws:Ws) (s6:Int) (h6:s6<0) (p:Rd) (a:List (List Li)) (hal:a.length<=3001) (hcn:∀l∈a,cnL Li.cn l<=5000) (hc:¬(p.g=true/\p.i<ws.length)):n2q (rdV (rdE (p,a))) (rdO (rdE (p,a))) (ws.map Tx.da) s6 (k8q a) (ws.map Tx.da) (p.i:Int) (!p.g) (p.sg.map Sy.da):=by
 have hE:=ah3q ws s6 h6 p a hal hcn
 apply L9q
 refine a6q (decide_eq_true h6) ?_
 rw [a9z]
 refine c5q (fun hg=>a3q (decide_eq_false fun h=>hc ⟨by simpa using hg,by omega⟩) ?_) fun hg => ?_
 ·exact hE
 ·exact hE
theorem rdL8 (ws:Ws) (hw:ws.length<=3000) (F:Nat) (hF:2*ws.length+3<=F) (s6:Int) (r:AV) (O:List (Nat×Ob)) (a:List (List Li)) (hal:a.length<=3000):∀(f:Nat) (p:Rd) (ls:List Li),p.i<=ws.length->p.sg.length<=100000+2*p.i->ws.length-p.i<f->ls.length<=p.i ->
  n2q r O (ws.map Tx.da) s6 (k8q (a++[(k1q b1q ws F f p ls).1])) (ws.map Tx.da) ((e4q ws wDt (k1q b1q ws F f p ls).2).i:Int) (!(e4q ws wDt (k1q b1q ws F f p ls).2).g) ((e4q ws wDt (k1q b1q ws F f p ls).2).sg.map Sy.da) ->
  E5q r O (ws.map Tx.da) s6 (k8q a) (ls.map Li.da) (ws.map Tx.da) (p.i:Int) (!p.g) (p.sg.map Sy.da):=by
 have end8:∀(x:Rd) (ls:List Li),n2q r O (ws.map Tx.da) s6 (k8q (a++[ls])) (ws.map Tx.da) ((e4q ws wDt x).i:Int) (!(e4q ws wDt x).g) ((e4q ws wDt x).sg.map Sy.da)->Do ((aQz (k8q a)+aQz [[Da.sl (ls.map Li.da)]])*24<=140737488355328)/\∃(xs:List (List Da)) (m:Int) (s:List (List Da)) (b:Bool),XC pg 88 [.one (.op 2000 0),T wDt] (qI ws x) (.tup []) [(2000,.var [.d (.sl xs),.d (.int .i64 m),.ol 0,.d (.bool b)]),(0,.tr 104 3 s)]/\n2q r O (ws.map Tx.da) s6 (k8q a++[[Da.sl (ls.map Li.da)]]) xs m b s:=fun x ls h=>by
  refine ⟨⟨by simp only [k8q,a9z,acz,ahz]; omega⟩,_,_,_,_,H2q ws hw wDt (by decide) x,?_⟩
  rw [show k8q a++[[Da.sl (ls.map Li.da)]]=k8q (a++[ls]) by simp [k8q]]
  exact h
 intro f
 induction f with
 | zero=>intro p ls _ _ h; omega
 | succ f ih =>
  intro p ls hi hs hf hls hk
  apply a4qq
  rw [k1q] at hk
  refine c5q (fun hg => ?_) fun hg => ?_
  ·have hg:p.g=true:=by simpa using hg
   rw [if_neg (by simp [hg])] at hk
   have hL:=a8Qq ws hw F (by omega) p hi hs
   have hv:=a8Fq ws F (by omega) p hi
   generalize i4q b1q ws F p=l at hL hv hk
   obtain ⟨⟨lp,⟨lf,lv,lk⟩,⟨rf,rv,rk⟩⟩,p2⟩:=l
   simp only at hv hk
   have hI:=q6q ws hw wBr (by decide) p2
   have ed:ls.map Li.da++[[.bool lp,.int .i64 lf,.int .i64 lv,.sl (Tm.das lk),.int .i64 rf,.int .i64 rv,.sl (Tm.das rk)]]=(ls++[(⟨lp,⟨lf,lv,lk⟩,⟨rf,rv,rk⟩⟩:Li)]).map Li.da:=by rw [atz]; rfl
   refine ⟨_,_,_,_,_,_,_,_,_,_,_,hL,⟨by simp only [a9z,acz,ahz]; omega⟩,_,_,_,_,_,hI,?_⟩
   rw [ed]
   by_cases h1:heW ws p2.i=wBr
   ·rw [if_pos h1] at hk
    rw [V7q h1]
    have hl:=o0q (ws:=ws) (i:=p2.i) (by rw [h1]; decide)
    have:=ih (p2.to (p2.i+1)) (ls++[⟨lp,⟨lf,lv,lk⟩,⟨rf,rv,rk⟩⟩]) hl (by show p2.sg.length<=100000+2*(p2.i+1); omega) (by show ws.length-(p2.i+1)<f; omega) (by show (ls++[_]).length<=p2.i+1; rw [a2z,List.length_singleton]; omega) hk
    exact a3q (by rw [decide_eq_true h1]; rfl) this
   ·rw [if_neg h1] at hk
    rw [V0q h1]
    exact a6q (by rw [decide_eq_false h1]; rfl) (end8 p2 _ hk)
  ·have hg:p.g=false:=by simpa using hg
   rw [if_pos hg] at hk
   exact end8 p ls hk
theorem rdL4 (ws:Ws) (hw:ws.length<=3000) (F:Nat) (hF:2*ws.length+3<=F) (s6:Int) (h6:s6<0):∀(f:Nat) (p:Rd) (a:List (List Li)),(p.g=true->p.i<=ws.length/\a.length<=p.i/\ws.length+1-p.i<f)->p.sg.length<=8+2*p.i->a.length<=3000->(∀l∈a,cnL Li.cn l<=ws.length+2)->n2q (rdV (rdE (o4q b1q ws F f p a))) (rdO (rdE (o4q b1q ws F f p a))) (ws.map Tx.da) s6 (k8q a) (ws.map Tx.da) (p.i:Int) (!p.g) (p.sg.map Sy.da):=by
 intro f
 induction f with
 | zero =>
  intro p a hp hs ha hcn
  have hg:p.g=false:=by
   cases hg:p.g with
   | false=>rfl
   | true=>have:=(hp hg).2.2; omega
  have e:p.no=p:=by cases p; simp only [Rd.no] at *; subst hg; rfl
  rw [o4q,e]
  exact aclq ws s6 h6 p a (by omega) (fun l hl=>by have:=hcn l hl; omega) (fun h=>by rw [hg] at h; cases h.1)
 | succ f ih =>
  intro p a hp hs ha hcn
  by_cases hc:p.g=true/\p.i<ws.length
  ·rw [o4q,if_pos hc]
   obtain ⟨hp1,hp2,hp3⟩:=hp hc.1
   have hS:=a6Xq ws F (by omega) p a hp1 hc.1 hcn
   have go:=ih (p6q b1q ws F p a).1 (p6q b1q ws F p a).2 (fun h=>⟨(hS.2.1 h).1,by have:=(hS.2.1 h).2; have:=hS.2.2.2.2.2; omega,by have:=(hS.2.1 h).2; omega⟩) (by have:=hS.2.2.2.1; omega) (by have:=hS.2.2.2.2.2; omega) hS.2.2.2.2.1
   generalize rdE (o4q b1q ws F f (p6q b1q ws F p a).1 (p6q b1q ws F p a).2)=R at go ⊢
   have hI:=q6q ws hw wAc (by decide) p
   apply L9q
   refine a6q (decide_eq_true h6) ?_
   rw [a9z]
   refine a6q (by rw [hc.1]; rfl) (a6q (decide_eq_true (by omega)) ⟨_,_,_,_,_,hI,?_⟩)
   unfold p6q at go
   by_cases h:heW ws p.i=wAc
   ·rw [if_pos h] at go
    rw [V7q h]
    have hB:=a5iq ws hw F (by omega) (p.to (p.i+1)) hc.2 (by show p.sg.length<=100000+2*(p.i+1); omega)
    exact a6q (decide_eq_true h) ⟨_,_,_,_,hB,_,_,_,_,H2q ws hw wDt (by decide) _,go⟩
   ·rw [if_neg h] at go
    rw [V0q h]
    exact a3q (decide_eq_false h) (rdL8 ws hw F hF s6 _ _ a ha F p [] hp1 (by omega) (by omega) (asz _) go)
  ·rw [o4q,if_neg hc]
   exact aclq ws s6 h6 p a (by omega) (fun l hl=>by have:=hcn l hl; omega) hc
noncomputable def Y8q (t:ByteArray):RdR:=rdE (o4q b1q ((u9q t).choose) 6010 6010 ⟨0,decide ((r8q t).2<0),tt0⟩ [])
theorem a7kq (t:ByteArray):XC pg 33 [T t] [] (rdV (Y8q t)) (rdO (Y8q t)):=by
 have hW:=a6bq t
 unfold Y8q
 obtain ⟨h1,h2⟩:=(u9q t).choose_spec
 generalize (u9q t).choose=ws at h1 h2 ⊢
 rw [h1] at hW
 apply a9kq
 refine ⟨_,_,hW,?_⟩
 generalize (r8q t).2=s6
 by_cases h6:s6<0
 ·have:=rdL4 ws h2 6010 (by omega) s6 h6 6010 ⟨0,true,tt0⟩ [] (fun _=>⟨asz _,asz _,by show ws.length+1-0<6010; omega⟩) (by show (1:Nat)<=8+2*0; omega) (asz _) (fun l hl=>by cases hl)
  rw [decide_eq_true h6]
  exact this
 ·rw [decide_eq_false h6,show o4q b1q ws 6010 6010 ⟨0,false,tt0⟩ []=(⟨0,false,tt0⟩,[]) by rw [show (6010:Nat)=6009+1 from rfl,o4q,if_neg (by simp)]]
  rw [z6q (fun h=>by cases h.1)]
  apply L9q
  exact a3q (decide_eq_false h6) (a6q (decide_eq_true (by omega)) ⟨rfl,rfl⟩)
def X7q (x:RdR):AV:=.tup [L (x.1.map Sy.da),L (x.2.1.map Cl.da),B x.2.2]
theorem agLq (ws:Ws) (p:Rd) (hg:p.g=true) (a:List (List Li)) (hs:C7q p.sg) (hal:1<=a.length/\a.length<=20) (hcn:∀l∈a,cnL Li.cn l<=5000):∀(q P:List (List Li)),a=P++q->(∀l∈P,B3q p.sg ⟨clm p.sg l⟩)->t1q (X7q (rdE (p,a))) [] (P.length:Int) [] (ws.map Tx.da) (p.i:Int) p.g (p.sg.map Sy.da) (k8q a) ((P.map fun l=>(⟨clm p.sg l⟩:Cl)).map Cl.da):=by
 have hs8:=hs.2.1.2
 intro q
 induction q with
 | nil =>
  intro P e hk
  have e:P=a:=by simpa using e.symm
  subst e
  apply X8q
  have hk2:∀c∈clsR (p,P),B3q p.sg c:=fun c hc=>by
   obtain ⟨l,hl,rfl⟩:=aIz.1 hc
   exact hk l hl
  rw [aaoq (x:=(p,P)) ⟨hg,hs,hal,hk2⟩]
  exact a3q (j4q (by simp [k8q])) ⟨rfl,rfl⟩
 | cons l q ih =>
  intro P e hk
  have hP:P.length<a.length:=by rw [e]; simp
  have hx:(k8q a)[P.length]?=some [.sl (l.map Li.da)]:=by rw [e]; simp [k8q]
  have hm:P.length<(k8q a).length:=by simpa [k8q] using hP
  have hln:=hcn l (by rw [e]; simp)
  have hC:=a23q p.sg (by omega) l (by omega)
  have hK:=a3oq p.sg ⟨clm p.sg l⟩ (by have:=a9tq p.sg l; show cnL Li.cn (clm p.sg l)<=_; omega)
  have w1:a0z .i64 ((P.length:Int)+1)=((P.length+1:Nat):Int):=wr1 hP (by omega)
  apply X8q
  refine a6q (k7q hm) ⟨P.length,rfl,_,hx,_,hC,_,hK,?_⟩
  by_cases hok:B3q p.sg ⟨clm p.sg l⟩
  ·have:=ih (P++[l]) (by rw [e]; simp) (fun l' hl'=>by
    rcases anz.1 hl' with h | h
    ·exact hk l' h
    ·rw [azz.1 h]; exact hok)
   rw [show (P++[l]).length=P.length+1 by simp,atz,atz] at this
   refine a3q (by rw [g9q.2 hok]; rfl) ⟨⟨by simp only [a9z,acz,ahz]; omega⟩,?_⟩
   rw [w1]
   exact this
  ·rw [z6q (x:=(p,a)) fun h=>hok (h.2.2.2 _ (aIz.2 ⟨l,by rw [e]; simp,rfl⟩))]
   exact a6q (by rw [j1q.2 hok]; rfl) ⟨rfl,rfl⟩
theorem aghq (ws:Ws) (p:Rd) (a:List (List Li)) (hal:a.length<=3001) (hcn:p.g=true->∀l∈a,cnL Li.cn l<=5000):ifB (!p.g) (X7q ([],[],false)=X7q (rdE (p,a))/\([]:List (Nat×Ob))=[])
  (∃b:Bool,XC pg 94 [L (p.sg.map Sy.da)] [] (B b) []/\ifB (!b) (X7q ([],[],false)=X7q (rdE (p,a))/\([]:List (Nat×Ob))=[])
  (∃b:Bool,XC pg 95 [Z ((k8q a).length:Int),Z 1,Z 20] [] (B b) []/\ifB (!b) (X7q ([],[],false)=X7q (rdE (p,a))/\([]:List (Nat×Ob))=[])
  (t1q (X7q (rdE (p,a))) [] 0 [] (ws.map Tx.da) (p.i:Int) p.g (p.sg.map Sy.da) (k8q a) []))):=by
 have hlen:(k8q a).length=a.length:=by simp [k8q]
 rw [hlen]
 refine c5q (fun h => ?_) fun h=>⟨_,a0Hq p.sg,c5q (fun h1 => ?_) fun h1=>⟨_,D4q _ _ _,c5q (fun h2 => ?_) fun h2 => ?_⟩⟩
 ·rw [z6q (x:=(p,a)) fun hc=>by have h3:p.g=true:=hc.1; rw [h3] at h; cases h]; exact ⟨rfl,rfl⟩
 ·rw [z6q (x:=(p,a)) fun hc=>j1q.1 (l9q h1) hc.2.1]; exact ⟨rfl,rfl⟩
 ·rw [z6q (x:=(p,a)) fun hc => ?_]; exact ⟨rfl,rfl⟩
  have h3:=l9q h2
  rw [aBz] at h3
  exact h3 (m1q.2 ⟨by have:=hc.2.2.1.1; show (1:Int)<=(a.length:Int); simp only at this; omega,by have:=hc.2.2.1.2; show (a.length:Int)<=20; simp only at this; omega⟩)
 ·have h3:=m1q.1 (j2q h2)
  have hg:p.g=true:=by simpa using h
  exact agLq ws p hg a (g9q.1 (j2q h1)) ⟨by omega,by omega⟩ (hcn hg) a [] rfl (fun l hl=>by cases hl)
theorem aajq (ws:Ws) (p:Rd) (a:List (List Li)) (hal:a.length<=3001) (hcn:p.g=true->∀l∈a,cnL Li.cn l<=5000) (hc:¬(p.g=true/\p.i<ws.length)):A1q (X7q (rdE (p,a))) [] [] (ws.map Tx.da) (p.i:Int) p.g (p.sg.map Sy.da) (k8q a):=by
 have hE:=aghq ws p a hal hcn
 apply a04q
 rw [a9z]
 refine c5q (fun hg=>a3q (decide_eq_false fun h=>hc ⟨hg,by omega⟩) ?_) fun hg => ?_
 ·exact hE
 ·exact hE
theorem agKq (ws:Ws) (hw:ws.length<=3000) (F:Nat) (hF:2*ws.length+3<=F):∀(f:Nat) (p:Rd) (a:List (List Li)),p.i<=ws.length->(p.g=true->a.length<=p.i/\ws.length-p.i<f)->p.sg.length<=8->a.length<=3000->((s5q b1q ws F f p a).1.g=true->∀l∈(s5q b1q ws F f p a).2,cnL Li.cn l<=5000)->A1q (X7q (rdE (s5q b1q ws F f p a))) [] [] (ws.map Tx.da) (p.i:Int) p.g (p.sg.map Sy.da) (k8q a):=by
 intro f
 induction f with
 | zero =>
  intro p a hi hp hs ha hcn
  have hg:p.g=false:=by
   cases hg:p.g with
   | false=>rfl
   | true=>have:=(hp hg).2; omega
  have e:p.no=p:=by cases p; simp only [Rd.no] at *; subst hg; rfl
  rw [s5q,e]
  exact aajq ws p a (by omega) (fun h=>by rw [hg] at h; cases h) (fun h=>by rw [hg] at h; cases h.1)
 | succ f ih =>
  intro p a hi hp hs ha hcn
  by_cases hc:p.g=true/\p.i<ws.length
  ·rw [s5q,if_pos hc] at hcn ⊢
   obtain ⟨hp2,hp3⟩:=hp hc.1
   have hS:=ad2q ws F p a hi hs
   have hC:=a7aq ws hw F (by omega) p hi hs a ha
   have go:=ih (sSays b1q ws F p a).1 (sSays b1q ws F p a).2 hS.1 (fun h=>⟨by have:=hS.2.2.1 h; have:=hS.2.2.2; omega,by have:=hS.2.2.1 h; omega⟩) hS.2.1 (by have:=hS.2.2.2; omega) hcn
   apply a04q
   rw [a9z]
   exact a6q hc.1 (a6q (decide_eq_true (by omega)) ⟨_,_,_,_,_,hC,go⟩)
  ·rw [s5q,if_neg hc] at hcn ⊢
   exact aajq ws p a (by omega) hcn hc
theorem a7eq (t:ByteArray):XC pg 34 [T t] [] (X7q (Y8q t)) []:=by
 have hW:=a5Kq t
 unfold Y8q
 obtain ⟨h1,h2⟩:=(u9q t).choose_spec
 generalize (u9q t).choose=ws at h1 h2 ⊢
 rw [h1] at hW
 rw [<-afmq]
 apply a90q
 refine ⟨_,_,hW,?_⟩
 generalize decide ((r8q t).2<0)=g
 refine agKq ws h2 6010 (by omega) 6010 ⟨0,g,tt0⟩ [] (asz _) (fun _=>⟨asz _,by show ws.length-0<6010; omega⟩) (by show (1:Nat)<=8; omega) (asz _) fun hg l hl => ?_
 cases g with
 | false =>
  have:=a8Aq (nv:=b1q) (ws:=ws) (F:=6010) (f:=6010) (p:=⟨0,false,tt0⟩) (a:=[]) rfl
  rw [this] at hg; cases hg
 | true =>
  have e:=aaZq 6010 _ _ _ _ _ _ (Prod.ext (a1bq hg) rfl:s5q b1q ws 6010 6010 ⟨0,true,tt0⟩ []=(⟨(s5q b1q ws 6010 6010 ⟨0,true,tt0⟩ []).1.i,true,(s5q b1q ws 6010 6010 ⟨0,true,tt0⟩ []).1.sg⟩,(s5q b1q ws 6010 6010 ⟨0,true,tt0⟩ []).2)) kn0
  have h3:=a4iq ws 6010 (by omega) 6010 ⟨0,true,tt0⟩ [] (fun _=>asz _) (fun l hl=>by cases hl) l (by rw [e]; exact hl)
  omega
theorem af0q (t:ByteArray):(Y8q t).1.length<=8/\(Y8q t).2.1.length<=20/\u3q (Y8q t).1<=24/\C6q (Y8q t).2.1<=1000000:=by
 unfold Y8q
 obtain ⟨_,h2⟩:=(u9q t).choose_spec
 generalize (u9q t).choose=ws at h2 ⊢
 have h3:=a4iq ws 6010 (by omega) 6010 ⟨0,decide ((r8q t).2<0),tt0⟩ [] (fun _=>asz _) (fun l hl=>by cases hl)
 generalize o4q b1q ws 6010 6010 ⟨0,decide ((r8q t).2<0),tt0⟩ []=x at h3 ⊢
 unfold rdE
 split
 ·rename_i h
  have e:u3q x.1.sg=3*x.1.sg.length:=by
   generalize x.1.sg=s
   induction s with
   | nil=>rfl
   | cons y r ih=>rw [a1pq,ih]; obtain ⟨_,_,_⟩:=y; simp only [Q0q,acz]; omega
  have h8:=h.2.1.2.1.2
  refine ⟨h8,by show (clsR x).length<=20; simp [clsR]; exact h.2.2.1.2,by show u3q x.1.sg<=24; omega,?_⟩
  have key:∀(s:List Sy) (a:List (List Li)),(∀l∈a,cnL Li.cn l<=ws.length+2)->C6q (a.map fun l=>(⟨clm s l⟩:Cl))<=15010*a.length:=by
   intro s a
   induction a with
   | nil=>intro _; simp [C6q]
   | cons l r ih =>
    intro hl
    have i1:=ih fun l' h'=>hl l' (amz _ h')
    have i2:=hl l (by simp)
    have i3:=a9tq s l
    have i4:=agnq (clm s l)
    rw [aqz,a2Lq,acz]
    simp only
    omega
  have:=key x.1.sg x.2 h3
  have:=h.2.2.1.2
  show C6q (clsR x)<=_
  unfold clsR
  omega
 ·exact ⟨by simp,by simp,by simp [u3q],by simp [C6q]⟩
theorem a1qq (t:ByteArray) (_:True):XC pg 5 [.one (.d (.str t))] [] (B true) []:=by
 have c1:=a7eq t
 have c2:=a7kq t
 obtain ⟨b1,b2,b3,b4⟩:=af0q t
 generalize Y8q t=x at c1 c2 b1 b2 b3 b4
 obtain ⟨s,cs,ok⟩:=x
 simp only at b1 b2 b3 b4
 have e0:=aacq s
 have e1:=a6aq cs
 have m0:=a7mq s 1 (by omega) (by omega) (by omega)
 have m1:=a3Wq cs (1+u3q s) (by omega) (by omega)
 have d0:=a7wq s 1 (by omega) (by omega) (by omega)
 have d1:=a3Sq cs (1+u3q s) (by omega) (by omega)
 apply a29q
 refine c5q (fun _=>⟨rfl,rfl⟩) fun _ => ?_
 exact ⟨_,_,_,c1,_,_,_,c2,_,e0,a3q rfl ⟨_,e1,a3q rfl (a3q (by simp) ⟨_,_,m0,_,_,m1,_,d0,a3q (decide_eq_false (by omega)) ⟨_,d1,a3q (decide_eq_false (by omega)) (a3q (by simp) ⟨_,_,_,c2,_,e0,a3q rfl ⟨_,e1,a3q rfl (a3q (by simp) ⟨_,d0,a3q (decide_eq_false (by omega)) ⟨_,d1,a3q (decide_eq_false (by omega)) (a3q (by simp) ⟨rfl,rfl⟩)⟩⟩)⟩⟩)⟩⟩)⟩⟩
end AM
end Go.Proofs.YtmgfoalfimpkjaaGreat
