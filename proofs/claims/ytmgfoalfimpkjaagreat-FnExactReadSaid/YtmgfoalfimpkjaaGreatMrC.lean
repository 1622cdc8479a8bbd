/- A part of the proof of the law that the last of these texts states, for every input; no conditions. -/
import Derived.Test.YtmgfoalfimpkjaaGreatMrB
set_option linter.unusedVariables false
set_option linter.unusedSimpArgs false
open Bool renaming and_eq_true->a0z,or_eq_true->agz,not_eq_true'->ajz
open List renaming mem_map->a1z,all_eq_true->a3z,contains_iff_mem->a4z,mem_cons->a5z,mem_of_mem_take->a7z,mem_append_right->a8z,mem_of_mem_drop->a9z,replicate->acz,any_eq_true->aez,isEmpty_iff->afz,mem_singleton->aiz,not_mem_nil->alz,mem_append->aoz,append_nil->apz,contains_eq_mem->arz,mem_append_left->auz,all_cons->avz,mapM_toArray->axz,length_take->ayz,mem_flatten->azz,find?_some->aBz,nil_append->aCz,mapM_cons->aDz
open Option renaming getD_some->a2z,isSome_iff_exists->a6z,isNone_iff_eq_none->aaz
open Nat renaming le_trans->abz,le_of_ble_eq_true->aqz,mul_le_mul_right->atz,min_le_left->aAz
open Go.Result renaming andThen_ok->adz
open Array renaming getD_eq_getD_getElem?->ahz,getElem?_eq_getElem->akz,toArray_toList->asz,length_toList->awz
open Go.Sem renaming run_bind->amz,run_pure->anz
namespace Go.Proofs.YtmgfoalfimpkjaaGreat
namespace AM
open Go
structure j0q (rg ix:Nat):Prop where
 h:False
theorem f5q {a b:Nat}:¬j0q a b:=fun h=>h.h
def sealL (s:St):List Nat->St
 | []=>s
 | k::r=>match s.gob k with
  | some (.tr _ _ xs)=>match decide (k<2000) with
   | true=>sealL (s.seal k xs) r
   | false=>sealL s r
  | _=>sealL s r
theorem To.sealL:∀{ks:List Nat} {s:St},To s (sealL s ks)
 | [],s=>To.refl s
 | k::r,s=>by
  simp only [AM.sealL]
  split
  ·rename_i hk
   split
   ·rename_i hl
    exact To.trans (fun Γ a w S β hs=>hs.seal hk (of_decide_eq_true hl)) To.sealL
   ·exact To.sealL
  ·exact To.sealL
def ndB:List Nat->Bool
 | []=>true
 | k::r => !r.contains k&&ndB r
theorem a3Rq:∀{l:List Nat},ndB l=true->l.Nodup
 | [],_=>List.nodup_nil
 | k::r,h=>by
  simp only [ndB,a0z,ajz,arz,decide_eq_false_iff_not] at h
  exact List.nodup_cons.2 ⟨h.1,a3Rq h.2⟩
def acXq:Option (List CK)->Bool
 | some ks=>ks.all fun c=>decide (c ≠ .l/\c ≠ .f)
 | none=>false
def a7Wq (z:Prop) (E:Env) (s:St) (e kk n:Nat) (tr:Bool) (Y:AV) (K:Bool->List Nat->List (List Da)->Prop):Prop:=match Y with
 | .one (.d (.sl ys))=>Do (∀y∈ys,y.length=n)/\match tr&&acXq (a1q E.cks e) with
  | true=>Do (x6q ys)/\K true [] ys
  | false=>K false [] ys
 | .one (.ol k2)=>opt z (s.gob k2) fun B=>opt z (asL B) fun p=>chk z (decide (p.2.2.1=n))<|match tr&&p.1 with
  | true=>chk z (decide (k2≠kk)) (K true [k2] p.2.2.2)
  | false=>K false [] p.2.2.2
 | .one .e0=>K tr [] []
 | .one (.ps k2 es2 lo2 n2)=>opt z (s.gob k2) fun B=>match B with
  | .lst Ee es xs=>chk z (decide (es=n)&&decide (es2=n)) (Do (lo2+n2<=xs.length)/\Do (∀y∈xs,y.length=n)/\K false [] ((xs.drop lo2).take n2))
  | .tr Ee es xs=>chk z (decide (es=n)&&decide (es2=n)) (Do (lo2+n2<=xs.length)/\Do (∀y∈xs,y.length=n)/\K false [] ((xs.drop lo2).take n2))
  | _=>z
 | _=>z
theorem a6Dq {z:Prop} (hz:¬z) {E:Env} {s:St} {e kk n:Nat} {tr:Bool} {y:Operand} {Y:AV} {K:Bool->List Nat->List (List Da)->Prop} (hY:s.ev y=some Y) (h:a7Wq z E s e kk n tr Y K) :
  ∃tr' ks ys,K tr' ks ys/\SrcA s y tr' kk n ys ks/\(tr'=true->tr=true)/\((∀y∈ys,y.length=n)\/∃k2 tr2 E2,s.gob k2=some (mkL tr2 E2 n ys)):=by
 unfold a7Wq at h
 split at h
 ·obtain ⟨h1,h⟩:=h
  split at h
  ·rename_i hb
   simp only [a0z] at hb
   exact ⟨true,[],_,h.2,.d hY (.inr h.1.h),fun _=>hb.1,.inl h1.h⟩
  ·exact ⟨false,[],_,h,.d hY (.inl rfl),by simp,.inl h1.h⟩
 ·rename_i k2
  obtain ⟨B,hB,h⟩:=a0q hz h
  obtain ⟨⟨tr2,E2,es2,ys⟩,hp,h⟩:=a0q hz h
  have hp:=J0q hp
  rw [hp] at hB
  dsimp only at h hB
  obtain ⟨hn,h⟩:=a7q hz h
  have hn:=of_decide_eq_true hn
  rw [hn] at hB
  split at h
  ·rename_i hb
   simp only [a0z] at hb
   obtain ⟨hne,h⟩:=a7q hz h
   rw [hb.2] at hB
   exact ⟨true,_,_,h,.t hY hB (of_decide_eq_true hne),fun _=>hb.1,.inr ⟨k2,true,E2,hB⟩⟩
  ·exact ⟨false,_,_,h,.o hY hB (.inl rfl),by simp,.inr ⟨k2,tr2,E2,hB⟩⟩
 ·refine ⟨_,_,_,h,.s fun Γ a w S β hs => ?_,fun e=>e,.inl (by simp)⟩
  have h1:=(hs.eval hY).one_inv
  generalize hv:a.eval y=v at h1
  cases h1
  exact ⟨by simp,.inl ⟨none,0,rfl,rfl,RowR.nil⟩⟩
 ·obtain ⟨B,hB,h⟩:=a0q hz h
  split at h
  ·rename_i Ee es xs
   obtain ⟨hl,⟨h1⟩,⟨h2⟩,h⟩:=a7q hz h
   simp only [a0z,decide_eq_true_eq] at hl
   obtain ⟨e1,e2⟩:=hl
   rw [e2] at hY
   rw [e1] at hB
   refine ⟨false,_,_,h,.s fun Γ a w S β hs => ?_,by simp,.inl fun r hr=>h2 r (a9z (a7z hr))⟩
   exact Src.of_part (c:=none) (hs.mem.ob _ _ hB) (hs.eval hY).one_inv h1
  ·rename_i Ee es xs
   obtain ⟨hl,⟨h1⟩,⟨h2⟩,h⟩:=a7q hz h
   simp only [a0z,decide_eq_true_eq] at hl
   obtain ⟨e1,e2⟩:=hl
   rw [e2] at hY
   rw [e1] at hB
   refine ⟨false,_,_,h,.s fun Γ a w S β hs => ?_,by simp,.inl fun r hr=>h2 r (a9z (a7z hr))⟩
   exact Src.of_part (c:=none) (hs.mem.ob _ _ hB).lst_of_tr (hs.eval hY).one_inv h1
  ·exact absurd h hz
 ·exact absurd h hz
def sealStore (s:St) (x y:Operand):St:=match s.ev x with
 | some (.one (.op kk _))=>match s.gob kk with
  | some (.tr _ _ _)=>match (s.ev y).bind AV.cells with
   | some zs=>sealL s (AV.idsL zs)
   | none=>s
  | _=>s
 | _=>s
theorem To.sealStore {s:St} {x y:Operand}:To s (sealStore s x y):=by
 unfold AM.sealStore
 split
 ·split
  ·split
   ·exact To.sealL
   ·exact To.refl s
  ·exact To.refl s
 ·exact To.refl s
def a94q (z:Prop) (E:Env) (o:Oper) (s:St) (k:St->Prop):Prop:=match o.op with
 | .store t x y=>opt z (a1q E.tab t) fun i=>opt z (s.ev x) fun X=>opt z ((s.ev y).bind AV.cells) fun zs=>chk z o.dst.isNone<|match X with
  | .one (.op kk off)=>opt z (s.gob kk) fun Y=>match Y with
   | .var cs=>chk z (decide (i.n=zs.length)&&decide (off+zs.length<=cs.length)&&a0Oq zs) (k (s.setOb kk (.var (cs.take off++zs++cs.drop (off+zs.length)))))
   | Y=>opt z (asL Y) fun p=>opt z (a1q E.cks p.2.1) fun ck=>match p.1,l5q s zs with
    | true,some q=>chk z (decide (i.n=q.1.length/\0<q.1.length/\q.1.length<=p.2.2.1)&&ndB q.2 && !q.2.contains kk&&(q.2.isEmpty||decide (kk<2000))) <|
     orH (a0bq E x) (fun c0=>∃m:Nat,off=m*p.2.2.1+c0/\shp ck fun c=>p.2.2.2[m]?=some c/\chk z (decide (c0+q.1.length<=c.length)) (k (s.mv (killL q.2) kk q.2 (.tr p.2.1 p.2.2.1 (p.2.2.2.set m (c.take c0++q.1++c.drop (c0+q.1.length))))))) (p.2.2.1+1-q.1.length) 0
    | _,_=>opt z (toDs zs) fun ds=>chk z (decide (i.n=ds.length/\0<ds.length/\ds.length<=p.2.2.1)) <|
     orH (a0bq E x) (fun c0=>∃m:Nat,off=m*p.2.2.1+c0/\shp ck fun c=>p.2.2.2[m]?=some c/\chk z (decide (c0+ds.length<=c.length)) (k ((s.setOb kk (.lst p.2.1 p.2.2.1 p.2.2.2)).setOb kk (.lst p.2.1 p.2.2.1 (p.2.2.2.set m (c.take c0++ds++c.drop (c0+ds.length))))))) (p.2.2.1+1-ds.length) 0
  | _=>z
 | _=>z
def a6wq (z:Prop) (E:Env) (o:Oper) (s:St) (k:St->Prop):Prop:=match o.op with
 | .store t x y=>opt z (a1q E.tab t) fun i=>opt z (s.ev x) fun X=>opt z ((s.ev y).bind AV.cells) fun zs=>opt z (toDs zs) fun ds=>chk z (o.dst.isNone&&ds.all Da.flat)<|match X with
  | .one (.op kk off)=>opt z (s.gob kk) fun Y=>match Y with
   | .mt Ee es xs=>opt z (a1q E.cks Ee) fun ck=>chk z (decide (i.n=ds.length/\0<ds.length/\ds.length<=es)) <|
     orH (a0bq E x) (fun c0=>∃m:Nat,off=m*es+c0/\shp ck fun c=>xs[m]?=some c/\chk z (decide (c0+ds.length<=c.length)&&((c.drop c0).take ds.length).all Da.flat) (k (s.mv (killL []) kk [] (.mt Ee es (xs.set m (c.take c0++ds++c.drop (c0+ds.length))))))) (es+1-ds.length) 0
   | _=>z
  | _=>z
 | _=>z
def a9mq (z:Prop) (E:Env) (n:Nat) (o:Oper) (s:St) (k:St->Prop):Prop:=match o.op with
 | .load t x=>opt z (a1q E.tab t) fun i=>opt z o.dst fun d=>opt z (s.ev x) fun X=>chk z (!i.agg&&decide (d<n))<|match X with
  | .one (.op kk off)=>opt z (s.gob kk) fun Y=>match Y with
   | .mt Ee es xs=>opt z (a1q E.cks Ee) fun ck =>
     orH (a0bq E x) (fun c0=>∃m:Nat,off=m*es+c0/\shp ck fun c=>xs[m]?=some c/\match c[c0]? with
      | some (.sl ys)=>∀(a:Option Addr) (l r:Nat),k ((s.setOb kk (.mu Ee es xs m c0 a l r)).upd (some d) (.one (.raw a l r)) [])
      | _=>False) es 0
   | _=>z
  | _=>z
 | _=>z
def vNil (z:Prop) (E:Env) (n:Nat) (o:Oper) (s:St) (k:St->Prop):Prop:=match o.op with
 | .binOp .eql t x y _=>opt z (a1q E.tab t) fun i=>opt z o.dst fun d=>opt z (s.ev x) fun X=>chk z (decide (i.pr=4)&&i.el.isSome&&decide (d<n))<|match X with
  | .one (.d (.sl xs))=>(xs.flatten=[]->k (s.upd (some d) (B true) []))/\k (s.upd (some d) (B false) [])
  | _=>z
 | _=>z
def a8uq (s:St) (x y:Operand):Bool:=match s.ev x,s.ev y with
 | some (.one (.d (.sl _))),some (.one .e0)=>true
 | _,_=>false
def isMt (s:St) (x:Operand):Bool:=match s.ev x with
 | some (.one (.op kk _))=>match s.gob kk with
  | some (.mt _ _ _)=>true
  | _=>false
 | _=>false
def vLit (z:Prop) (E:Env) (n:Nat) (o:Oper) (s:St) (k:St->Prop):Prop:=match o.op with
 | .buildSlice t m ps=>opt z o.dst fun d=>opt z (a1q E.tab t) fun i=>opt z i.el fun e=>opt z (a1q E.zer e) fun zz=>chk z (decide (i.pr=4/\0<zz.1/\m*zz.1<=16777216/\d<n))<|opt z (s6q s.ev ps.toList) fun ps' =>
   opt z (y5q (fun q=>some (q*zz.1,zz.1)) (acz m zz.2.2).flatten ps') fun out=>opt z (l5q s out) fun p=>chk z (ndB p.2&&s.fresh [(d,.lst e zz.1 [])]) (k (s.appd (some d) d p.2 (.tr e zz.1 (x1q zz.1 m p.1))))
 | _=>z
def a5oq (s:St) (o:Oper):List Nat:=match o.op with
 | .buildSlice _ _ ps=>match s6q s.ev ps.toList with
  | some ps'=>AV.idsL (ps'.map (·.2)).flatten
  | none=>[]
 | _=>[]
def srcP (z:Prop) (s:St) (n:Nat) (zd:Option (List Da)) (Y:AV) (K:List (List Da)->Prop):Prop:=match Y with
 | .one (.d (.sl ys))=>chk z zd.isNone (Do (∀y∈ys,y.length=n)/\K ys)
 | .one (.d (.int _ m))=>opt z zd fun zd=>∃q:Nat,m=(q:Int)/\K (acz q zd)
 | .one (.ol k2)=>opt z (s.gob k2) fun B=>opt z (asL B) fun p=>chk z (zd.isNone&&decide (p.2.2.1=n)) (K p.2.2.2)
 | .one (.ps k2 es2 lo2 n2)=>opt z (s.gob k2) fun B=>match B with
  | .lst Ee es xs=>chk z (zd.isNone&&decide (es=n)&&decide (es2=n)) (Do (lo2+n2<=xs.length)/\K ((xs.drop lo2).take n2))
  | .fu Ee es xs c=>chk z (zd.isNone&&decide (es=n)&&decide (es2=n)) (Do (lo2+n2<=xs.length)/\K ((xs.drop lo2).take n2))
  | _=>z
 | _=>z
structure a8lq (s:St) (z:Operand) (es:Nat) (ys:List (List Da)):Prop where
 h:∀(Γ:Cx) (a:Act) (w:World) (S:Nat->Prop) (β:Nat->OLoc),Sim Γ s a w S β->(∀y∈ys,y.length=es)/\Src w (RepDs w S ys.flatten) es ys.length (a.eval z)
theorem a3yq {s:St} {y:Operand} {k E es lo n:Nat} {c:Option Nat} {xs:List (List Da)} (hy:s.ev y=some (.one (.ps k es lo n))) (hk:s.gob k=some (mkP c E es xs)) (hl:lo+n<=xs.length):a8lq s y es ((xs.drop lo).take n):=⟨fun Γ a w S β hs=>by
 have hX:=hs.mem.ob k _ hk
 obtain ⟨hp,_⟩:=p5q.1 hX
 exact ⟨fun r hr=>hp.2.2.1 r (a9z (a7z hr)),Src.of_part hX (hs.eval hy).one_inv hl⟩⟩
theorem a1Bq {z:Prop} (hz:¬z) {s:St} {n:Nat} {zd:Option (List Da)} {y:Operand} {Y:AV} {K:List (List Da)->Prop} (hpos:0<n) (hY:s.ev y=some Y) (h:srcP z s n zd Y K) :
  ∃ys,K ys/\((zd=none/\a8lq s y n ys)\/∃d kq q,zd=some d/\s.ev y=some (I kq ((q:Nat):Int))/\ys=acz q d):=by
 unfold srcP at h
 split at h
 ·obtain ⟨h0,h1,h⟩:=a7q hz h
  refine ⟨_,h,.inl ⟨by simpa using h0,⟨fun Γ a w S β hs=>⟨h1.h,?_⟩⟩⟩⟩
  have h2:=(hs.eval hY).one_inv
  generalize hv:a.eval y=v at h2
  cases h2 with | d h2=>exact Src.of_data hpos h2 h1.h
 ·rename_i kq m
  obtain ⟨d,hd,q,hq,h2⟩:=a0q hz h
  subst hq
  exact ⟨_,h2,.inr ⟨d,kq,q,hd,hY,rfl⟩⟩
 ·rename_i k2
  obtain ⟨B,hB,h⟩:=a0q hz h
  obtain ⟨⟨tr2,E2,es2,ys⟩,hp,h⟩:=a0q hz h
  have hp:=J0q hp
  rw [hp] at hB
  dsimp only at h hB
  obtain ⟨hn,h3⟩:=a7q hz h
  simp only [a0z,decide_eq_true_eq] at hn
  obtain ⟨h0,rfl⟩:=hn
  refine ⟨_,h3,.inl ⟨by simpa using h0,⟨fun Γ a w S β hs=>⟨(a1fq (hs.mem.ob k2 _ hB)).2,?_⟩⟩⟩⟩
  have h2:=(hs.eval hY).one_inv
  generalize hv:a.eval y=v at h2
  cases h2
  exact (Src.of_own (hs.mem.ob k2 _ hB)).mono fun us hr=>hr.ds
 ·rename_i k2 es2 lo2 n2
  obtain ⟨B,hB,h⟩:=a0q hz h
  split at h
  ·rename_i Ee es xs
   obtain ⟨hn,h1,h3⟩:=a7q hz h
   simp only [a0z,decide_eq_true_eq] at hn
   obtain ⟨⟨h0,rfl⟩,e2⟩:=hn
   rw [e2] at hY
   exact ⟨_,h3,.inl ⟨by simpa using h0,a3yq (c:=none) hY hB h1.h⟩⟩
  ·rename_i Ee es xs c
   obtain ⟨hn,h1,h3⟩:=a7q hz h
   simp only [a0z,decide_eq_true_eq] at hn
   obtain ⟨⟨h0,rfl⟩,e2⟩:=hn
   rw [e2] at hY
   exact ⟨_,h3,.inl ⟨by simpa using h0,a3yq (c:=some c) hY hB h1.h⟩⟩
  ·exact absurd h hz
 ·exact absurd h hz
def asP:Ob->Option (Option Nat×Nat×Nat×List (List Da))
 | .lst E es xs=>some (none,E,es,xs)
 | .fu E es xs c=>some (some c,E,es,xs)
 | _=>none
theorem a0Kq {X:Ob} {p:Option Nat×Nat×Nat×List (List Da)} (h:asP X=some p):X=mkP p.1 p.2.1 p.2.2.1 p.2.2.2:=by
 cases X <;> simp [asP] at h <;> subst h <;> rfl
def zdOf (E:Env) (t':TypeId) (zc:List At):Option (Option (List Da)):=match a1q E.tab t' with
 | some i=>match i.ik with
  | some _=>(toDs zc).map some
  | none=>if i.pr=4/\i.el.isSome then some none else none
 | none=>none
def srcC (z:Prop) (s:St) (n m:Nat) (Y:AV) (K:Nat->List (List Da)->Prop):Prop :=
 let other:=srcP z s n none Y fun ys=>K ys.length (ys.take (min ys.length m))
 match Y with
 | .one (.ps k2 es2 lo2 n2)=>opt z (s.gob k2) fun B=>match B with
  | .fu Ee es xs c=>chk z (decide (es=n)&&decide (es2=n)) (Do (lo2+min n2 m<=xs.length)/\K n2 ((xs.drop lo2).take (min n2 m)))
  | _=>other
 | _=>other
structure aeDq (s:St) (z:Operand) (es m nn:Nat) (ys:List (List Da)):Prop where
 len:ys.length=min nn m
 h:∀(Γ:Cx) (a:Act) (w:World) (S:Nat->Prop) (β:Nat->OLoc),Sim Γ s a w S β->(∀y∈ys,y.length=es)/\∃us,us.length=min nn m*es/\RepDs w S ys.flatten us/\∀P:Program,(Builtin.lenOf (a.eval z)).run P w = .ok nn w/\(Builtin.firstCells es (min nn m) (a.eval z)).run P w = .ok us.toArray w
theorem adnq {z:Prop} (hz:¬z) {s:St} {n m:Nat} {y:Operand} {Y:AV} {K:Nat->List (List Da)->Prop} (hpos:0<n) (hY:s.ev y=some Y) (h:srcC z s n m Y K):∃nn ys,K nn ys/\aeDq s y n m nn ys:=by
 have other:srcP z s n none Y (fun ys=>K ys.length (ys.take (min ys.length m)))->∃nn ys,K nn ys/\aeDq s y n m nn ys:=fun h=>by
  obtain ⟨ys,h,hsrc⟩:=a1Bq hz hpos hY h
  obtain ⟨_,hsrc⟩:=hsrc.resolve_right (by rintro ⟨_,_,_,h,_⟩; cases h)
  refine ⟨_,_,h,by rw [ayz]; omega,fun Γ a w S β hs => ?_⟩
  obtain ⟨h1,h2⟩:=hsrc.h Γ a w S β hs
  obtain ⟨us,g1,g2,g3⟩:=h2.first h1 (aAz ys.length m)
  exact ⟨fun y hy=>h1 y (a7z hy),us,g1,g2,g3⟩
 unfold srcC at h
 dsimp only at h
 split at h
 ·obtain ⟨B,hB,h⟩:=a0q hz h
  split at h
  ·rename_i Ee es xs c
   obtain ⟨hl,⟨h1⟩,h'⟩:=a7q hz h
   clear h
   simp only [a0z,decide_eq_true_eq] at hl
   obtain ⟨rfl,rfl⟩:=hl
   refine ⟨_,_,h',by rw [ayz,List.length_drop]; omega,fun Γ a w S β hs => ?_⟩
   have hX:=hs.mem.ob _ _ hB
   obtain ⟨hp,_⟩:=(p5q (c:=some c)).1 hX
   obtain ⟨us,g1,g2,g3⟩:=abCq (c:=some c) hX (hs.eval hY).one_inv h1
   exact ⟨fun r hr=>hp.2.2.1 r (a9z (a7z hr)),us,g1,g2,fun P=>⟨(g3 P).1,(g3 P).2 (aAz _ _)⟩⟩
  ·exact other h
 ·exact other h
def vPt (z:Prop) (E:Env) (n:Nat) (o:Oper) (s:St) (k:St->Prop):Prop:=match o.op with
 | .call c=>match c.callee,c.args.toList,c.argTypes.toList with
  | .builtin .copy,[x,y],[t,t']=>chk z (o.dst.all (· < n))<|opt z (a1q E.tab t) fun i=>opt z i.el fun e=>opt z (a1q E.tab e) fun i2=>opt z (s.ev x) fun X=>opt z (s.ev y) fun Y=>match X with
   | .one (.ps kk es lo m)=>opt z (s.gob kk) fun A=>opt z (asP A) fun p=>chk z (decide (i.pr=4/\p.2.1=e/\p.2.2.1=es/\i2.n=es/\0<es))<|srcC z s es m Y fun nn ys =>
     let K:=k ((s.setOb kk (mkP p.1 e es (p.2.2.2.take lo++ys++p.2.2.2.drop (lo+min nn m)))).upd o.dst (Z ((min nn m:Nat):Int)) [])
     match p.1 with
     | none=>Do (lo+min nn m<=p.2.2.2.length)/\K
     | some _=>Do (lo<=p.2.2.2.length/\lo+min nn m<=281474976710656)/\K
   | _=>z
  | .builtin .clear,[x],[t]=>chk z (o.dst.all (· < n))<|opt z (a1q E.tab t) fun i=>opt z i.el fun e=>opt z (a1q E.zer e) fun zz=>opt z (toDs zz.2.2) fun zd=>opt z (s.ev x) fun X=>match X with
   | .one (.ps kk es lo m)=>opt z (s.gob kk) fun A=>opt z (asP A) fun p=>chk z (decide (i.pr=4/\p.2.1=e/\p.2.2.1=es/\zz.1=es/\0<es)) <|
     Do (lo+m<=p.2.2.2.length)/\k ((s.setOb kk (mkP p.1 e es (p.2.2.2.take lo++acz m zd++p.2.2.2.drop (lo+m)))).upd o.dst (.tup []) [])
   | _=>z
  | .builtin .append,[x,y],[t,t']=>chk z (o.dst.all (· < n))<|opt z o.dst fun d=>opt z (a1q E.tab t) fun i=>opt z i.el fun e=>opt z (a1q E.zer e) fun zz=>opt z (zdOf E t' zz.2.2) fun zd=>opt z (s.ev x) fun X=>opt z (s.ev y) fun Y=>chk z (decide (i.pr=4/\0<zz.1/\0<zz.2.1))<|match X with
   | .one .e0=>chk z (s.fresh [(d,.lst e zz.1 [])])<|srcP z s zz.1 zd Y fun ys=>Do (ys.length*zz.2.1<=140737488355328)/\k (s.upd (some d) (.one (.ol d)) [(d,.lst e zz.1 ys)])
   | .one (.ps kk es lo m)=>opt z (s.gob kk) fun A=>match A with
    | .lst Ee es' xs=>chk z (decide (Ee=e/\es'=es/\zz.1=es))<|srcP z s es zd Y fun ys =>
      Do (lo+m+ys.length<=xs.length/\ys.length*zz.2.1<=140737488355328)/\k ((s.setOb kk (.lst e es (xs.take (lo+m)++ys++xs.drop (lo+m+ys.length)))).upd (some d) (.one (.ps kk es lo (m+ys.length))) [])
    | .fu Ee es' xs c=>chk z (decide (Ee=e/\es'=es/\zz.1=es)&&s.fresh [(d,.lst e es [])])<|srcP z s es zd Y fun ys =>
      Do (lo+m<=xs.length/\(lo+m+ys.length)*zz.2.1<=140737488355328)/\ifB (decide (lo+m+ys.length<=c))
       (k ((s.setOb kk (.fu e es (xs.take (lo+m)++ys++xs.drop (lo+m+ys.length)) c)).upd (some d) (.one (.ps kk es lo (m+ys.length))) []))
       (k (s.upd (some d) (.one (.ol d)) [(d,.lst e es ((xs.drop lo).take m++ys))]))
    | _=>z
   | _=>z
  | _,_,_=>z
 | _=>z
def isPt (E:Env) (s:St) (c:Call):Bool:=match c.args.toList,c.argTypes.toList with
 | [x,_],[t,t']=>decide (t≠t')||(match s.ev x with
  | some (.one (.ps _ _ _ _))=>true
  | _=>false)
 | _,_=>false
def vA (z : Prop) (E : Env) (n : Nat) (o : Oper) (s : St) (k : St → Prop) : Prop := match o.op with
  | .store _ x y => a94q z E o (sealStore s x y) k
  | .buildSlice _ _ _ => vLit z E n o (sealL s (a5oq s o)) k
  | .call c => match isPt E s c || (match c.callee with | .builtin .append => false | _ => true) with
   | true => vPt z E n o s k
   | false => match c.callee, c.args.toList, c.argTypes.toList with
    | .builtin .append, [x, y], [t, t'] => chk z (decide (t = t') && o.dst.all (· < n)) <| opt z (a1q E.tab t) fun i => opt z i.el fun e => opt z (a1q E.zer e) fun zz => chk z (decide (i.pr = 4 ∧ 0 < zz.1 ∧ 0 < zz.2.1)) <| opt z (s.ev x) fun X => opt z (s.ev y) fun Y => match X with
      | .one (.ol kk) => opt z (s.gob kk) fun A => opt z (asL A) fun p => chk z (decide (p.2.1 = e ∧ p.2.2.1 = zz.1 ∧ kk < 2000)) <| a7Wq z E s e kk zz.1 p.1 Y fun tr' ks ys =>
          Do ((p.2.2.2.length + ys.length) * zz.2.1 ≤ 140737488355328) ∧ k (s.appd o.dst kk ks (mkL tr' e zz.1 (p.2.2.2 ++ ys)))
      | .one .e0 => opt z o.dst fun d => chk z (decide (d < 2000) && s.fresh [(d, .lst e zz.1 [])]) <| a7Wq z E s e d zz.1 true Y fun tr' ks ys =>
          Do (ys.length * zz.2.1 ≤ 140737488355328) ∧ k (s.appd o.dst d ks (mkL tr' e zz.1 ys))
      | _ => z
    | _, _, _ => z
  | _ => z
def Step (n:Nat) (P:Program) (o:Oper) (s s':St):Prop:=∀Γ:Cx,Γ.n=n->∀(ops:Array Oper) (rest:List Oper) (K:St->Prop),o.guard=none->d8q Γ P ops rest K s'->d8q Γ P ops (o::rest) K s
theorem arr2 {α:Type} {xs:Array α} {a b:α} (h:xs.toList=[a,b]):xs = #[a,b]:=by
 rw [<-asz (xs:=xs),h]
theorem a03q {a b c:Nat} (hb:0<b) (h:a*b<=c):a<=c:=abz (Nat.le_mul_of_pos_right a hb) h
section
variable {Γ:Cx} {P:Program} {E:Env} {z:Prop} {ops:Array Oper} {rest:List Oper} {o:Oper} {s:St} {k K:St->Prop}
theorem Step.sound {s':St} (h:Step Γ.n P o s s') (hg:o.guard=none) (hr:d8q Γ P ops rest K s'):d8q Γ P ops (o::rest) K s:=h Γ rfl ops rest K hg hr
theorem a9Qq {n : Nat} (hE : EnvOk P E) (hz : ¬ z) (h : a94q z E o s k) : ∃ s', Step n P o s s' ∧ k s' := by
  unfold a94q at h
  split at h
  · rename_i t x y ho
    obtain ⟨i, hi, h⟩ := a0q hz h
    obtain ⟨X, hX, h⟩ := a0q hz h
    obtain ⟨zs, hzs, h⟩ := a0q hz h
    obtain ⟨hd, h⟩ := a7q hz h
    have hd : o.dst = none := by simpa using hd
    obtain ⟨Z, hZ, hc⟩ : ∃ Z, s.ev y = some Z ∧ Z.cells = some zs := by
      cases hy : s.ev y with
      | none => rw [hy] at hzs; simp at hzs
      | some Z => rw [hy] at hzs; exact ⟨Z, rfl, hzs⟩
    obtain ⟨d1, j1, hdd, hj, g1, g2, g3, g4, g5, g6, g7⟩ := b2q (hE.tab t i hi)
    obtain ⟨kk, off, rfl⟩ : ∃ kk off, X = .one (.op kk off) := by
      split at h
      · exact ⟨_, _, rfl⟩
      · exact absurd h hz
    dsimp only at h
    obtain ⟨Y, hY, h⟩ := a0q hz h
    by_cases hv : ∃ cs, Y = .var cs
    · obtain ⟨cs, rfl⟩ := hv
      dsimp only at h
      obtain ⟨hl, h⟩ := a7q hz h
      simp only [Bool.and_eq_true, decide_eq_true_eq] at hl
      exact ⟨_, fun Γ hn ops rest K hg h => adoq hE.tab ho hg hd hX hZ hc hY hi hl.1.1 hl.1.2 hl.2 h, h⟩
    · have hlst : ∀ (tr : Bool) (Ee es : Nat) (xs : List (List Da)) (ck : List CK), Y = mkL tr Ee es xs → (opt z (toDs zs) fun ds => chk z (decide (i.n = ds.length ∧ 0 < ds.length ∧ ds.length ≤ es)) <|
          orH (a0bq E x) (fun c0 => ∃ m : Nat, off = m * es + c0 ∧ shp ck fun c => xs[m]? = some c ∧ chk z (decide (c0 + ds.length ≤ c.length)) (k ((s.setOb kk (.lst Ee es xs)).setOb kk (.lst Ee es (xs.set m (c.take c0 ++ ds ++ c.drop (c0 + ds.length))))))) (es + 1 - ds.length) 0) → ∃ s', Step n P o s s' ∧ k s' := by
        intro tr Ee es xs ck hp h
        rw [hp] at hY
        obtain ⟨ds, hds, h⟩ := a0q hz h
        obtain ⟨hl, h⟩ := a7q hz h
        obtain ⟨h1, h2, h3⟩ := of_decide_eq_true hl
        obtain ⟨q, m, hoff, h⟩ := a2Nq h
        obtain ⟨c, _, hm, h⟩ := D3q h
        obtain ⟨hq, h⟩ := a7q hz h
        have hq := of_decide_eq_true hq
        have hT : To s (s.setOb kk (.lst Ee es xs)) := fun Γ a w S β hs => ⟨S, β, hs.setX hY fun hX => by
          cases tr with
          | true => exact ObRep.lst_of_tr hX
          | false => exact hX⟩
        have hX' : (s.setOb kk (.lst Ee es xs)).ev x = some (.one (.op kk off)) := by cases x <;> exact hX
        have hZ' : (s.setOb kk (.lst Ee es xs)).ev y = some Z := by cases y <;> exact hZ
        exact ⟨_, fun Γ hn ops rest K hg h => a1eq hT (accq hE.tab ho hg hd hX' hZ' hc hds (by rw [a2sq, if_pos rfl]) hi h1 hm hoff hq h2 h), h⟩
      have h' : opt z (asL Y) fun p => opt z (a1q E.cks p.2.1) fun ck => match p.1, l5q s zs with
        | true, some q => chk z (decide (i.n = q.1.length ∧ 0 < q.1.length ∧ q.1.length ≤ p.2.2.1) && ndB q.2 && !q.2.contains kk && (q.2.isEmpty || decide (kk < 2000))) <|
          orH (a0bq E x) (fun c0 => ∃ m : Nat, off = m * p.2.2.1 + c0 ∧ shp ck fun c => p.2.2.2[m]? = some c ∧ chk z (decide (c0 + q.1.length ≤ c.length)) (k (s.mv (killL q.2) kk q.2 (.tr p.2.1 p.2.2.1 (p.2.2.2.set m (c.take c0 ++ q.1 ++ c.drop (c0 + q.1.length))))))) (p.2.2.1 + 1 - q.1.length) 0
        | _, _ => opt z (toDs zs) fun ds => chk z (decide (i.n = ds.length ∧ 0 < ds.length ∧ ds.length ≤ p.2.2.1)) <|
          orH (a0bq E x) (fun c0 => ∃ m : Nat, off = m * p.2.2.1 + c0 ∧ shp ck fun c => p.2.2.2[m]? = some c ∧ chk z (decide (c0 + ds.length ≤ c.length)) (k ((s.setOb kk (.lst p.2.1 p.2.2.1 p.2.2.2)).setOb kk (.lst p.2.1 p.2.2.1 (p.2.2.2.set m (c.take c0 ++ ds ++ c.drop (c0 + ds.length))))))) (p.2.2.1 + 1 - ds.length) 0 := by
        cases Y with
        | var cs => exact absurd ⟨cs, rfl⟩ hv
        | _ => exact h
      clear h
      obtain ⟨⟨tr, Ee, es, xs⟩, hp, h⟩ := a0q hz h'
      have hp := J0q hp
      dsimp only at h hp
      obtain ⟨ck, hck, h⟩ := a0q hz h
      cases tr with
      | false => exact hlst false Ee es xs ck hp h
      | true =>
        cases hqq : l5q s zs with
        | none => rw [hqq] at h; exact hlst true Ee es xs ck hp h
        | some q =>
          rw [hqq] at h
          rw [hp] at hY
          obtain ⟨hl, h⟩ := a7q hz h
          simp only [Bool.and_eq_true, decide_eq_true_eq, Bool.not_eq_true', List.contains_eq_mem, decide_eq_false_iff_not, Bool.or_eq_true, List.isEmpty_iff] at hl
          obtain ⟨⟨⟨⟨h1, h2, h3⟩, h4⟩, h5⟩, h6⟩ := hl
          obtain ⟨c0, m, hoff, h⟩ := a2Nq h
          obtain ⟨c, _, hm, h⟩ := D3q h
          obtain ⟨hq, h⟩ := a7q hz h
          exact ⟨_, fun Γ hn ops rest K hg h => a9Tq ho hg hd hX hZ hc hqq (a3Rq h4) h5 h6 hY hj (g2.trans h1) hm hoff (of_decide_eq_true hq) h2 h, h⟩
  · exact absurd h hz
theorem a7iq (hE:EnvOk P E) (hz:¬z) (hg:o.guard=none) (hk:∀s',k s'->d8q Γ P ops rest K s') (h:a6wq z E o s k):d8q Γ P ops (o::rest) K s:=by
 unfold a6wq at h
 split at h
 ·rename_i t x y ho
  obtain ⟨i,hi,h⟩:=a0q hz h
  obtain ⟨X,hX,h⟩:=a0q hz h
  obtain ⟨zs,hzs,h⟩:=a0q hz h
  obtain ⟨ds,hds,h⟩:=a0q hz h
  obtain ⟨hd,h⟩:=a7q hz h
  simp only [a0z,aaz] at hd
  obtain ⟨Zv,hZ,hc⟩:∃Z,s.ev y=some Z/\Z.cells=some zs:=by
   cases hy:s.ev y with
   | none=>rw [hy] at hzs; simp at hzs
   | some Z=>rw [hy] at hzs; exact ⟨Z,rfl,hzs⟩
  obtain ⟨d1,j1,hdd,hj,g1,g2,g3,g4,g5,g6,g7⟩:=b2q (hE.tab t i hi)
  split at h
  ·obtain ⟨Y,hY,h⟩:=a0q hz h
   split at h
   ·obtain ⟨ck,hck,h⟩:=a0q hz h
    obtain ⟨hl,h⟩:=a7q hz h
    obtain ⟨h1,h2,h3⟩:=of_decide_eq_true hl
    obtain ⟨c0,m,hoff,h⟩:=a2Nq h
    obtain ⟨c,_,hm,h⟩:=D3q h
    obtain ⟨hq,h⟩:=a7q hz h
    simp only [a0z] at hq
    exact a9Nq ho hg hd.1 hX hZ hc hds hd.2 hY hj (g2.trans h1) hm hoff (of_decide_eq_true hq.1) hq.2 h2 (hk _ h)
   ·exact absurd h hz
  ·exact absurd h hz
 ·exact absurd h hz
theorem a8Iq (hE:EnvOk P E) (hz:¬z) (hg:o.guard=none) (hk:∀s',k s'->d8q Γ P ops rest K s') (h:a9mq z E Γ.n o s k):d8q Γ P ops (o::rest) K s:=by
 unfold a9mq at h
 split at h
 ·rename_i t x ho
  obtain ⟨i,hi,h⟩:=a0q hz h
  obtain ⟨d,hd,h⟩:=a0q hz h
  obtain ⟨X,hX,h⟩:=a0q hz h
  obtain ⟨hl,h⟩:=a7q hz h
  simp only [a0z,ajz,decide_eq_true_eq] at hl
  obtain ⟨d1,j1,hdd,hj,g1,g2,g3,g4,g5,g6,g7⟩:=b2q (hE.tab t i hi)
  split at h
  ·obtain ⟨Y,hY,h⟩:=a0q hz h
   split at h
   ·obtain ⟨ck,hck,h⟩:=a0q hz h
    obtain ⟨c0,m,hoff,h⟩:=a2Nq h
    obtain ⟨c,_,hm,h⟩:=D3q h
    cases hcc:c[c0]? with
    | none=>rw [hcc] at h; exact h.elim
    | some x0 =>
     rw [hcc] at h
     cases x0 with
     | sl ys=>exact ab9q ho hg hd hl.2 hdd (g1.trans hl.1) hX hY hm hcc hoff fun a l r=>hk _ (h a l r)
     | _=>exact h.elim
   ·exact absurd h hz
  ·exact absurd h hz
 ·exact absurd h hz
theorem abrq (hE:EnvOk P E) (hz:¬z) (hg:o.guard=none) (hk:∀s',k s'->d8q Γ P ops rest K s') {t t':TypeId} {x y:Operand} (ho:o.op = .binOp .eql t x y t') (hy:a8uq s x y=true) (h:vNil z E Γ.n o s k):d8q Γ P ops (o::rest) K s:=by
 unfold vNil at h
 rw [ho] at h
 dsimp only at h
 obtain ⟨i,hi,h⟩:=a0q hz h
 obtain ⟨d,hd,h⟩:=a0q hz h
 obtain ⟨X,hX,h⟩:=a0q hz h
 obtain ⟨hl,h⟩:=a7q hz h
 simp only [a0z,decide_eq_true_eq,a6z] at hl
 obtain ⟨⟨h1,e,he⟩,h2⟩:=hl
 obtain ⟨d1,j1,hdd,hj,g1,g2,g3,g4,g5,g6,g7⟩:=b2q (hE.tab t i hi)
 have:=h5q (g4.trans he) (g6.trans h1); subst this
 unfold a8uq at hy
 split at hy
 ·rename_i xs hx hz0
  rw [hx] at hX
  cases hX
  exact acKq ho hg hd h2 hdd hx hz0 (fun hn=>hk _ (h.1 hn)) (hk _ h.2)
 ·cases hy
theorem ac7q {n:Nat} (hE:EnvOk P E) (hz:¬z) (h:vLit z E n o s k):∃s',Step n P o s s'/\k s':=by
 unfold vLit at h
 split at h
 ·rename_i t m ps ho
  obtain ⟨d,hd,h⟩:=a0q hz h
  obtain ⟨i,hi,h⟩:=a0q hz h
  obtain ⟨e,he,h⟩:=a0q hz h
  obtain ⟨⟨zn,zb,zc⟩,hzz,h⟩:=a0q hz h
  obtain ⟨hl,h⟩:=a7q hz h
  obtain ⟨h1,h2,h3,h4⟩:=of_decide_eq_true hl
  obtain ⟨ps',has,h⟩:=a0q hz h
  obtain ⟨out,hout,h⟩:=a0q hz h
  obtain ⟨p,hp,h⟩:=a0q hz h
  obtain ⟨hl,h⟩:=a7q hz h
  simp only [a0z] at hl
  obtain ⟨j,zv,z1,z2,z3,z4,z5,z6⟩:=hE.zer e _ hzz
  obtain ⟨d1,j1,hdd,hj,g1,g2,g3,g4,g5,g6,g7⟩:=b2q (hE.tab t i hi)
  have:=h5q (g4.trans he) (g6.trans h1); subst this
  dsimp only at z2 h2 h3 hout hl h
  subst z2
  exact ⟨_,fun Γ hn ops rest K hg h=>adfq (by simpa using ho) hg hd (by rw [hn]; exact h4) hdd z1 z4 z5 h2 z6 h3 has hout hp (a3Rq hl.1) hl.2 h,h⟩
 ·exact absurd h hz
theorem Y6q {n:Nat} {s':St} (h:∀Γ:Cx,Γ.n=n->XOp Γ P o s s'):Step n P o s s':=fun Γ hn ops rest K hg hr=>st_x (h Γ hn) hg hr
theorem a1oq {t':TypeId} {e es b:Nat} {zc:List At} {zd:Option (List Da)} {zv:Value} {y:Operand} {ys:List (List Da)} (hE:EnvOk P E) (hpos:0<es) (hzd:zdOf E t' zc=some zd) (z5:zv.cells.size=es) (z6:o3q zv.cells.toList=some zc)
  (hs:(zd=none/\a8lq s y es ys)\/∃d kq q,zd=some d/\s.ev y=some (I kq ((q:Nat):Int))/\ys=acz q d):a0Jq P s t' e es zv y ys:=by
 unfold zdOf at hzd
 split at hzd
 ·rename_i i hi
  obtain ⟨d1,j1,hd,hj,a1,a2,a3,a4,a5,a6,a7⟩:=b2q (hE.tab t' i hi)
  split at hzd
  ·rename_i kk hk
   have:=a8Tq (a7.trans hk); subst this
   cases hq:toDs zc with
   | none=>rw [hq] at hzd; simp at hzd
   | some d0 =>
    rw [hq] at hzd
    simp at hzd
    rcases hs with ⟨h1,_⟩ | ⟨d,kq,q,h1,h2,rfl⟩
    ·rw [h1] at hzd; cases hzd
    ·rw [h1] at hzd
     cases hzd
     exact a8Kq (b:=b) hd z5 hpos z6 hq h2
  ·split at hzd
   ·rename_i hc
    simp at hzd
    obtain ⟨h1,h2⟩:=hc
    obtain ⟨e',he'⟩:=a6z.1 h2
    have:=h5q (a4.trans he') (a6.trans h1); subst this
    rcases hs with ⟨_,h⟩ | ⟨d,kq,q,h3,_⟩
    ·exact ad5q hd h.h
    ·rw [h3] at hzd; cases hzd
   ·cases hzd
 ·cases hzd
theorem afNq {c:Prop} [Decidable c] {p q:Prop} (h:ifB (decide c) p q):(c/\p)\/(¬c/\q):=by
 by_cases hc:c
 ·rw [decide_eq_true hc] at h; exact .inl ⟨hc,h⟩
 ·rw [decide_eq_false hc] at h; exact .inr ⟨hc,h⟩
theorem aebq {n:Nat} (hE:EnvOk P E) (hz:¬z) (h:vPt z E n o s k):∃s',Step n P o s s'/\k s':=by
 unfold vPt at h
 split at h
 ·rename_i c ho
  obtain ⟨callee,args,ats⟩:=c
  simp only at h
  split at h
  ·rename_i x y t t' ha1 ha2
   have ha1:=arr2 ha1
   have ha2:=arr2 ha2
   subst ha1; subst ha2
   obtain ⟨hd,h⟩:=a7q hz h
   obtain ⟨i,hi,h⟩:=a0q hz h
   obtain ⟨e,he,h⟩:=a0q hz h
   obtain ⟨i2,hi2,h⟩:=a0q hz h
   obtain ⟨X,hX,h⟩:=a0q hz h
   obtain ⟨Y,hY,h⟩:=a0q hz h
   split at h
   ·rename_i kk es lo m
    obtain ⟨A,hA,h⟩:=a0q hz h
    obtain ⟨⟨cc,Ee,es',xs⟩,hp,h⟩:=a0q hz h
    have hp:=a0Kq hp
    rw [hp] at hA
    dsimp only at h hA
    obtain ⟨hl,h⟩:=a7q hz h
    obtain ⟨p1,rfl,rfl,p4,p5⟩:=of_decide_eq_true hl
    obtain ⟨nn,ys,h,hsrc⟩:=adnq hz p5 hY h
    obtain ⟨d1,j1,hdd,hj,a1,a2,a3,a4,a5,a6,a7⟩:=b2q (hE.tab t i hi)
    obtain ⟨d2,j2,hdd2,hj2,b1,b2,b3,_⟩:=b2q (hE.tab _ i2 hi2)
    have:=h5q (a4.trans he) (a6.trans p1); subst this
    cases cc with
    | none =>
     obtain ⟨⟨q1⟩,h⟩:=h
     refine ⟨_,Y6q fun Γ hn => ?_,h⟩
     intro a w S β K' R hs hK
     have hlen:=((p5q (c:=none)).1 (hs.mem.ob _ _ hA)).1.2.1.1
     exact a6Mq (c:=none) ho (by rw [hn]; exact hd) hdd hj2 (b2.trans p4) hX hA (hsrc.h Γ) hsrc.len (by omega) (fun _=>q1) (by omega) a w S β K' R hs hK
    | some c =>
     obtain ⟨⟨q1,q2⟩,h⟩:=h
     exact ⟨_,Y6q fun Γ hn=>a6Mq (c:=some _) ho (by rw [hn]; exact hd) hdd hj2 (b2.trans p4) hX hA (hsrc.h Γ) hsrc.len q1 (by simp) q2,h⟩
   ·exact absurd h hz
  ·rename_i x t ha1 ha2
   have ha1:=arr1 ha1
   have ha2:=arr1 ha2
   subst ha1; subst ha2
   obtain ⟨hd,h⟩:=a7q hz h
   obtain ⟨i,hi,h⟩:=a0q hz h
   obtain ⟨e,he,h⟩:=a0q hz h
   obtain ⟨⟨zn,zb,zc⟩,hzz,h⟩:=a0q hz h
   obtain ⟨zd,hzd,h⟩:=a0q hz h
   obtain ⟨X,hX,h⟩:=a0q hz h
   split at h
   ·rename_i kk es lo m
    obtain ⟨A,hA,h⟩:=a0q hz h
    obtain ⟨⟨cc,Ee,es',xs⟩,hp,h⟩:=a0q hz h
    have hp:=a0Kq hp
    rw [hp] at hA
    dsimp only at h hA
    obtain ⟨hl,⟨q1⟩,h⟩:=a7q hz h
    obtain ⟨p1,rfl,rfl,rfl,p5⟩:=of_decide_eq_true hl
    obtain ⟨d1,j1,hdd,hj,a1,a2,a3,a4,a5,a6,a7⟩:=b2q (hE.tab t i hi)
    have:=h5q (a4.trans he) (a6.trans p1); subst this
    exact ⟨_,Y6q fun Γ hn=>ab2q (hE.zer _ _ hzz) hzd p5 ho (by rw [hn]; exact hd) hdd hX hA q1,h⟩
   ·exact absurd h hz
  ·rename_i x y t t' ha1 ha2
   have ha1:=arr2 ha1
   have ha2:=arr2 ha2
   subst ha1; subst ha2
   obtain ⟨hd,h⟩:=a7q hz h
   obtain ⟨d,hdst,h⟩:=a0q hz h
   obtain ⟨i,hi,h⟩:=a0q hz h
   obtain ⟨e,he,h⟩:=a0q hz h
   obtain ⟨⟨zn,zb,zc⟩,hzz,h⟩:=a0q hz h
   obtain ⟨zd,hzd,h⟩:=a0q hz h
   obtain ⟨X,hX,h⟩:=a0q hz h
   obtain ⟨Y,hY,h⟩:=a0q hz h
   obtain ⟨hl,h⟩:=a7q hz h
   obtain ⟨p1,p2,p3⟩:=of_decide_eq_true hl
   obtain ⟨j,zv,z1,z2,z3,z4,z5,z6⟩:=hE.zer e _ hzz
   obtain ⟨d1,j1,hdd,hj,a1,a2,a3,a4,a5,a6,a7⟩:=b2q (hE.tab t i hi)
   have:=h5q (a4.trans he) (a6.trans p1); subst this
   dsimp only at z2 z3 z5 z6 p2 p3 hzd h
   split at h
   ·obtain ⟨hf,h⟩:=a7q hz h
    obtain ⟨ys,⟨⟨q1⟩,h⟩,hsrc⟩:=a1Bq hz p2 hY h
    rw [<-hdst] at h
    have hsm:ys.length<=281474976710656:=abz (a03q p3 q1) (by decide)
    exact ⟨_,Y6q fun Γ hn=>(adjq ho hdd z1 z2 z4 z5 hX (a1oq (b:=zb) hE p2 hzd z5 z6 hsrc) p2 hsm (by rw [z3]; exact q1)).xop (by rw [hn]; exact hd) hf,h⟩
   ·rename_i kk es lo m
    obtain ⟨A,hA,h⟩:=a0q hz h
    split at h
    ·rename_i Ee es' xs
     obtain ⟨hl,h⟩:=a7q hz h
     obtain ⟨rfl,rfl,rfl⟩:=of_decide_eq_true hl
     obtain ⟨ys,⟨⟨q1,q2⟩,h⟩,hsrc⟩:=a1Bq hz p2 hY h
     rw [<-hdst] at h
     refine ⟨_,Y6q fun Γ hn => ?_,h⟩
     intro a w S β K' R hs hK
     have hlen:=((p5q (c:=none)).1 (hs.mem.ob _ _ hA)).1.2.1.1
     exact a6Yq (b:=zb) (c:=none) ho (by rw [hn]; exact hd) hdd z1 z2 z4 hX hA (a1oq (b:=zb) hE p2 hzd z5 z6 hsrc) (by omega) p2 q1 (by omega) (by rw [z3]; omega) a w S β K' R hs hK
    ·rename_i Ee es' xs c
     obtain ⟨hl,h⟩:=a7q hz h
     simp only [a0z,decide_eq_true_eq] at hl
     obtain ⟨⟨rfl,rfl,rfl⟩,hf⟩:=hl
     obtain ⟨ys,⟨⟨q1,q2⟩,h⟩,hsrc⟩:=a1Bq hz p2 hY h
     rw [<-hdst] at h
     have hs1:=a03q p3 q2
     have hs2:ys.length*zb<=140737488355328:=by refine abz ?_ q2; exact atz _ (Nat.le_add_left _ _)
     obtain ⟨hc,h⟩ | ⟨hc,h⟩:=afNq h
     ·exact ⟨_,Y6q fun Γ hn=>a6Yq (b:=zb) (c:=some _) ho (by rw [hn]; exact hd) hdd z1 z2 z4 hX hA (a1oq (b:=zb) hE p2 hzd z5 z6 hsrc) q1 p2 hc (by omega) (by rw [z3]; omega),h⟩
     ·exact ⟨_,Y6q fun Γ hn=>(abfq ho hdd z1 z2 z4 z5 hX hA (a1oq (b:=zb) hE p2 hzd z5 z6 hsrc) q1 p2 (by omega) (by omega) (by rw [z3]; refine abz (atz _ ?_) q2; omega)).xop (by rw [hn]; exact hd) hf,h⟩
    ·exact absurd h hz
   ·exact absurd h hz
  ·exact absurd h hz
 ·exact absurd h hz
theorem aarq {n:Nat} (hE:EnvOk P E) (hz:¬z) (h:vA z E n o s k):∃s',Step n P o s s'/\k s':=by
 unfold vA at h
 split at h
 ·obtain ⟨s',h1,h⟩:=a9Qq (n:=n) hE hz h
  exact ⟨s',fun Γ hn ops rest K hg h=>a1eq To.sealStore (h1 Γ hn ops rest K hg h),h⟩
 ·obtain ⟨s',h1,h⟩:=ac7q hE hz h
  exact ⟨s',fun Γ hn ops rest K hg h=>a1eq To.sealL (h1 Γ hn ops rest K hg h),h⟩
 ·rename_i c ho
  obtain ⟨callee,args,ats⟩:=c
  simp only at h
  split at h
  ·exact aebq hE hz h
  split at h
  ·rename_i x y t t' ha1 ha2 _
   have ha1:=arr2 ha1
   have ha2:=arr2 ha2
   subst ha1; subst ha2
   obtain ⟨hl,h⟩:=a7q hz h
   simp only [a0z,decide_eq_true_eq] at hl
   obtain ⟨htt,hd⟩:=hl
   rw [<-htt] at ho
   obtain ⟨i,hi,h⟩:=a0q hz h
   obtain ⟨e,he,h⟩:=a0q hz h
   obtain ⟨⟨zn,zb,zc⟩,hzz,h⟩:=a0q hz h
   obtain ⟨hl,h⟩:=a7q hz h
   obtain ⟨h1,h2,h3⟩:=of_decide_eq_true hl
   obtain ⟨X,hX,h⟩:=a0q hz h
   obtain ⟨Y,hY,h⟩:=a0q hz h
   have hzer:=hE.zer e _ hzz
   dsimp only at h h2 h3 hzer
   split at h
   ·rename_i kk
    obtain ⟨A,hA,h⟩:=a0q hz h
    obtain ⟨⟨tr0,Ee,es,xs⟩,hp,h⟩:=a0q hz h
    have hp:=J0q hp
    rw [hp] at hA
    dsimp only at h hA
    obtain ⟨hl,h⟩:=a7q hz h
    obtain ⟨e1,e2,h4⟩:=of_decide_eq_true hl
    rw [e1,e2] at hA
    obtain ⟨tr',ks,ys,h,hsrc,htr,hle⟩:=a6Dq hz hY h
    refine ⟨_,fun Γ hn ops rest K hg hr => ?_,h.2⟩
    have fin:(∀y∈ys,y.length=zn)->d8q Γ P ops (o::rest) K s:=fun hyes =>
     acVq hE.tab hzer ho hg (by rw [hn]; exact hd) hi h1 he h2 (.inl ⟨tr0,hA,htr,hX⟩) hsrc hyes h.1.h (abz (a03q h3 h.1.h) (by decide)) hr h4
    rcases hle with hle | ⟨k2,tr2,E2,hB⟩
    ·exact fin hle
    ·exact a8Zq hB fun _ hyes=>fin hyes
   ·obtain ⟨d,hdd,h⟩:=a0q hz h
    obtain ⟨hl,h⟩:=a7q hz h
    simp only [a0z,decide_eq_true_eq] at hl
    obtain ⟨h4,hf⟩:=hl
    obtain ⟨tr',ks,ys,h,hsrc,htr,hle⟩:=a6Dq hz hY h
    refine ⟨_,fun Γ hn ops rest K hg hr => ?_,h.2⟩
    have fin:(∀y∈ys,y.length=zn)->d8q Γ P ops (o::rest) K s:=fun hyes =>
     acVq (xs:=[]) hE.tab hzer ho hg (by rw [hn]; exact hd) hi h1 he h2 (.inr ⟨hX,rfl,hf⟩) hsrc hyes (by simpa using h.1.h) (by simpa using abz (a03q h3 h.1.h) (by decide)) hr h4
    rcases hle with hle | ⟨k2,tr2,E2,hB⟩
    ·exact fin hle
    ·exact a8Zq hB fun _ hyes=>fin hyes
   ·exact absurd h hz
  ·exact absurd h hz
 ·exact absurd h hz
theorem X5q (hE:EnvOk P E) (hz:¬z) (hg:o.guard=none) (hk:∀s',k s'->d8q Γ P ops rest K s') (h:vA z E Γ.n o s k):d8q Γ P ops (o::rest) K s:=by
 obtain ⟨s',h1,h⟩:=aarq hE hz h
 exact h1.sound hg (hk _ h)
end
def St.nilAgD (s:St) (t:Nat) (cs:List At):St:=⟨(t,(AV.agg cs).norm)::s.tm,s.ob⟩
theorem To.nilAgD {s:St} {t:Nat} {cs:List At} (ht:s.get t=some (.agg cs)):To s (s.nilAgD t cs):=by
 intro Γ a w S β hs
 refine ⟨S,β,hs.defers,hs.sz,fun i x hi => ?_,hs.mem⟩
 simp only [St.nilAgD,St.get,a1q] at hi
 by_cases e:t=i
 ·subst e
  simp at hi
  subst hi
  obtain ⟨v,hv,hr⟩:=hs.tm t _ ht
  exact ⟨_,hv,hr.norm⟩
 ·simp [e] at hi; exact hs.tm i x hi
def St.nilAgg (s:St) (t q d E es:Nat) (cs:List At):St:={ tm:=(t,.agg (cs.set q (.ol d)))::s.tm,ob:=(d,.tr E es [])::s.ob }
theorem To.nilAgg {s:St} {t q d E es:Nat} {cs:List At} (ht:s.get t=some (.agg cs)) (hc:cs[q]?=some .e0) (hf:s.fresh [(d,.lst E es [])]=true):To s (s.nilAgg t q d E es cs):=by
 intro Γ a w S β hs
 let l0:OLoc:=⟨0,none,0,0,false,[],[]⟩
 have hl0:∀b,¬l0.Own b:=fun b hb=>by rcases hb with ⟨h,_⟩ | h <;> simp [l0] at h
 let β':Nat->OLoc:=fun o=>if o=d then l0 else β o
 have hlow:=I1q hf _ (aiz.2 rfl)
 have hβ:∀o,o≠d->β' o=β o:=fun o ho=>if_neg ho
 have hd:β' d=l0:=if_pos rfl
 have hT:∀q' X,(s.nilAgg t q d E es cs).gob q'=some X->(q'=d/\X = .tr E es [])\/(q'≠d/\s.gob q'=some X):=by
  intro q' X hq
  simp only [St.nilAgg,St.gob,a1q] at hq
  by_cases e:d=q'
  ·subst e; simp at hq; exact .inl ⟨rfl,hq.symm⟩
  ·simp [e] at hq; exact .inr ⟨fun h=>e h.symm,hq⟩
 refine ⟨S,β',hs.defers,hs.sz,fun i x hi => ?_,⟨hs.mem.lt,fun q' X hq => ?_,fun q' X hq b hh => ?_,fun q1 q2 X X' hq hq' b hh hh' => ?_,hs.mem.os,hs.mem.tape,hs.mem.output,hs.mem.size,hs.mem.block,hs.mem.sub,hs.mem.sup,fun q' l hl => ?_,fun q' X hq b hh => ?_,fun q1 q2 X X' hq hq' b hh hh' => ?_⟩⟩
 ·have key:∀j y,s.get j=some y->∃v,a.tmps[j]?=some v/\RepV w S β' y v:=by
   intro j y hy
   obtain ⟨v,hv,hr⟩:=hs.tm j y hy
   exact ⟨v,hv,hr.mono (fun _ _=>rfl) (fun _ h=>h) fun o ho=>hβ o fun e=>O2q hf hy o ho _ (aiz.2 rfl) e.symm⟩
  simp only [St.nilAgg,St.get,a1q] at hi
  by_cases e:t=i
  ·subst e
   simp at hi
   subst hi
   obtain ⟨v,hv,hr⟩:=key t _ ht
   refine ⟨_,hv,?_⟩
   obtain ⟨vs,rfl,hrs⟩:=hr.agg_inv
   refine RepVs.agg (RepAs.setAt (z:=.e0) (fun v hv => ?_) hrs hc) .nil
   cases hv
   have:(.slice none 0 0:Value)=(β' d).sv:=by rw [hd]; rfl
   rw [this]; exact .ol
  ·simp [e] at hi; exact key i x hi
 ·rcases hT q' X hq with ⟨rfl,rfl⟩ | ⟨hne,hq⟩
  ·rw [hd]
   exact .inl ⟨rfl,by simp,by simp,[],[],⟨by simp,.inl ⟨rfl,rfl⟩⟩,.nil,by simp,by simp⟩
  ·rw [hβ q' hne]
   exact (hs.mem.ob q' X hq).mono (fun _ _=>rfl) (fun _ _=>rfl) (fun _ h=>h) fun o ho=>hβ o fun e=>(v7q hf hq).2 o ho _ (aiz.2 rfl) e.symm
 ·rcases hT q' X hq with ⟨rfl,rfl⟩ | ⟨hne,hq⟩
  ·rw [hd] at hh; exact (hl0 b hh).elim
  ·rw [hβ q' hne] at hh; exact hs.mem.own q' X hq b hh
 ·rcases hT q1 X hq with ⟨rfl,rfl⟩ | ⟨hne,hq⟩
  ·rw [hd] at hh; exact (hl0 b hh).elim
  ·rcases hT q2 X' hq' with ⟨rfl,rfl⟩ | ⟨hne',hq'⟩
   ·rw [hd] at hh'; exact (hl0 b hh').elim
   ·rw [hβ q1 hne] at hh; rw [hβ q2 hne'] at hh'
    exact hs.mem.sep q1 q2 X X' hq hq' b hh hh'
 ·obtain ⟨h1,h2⟩:=hs.mem.fix q' l hl
  exact ⟨h1,(hβ q' (by omega)).trans h2⟩
 ·rcases hT q' X hq with ⟨rfl,rfl⟩ | ⟨hne,hq⟩
  ·rw [hd] at hh; cases hh
  ·rw [hβ q' hne] at hh; exact hs.mem.clm q' X hq b hh
 ·rcases hT q1 X hq with ⟨rfl,rfl⟩ | ⟨hne,hq⟩
  ·rw [hd] at hh; cases hh
  ·rcases hT q2 X' hq' with ⟨rfl,rfl⟩ | ⟨hne',hq'⟩
   ·rw [hd] at hh'; cases hh'
   ·rw [hβ q1 hne] at hh; rw [hβ q2 hne'] at hh'
    exact hs.mem.sepc q1 q2 X X' hq hq' b hh hh'
def frzOne (s:St) (k:Nat):St:=match s.gob k with
 | some (.lst _ es xs)=>if 0<es then s.frz k xs else s
 | some (.tr _ es xs)=>if 0<es then s.frz k xs else s
 | some (.tk xs)=>s.frz k xs
 | some (.mt _ _ xs)=>s.frz k xs
 | _=>s
def frzAll (s:St):List Nat->St
 | []=>s
 | k::r=>frzAll (frzOne s k) r
theorem a5gq {Γ:Cx} {s:St} {k:Nat} {a:Act} {w:World} {S:Nat->Prop} {β:Nat->OLoc} (hs:Sim Γ s a w S β):∃S',(∀b,S b->S' b)/\Sim Γ (frzOne s k) a w S' β:=by
 unfold frzOne
 split
 ·rename_i E es xs hk
  split
  ·rename_i h
   exact hs.frz (tr:=false) hk h
  ·exact ⟨S,fun _ h=>h,hs⟩
 ·rename_i E es xs hk
  split
  ·rename_i h
   exact hs.frz (tr:=true) hk h
  ·exact ⟨S,fun _ h=>h,hs⟩
 ·rename_i xs hk
  exact hs.frzK (.inl hk)
 ·rename_i xs hk
  exact hs.frzK (.inr ⟨_,_,hk⟩)
 ·exact ⟨S,fun _ h=>h,hs⟩
theorem V2q {Γ:Cx} {a:Act} {w:World} {β:Nat->OLoc}:∀{ks:List Nat} {s:St} {S:Nat->Prop},Sim Γ s a w S β->∃S',(∀b,S b->S' b)/\Sim Γ (frzAll s ks) a w S' β
 | [],_,S,hs=>⟨S,fun _ h=>h,hs⟩
 | k::r,s,S,hs=>by
  obtain ⟨S',h0,h⟩:=a5gq (k:=k) hs
  obtain ⟨S2,h1,h2⟩:=V2q (ks:=r) h
  exact ⟨S2,fun b hb=>h1 b (h0 b hb),h2⟩
theorem To.frzAll {s:St} {ks:List Nat}:To s (frzAll s ks):=fun _ _ _ S β hs=>by
 obtain ⟨S',_,h⟩:=V2q hs
 exact ⟨S',β,h⟩
def I8q (s:St):List Nat->St
 | []=>s
 | k::r=>match s.gob k with
  | some (.tk xs)=>I8q (s.frz k xs) r
  | _=>I8q s r
theorem C2q {Γ:Cx} {a:Act} {w:World} {S:Nat->Prop} {β:Nat->OLoc}:∀{ks:List Nat} {s:St},Sim Γ s a w S β->Sim Γ (I8q s ks) a w S β
 | [],_,hs=>hs
 | k::r,s,hs=>by
  simp only [I8q]
  split
  ·rename_i hk
   exact C2q (hs.view hk)
  ·exact C2q hs
def sealAll (s:St):List Nat->St
 | []=>s
 | k::r=>match s.gob k with
  | some (.tr _ _ xs)=>match decide (k<2000) with
   | true=>sealAll (s.seal k xs) r
   | false=>sealAll (frzOne s k) r
  | some (.tk _)=>sealAll s r
  | _=>sealAll (frzOne s k) r
theorem To.frzOne {s:St} {k:Nat}:To s (frzOne s k):=fun _ _ _ S β hs=>by
 obtain ⟨S',_,h⟩:=a5gq hs
 exact ⟨S',β,h⟩
theorem To.sealAll:∀{ks:List Nat} {s:St},To s (sealAll s ks)
 | [],s=>To.refl s
 | k::r,s=>by
  simp only [AM.sealAll]
  split
  ·rename_i hk
   split
   ·rename_i hl
    exact To.trans (fun Γ a w S β hs=>hs.seal hk (of_decide_eq_true hl)) To.sealAll
   ·exact To.frzOne.trans To.sealAll
  ·exact To.sealAll
  ·exact To.frzOne.trans To.sealAll
def Da.flatF:Da->Bool
 | .sl _=>false
 | .tg _ _=>false
 | _=>true
mutual
def AV.flat:AV->Bool
 | .one (.d x)=>x.flatF
 | .dat ds=>ds.all Da.flatF
 | .tup ys=>AV.flatT ys
 | _=>false
def AV.flatT:List AV->Bool
 | []=>true
 | y::r=>y.flat&&AV.flatT r
end
section
variable {w w':World} {S S':Nat->Prop} {β β':Nat->OLoc}
theorem RepF.flatF {xs:List Da} {vs:List Value} {fp:List Nat} (h:RepF w xs vs fp) (hf:xs.all Da.flatF=true):RepF w' xs vs []:=by
 induction h with
 | nil=>exact .nil
 | int _ ih=>exact .int (ih (by simpa [Da.flatF] using hf))
 | bool _ ih=>exact .bool (ih (by simpa [Da.flatF] using hf))
 | str hs _ ih=>exact .str hs (ih (by simpa [Da.flatF] using hf))
 | fn _ ih=>exact .fn (ih (by simpa [Da.flatF] using hf))
 | sl0=>simp [Da.flatF] at hf
 | sl1=>simp [Da.flatF] at hf
 | tg=>simp [Da.flatF] at hf
theorem RepDs.flatD {xs:List Da} {vs:List Value} (h:RepDs w S xs vs) (hf:xs.all Da.flatF=true):RepDs w' S' xs vs:=by
 obtain ⟨fp,h,_⟩:=h
 exact ⟨[],h.flatF hf,by simp⟩
theorem RepVs.flatV {ys:List AV} {vs:List Value} (h:RepVs w S β ys vs) (hf:AV.flatT ys=true):RepVs w' S' β' ys vs:=by
 induction h with
 | nil=>exact .nil
 | one h _ ih =>
  simp only [AV.flatT,a0z] at hf
  refine .one ?_ (ih hf.2)
  cases h with
  | d h=>exact .d (h.flatD (by simpa [AV.flat] using hf.1))
  | _=>simp [AV.flat] at hf
 | dat h _ ih =>
  simp only [AV.flatT,a0z] at hf
  exact .dat (h.flatD (by simpa [AV.flat] using hf.1)) (ih hf.2)
 | agg _ _ _=>simp [AV.flatT,AV.flat] at hf
 | tup _ _ ih1 ih2 =>
  simp only [AV.flatT,a0z] at hf
  exact .tup (ih1 (by simpa [AV.flat] using hf.1)) (ih2 hf.2)
theorem RepV.flatV {y:AV} {v:Value} (h:RepV w S β y v) (hf:y.flat=true):RepV w' S' β' y v:=RepVs.flatV h (by simpa [AV.flatT] using hf)
end
mutual
def At.closed:At->Bool
 | .d x=>x.flatF
 | .e0=>true
 | .ol _=>true
 | _=>false
def AV.closed:AV->Bool
 | .one x=>x.closed
 | .dat ds=>ds.all Da.flatF
 | .agg xs=>xs.all At.closed
 | .tup ys=>AV.closedT ys
def AV.closedT:List AV->Bool
 | []=>true
 | y::r=>y.closed&&AV.closedT r
end
def isTr:Ob->Bool
 | .tr _ _ _=>true
 | _=>false
section
variable {w w':World} {S S':Nat->Prop} {β β':Nat->OLoc}
theorem RepA.closedA {x:At} {v:Value} (h:RepA w S β x v) (hc:x.closed=true) (hβ:∀o,(β' o).sv=(β o).sv):RepA w' S' β' x v:=by
 cases h with
 | d h=>exact .d (h.flatD (by simpa [At.closed] using hc))
 | e0=>exact .e0
 | @ol o=>rw [<-hβ o]; exact .ol
 | _=>simp [At.closed] at hc
theorem RepAs.closedA {xs:List At} {vs:List Value} (h:RepAs w S β xs vs) (hc:xs.all At.closed=true) (hβ:∀o,(β' o).sv=(β o).sv):RepAs w' S' β' xs vs:=by
 induction h with
 | nil=>exact .nil
 | cons h _ ih =>
  simp only [avz,a0z] at hc
  exact .cons (h.closedA hc.1 hβ) (ih hc.2)
theorem RepVs.closedV {ys:List AV} {vs:List Value} (h:RepVs w S β ys vs) (hf:AV.closedT ys=true) (hβ:∀o,(β' o).sv=(β o).sv):RepVs w' S' β' ys vs:=by
 induction h with
 | nil=>exact .nil
 | one h _ ih =>
  simp only [AV.closedT,a0z] at hf
  exact .one (h.closedA (by simpa [AV.closed] using hf.1) hβ) (ih hf.2)
 | dat h _ ih =>
  simp only [AV.closedT,a0z] at hf
  exact .dat (h.flatD (by simpa [AV.closed] using hf.1)) (ih hf.2)
 | agg h _ ih =>
  simp only [AV.closedT,a0z] at hf
  exact .agg (h.closedA (by simpa [AV.closed] using hf.1) hβ) (ih hf.2)
 | tup _ _ ih1 ih2 =>
  simp only [AV.closedT,a0z] at hf
  exact .tup (ih1 (by simpa [AV.closed] using hf.1)) (ih2 hf.2)
theorem RepV.closedV {y:AV} {v:Value} (h:RepV w S β y v) (hf:y.closed=true) (hβ:∀o,(β' o).sv=(β o).sv):RepV w' S' β' y v:=RepVs.closedV h (by simpa [AV.closedT] using hf) hβ
end
def thaw:List (Nat×Ob)->List (Nat×Ob)
 | []=>[]
 | (k,.tr E es xs)::r=>(k,.mt E es xs)::thaw r
 | p::r=>p::thaw r
def OLoc.thaw (l:OLoc):OLoc:={ l with has:=false,sub:=l.blkL++(l.sub++l.clm),clm:=[] }
section
variable {Γ:Cx} {P:Program} {E:Env} {z:Prop} {o:Oper} {s s' sF:St}
theorem a2iq (ht:To s sF) (h:XOp Γ P o sF s'):XOp Γ P o s s':=by
 intro a w S β K' R hs hK
 obtain ⟨S',β',h'⟩:=ht Γ a w S β hs
 exact h a w S' β' K' R h' hK
theorem acAq {y:AV} {nob:List (Nat×Ob)} (h:OpS P o s s y nob):OpL P o s y nob:=by
 obtain ⟨us,h1,h2⟩:=h
 intro Γ a w S β hs K R hK
 exact h1 a w S β hs.mem.lt (fun x X hx _=>hs.eval hx) (fun p hp=>hs.mem.ob _ _ (q5q h2 p hp)) K R hK
theorem a85q {ks:List Nat} {y:AV} {nob:List (Nat×Ob)} (h:OpS P o (frzAll s ks) (frzAll s ks) y nob) (hy:y.closed=true) (htr:(nob.all fun p=>isTr p.2)=true):OpL P o s y nob:=by
 obtain ⟨us,h1,h2⟩:=h
 intro Γ a w S β hs K' R hK
 obtain ⟨S1,hS1,h'⟩:=V2q (ks:=ks) hs
 refine h1 a w S1 β h'.mem.lt (fun x X hx _=>h'.eval hx) (fun p hp=>h'.mem.ob _ _ (q5q h2 p hp)) K' R fun v w' S2 β' hG hyr => ?_
 let S':Nat->Prop:=fun b=>S b\/∃p∈nob,b∈(β' p.1).clm
 have hS2:∀b,S' b->S2 b:=fun b hb=>by
  rcases hb with hb | ⟨p,hp,hb⟩
  ·exact hG.sub b (hS1 b hb)
  ·exact (hG.clm p hp b hb).1
 have hG2:Grow w S β nob w' S' β':=by
  refine ⟨hG.os,hG.tape,hG.output,hG.size,hG.block,fun _ h=>.inl h,fun b hb=>⟨(hG.sup b (hS2 b hb)).1,?_⟩,hG.loc,fun p hp => ?_,fun p hp b hb => ?_,hG.sep,fun p hp b hb=>⟨.inr ⟨p,hp,hb⟩,(hG.clm p hp b hb).2⟩,hG.sepc⟩
  ·rcases hb with hb | ⟨p,hp,hb⟩
   ·exact .inl hb
   ·exact .inr (hG.clm p hp b hb).2
  ·have h3:=hG.ob p hp
   have h4:=a3z.1 htr p hp
   obtain ⟨k,X⟩:=p
   cases X <;> simp [isTr] at h4
   rcases h3 with ⟨a1,a2,a3,vs,fp,a4,a5,a6,a7⟩ | h3
   rotate_left
   ·exact .inr h3
   exact .inl ⟨a1,a2,a3,vs,fp,a4,a5,fun b hb=>⟨.inr ⟨_,hp,(a6 b hb).2⟩,(a6 b hb).2⟩,a7⟩
  ·obtain ⟨m1,m2,m3⟩:=hG.own p hp b hb
   exact ⟨m1,m2,fun hh=>m3 (hS2 b hh)⟩
 exact hK _ _ S' β' hG2 (hyr.closedV hy fun _=>rfl)
theorem a6Oq {ks:List Nat} {y:AV} {nob:List (Nat×Ob)} (h:OpS P o (frzAll s ks) (frzAll s ks) y nob) (hy:y.closed=true) (htr:(nob.all fun p=>isTr p.2)=true):OpL P o s y (thaw nob):=by
 obtain ⟨us,h1,h2⟩:=h
 intro Γ a w S β hs K' R hK
 obtain ⟨S1,hS1,h'⟩:=V2q (ks:=ks) hs
 refine h1 a w S1 β h'.mem.lt (fun x X hx _=>h'.eval hx) (fun p hp=>h'.mem.ob _ _ (q5q h2 p hp)) K' R fun v w' S2 β' hG hyr => ?_
 let β2:Nat->OLoc:=fun q=>if nob.any (·.1==q) then (β' q).thaw else β' q
 have hb2:∀q,(∃p∈nob,p.1=q)->β2 q=(β' q).thaw:=fun q ⟨p,hp,e⟩=>if_pos (aez.2 ⟨p,hp,by simpa using e⟩)
 have hb3:∀q,(∀p∈nob,p.1≠q)->β2 q=β' q:=fun q hn=>if_neg fun h=>by
  obtain ⟨p,hp,e⟩:=aez.1 h
  exact hn p hp (by simpa using e)
 have hth:∀{l:List (Nat×Ob)},(l.all fun p=>isTr p.2)=true->∀q∈thaw l,∃E es xs,(q.1,Ob.tr E es xs)∈l/\q.2 = .mt E es xs:=by
  intro l
  induction l with
  | nil=>simp [thaw]
  | cons p r ih =>
   intro hl q hq
   obtain ⟨k,X⟩:=p
   simp only [avz,a0z] at hl
   obtain ⟨hl0,hl⟩:=hl
   cases X <;> simp [isTr] at hl0
   rename_i E es xs
   simp only [thaw,a5z] at hq
   rcases hq with rfl | hq
   ·exact ⟨E,es,xs,by simp,rfl⟩
   ·obtain ⟨E',es',xs',h5,h6⟩:=ih hl q hq
    exact ⟨E',es',xs',by simp [h5],h6⟩
 have hkeys:∀{l:List (Nat×Ob)},(l.all fun p=>isTr p.2)=true->∀p∈l,∃q∈thaw l,q.1=p.1:=by
  intro l
  induction l with
  | nil=>simp
  | cons p r ih =>
   intro hl q hq
   obtain ⟨k,X⟩:=p
   simp only [avz,a0z] at hl
   obtain ⟨hl0,hl⟩:=hl
   cases X <;> simp [isTr] at hl0
   simp only [thaw]
   rcases a5z.1 hq with rfl | hq
   ·exact ⟨_,List.mem_cons_self ..,rfl⟩
   ·obtain ⟨q',h5,h6⟩:=ih hl q hq
    exact ⟨q',List.mem_cons_of_mem _ h5,h6⟩
 have hblk:∀(l:OLoc) b,b∈l.blkL->l.has=true/\l.blk=b:=by
  intro l b hb
  unfold OLoc.blkL at hb
  split at hb
  ·rename_i h; exact ⟨h,by simpa using Eq.symm (by simpa using hb)⟩
  ·cases hb
 have hown2:∀k,(∃p∈nob,p.1=k)->∀b,(β2 k).Own b->(β' k).Own b\/b∈(β' k).clm:=by
  intro k hk b hb
  rw [hb2 k hk] at hb
  rcases hb with ⟨h5,_⟩ | hb
  ·cases h5
  ·rcases aoz.1 hb with hb | hb
   ·exact .inl (.inl (hblk _ b hb))
   ·rcases aoz.1 hb with hb | hb
    ·exact .inl (.inr hb)
    ·exact .inr hb
 have hfreshb:∀p∈nob,∀b,(β' p.1).Own b\/b∈(β' p.1).clm->w.heap.size<=b/\b<w'.heap.size:=by
  intro p hp b hb
  rcases hb with hb | hb
  ·obtain ⟨m1,m2,_⟩:=hG.own p hp b hb; exact ⟨m1,m2⟩
  ·obtain ⟨m1,m2⟩:=hG.clm p hp b hb; exact ⟨m2,(hG.sup b m1).1⟩
 have hG2:Grow w S β (thaw nob) w' S β2:=by
  refine ⟨hG.os,hG.tape,hG.output,hG.size,hG.block,fun _ h=>h,fun b hb=>⟨Nat.lt_of_lt_of_le (hs.mem.lt b hb) hG.size,.inl hb⟩,fun q hq => ?_,fun q hq => ?_,fun q hq b hb => ?_,fun q hq r hr b hb hb' => ?_,fun q hq b hb => ?_,fun q hq r hr b hb hb' => ?_⟩
  ·have hn:∀p∈nob,p.1≠q:=fun p hp e=>by
    obtain ⟨q',h5,h6⟩:=hkeys htr p hp
    exact hq q' h5 (h6.trans e)
   rw [hb3 q hn]; exact hG.loc q hn
  ·obtain ⟨E',es',xs',h5,h6⟩:=hth htr q hq
   rw [hb2 q.1 ⟨_,h5,rfl⟩,h6]
   have h7:=hG.ob _ h5
   obtain ⟨fp,t1,t2,t3⟩:=a72q h7
   refine ⟨rfl,(a1fq (tr:=true) h7).1,(a1fq (tr:=true) h7).2,fun a n c hsv hn => ?_,fp,t1,fun b hb => ?_,t3 fun hh b hb e => ?_⟩
   ·have hsv:(β' q.1).sv = .slice (some a) n c:=hsv
    rcases h7 with ⟨a1,_,_,vs,fp0,a4,_⟩ | ⟨_,h0,ad,hz0⟩
    ·rw [hsv] at a1 a4
     rcases a4.2 with ⟨e,_⟩ | ⟨g,cap,cur,e,_⟩
     ·cases e
     ·cases e
      simp only [Value.ownBlock] at a1
      split at a1
      ·simp at a1; rw [a1]; rfl
      ·simp at a1
    ·rw [hsv] at hz0; cases hz0; omega
   ·rcases t2 b hb with ⟨_,h8⟩ | ⟨h8,h9⟩
    ·exact a8z _ (a8z _ h8)
    ·exact auz _ (by simp [OLoc.blkL,h8,h9])
   ·exact (hG.own _ h5 b (.inl ⟨hh,e.symm⟩)).2.2 (hG.clm _ h5 b hb).1
  ·obtain ⟨E',es',xs',h5,h6⟩:=hth htr q hq
   obtain ⟨m1,m2⟩:=hfreshb _ h5 b (hown2 q.1 ⟨_,h5,rfl⟩ b hb)
   exact ⟨m1,m2,fun hS=>by have:=hs.mem.lt b hS; omega⟩
  ·obtain ⟨_,_,_,h5,_⟩:=hth htr q hq
   obtain ⟨_,_,_,h6,_⟩:=hth htr r hr
   have a1:=hown2 q.1 ⟨_,h5,rfl⟩ b hb
   have a2:=hown2 r.1 ⟨_,h6,rfl⟩ b hb'
   rcases a1 with a1 | a1 <;> rcases a2 with a2 | a2
   ·have h7:=hG.sep _ h5 _ h6 b a1 a2; exact h7
   ·exact ((hG.own _ h5 b a1).2.2 (hG.clm _ h6 b a2).1).elim
   ·exact ((hG.own _ h6 b a2).2.2 (hG.clm _ h5 b a1).1).elim
   ·have h7:=hG.sepc _ h5 _ h6 b a1 a2; exact h7
  ·obtain ⟨_,_,_,h5,_⟩:=hth htr q hq
   rw [hb2 q.1 ⟨_,h5,rfl⟩] at hb
   cases hb
  ·obtain ⟨_,_,_,h5,_⟩:=hth htr q hq
   rw [hb2 q.1 ⟨_,h5,rfl⟩] at hb
   cases hb
 refine hK _ _ S β2 hG2 (hyr.closedV hy fun q => ?_)
 show (β2 q).sv=(β' q).sv
 simp only [β2]
 split <;> rfl
theorem aefq {y:AV} {nob:List (Nat×Ob)} (hV:∀a w S β,Sim Γ s a w S β->Sim Γ sF a w S β) (h:OpS P o sF sF y nob) (hd:o.dst.all (· < Γ.n)=true) (hf:s.fresh nob=true):XOp Γ P o s (s.upd o.dst y nob):=by
 obtain ⟨us,h1,h2⟩:=h
 intro a w S β K' R hs hK
 have h':=hV a w S β hs
 exact h1 a w S β h'.mem.lt (fun x X hx _=>h'.eval hx) (fun p hp=>h'.mem.ob _ _ (q5q h2 p hp)) K' R fun v w' S' β' hG hy=>hK _ _ _ _ (hs.upd hG hy hd hf)
end
def agsq (l:List Nat) (x:Nat):List Nat:=if l.contains x then l else l++[x]
def F1q (l xs:List Nat):List Nat:=xs.foldl agsq l
def O3q (s:St):Nat->List Nat->List Nat
 | 0,l=>l
 | n+1,l=>O3q s n (l.foldl (fun a k=>match s.gob k with
  | some X=>F1q a X.ids
  | none=>a) l)
def a2Uq (n:Nat):List Nat->List (Nat×Nat)
 | []=>[]
 | k::r=>(k,n)::a2Uq (n+1) r
def a11q (s:St):List Nat->Option (List (Nat×Ob))
 | []=>some []
 | k::r=>match s.gob k,a11q s r with
  | some X,some Y=>some ((k,X)::Y)
  | _,_=>none
theorem a2Rq {s:St}:∀{l:List Nat} {I:List (Nat×Ob)},a11q s l=some I->usOk s I
 | [],I,h=>by simp [a11q] at h; subst h; trivial
 | k::r,I,h=>by
  simp only [a11q] at h
  split at h
  ·rename_i X Y h1 h2
   simp at h; subst h
   exact ⟨h1,a2Rq h2⟩
  ·simp at h
def shA (I:List (Nat×Ob)):At->Nat->(At->List (Nat×Ob)->Nat->Prop)->Prop
 | .d (.int k _),n,K=>∃m:Int,K (.d (.int k m)) [] n
 | .d (.bool _),n,K=>∃b:Bool,K (.d (.bool b)) [] n
 | .d (.str _),n,K=>∃q:ByteArray,K (.d (.str q)) [] n
 | .d (.sl _),n,K=>∃xs:List (List Da),K (.d (.sl xs)) [] n
 | .ol o,n,K=>match a1q I o with
  | some (.lst E es _)=>∃xs:List (List Da),K (.ol n) [(n,.lst E es xs)] (n+1)
  | some (.tr E es _)=>∃xs:List (List Da),K (.ol n) [(n,.tr E es xs)] (n+1)
  | some (.tk xs)=>K (.ol o) [(o,.tk xs)] n
  | _=>K (.ol o) [] n
 | x,n,K=>K x [] n
def shAs (I:List (Nat×Ob)):List At->Nat->(List At->List (Nat×Ob)->Nat->Prop)->Prop
 | [],n,K=>K [] [] n
 | x::r,n,K=>shA I x n fun y O m=>shAs I r m fun ys O' m'=>K (y::ys) (O++O') m'
def shO (I:List (Nat×Ob)) (dir:List Nat):List (Nat×Ob)->Nat->(List (Nat×Ob)->List (Nat×Ob)->Prop)->Prop
 | [],n,K=>K [] []
 | (k,.var cs)::r,n,K=>shAs I cs n fun ys O m=>shO I dir r m fun Oi On=>K ((k,.var ys)::Oi) (O++On)
 | (k,.lst E es _)::r,n,K=>match dir.contains k with
  | true=>∃xs:List (List Da),shO I dir r n fun Oi On=>K ((k,.lst E es xs)::Oi) On
  | false=>shO I dir r n K
 | (k,.tr E es _)::r,n,K=>match dir.contains k with
  | true=>∃xs:List (List Da),shO I dir r n fun Oi On=>K ((k,.tr E es xs)::Oi) On
  | false=>shO I dir r n K
 | (k,.mt E es _)::r,n,K=>∃xs:List (List Da),shO I dir r n fun Oi On=>K ((k,.mt E es xs)::Oi) On
 | (_,.mu _ _ _ _ _ _ _ _)::r,n,K=>shO I dir r n K
 | (k,.tk _)::r,n,K=>shO I dir r n K
 | (_,.fu _ _ _ _)::r,n,K=>shO I dir r n K
theorem afXq {I:List (Nat×Ob)} {x:At} {n:Nat} {K:At->List (Nat×Ob)->Nat->Prop} (h:shA I x n K):∃y O m,K y O m:=by
 unfold shA at h
 split at h
 ·obtain ⟨m,h⟩:=h; exact ⟨_,_,_,h⟩
 ·obtain ⟨m,h⟩:=h; exact ⟨_,_,_,h⟩
 ·obtain ⟨m,h⟩:=h; exact ⟨_,_,_,h⟩
 ·obtain ⟨m,h⟩:=h; exact ⟨_,_,_,h⟩
 ·split at h
  ·obtain ⟨m,h⟩:=h; exact ⟨_,_,_,h⟩
  ·obtain ⟨m,h⟩:=h; exact ⟨_,_,_,h⟩
  ·exact ⟨_,_,_,h⟩
  ·exact ⟨_,_,_,h⟩
 ·exact ⟨_,_,_,h⟩
theorem aazq {I:List (Nat×Ob)}:∀{cs:List At} {n:Nat} {K:List At->List (Nat×Ob)->Nat->Prop},shAs I cs n K->∃ys O m,K ys O m
 | [],_,_,h=>⟨_,_,_,h⟩
 | x::r,n,K,h=>by
  obtain ⟨y,O,m,h⟩:=afXq h
  obtain ⟨ys,O',m',h⟩:=aazq h
  exact ⟨_,_,_,h⟩
theorem F3q {I:List (Nat×Ob)} {dir:List Nat}:∀{J:List (Nat×Ob)} {n:Nat} {K:List (Nat×Ob)->List (Nat×Ob)->Prop},shO I dir J n K->∃Oi On,K Oi On
 | [],_,_,h=>⟨_,_,h⟩
 | (k,.var cs)::r,n,K,h=>by
  obtain ⟨ys,O,m,h⟩:=aazq h
  obtain ⟨Oi,On,h⟩:=F3q h
  exact ⟨_,_,h⟩
 | (k,.lst E es xs)::r,n,K,h=>by
  simp only [shO] at h
  split at h
  ·obtain ⟨xs,h⟩:=h
   obtain ⟨Oi,On,h⟩:=F3q h
   exact ⟨_,_,h⟩
  ·exact F3q h
 | (k,.tr E es xs)::r,n,K,h=>by
  simp only [shO] at h
  split at h
  ·obtain ⟨xs,h⟩:=h
   obtain ⟨Oi,On,h⟩:=F3q h
   exact ⟨_,_,h⟩
  ·exact F3q h
 | (k,.mu E es xs m q a n' c)::r,n,K,h=>by
  simp only [shO] at h
  exact F3q h
 | (k,.mt E es xs)::r,n,K,h=>by
  simp only [shO] at h
  obtain ⟨xs,h⟩:=h
  obtain ⟨Oi,On,h⟩:=F3q h
  exact ⟨_,_,h⟩
 | (k,.tk xs)::r,n,K,h=>by
  simp only [shO] at h
  exact F3q h
 | (k,.fu _ _ _ _)::r,n,K,h=>by
  simp only [shO] at h
  exact F3q h
def a2Xq (z:Prop) (P:Program) (E:Env) (o:Oper) (s sV:St) (f:FuncId) (zs:List AV) (k:St->Prop):Prop :=
 chk z (E.fns.contains f)<|opt z (a1q E.sig f) fun sg=>opt z (a11q s (O3q s 8 (F1q [] (AV.idsT zs)))) fun I =>
  let l1:=a2Uq 2000 (I.map (·.1))
  let xs:=AV.mapT (l4q l1) (zs.map AV.norm)
  let I':=n9q l1 I
  rsh sg 0 fun r On m=>shO I' (AV.idsT xs) I' m fun Oi On' =>
   let O:=Oi++(On++On')
   let l2:=(l1.map fun p=>(p.2,p.1))++a19q (o.dst.getD 490) (On++On')
   chk z (D1q l1 l2 I O (A8q O)&&xok s I (n9q l2 O) ((A8q O).map fun m=>(a1q l2 m).getD m)) <|
    XC P f xs I' r O/\k (s.xupd o.dst (r.map (l4q l2)) I (n9q l2 O) ((A8q O).map fun m=>(a1q l2 m).getD m))
def RS.closed:RS->Bool
 | .c .l=>false
 | .c .f=>false
 | .c _=>true
 | .d ks=>ks.all fun c=>decide (c ≠ .l/\c ≠ .f)
 | .o _ _=>true
 | .b _ _=>false
 | .s ks=>ks.all fun c=>match c with
  | .k .l=>false
  | .k .f=>false
  | _=>true
 | .p _=>false
 | .t rs=>go rs
where go:List RS->Bool
 | []=>true
 | r::rs=>r.closed&&go rs
def Q2q:List AV->List Nat
 | []=>[]
 | .one (.ol k)::r=>k::Q2q r
 | .agg xs::r=>AV.idsL xs++Q2q r
 | _::r=>Q2q r
def a0gq (xs:List AV):Bool:=(AV.idsT xs).isEmpty
def muOf:List (Nat×Ob)->Option (Nat×Nat×Nat×List (List Da)×Nat×Nat×Option Addr×Nat×Nat)
 | []=>none
 | (k,.mu E es xs m q a n c)::_=>some (k,E,es,xs,m,q,a,n,c)
 | _::r=>muOf r
def a99q (z:Prop) (P:Program) (E:Env) (n:Nat) (o:Oper) (s:St) (k:St->Prop):Prop:=match o.op with
 | .call c=>match c.callee with
  | .value v=>chk z (o.dst.all (· < n))<|opt z (s.ev v) fun V=>opt z (p7q s.ev c.args.toList) fun xs=>opt z (muOf s.ob) fun p=>opt z c.argTypes[0]? fun t=>opt z (a1q E.tab t) fun i=>opt z i.el fun e=>opt z (a1q E.zer e) fun zz=>match V,xs with
   | .one (.d (.fn f)),.one (.raw a l r)::zs=>opt z (a1q E.sig f) fun sg=>opt z (a1q E.cks p.2.1) fun ck=>opt z (s.gob p.1) fun Y=>match Y with
    | .mu Ee es rows m q a' l' r'=>chk z (E.fns.contains f&&a0gq zs)<|(a=a'/\l=l'/\r=r')/\shp ck fun row=>rows[m]?=some row/\match row[q]? with
     | some (.sl ys)=>Do (∀y∈ys,y.length=zz.1)/\∃ys1:List (List Da),rsh sg 0 fun y On _=>chk z (y.flat&&On.isEmpty)<|XC P f (.one (.ol 2000)::zs) [(2000,.mt e zz.1 ys)] y [(2000,.mt e zz.1 ys1)]/\k ((s.mv (killL []) p.1 [] (.mt Ee es (rows.set m (row.take q++[.sl ys1]++row.drop (q+1))))).upd o.dst y [])
     | _=>False
    | _=>z
   | _,_=>z
  | _=>z
 | _=>z
theorem a8kq {Γ:Cx} {P:Program} {E:Env} {z:Prop} {ops:Array Oper} {rest:List Oper} {o:Oper} {s:St} {k K:St->Prop} (hE:EnvOk P E) (hz:¬z) (hg:o.guard=none) (hk:∀s',k s'->d8q Γ P ops rest K s') (h:a99q z P E Γ.n o s k):d8q Γ P ops (o::rest) K s:=by
 unfold a99q at h
 split at h
 ·rename_i c ho
  obtain ⟨callee,args,ats⟩:=c
  simp only at h
  split at h
  ·rename_i v
   obtain ⟨hd,h⟩:=a7q hz h
   obtain ⟨V,hV,h⟩:=a0q hz h
   obtain ⟨xs,hxs,h⟩:=a0q hz h
   obtain ⟨p,hp,h⟩:=a0q hz h
   obtain ⟨t,_,h⟩:=a0q hz h
   obtain ⟨i,_,h⟩:=a0q hz h
   obtain ⟨e,_,h⟩:=a0q hz h
   obtain ⟨zz,_,h⟩:=a0q hz h
   have ho':o.op = .call { callee:=.value v,args:=args.toList.toArray,argTypes:=ats }:=by simpa using ho
   split at h
   ·rename_i f a l r zs
    obtain ⟨sg,_,h⟩:=a0q hz h
    obtain ⟨ck,_,h⟩:=a0q hz h
    obtain ⟨Y,hY,h⟩:=a0q hz h
    split at h
    ·rename_i Ee es rows m q a' l' r'
     obtain ⟨hl,he3,h⟩:=a7q hz h
     rw [he3.1,he3.2.1,he3.2.2] at hxs
     simp only [a0z,a4z,a0gq,afz] at hl
     obtain ⟨row,_,hm,h⟩:=D3q h
     cases hq:row[q]? with
     | none=>rw [hq] at h; exact h.elim
     | some x0 =>
      rw [hq] at h
      cases x0 with
      | sl ys =>
       obtain ⟨hes,ys1,h⟩:=h
       obtain ⟨y,On,_,h⟩:=a2xq sg h
       obtain ⟨hc,hx,h⟩:=a7q hz h
       simp only [a0z] at hc
       obtain ⟨fn,hfn,hb,hn⟩:=a0fq (a3z.1 hE.fns _ hl.1)
       exact aaKq ho' hg hd hV hxs hl.2 hY hm hq hes.h hfn hb hn hx.h (fun _ _ _ _ _ _ _ hr=>hr.flatV hc.1) (hk _ h)
      | _=>exact h.elim
    ·exact absurd h hz
   ·exact absurd h hz
  ·exact absurd h hz
 ·exact absurd h hz
def ag2q (s:St) (c:Call):Bool:=match c.args.toList with
 | x::_=>match s.ev x with
  | some (.one (.raw _ _ _))=>true
  | _=>false
 | _=>false
def degrAll (s:St):List Nat->St
 | []=>s
 | k::r=>match s.gob k with
  | some (.tr e es xs)=>degrAll (s.setOb k (.lst e es xs)) r
  | _=>degrAll s r
theorem To.degrAll:∀{l:List Nat} {s:St},To s (degrAll s l)
 | [],s=>To.refl s
 | k::r,s=>by
  simp only [AM.degrAll]
  split
  ·rename_i hk
   exact To.trans (fun Γ a w S β hs=>⟨S,β,hs.setX hk ObRep.lst_of_tr⟩) To.degrAll
  ·exact To.degrAll
def agGq (E:Env):Operand->Bool
 | .func f=>E.ovl.contains f
 | _=>false
def vOvl (z:Prop) (E:Env) (n:Nat) (o:Oper) (s:St) (k:St->Prop):Prop:=match o.op with
 | .call c=>match c.callee,c.args.toList with
  | .value (.func f),[x,y]=>chk z (o.dst.all (· < n)&&E.ovl.contains f)<|opt z (s.ev x) fun X=>opt z (s.ev y) fun Y=>match X,Y with
   | .one (.ol k1),.one (.ps k2 es2 _ _)=>opt z (s.gob k1) fun A=>opt z (asP A) fun p=>opt z (s.gob k2) fun A2=>opt z (asP A2) fun q=>chk z (p.1.isNone&&decide (k1≠k2/\q.2.2.1=es2/\0<es2)) (k (s.upd o.dst (B false) []))
   | _,_=>z
  | _,_=>z
 | _=>z
theorem abxq {Γ:Cx} {P:Program} {E:Env} {z:Prop} {o:Oper} {s:St} {k:St->Prop} (hE:EnvOk P E) (hz:¬z) (h:vOvl z E Γ.n o s k):∃s',XOp Γ P o s s'/\k s':=by
 unfold vOvl at h
 split at h
 ·rename_i c ho
  obtain ⟨callee,args,ats⟩:=c
  simp only at h
  split at h
  ·rename_i f x y ha
   have ha:=arr2 ha
   subst ha
   obtain ⟨hd,h⟩:=a7q hz h
   simp only [a0z,a4z] at hd
   obtain ⟨X,hX,h⟩:=a0q hz h
   obtain ⟨Y,hY,h⟩:=a0q hz h
   split at h
   ·obtain ⟨A,hA,h⟩:=a0q hz h
    obtain ⟨⟨cc,Ee,es,xs⟩,hp,h⟩:=a0q hz h
    have hp:=a0Kq hp
    rw [hp] at hA
    obtain ⟨A2,hA2,h⟩:=a0q hz h
    obtain ⟨⟨cc2,Ee2,es',xs2⟩,hp2,h⟩:=a0q hz h
    have hp2:=a0Kq hp2
    rw [hp2] at hA2
    dsimp only at h hA hA2
    obtain ⟨hl,h3⟩:=a7q hz h
    simp only [a0z,aaz,decide_eq_true_eq] at hl
    obtain ⟨rfl,p1,p2,p3⟩:=hl
    rw [p2] at hA2
    exact ⟨_,(aeQq (lo1:=0) (n1:=0) (hE.ovl f hd.2) ho hA hA2 p1 (.inr ⟨hX,rfl⟩) hY p3).xop hd.1 rfl,h3⟩
   ·exact absurd h hz
  ·exact absurd h hz
 ·exact absurd h hz
def aeCq (s:St) (pos:Nat) (xs:List AV):List Nat:=match xs[pos]? with
 | some (.one (.ol k))=>match s.gob k with
  | some (.lst _ _ _)=>[k]
  | some (.tr _ _ _)=>[k]
  | _=>[]
 | _=>[]
def rsB:RS->RS
 | .o E es=>.b E es
 | r=>r
def agXq (E:Env) (s:St) (tk:List Nat) (sg:RS):RS:=match tk with
 | k::_=>match s.gob k with
  | some (.lst _ _ _)=>rsB sg
  | _=>sg
 | []=>match sg with
  | .o e _=>match acXq (a1q E.cks e) with
   | true=>sg
   | false=>rsB sg
  | _=>rsB sg
def a5dq (z:Prop) (P:Program) (E:Env) (o:Oper) (s0 s:St) (tk:List Nat) (f:FuncId) (zs:List AV) (k:St->Prop):Prop :=
 chk z (E.fns.contains f)<|opt z (a1q E.sig f) fun sg0=>opt z (a11q s (O3q s 8 (F1q [] (AV.idsT zs)))) fun I =>
  let sg:=agXq E s0 tk sg0
  let l1:=a2Uq 2000 (I.map (·.1))
  let xs:=AV.mapT (l4q l1) zs
  let I':=n9q l1 I
  let tk':=tk.map fun q=>(a1q l1 q).getD q
  rsh sg 0 fun r On m=>shO I' ((AV.idsT xs).filter fun q => !tk'.contains q) I' m fun Oi On' =>
   let O:=Oi++(On++On')
   let l2:=(l1.map fun p=>(p.2,p.1))++a19q (o.dst.getD 490) (On++On')
   chk z (D1q l1 l2 I O (A8q O)&&xok s I (n9q l2 O) ((A8q O).map fun m=>(a1q l2 m).getD m)) <|
    XC P f xs I' r O/\k (s.xupd o.dst (r.map (l4q l2)) I (n9q l2 O) ((A8q O).map fun m=>(a1q l2 m).getD m))
theorem a2pq {P:Program} {E:Env} {z:Prop} {o:Oper} {s s0 sV:St} {k:St->Prop} {tk:List Nat} {n:Nat} (hV:∀Γ a w S β,Sim Γ s a w S β->Sim Γ sV a w S β) (hE:EnvOk P E) (hz:¬z) {c:Operand} {ag:List Operand} {ts:Array TypeId} {zs:List AV} {f:FuncId} (ho:o.op = .call { callee:=.value c,args:=ag.toArray,argTypes:=ts }) (hd:o.dst.all (· < n)=true) (hc:sV.ev c=some (.one (.d (.fn f)))) (has:p7q sV.ev ag=some zs)
  (h:a5dq z P E o s0 s tk f zs k):∃s',(∀Γ:Cx,Γ.n=n->XOp Γ P o s s')/\k s':=by
 unfold a5dq at h
 obtain ⟨hf,h⟩:=a7q hz h
 obtain ⟨sg,_,h⟩:=a0q hz h
 obtain ⟨I,hI,h⟩:=a0q hz h
 obtain ⟨r,On,m,h⟩:=a2xq _ h
 obtain ⟨Oi,On',h⟩:=F3q h
 obtain ⟨h1,h2,h⟩:=a7q hz h
 simp only [a0z] at h1
 simp only [a4z] at hf
 obtain ⟨fn,hfn,hb,hn⟩:=a0fq (a3z.1 hE.fns f hf)
 refine ⟨_,fun Γ hΓ => ?_,h⟩
 have hx:=a2Iq _ _ h2.h rfl rfl rfl rfl rfl h1.1
 exact a9zq (hV Γ) (a8Wq hx hfn hb hn) ho hc has (by rw [hΓ]; exact hd) (a2Rq hI) h1.2
def vY (z : Prop) (P : Program) (E : Env) (n : Nat) (o : Oper) (s : St) (k : St → Prop) : Prop := match o.op with
  | .call c => match c.callee with
    | .value v => chk z (o.dst.all (· < n)) <| opt z (s.ev v) fun V => opt z (p7q s.ev c.args.toList) fun xs => match V with
      | .one (.d (.fn f)) => match a1q E.tkn f with
       | some pos =>
         match decide (pos < 100) with
         | true =>
           let tk := aeCq s pos xs
           let s1 := degrAll s ((AV.idsT xs).filter fun q => !tk.contains q)
           opt z (p7q s1.ev c.args.toList) fun xs1 => opt z (s1.ev v) fun V1 => match V1 with
            | .one (.d (.fn f1)) => a5dq z P E o s s1 tk f1 xs1 k
            | _ => z
         | false =>
           let tk := aeCq s (pos - 100) xs
           let ks := (AV.idsT xs).filter fun q => !tk.contains q
           let s1 := sealAll s ks
           let sV := I8q s1 ks
           opt z (p7q sV.ev c.args.toList) fun xs1 => opt z (sV.ev v) fun V1 => match V1 with
            | .one (.d (.fn f1)) => a5dq z P E o s s1 tk f1 xs1 k
            | _ => z
       | none => opt z (a1q E.sig f) fun sg => match E.obj.contains f with
        | true => a2Xq z P E o s s f xs k
        | false => match a0gq xs && !(E.lw && sg.closed) with
          | true => a02q z P E (o.dst.getD 0) V xs fun y nob => chk z (s.fresh nob) (k (s.upd o.dst y nob))
          | false =>
            let ks := Q2q xs
            let sF := frzAll s ks
            opt z (p7q sF.ev c.args.toList) fun xs' => opt z (sF.ev v) fun V' => match a0gq xs' && sg.closed with
              | true => a02q z P E (o.dst.getD 0) V' xs' fun y nob => chk z (y.closed && (nob.all fun p => isTr p.2)) <| match E.lw with
                | true => chk z (s.fresh (thaw nob)) (k (s.upd o.dst y (thaw nob)))
                | false => chk z (s.fresh nob) (k (s.upd o.dst y nob))
              | false =>
                let s1 := sealAll s ks
                let sV := I8q s1 ks
                opt z (p7q sV.ev c.args.toList) fun xs2 => opt z (sV.ev v) fun V2 => match a0gq xs2 with
                  | true => a02q z P E (o.dst.getD 0) V2 xs2 fun y nob => chk z (s1.fresh nob) (k (s1.upd o.dst y nob))
                  | false => match V2 with
                    | .one (.d (.fn f')) => a2Xq z P E o s1 sV f' xs2 k
                    | _ => z
      | .one (.clo f caps) =>
          let ks := Q2q xs
          let s1 := sealAll s ks
          let sV := I8q s1 ks
          opt z (p7q sV.ev c.args.toList) fun xs' => opt z (sV.ev v) fun V' => match V' with
            | .one (.clo f' caps') => a2Xq z P E o s1 sV f' (xs' ++ caps'.map fun p => .one (.op p.1 p.2)) k
            | _ => z
      | _ => z
    | _ => z
  | _ => z
section
variable {Γ:Cx} {P:Program} {E:Env} {z:Prop} {o:Oper} {s:St} {k:St->Prop}
theorem Y4q {n:Nat} {sV:St} (hV:∀Γ a w S β,Sim Γ s a w S β->Sim Γ sV a w S β) (hE:EnvOk P E) (hz:¬z) {c:Operand} {ag:List Operand} {ts:Array TypeId} {v:AV} {xs zs:List AV} {f:FuncId} (ho:o.op = .call { callee:=.value c,args:=ag.toArray,argTypes:=ts }) (hd:o.dst.all (· < n)=true) (hc:sV.ev c=some v) (has:p7q sV.ev ag=some xs)
  (hv:(v = .one (.d (.fn f))/\zs=xs)\/∃caps,v = .one (.clo f caps)/\zs=xs++caps.map fun p=>.one (.op p.1 p.2)) (h:a2Xq z P E o s sV f zs k):∃s',(∀Γ:Cx,Γ.n=n->XOp Γ P o s s')/\k s':=by
 unfold a2Xq at h
 obtain ⟨hf,h⟩:=a7q hz h
 obtain ⟨sg,_,h⟩:=a0q hz h
 obtain ⟨I,hI,h⟩:=a0q hz h
 obtain ⟨r,On,m,h⟩:=a2xq sg h
 obtain ⟨Oi,On',h⟩:=F3q h
 obtain ⟨h1,h2,h⟩:=a7q hz h
 simp only [a0z] at h1
 simp only [a4z] at hf
 obtain ⟨fn,hfn,hb,hn⟩:=a0fq (a3z.1 hE.fns f hf)
 refine ⟨_,fun Γ hΓ => ?_,h⟩
 have hx:=(a2Iq _ _ h2.h rfl rfl rfl rfl rfl h1.1).norm
 refine a9zq (hV Γ) ?_ ho hc has (by rw [hΓ]; exact hd) (a2Rq hI) h1.2
 rcases hv with ⟨rfl,rfl⟩ | ⟨caps,rfl,rfl⟩
 ·exact a8Wq hx hfn hb hn
 ·exact acfq hx rfl hfn hb hn
theorem aauq {n:Nat} (hE:EnvOk P E) (hz:¬z) (h:vY z P E n o s k):∃s',(∀Γ:Cx,Γ.n=n->XOp Γ P o s s')/\k s':=by
 unfold vY at h
 split at h
 ·rename_i c ho
  obtain ⟨callee,args,ats⟩:=c
  simp only at h
  split at h
  ·rename_i v
   obtain ⟨hd,h⟩:=a7q hz h
   obtain ⟨V,hV,h⟩:=a0q hz h
   obtain ⟨xs,hxs,h⟩:=a0q hz h
   have ho':o.op = .call { callee:=.value v,args:=args.toList.toArray,argTypes:=ats }:=by simpa using ho
   split at h
   ·rename_i f
    split at h
    ·split at h
     ·obtain ⟨xs1,hxs1,h⟩:=a0q hz h
      obtain ⟨V1,hV1,h⟩:=a0q hz h
      split at h
      ·obtain ⟨s',h1,h⟩:=a2pq (fun _ _ _ _ _ h=>h) hE hz ho' hd hV1 hxs1 h
       exact ⟨s',fun Γ hn=>a2iq To.degrAll (h1 Γ hn),h⟩
      ·exact absurd h hz
     ·obtain ⟨xs1,hxs1,h⟩:=a0q hz h
      obtain ⟨V1,hV1,h⟩:=a0q hz h
      split at h
      ·obtain ⟨s',h1,h⟩:=a2pq (fun _ _ _ _ _ h=>C2q h) hE hz ho' hd hV1 hxs1 h
       exact ⟨s',fun Γ hn=>a2iq To.sealAll (h1 Γ hn),h⟩
      ·exact absurd h hz
    obtain ⟨sg,_,h⟩:=a0q hz h
    split at h
    ·exact Y4q (fun _ _ _ _ _ h=>h) hE hz ho' hd hV hxs (.inl ⟨rfl,rfl⟩) h
    ·split at h
     ·obtain ⟨y,nob,h1,h⟩:=C0q (s0:=s) hE hz ho' hV hxs h
      obtain ⟨hf,h⟩:=a7q hz h
      exact ⟨_,fun Γ hn=>(acAq h1).xop (by rw [hn]; exact hd) hf,h⟩
     ·obtain ⟨xs',hxs',h⟩:=a0q hz h
      obtain ⟨V',hV',h⟩:=a0q hz h
      split at h
      ·obtain ⟨y,nob,h1,h⟩:=C0q (s0:=frzAll s _) hE hz ho' hV' hxs' h
       obtain ⟨hc,h⟩:=a7q hz h
       simp only [a0z] at hc
       split at h
       ·obtain ⟨hf,h⟩:=a7q hz h
        exact ⟨_,fun Γ hn=>(a6Oq h1 hc.1 hc.2).xop (by rw [hn]; exact hd) hf,h⟩
       ·obtain ⟨hf,h⟩:=a7q hz h
        exact ⟨_,fun Γ hn=>(a85q h1 hc.1 hc.2).xop (by rw [hn]; exact hd) hf,h⟩
      ·obtain ⟨xs2,hxs2,h⟩:=a0q hz h
       obtain ⟨V2,hV2,h⟩:=a0q hz h
       split at h
       ·obtain ⟨y,nob,h1,h⟩:=C0q (s0:=I8q _ _) hE hz ho' hV2 hxs2 h
        obtain ⟨hf,h⟩:=a7q hz h
        exact ⟨_,fun Γ hn=>a2iq To.sealAll (aefq (fun _ _ _ _ h=>C2q h) h1 (by rw [hn]; exact hd) hf),h⟩
       ·split at h
        ·obtain ⟨s',h1,h⟩:=Y4q (fun _ _ _ _ _ h=>C2q h) hE hz ho' hd hV2 hxs2 (.inl ⟨rfl,rfl⟩) h
         exact ⟨s',fun Γ hn=>a2iq To.sealAll (h1 Γ hn),h⟩
        ·exact absurd h hz
   ·obtain ⟨xs',hxs',h⟩:=a0q hz h
    obtain ⟨V',hV',h⟩:=a0q hz h
    split at h
    ·obtain ⟨s',h1,h⟩:=Y4q (fun _ _ _ _ _ h=>C2q h) hE hz ho' hd hV' hxs' (.inr ⟨_,rfl,rfl⟩) h
     exact ⟨s',fun Γ hn=>a2iq To.sealAll (h1 Γ hn),h⟩
    ·exact absurd h hz
   ·exact absurd h hz
  ·exact absurd h hz
 ·exact absurd h hz
theorem a8zq (hE:EnvOk P E) (hz:¬z) (h:vY z P E Γ.n o s k):∃s',XOp Γ P o s s'/\k s':=by
 obtain ⟨s',h1,h⟩:=aauq hE hz h
 exact ⟨s',h1 Γ rfl,h⟩
end
def k4q (l2:List (Nat×Nat)) (β:Nat->OLoc) (o:Nat):OLoc:=match a1q l2 o with | some k=>β k | none=>β o
section
variable {w w':World} {S S':Nat->Prop} {β βf:Nat->OLoc} {I' O:List (Nat×Ob)} {mv:List Nat} {r:AV} {v:Value} {l1 l2:List (Nat×Nat)}
theorem adEq (hok:D1q l1 l2 I' O mv=true) (hin:R9q w S β I'):R9q w S (k4q l2 β) (n9q l1 I'):=by
 simp only [D1q,a0z,a3z,beq_iff_eq,agz,bne_iff_ne,ne_eq] at hok
 obtain ⟨⟨⟨⟨k1,k2⟩,k3⟩,k4⟩,k5⟩:=hok
 have hinj:∀a b k,a1q l2 a=some k->a1q l2 b=some k->a=b:=by
  intro a b k ha hb
  rcases k2 (a,k) (g2q ha) (b,k) (g2q hb) with h | h
  ·exact absurd rfl h
  ·exact h
 have hc:∀o k,a1q l1 o=some k->(k4q l2 β) k=β o:=by
  intro o k ho
  have:=k1 (o,k) (g2q ho)
  simp only [k4q,this]
 have hloc:∀p∈I',∃k,a1q l1 p.1=some k/\(k4q l2 β) k=β p.1:=by
  intro p hp
  obtain ⟨k,hk⟩:=a6z.1 (k4 p hp)
  exact ⟨k,hk,hc _ _ hk⟩
 have hpass:∀b,i9q (n9q l1 I') (k4q l2 β) b↔i9q I' β b:=by
  intro b
  rw [l2q]
  constructor
  ·rintro ⟨q,hq,h1⟩
   obtain ⟨p,hp,rfl⟩:=a1z.1 hq
   obtain ⟨k,hk,hkb⟩:=hloc p hp
   simp only [hk,a2z,hkb] at h1
   exact ⟨p,hp,h1⟩
  ·rintro ⟨p,hp,h1⟩
   obtain ⟨k,hk,hkb⟩:=hloc p hp
   exact ⟨_,a1z.2 ⟨p,hp,rfl⟩,by simp only [hk,a2z,hkb]; exact h1⟩
 have hpc:∀b,C5q (n9q l1 I') (k4q l2 β) b↔C5q I' β b:=by
  intro b
  rw [l2q]
  constructor
  ·rintro ⟨q,hq,h1⟩
   obtain ⟨p,hp,rfl⟩:=a1z.1 hq
   obtain ⟨k,hk,hkb⟩:=hloc p hp
   simp only [hk,a2z,hkb] at h1
   exact ⟨p,hp,h1⟩
  ·rintro ⟨p,hp,h1⟩
   obtain ⟨k,hk,hkb⟩:=hloc p hp
   exact ⟨_,a1z.2 ⟨p,hp,rfl⟩,by simp only [hk,a2z,hkb]; exact h1⟩
 have hin':R9q w S (k4q l2 β) (n9q l1 I'):=by
  rw [l2q]
  refine ⟨fun q hq => ?_,fun q hq => ?_,fun q hq q' hq' => ?_,fun q hq => ?_,fun q hq q' hq' => ?_⟩
  ·obtain ⟨p,hp,rfl⟩:=a1z.1 hq
   obtain ⟨k,hk,hkb⟩:=hloc p hp
   simp only [hk,a2z,hkb]
   exact (hin.ob p hp).ren hc
  ·obtain ⟨p,hp,rfl⟩:=a1z.1 hq
   obtain ⟨k,hk,hkb⟩:=hloc p hp
   simp only [hk,a2z,hkb]
   exact hin.own p hp
  ·obtain ⟨p,hp,rfl⟩:=a1z.1 hq
   obtain ⟨p',hp',rfl⟩:=a1z.1 hq'
   obtain ⟨k,hk,hkb⟩:=hloc p hp
   obtain ⟨k',hk',hkb'⟩:=hloc p' hp'
   simp only [hk,hk',a2z,hkb,hkb']
   intro b h1 h2
   have:=hin.sep p hp p' hp' b h1 h2
   rw [this,hk'] at hk
   simpa using hk.symm
  ·obtain ⟨p,hp,rfl⟩:=a1z.1 hq
   obtain ⟨k,hk,hkb⟩:=hloc p hp
   simp only [hk,a2z,hkb]
   exact hin.clm p hp
  ·obtain ⟨p,hp,rfl⟩:=a1z.1 hq
   obtain ⟨p',hp',rfl⟩:=a1z.1 hq'
   obtain ⟨k,hk,hkb⟩:=hloc p hp
   obtain ⟨k',hk',hkb'⟩:=hloc p' hp'
   simp only [hk,hk',a2z,hkb,hkb']
   intro b h1 h2
   have:=hin.sepc p hp p' hp' b h1 h2
   rw [this,hk'] at hk
   simpa using hk.symm
 exact hin'
theorem ad8q (hok:D1q l1 l2 I' O mv=true) (hG:GrowX w S (k4q l2 β) (n9q l1 I') O mv w' S' βf) (hrep:RepV w' S' βf r v):∃β2,GrowX w S β I' (n9q l2 O) (mv.map fun m=>(a1q l2 m).getD m) w' S' β2/\RepV w' S' β2 (r.map (l4q l2)) v:=by
 simp only [D1q,a0z,a3z,beq_iff_eq,agz,bne_iff_ne,ne_eq] at hok
 obtain ⟨⟨⟨⟨k1,k2⟩,k3⟩,k4⟩,k5⟩:=hok
 have hinj:∀a b k,a1q l2 a=some k->a1q l2 b=some k->a=b:=by
  intro a b k ha hb
  rcases k2 (a,k) (g2q ha) (b,k) (g2q hb) with h | h
  ·exact absurd rfl h
  ·exact h
 have hc:∀o k,a1q l1 o=some k->(k4q l2 β) k=β o:=by
  intro o k ho
  have:=k1 (o,k) (g2q ho)
  simp only [k4q,this]
 have hloc:∀p∈I',∃k,a1q l1 p.1=some k/\(k4q l2 β) k=β p.1:=by
  intro p hp
  obtain ⟨k,hk⟩:=a6z.1 (k4 p hp)
  exact ⟨k,hk,hc _ _ hk⟩
 have hpass:∀b,i9q (n9q l1 I') (k4q l2 β) b↔i9q I' β b:=by
  intro b
  rw [l2q]
  constructor
  ·rintro ⟨q,hq,h1⟩
   obtain ⟨p,hp,rfl⟩:=a1z.1 hq
   obtain ⟨k,hk,hkb⟩:=hloc p hp
   simp only [hk,a2z,hkb] at h1
   exact ⟨p,hp,h1⟩
  ·rintro ⟨p,hp,h1⟩
   obtain ⟨k,hk,hkb⟩:=hloc p hp
   exact ⟨_,a1z.2 ⟨p,hp,rfl⟩,by simp only [hk,a2z,hkb]; exact h1⟩
 have hpc:∀b,C5q (n9q l1 I') (k4q l2 β) b↔C5q I' β b:=by
  intro b
  rw [l2q]
  constructor
  ·rintro ⟨q,hq,h1⟩
   obtain ⟨p,hp,rfl⟩:=a1z.1 hq
   obtain ⟨k,hk,hkb⟩:=hloc p hp
   simp only [hk,a2z,hkb] at h1
   exact ⟨p,hp,h1⟩
  ·rintro ⟨p,hp,h1⟩
   obtain ⟨k,hk,hkb⟩:=hloc p hp
   exact ⟨_,a1z.2 ⟨p,hp,rfl⟩,by simp only [hk,a2z,hkb]; exact h1⟩
 let β2:Nat->OLoc:=fun k=>match mv.find? fun m=>a1q l2 m==some k with | some m=>βf m | none=>β k
 have hf:∀o k,a1q l2 o=some k->β2 k=βf o:=by
  intro o k ho
  simp only [β2]
  split
  ·rename_i m hm
   have h1:=aBz hm
   simp only [beq_iff_eq] at h1
   rw [hinj _ _ _ h1 ho]
  ·rename_i hm
   have hom:o∉mv:=by
    intro hmem
    have:=List.find?_eq_none.1 hm o hmem
    simp [ho] at this
   rw [hG.loc o hom]
   simp only [k4q,ho]
 have hlocO:∀p∈O,∃k,a1q l2 p.1=some k/\β2 k=βf p.1:=by
  intro p hp
  obtain ⟨k,hk⟩:=a6z.1 (k5 p hp)
  exact ⟨k,hk,hf _ _ hk⟩
 refine ⟨β2,⟨hG.os,hG.tape,hG.output,hG.size,fun b hb hp=>hG.block b hb fun h=>hp ((hpass b).1 h),hG.sub,fun b hb=>⟨(hG.sup b hb).1,(hG.sup b hb).2.imp id fun h=>h.imp id (hpass b).1⟩,fun k hk => ?_,fun q hq => ?_,fun q hq => ?_,fun q hq q' hq' => ?_,fun q hq => ?_,fun q hq q' hq' => ?_⟩,hrep.map (RepA.ren hf) fun _ _ h=>h⟩
 ·simp only [β2]
  split
  ·rename_i m hm
   have h1:=aBz hm
   have h2:=List.mem_of_find?_eq_some hm
   simp only [beq_iff_eq] at h1
   exact absurd (a1z.2 ⟨m,h2,by simp [h1]⟩) hk
  ·rfl
 ·rw [l2q] at hq
  obtain ⟨p,hp,rfl⟩:=a1z.1 hq
  obtain ⟨k,hk,hkb⟩:=hlocO p hp
  simp only [hk,a2z,hkb]
  exact (hG.ob p hp).ren hf
 ·rw [l2q] at hq
  obtain ⟨p,hp,rfl⟩:=a1z.1 hq
  obtain ⟨k,hk,hkb⟩:=hlocO p hp
  simp only [hk,a2z,hkb]
  intro b hh
  obtain ⟨h1,h2,h3⟩:=hG.own p hp b hh
  exact ⟨h1,h2,h3.imp id (hpass _).1⟩
 ·rw [l2q] at hq hq'
  obtain ⟨p,hp,rfl⟩:=a1z.1 hq
  obtain ⟨p',hp',rfl⟩:=a1z.1 hq'
  obtain ⟨k,hk,hkb⟩:=hlocO p hp
  obtain ⟨k',hk',hkb'⟩:=hlocO p' hp'
  simp only [hk,hk',a2z,hkb,hkb']
  intro b h1 h2
  have:=hG.sep p hp p' hp' b h1 h2
  rw [this,hk'] at hk
  simpa using hk.symm
 ·rw [l2q] at hq
  obtain ⟨p,hp,rfl⟩:=a1z.1 hq
  obtain ⟨k,hk,hkb⟩:=hlocO p hp
  simp only [hk,a2z,hkb]
  intro b hh
  obtain ⟨h1,h3⟩:=hG.clm p hp b hh
  exact ⟨h1,h3.imp id (Or.imp (hpass _).1 (hpc _).1)⟩
 ·rw [l2q] at hq hq'
  obtain ⟨p,hp,rfl⟩:=a1z.1 hq
  obtain ⟨p',hp',rfl⟩:=a1z.1 hq'
  obtain ⟨k,hk,hkb⟩:=hlocO p hp
  obtain ⟨k',hk',hkb'⟩:=hlocO p' hp'
  simp only [hk,hk',a2z,hkb,hkb']
  intro b h1 h2
  have:=hG.sepc p hp p' hp' b h1 h2
  rw [this,hk'] at hk
  simpa using hk.symm
end
section
variable {n:Nat} {P:Program} {o:Oper} {y:AV} {nob us I:List (Nat×Ob)} {ts:List (Nat×AV)}
theorem Grow.toX {w w':World} {S S':Nat->Prop} {β β':Nat->OLoc} (h:Grow w S β nob w' S' β'):GrowX w S β [] nob (nob.map (·.1)) w' S' β' :=
 ⟨h.os,h.tape,h.output,h.size,fun b hb _=>h.block b hb,h.sub,fun b hb=>⟨(h.sup b hb).1,(h.sup b hb).2.imp id .inl⟩,fun q hq=>h.loc q fun p hp e=>hq (a1z.2 ⟨p,hp,e⟩),h.ob,
  fun p hp b hb=>⟨(h.own p hp b hb).2.1,(h.own p hp b hb).2.2,.inl (h.own p hp b hb).1⟩,h.sep,fun p hp b hb=>⟨(h.clm p hp b hb).1,.inl (h.clm p hp b hb).2⟩,h.sepc⟩
def F7q (s:St):List Operand->List (Nat×AV)
 | []=>[]
 | .tmp t::r=>match s.get t with
  | some x=>(t,x)::F7q s r
  | none=>F7q s r
 | _::r=>F7q s r
theorem J2q {s:St} {t:Nat} {x:AV}:∀{l:List Operand},a1q (F7q s l) t=some x->s.get t=some x/\.tmp t∈l
 | [],h=>by simp [F7q,a1q] at h
 | .tmp t'::r,h=>by
  simp only [F7q] at h
  split at h
  ·rename_i x' hx
   simp only [a1q] at h
   split at h
   ·rename_i e
    simp only [beq_iff_eq] at e
    subst e
    simp at h; subst h
    exact ⟨hx,by simp⟩
   ·obtain ⟨h1,h2⟩:=J2q h
    exact ⟨h1,by simp [h2]⟩
  ·obtain ⟨h1,h2⟩:=J2q h
   exact ⟨h1,by simp [h2]⟩
 | .const _::r,h=>by obtain ⟨h1,h2⟩:=J2q (l:=r) h; exact ⟨h1,by simp [h2]⟩
 | .func _::r,h=>by obtain ⟨h1,h2⟩:=J2q (l:=r) h; exact ⟨h1,by simp [h2]⟩
 | .global _::r,h=>by obtain ⟨h1,h2⟩:=J2q (l:=r) h; exact ⟨h1,by simp [h2]⟩
theorem a6Jq {a:Act} {w:World} {S:Nat->Prop} {β:Nat->OLoc} {fx:Nat->OLoc->Prop} {ob:List (Nat×Ob)} {pa pc:Nat->Prop} (hd:a.defers=[]) (hn:a.tmps.size=n) (hlt:∀b,S b->b<w.heap.size) (htm:∀t x,a1q ts t=some x->∃v,a.tmps[t]?=some v/\RepV w S β x v) (hin:R9q w S β ob)
  (hpa:∀p∈ob,∀b,(β p.1).Own b->pa b) (hpc:∀p∈ob,∀b∈(β p.1).clm,pc b) (hfx:∀q l,fx q l->2000<=q/\β q=l):Sim ⟨n,w,S,pa,fx,pc⟩ ⟨ts,ob⟩ a w S β:=by
 have hgob:∀q X,(⟨ts,ob⟩:St).gob q=some X->(q,X)∈ob:=fun q X hq=>g2q hq
 refine ⟨hd,hn,htm,⟨hlt,fun q X hq=>hin.ob (q,X) (hgob q X hq),fun q X hq b hh => ?_,fun q q' X X' hq hq' b hh hh'=>hin.sep (q,X) (hgob q X hq) (q',X') (hgob q' X' hq') b hh hh',rfl,rfl,rfl,Nat.le_refl _,fun _ _ _=>rfl,fun _ h=>h,fun _ h=>.inl h,hfx,fun q X hq b hh => ?_,fun q q' X X' hq hq' b hh hh'=>hin.sepc (q,X) (hgob q X hq) (q',X') (hgob q' X' hq') b hh hh'⟩⟩
 ·obtain ⟨h1,h2⟩:=hin.own (q,X) (hgob q X hq) b hh
  exact ⟨h1,h2,.inr (hpa (q,X) (hgob q X hq) b hh)⟩
 ·exact ⟨hin.clm (q,X) (hgob q X hq) b hh,.inr (.inr (hpc (q,X) (hgob q X hq) b hh))⟩
def tsB (n:Nat) (o:Oper) (ts:List (Nat×AV)):Bool:=ts.all fun p=>decide (p.1<n)&&(a0Vq o).contains p.1
theorem ablq {o:Oper} {t:Nat} (h:t∈a0Vq o):Operand.tmp t∈o.op.operands:=by
 simp only [a0Vq,List.mem_filterMap] at h
 obtain ⟨x,h1,h2⟩:=h
 cases x with
 | tmp t'=>simp at h2; subst h2; simpa using h1
 | _=>simp at h2
theorem a9Aq {a:Act} {w:World} {S:Nat->Prop} {β:Nat->OLoc} {ob:List (Nat×Ob)} (h:tsB n o ts=true) (hn:a.tmps.size=n) (hr:∀x X,(⟨ts,ob⟩:St).ev x=some X->x∈o.op.operands->RepV w S β X (a.eval x)):∀t x,a1q ts t=some x->∃v,a.tmps[t]?=some v/\RepV w S β x v:=by
 intro t x hx
 have:=a3z.1 h _ (g2q hx)
 simp only [a0z,decide_eq_true_eq,a4z] at this
 have h1:=hr (.tmp t) x hx (ablq this.2)
 have hlt:t<a.tmps.size:=by omega
 refine ⟨a.tmps[t],akz hlt,?_⟩
 have:a.eval (.tmp t)=a.tmps[t]:=by simp [Act.eval,ahz,akz hlt]
 rw [<-this]; exact h1
theorem afwq (h:OpL P o ⟨ts,us⟩ y nob) (hts:tsB n o ts=true):OpX n P o (St.ev ⟨ts,us⟩) us [] y nob (nob.map (·.1)):=by
 intro a w S β hd hn hlt hr hin K Q hK
 rw [apz] at hin
 refine h ⟨n,w,S,i9q us β,fun _ _=>False,C5q us β⟩ a w S β ?_ K Q fun v w' S' β' hG hy=>hK v w' S' β' hG.toX hy
 exact a6Jq hd hn hlt (a9Aq hts hn hr) hin (fun p hp b hb=>⟨p,hp,hb⟩) (fun p hp b hb=>⟨p,hp,hb⟩) (fun _ _ h=>h.elim)
def Oper.ng (o:Oper):Oper:={ o with guard:=none }
theorem afHq {a:Act} {w:World} {K0 K:Act->World->Prop} {R Q:Exit->Act->World->Prop} (hR:∀e a w,R e a w->e = .normal) (h:(Oper.ng o).wp P a w K0 R) (hdef:∀a' w',K0 a' w'->a'.defers=[]) (hK:∀v w',K0 (a.put o.dst v) w'->K (a.put o.dst v) w'):o.wp P a w K Q:=by
 unfold Oper.wp at *
 have he:execOp a.eval (Oper.ng o)=execOp a.eval o:=rfl
 rw [he] at h
 generalize (execOp a.eval o).run P w=r at *
 have hlet:¬LetsOut R:=fun ⟨_,_,hl⟩=>absurd (hR _ _ _ hl) (by simp)
 cases r with
 | ok m w' =>
  cases m with
  | value v=>exact hK v w' h
  | skip=>exact hK _ w' h
  | defer d =>
   have:=hdef _ _ h
   cases hdd:o.dst <;> simp [Oper.ng,Act.put,hdd] at this
  | enter f args =>
   exact Calls.mono h fun e w'' he=>by
    cases e with
    | returned v=>exact hK v w'' he
    | panicked ch=>exact absurd (hR _ _ _ he) (by simp)
    | outgrown=>exact absurd he hlet
  | row rw args=>exact Rows.mono h fun v w'' he=>hK v w'' he
  | _=>exact h
 | halt x w' =>
  cases x with
  | panic v=>exact absurd (hR _ _ _ h) (by simp)
  | _=>exact h
def aeBq (O:List (Nat×Ob)) (mv:List Nat) (r:AV):Bool :=
 (r.ids++(O.map fun p=>p.1::p.2.ids).flatten).all fun o=>mv.contains o||decide (2000<=o)
def a7Zq (d:Option Nat) (s':St):Option AV:=match d with
 | some d=>s'.get d
 | none=>some (.tup [])
theorem adKq {s':St} {y0:AV} {O0:List (Nat×Ob)} {mv0:List Nat} {l1 l2:List (Nat×Nat)} (h:Step n P (Oper.ng o) ⟨U9q (l4q l1) ts,n9q l1 I⟩ s') (hts:tsB n o ts=true) (hd:o.dst.all (· < n)=true) (hy:a7Zq o.dst s'=some y0) (hO:usOk s' O0) (hids:aeBq O0 mv0 y0=true) (hok:D1q l1 l2 I O0 mv0=true) :
  OpX n P o (St.ev ⟨ts,I⟩) [] I (y0.map (l4q l2)) (n9q l2 O0) (mv0.map fun m=>(a1q l2 m).getD m):=by
 intro a w S β hdf hn hlt hr hin K Q hK
 rw [aCz] at hin
 have hin':=adEq hok hin
 have k1:∀q k,a1q l1 q=some k->k4q l2 β k=β q:=by
  intro q k hq
  have hok:=hok
  simp only [D1q,a0z,a3z,beq_iff_eq] at hok
  have:=hok.1.1.1.1 (q,k) (g2q hq)
  simp only [k4q,this]
 have htm:∀t x,a1q (U9q (l4q l1) ts) t=some x->∃v,a.tmps[t]?=some v/\RepV w S (k4q l2 β) x v:=by
  intro t x hx
  rw [s1q] at hx
  cases hz:a1q ts t with
  | none=>rw [hz] at hx; simp at hx
  | some z =>
   rw [hz] at hx; simp at hx; subst hx
   obtain ⟨v,hv,hrv⟩:=a9Aq (ob:=I) hts hn hr t z hz
   exact ⟨v,hv,hrv.map (RepA.ren k1) fun _ _ h=>h⟩
 have hsim:=a6Jq (ts:=U9q (l4q l1) ts) (fx:=fun q l=>2000<=q/\k4q l2 β q=l) (pa:=i9q (n9q l1 I) (k4q l2 β)) (pc:=C5q (n9q l1 I) (k4q l2 β)) hdf hn hlt htm hin' (fun p hp b hb=>⟨p,hp,hb⟩) (fun p hp b hb=>⟨p,hp,hb⟩) fun q l h=>h
 let Γ:Cx:=⟨n,w,S,i9q (n9q l1 I) (k4q l2 β),fun q l=>2000<=q/\k4q l2 β q=l,C5q (n9q l1 I) (k4q l2 β)⟩
 let R:Exit->Act->World->Prop:=fun e a' w'=>e = .normal/\∃S' β',Sim Γ s' a' w' S' β'
 have hwl:=h Γ rfl #[Oper.ng o] [] (fun s=>s=s') rfl (a8wq rfl) a w S (k4q l2 β) R hsim (fun a' w' s1 S' β' e hs'=>by subst e; exact ⟨rfl,S',β',hs'⟩)
 unfold wpList at hwl
 rw [if_pos (by simp [Region.wanted,Oper.ng])] at hwl
 have hwp:(Oper.ng o).wp P a w (wpList P #[Oper.ng o] R []) R:=by
  rcases hwl with h | ⟨_,_,_,hl⟩
  ·exact h
  ·exact absurd hl.1 (by simp)
 refine afHq (fun e a w h=>h.1) hwp (fun a' w' h=>h.2.elim fun S' h=>h.elim fun β' h=>h.defers) fun v w' hk => ?_
 obtain ⟨_,S',βf,hs'⟩:=hk
 obtain ⟨u,hu1,hu2⟩:∃u,a.put o.dst v=a.put o.dst u/\RepV w' S' βf y0 u:=by
  cases hdd:o.dst with
  | none =>
   rw [hdd] at hy
   simp only [a7Zq,Option.some.injEq] at hy
   subst hy
   exact ⟨.tuple #[],rfl,RepVs.tup .nil .nil⟩
  | some d =>
   rw [hdd] at hy hd hs'
   simp only [a7Zq] at hy
   obtain ⟨u,hu,hrep⟩:=hs'.tm d _ hy
   simp at hd
   refine ⟨u,?_,hrep⟩
   have:(a.put (some d) v).tmps[d]?=some v:=by simp [Act.put,hn,hd]
   rw [this] at hu
   cases hu
   rfl
 rw [hu1]
 let βg:Nat->OLoc:=fun q=>if q∈mv0 then βf q else k4q l2 β q
 have hin2:∀q∈y0.ids++(O0.map fun p=>p.1::p.2.ids).flatten,βg q=βf q:=by
  intro q hq
  have:=a3z.1 hids q hq
  simp only [agz,a4z,decide_eq_true_eq] at this
  by_cases hm:q∈mv0
  ·exact if_pos hm
  ·rcases this with h | h
   ·exact absurd h hm
   ·show (if q∈mv0 then βf q else k4q l2 β q)=βf q
    rw [if_neg hm]
    exact ((hs'.mem.fix q (k4q l2 β q) ⟨h,rfl⟩).2).symm
 have kO:∀p∈O0,s'.gob p.1=some p.2/\βg p.1=βf p.1/\∀q∈p.2.ids,βg q=βf q:=fun p hp =>
  ⟨q5q hO p hp,hin2 _ (a8z _ (azz.2 ⟨_,a1z.2 ⟨p,hp,rfl⟩,by simp⟩)),fun q hq=>hin2 _ (a8z _ (azz.2 ⟨_,a1z.2 ⟨p,hp,rfl⟩,by simp [hq]⟩))⟩
 have hG:GrowX w S (k4q l2 β) (n9q l1 I) O0 mv0 w' S' βg:=by
  refine ⟨hs'.mem.os,hs'.mem.tape,hs'.mem.output,hs'.mem.size,fun b hb hp=>hs'.mem.block b hb hp,hs'.mem.sub,fun b hb=>⟨hs'.mem.lt b hb,hs'.mem.sup b hb⟩,fun q hq=>if_neg hq,fun p hp => ?_,fun p hp b hh => ?_,fun p hp q hq b hh hh' => ?_,fun p hp b hh => ?_,fun p hp q hq b hh hh' => ?_⟩
  ·obtain ⟨h1,h2,h3⟩:=kO p hp
   rw [h2]
   exact (hs'.mem.ob p.1 p.2 h1).mono (fun _ _=>rfl) (fun _ _=>rfl) (fun _ h=>h) h3
  ·obtain ⟨h1,h2,h3⟩:=kO p hp
   rw [h2] at hh
   exact hs'.mem.own p.1 p.2 h1 b hh
  ·obtain ⟨h1,h2,h3⟩:=kO p hp
   obtain ⟨g1,g2,g3⟩:=kO q hq
   rw [h2] at hh
   rw [g2] at hh'
   exact hs'.mem.sep p.1 q.1 _ _ h1 g1 b hh hh'
  ·obtain ⟨h1,h2,h3⟩:=kO p hp
   rw [h2] at hh
   exact hs'.mem.clm p.1 p.2 h1 b hh
  ·obtain ⟨h1,h2,h3⟩:=kO p hp
   obtain ⟨g1,g2,g3⟩:=kO q hq
   rw [h2] at hh
   rw [g2] at hh'
   exact hs'.mem.sepc p.1 q.1 _ _ h1 g1 b hh hh'
 obtain ⟨β2,hG2,hr2⟩:=ad8q hok hG (hu2.mono (fun _ _=>rfl) (fun _ h=>h) fun q hq=>hin2 q (auz _ hq))
 exact hK u w' S' β2 hG2 hr2
end
def a4Aq (ks:List Nat):List (Nat×AV)->List (Nat×AV)
 | []=>[]
 | (i,x)::r=>(i,x.kill ks)::a4Aq ks r
def a3aq (ks:List Nat):List (Nat×Ob)->List (Nat×Ob)
 | []=>[]
 | (i,x)::r=>(i,x.kill ks)::a3aq ks r
theorem a3uq (ks:List Nat) (l:List (Nat×AV)) (i:Nat):a1q (a4Aq ks l) i=(a1q l i).map (·.kill ks):=by
 induction l with
 | nil=>rfl
 | cons p l ih=>obtain ⟨k,x⟩:=p; simp only [a4Aq,a1q]; split <;> simp [ih]
theorem a9wq (ks:List Nat) (l:List (Nat×Ob)) (i:Nat):a1q (a3aq ks l) i=(a1q l i).map (·.kill ks):=by
 induction l with
 | nil=>rfl
 | cons p l ih=>obtain ⟨k,x⟩:=p; simp only [a3aq,a1q]; split <;> simp [ih]
def St.xd (s:St) (dst:Option Nat) (e:EX):St:=match e.I with
 | []=>s.upd dst e.y e.O
 | _::_=>⟨(match dst with | some d=>[(d,e.y)] | none=>[])++a4Aq e.ks s.tm,e.O++F2q (a3aq e.ks s.ob) e.drop⟩
theorem afVq {s:St} {o:Oper} {e:EX} (hf:e.I=[]->∀i x,s.get i=some x->x.kill e.ks=x):(s.xd o.dst e).get=gE o e s.get:=by
 funext i
 unfold St.xd
 split
 ·rename_i hI
  rw [z3q]
  unfold gE
  by_cases h:o.dst=some i
  ·simp [h]
  ·simp only [h,if_false]
   cases hx:s.get i with
   | none=>rfl
   | some x=>simp [hf hI i x hx]
 ·unfold gE
  cases hd:o.dst with
  | none=>simp [St.get,a3uq]
  | some d =>
   simp only [St.get,List.singleton_append,a1q,Option.some.injEq]
   by_cases h:d=i
   ·simp [h]
   ·simp [h,a3uq]
theorem ag5q {s:St} {o:Oper} {e:EX} (hf:e.I=[]->∀q X,s.gob q=some X->X.kill e.ks=X):(s.xd o.dst e).gob=TE e s.gob:=by
 funext q
 unfold St.xd
 split
 ·rename_i hI
  rw [I9q]
  unfold TE
  have hdr:e.drop=[]:=by simp [EX.drop,hI,j3q]
  rw [hdr]
  simp only [alz,if_false]
  cases hx:s.gob q with
  | none=>rfl
  | some x=>simp [hf hI q x hx]
 ·unfold TE
  simp only [St.gob,a0yq,H3q,a9wq]
def r7q (s:St):List Nat->List (Nat×Ob)
 | []=>[]
 | k::r=>match s.gob k with
  | some X=>(k,X)::r7q s r
  | none=>r7q s r
theorem D5q {s:St}:∀{l:List Nat} {p:Nat×Ob},p∈r7q s l->s.gob p.1=some p.2
 | k::r,p,h=>by
  simp only [r7q] at h
  split at h
  ·rename_i X hX
   rcases a5z.1 h with rfl | h
   ·exact hX
   ·exact D5q h
  ·exact D5q h
def agPq (I:List (Nat×Ob)) (k:Nat):Bool:=match a1q I k with
 | some (.var _)=>false
 | some _=>decide (k<2000)
 | none=>false
def lowI (o:Oper) (I:List (Nat×Ob)):List (Nat×Ob):=match o.op with
 | .call c=>(match c.callee with
  | .builtin .copy=>[]
  | .builtin .clear=>[]
  | _=>I)
 | _=>I
def mkL1 (I:List (Nat×Ob)):Nat->List Nat->List (Nat×Nat)
 | _,[]=>[]
 | n,k::r=>match agPq I k with
  | true=>(k,k)::mkL1 I n r
  | false=>(k,n)::mkL1 I (n+1) r
def ded (ob:List (Nat×Ob)):List (Nat×Ob)->List Nat->List (Nat×Ob)
 | [],_=>[]
 | (k,_)::r,seen=>match seen.contains k with
  | true=>ded ob r seen
  | false=>match a1q ob k with
   | some X=>(k,X)::ded ob r (k::seen)
   | none=>ded ob r seen
theorem a59q {s:St}:∀{l:List (Nat×Ob)} {seen:List Nat},usOk s (ded s.ob l seen)
 | [],_=>trivial
 | (k,X)::r,seen=>by
  simp only [ded]
  split
  ·exact a59q
  ·split
   ·rename_i X hX
    exact ⟨hX,a59q⟩
   ·exact a59q
def agTq (l:List (Nat×Nat)):List (Nat×Nat):=l.map fun p=>(p.2,p.1)
def newL (l1:List (Nat×Nat)) (O:List (Nat×Ob)):List Nat:=(O.map (·.1)).filter fun k => !l1.any fun p=>p.2==k
def lowL (l1:List (Nat×Nat)):List Nat:=(l1.map (·.2)).filter fun k=>decide (k<2000)
def mvB (s:St) (I O:List (Nat×Ob)) (mv:List Nat):Bool :=
 (mv.all fun m=>decide (m<2000)&&(I.any (·.1==m)||(s.gob m).isNone))&&O.all fun p=>I.any (·.1==p.1)||mv.contains p.1
def P0q (n:Nat) (k:Nat->Prop):Prop:=match n with
 | 0=>k 0
 | m+1=>k (Nat.succ m)
def frcL:List Nat->(List Nat->Prop)->Prop
 | [],k=>k []
 | x::r,k=>P0q x fun x=>frcL r fun r=>k (x::r)
def frcP:List (Nat×Nat)->(List (Nat×Nat)->Prop)->Prop
 | [],k=>k []
 | (x,y)::r,k=>P0q x fun x=>P0q y fun y=>frcP r fun r=>k ((x,y)::r)
def frcA (a:At) (k:At->Prop):Prop:=match a with
 | .d x=>k (.d x)
 | .e0=>k .e0
 | .ol o=>P0q o fun o=>k (.ol o)
 | .op o off=>P0q o fun o=>k (.op o off)
 | .ep cs=>k (.ep cs)
 | .clo f caps=>k (.clo f caps)
 | .raw a n c=>k (.raw a n c)
 | .ps o es lo n=>P0q o fun o=>k (.ps o es lo n)
 | .junk=>k .junk
def a55q:List At->(List At->Prop)->Prop
 | [],k=>k []
 | x::r,k=>frcA x fun x=>a55q r fun r=>k (x::r)
mutual
def frcV:AV->(AV->Prop)->Prop
 | .one x,k=>frcA x fun x=>k (.one x)
 | .dat xs,k=>k (.dat xs)
 | .agg xs,k=>a55q xs fun xs=>k (.agg xs)
 | .tup ys,k=>frcVs ys fun ys=>k (.tup ys)
def frcVs:List AV->(List AV->Prop)->Prop
 | [],k=>k []
 | y::r,k=>frcV y fun y=>frcVs r fun r=>k (y::r)
end
def frcO (X:Ob) (k:Ob->Prop):Prop:=match X with
 | .var cs=>a55q cs fun cs=>k (.var cs)
 | .lst E es xs=>k (.lst E es xs)
 | .tr E es xs=>k (.tr E es xs)
 | .tk xs=>k (.tk xs)
 | .mt E es xs=>k (.mt E es xs)
 | .mu E es xs m q a n c=>k (.mu E es xs m q a n c)
 | .fu E es xs c=>k (.fu E es xs c)
def a34q:List (Nat×AV)->(List (Nat×AV)->Prop)->Prop
 | [],k=>k []
 | (i,x)::r,k=>P0q i fun i=>frcV x fun x=>a34q r fun r=>k ((i,x)::r)
def Q4q:List (Nat×Ob)->(List (Nat×Ob)->Prop)->Prop
 | [],k=>k []
 | (i,x)::r,k=>P0q i fun i=>frcO x fun x=>Q4q r fun r=>k ((i,x)::r)
theorem W2q (n:Nat) (k:Nat->Prop):P0q n k=k n:=by cases n <;> rfl
theorem a3jq:∀(l:List Nat) (k:List Nat->Prop),frcL l k=k l
 | [],k=>rfl
 | x::r,k=>by simp only [frcL,W2q,a3jq r]
theorem a3dq:∀(l:List (Nat×Nat)) (k:List (Nat×Nat)->Prop),frcP l k=k l
 | [],k=>rfl
 | (x,y)::r,k=>by simp only [frcP,W2q,a3dq r]
theorem aamq (a:At) (k:At->Prop):frcA a k=k a:=by cases a <;> simp only [frcA,W2q]
theorem a4nq:∀(l:List At) (k:List At->Prop),a55q l k=k l
 | [],k=>rfl
 | x::r,k=>by simp only [a55q,aamq,a4nq r]
mutual
theorem a5Tq:∀(y:AV) (k:AV->Prop),frcV y k=k y
 | .one x,k=>by simp only [frcV,aamq]
 | .dat xs,k=>rfl
 | .agg xs,k=>by simp only [frcV,a4nq]
 | .tup ys,k=>by simp only [frcV,frcVs_eq ys]
theorem frcVs_eq:∀(l:List AV) (k:List AV->Prop),frcVs l k=k l
 | [],k=>rfl
 | y::r,k=>by simp only [frcVs,a5Tq y,frcVs_eq r]
end
theorem afEq (X:Ob) (k:Ob->Prop):frcO X k=k X:=by cases X <;> simp only [frcO,a4nq]
theorem a1sq:∀(l:List (Nat×AV)) (k:List (Nat×AV)->Prop),a34q l k=k l
 | [],k=>rfl
 | (i,x)::r,k=>by simp only [a34q,W2q,a5Tq,a1sq r]
theorem X1q:∀(l:List (Nat×Ob)) (k:List (Nat×Ob)->Prop),Q4q l k=k l
 | [],k=>rfl
 | (i,x)::r,k=>by simp only [Q4q,W2q,afEq,X1q r]
def abjq (z:Prop) (P:Program) (E:Env) (o:Oper) (s:St) (k:AV->List (Nat×Ob)->Prop):Prop:=match o.op with
 | .call c=>match c.callee with
  | .value v=>opt z (p7q s.ev c.args.toList) fun xs =>
   let sF:=frzAll s (Q2q xs)
   opt z (p7q sF.ev c.args.toList) fun xs'=>opt z (sF.ev v) fun V'=>a02q z P E (o.dst.getD 0) V' xs' fun y nob=>chk z (y.closed&&(nob.all fun p=>isTr p.2))<|match E.lw with
    | true=>k y (thaw nob)
    | false=>k y nob
  | _=>z
 | _=>z
def agMq (E:Env) (s:St) (o:Oper):Nat:=match o.op with
 | .store _ _ _=>2
 | .buildSlice _ _ _=>match (a5oq s o).isEmpty with
  | true=>0
  | false=>2
 | .call c=>match c.callee with
  | .value v=>match isExtV E v with
   | true=>0
   | false=>match s.ev v,p7q s.ev c.args.toList with
    | some (.one (.d (.fn f))),some xs=>match (E.obj.contains f && !a0gq xs)||(a1q E.tkn f).isSome with
     | true=>3
     | false=>match a1q E.sig f with
      | some sg=>match a0gq xs && !(E.lw&&sg.closed) with
       | true=>0
       | false=>match sg.closed,p7q (frzAll s (Q2q xs)).ev c.args.toList with
        | true,some xs'=>match a0gq xs' with
         | true=>1
         | false=>3
        | _,_=>3
      | none=>0
    | _,_=>3
  | .builtin .append=>2
  | .builtin .copy=>2
  | .builtin .clear=>2
  | _=>0
 | _=>0
where isExtV (E:Env):Operand->Bool
 | .func f=>E.ext.contains f
 | _=>false
def ag9q (o:Oper):Nat:=match o.op with
 | .call c=>match c.callee with
  | .value _=>2
  | _=>1
 | .move _=>0
 | .assign _=>0
 | .fieldAddr _ _ _=>0
 | .extract _ _=>0
 | .makeFunc _ _ _=>0
 | .build _ _=>0
 | _=>1
def storeVar (s:St) (o:Oper):Option Nat:=match o.op with
 | .store _ x _=>match s.ev x with
  | some (.one (.op k _))=>match s.gob k with
   | some (.var _)=>some k
   | _=>none
  | _=>none
 | _=>none
def dFin (z:Prop) (o:Oper) (s:St) (ts:List (Nat×AV)) (I:List (Nat×Ob)) (l1:List (Nat×Nat)) (k:EX->Prop) (s':St):Prop :=
 opt z (a7Zq o.dst s') fun y0=>Q4q (ded s'.ob s'.ob []) fun O0=>frcL (newL l1 O0) fun nw=>frcP (agTq l1++nw.map fun k=>(k,k)) fun l2=>frcL (lowL l1++nw) fun mv0=>frcL (mv0.map fun m=>(a1q l2 m).getD m) fun mv=>Q4q (n9q l2 O0) fun O=>frcV (y0.map (l4q l2)) fun y =>
  chk z (aeBq O0 mv0 y0&&D1q l1 l2 I O0 mv0&&mvB s I O mv&&(!I.isEmpty||(s.fresh O&&mv.all fun m=>O.any (·.1==m)))) (k (.run (St.ev ⟨ts,I⟩) [] I y O mv))
def abcq (z:Prop) (P:Program) (E:Env) (n:Nat) (o:Oper) (s:St) (y3:Bool) (ts:List (Nat×AV)) (I:List (Nat×Ob)) (k:EX->Prop):Prop :=
 frcP (mkL1 (lowI o I) 2000 (F1q (F1q [] (AV.idsT (ts.map (·.2)))) (H5q I))) fun l1=>a34q (U9q (l4q l1) ts) fun tm=>Q4q (n9q l1 I) fun ob=>match y3 with
  | true=>vY z P E n (Oper.ng o) ⟨tm,ob⟩ (dFin z o s ts I l1 k)
  | false=>vA z E n (Oper.ng o) ⟨tm,ob⟩ (dFin z o s ts I l1 k)
def a80q (l:List Nat):List (Nat×Ob)->List Nat
 | []=>[]
 | (k,.var cs)::r=>match (AV.idsL cs).any l.contains with
  | true=>k::a80q l r
  | false=>a80q l r
 | _::r=>a80q l r
def afxq (s:St) (o:Oper) (l:List Nat):List Nat:=match o.op with
 | .store _ _ _=>F1q l (a80q l s.ob)
 | _=>l
def dX (z:Prop) (P:Program) (E:Env) (n:Nat) (o:Oper) (s:St) (k:EX->Prop):Prop :=
 a34q (F7q s o.op.operands.toList) fun ts=>frcL (F1q [] (AV.idsT (ts.map (·.2)))) fun ids =>
 chk z (o.dst.all (· < n)&&tsB n o ts)<|match agMq E s o with
  | 0=>Q4q (r7q s (match ag9q o with | 0=>[] | 1=>ids | _=>O3q s 8 ids)) fun us =>
   vS z P E o ⟨ts,us⟩ ⟨ts,us⟩ fun y nob=>chk z (s.fresh nob) (k (.run (St.ev ⟨ts,us⟩) us [] y nob (nob.map (·.1))))
  | 1=>Q4q (r7q s (O3q s 8 ids)) fun us =>
   abjq z P E o ⟨ts,us⟩ fun y nob=>chk z (s.fresh nob) (k (.run (St.ev ⟨ts,us⟩) us [] y nob (nob.map (·.1))))
  | q=>Q4q (r7q s (match storeVar s o with | some q=>[q] | none=>afxq s o (O3q s 8 ids))) fun I=>abcq z P E n o s (q==3) ts I k
def H1q:List Nat->Nat
 | []=>0
 | x::r=>Nat.lor (Nat.pow 2 x) (H1q r)
def disj (a b:Nat):Bool:=Nat.beq (Nat.land a b) 0
structure Msk where
 tc:Nat
 ke:Nat
 ks:Nat
 al:Nat
def w0q (o:Oper) (e:EX):Msk:=⟨H1q e.tch,H1q e.keys,H1q e.ks,H1q (e.all o)⟩
def frcM (m:Msk) (k:Msk->Prop):Prop:=P0q m.tc fun tc=>P0q m.ke fun ke=>P0q m.ks fun ks=>P0q m.al fun al=>k ⟨tc,ke,ks,al⟩
theorem afyq (m:Msk) (k:Msk->Prop):frcM m k=k m:=by simp only [frcM,W2q]
def Msk.off (a b:Msk):Bool:=disj a.tc b.ke&&disj b.tc a.ke&&disj a.ks b.al&&disj b.ks a.al
def B6q (m:Nat) (x:Msk):List (Nat×Msk)->Bool
 | []=>true
 | (j,y)::r=>match y.off x with
  | true=>B6q m x r
  | false=>m.testBit j&&B6q m x r
def afdq:EX->Bool
 | .run _ [] [] _ [] _=>false
 | .run _ _ _ _ _ _=>true
 | .skip=>false
def frcS (s:St) (e:EX) (k:St->Prop):Prop:=match afdq e with
 | false=>k s
 | true=>a34q s.tm fun tm=>Q4q s.ob fun ob=>k ⟨tm,ob⟩
theorem afgq (s:St) (e:EX) (k:St->Prop):frcS s e k=k s:=by
 unfold frcS
 split
 ·rfl
 ·simp only [a1sq,X1q]
def vDX (P:Program) (E:Env) (n rg:Nat) (ops:Array Oper) (ms:List Nat):List Oper->Nat->St->List (Nat×Msk)->(St->Prop)->Prop
 | [],_,s,_,k=>k s
 | o::r,ix,s,acc,k =>
  let nx:=fun (s:St) (e:EX)=>frcM (w0q o e) fun mk=>chk (j0q rg ix) (B6q (ms.getD ix 0) mk acc) (frcS (s.xd o.dst e) e fun s'=>vDX P E n rg ops ms r (ix+1) s' ((ix,mk)::acc) k)
  match o.guard with
  | none=>dX (j0q rg ix) P E n o s (nx s)
  | some jw=>opt (j0q rg ix) ((ops[jw.1]?).bind (·.dst)) fun d=>opt (j0q rg ix) (s.get d) fun g=>match g with
   | .one (.d (.bool b)) =>
    let gd:=fun (bb:Bool)=>let s1:=s.upd (some d) (B bb) []; match bb==jw.2 with
     | true=>dX (j0q rg ix) P E n o s1 (nx s1)
     | false=>chk (j0q rg ix) (o.dst.all (· < n)) (nx s1 .skip)
    ifB b (gd true) (gd false)
   | .tup ys=>chk (j0q rg ix) (ys.isEmpty&&o.dst.all (· < n)) (nx s .skip)
   | _=>j0q rg ix
section
variable {Γ:Cx} {P:Program} {E:Env} {z:Prop} {o:Oper} {s:St} {n:Nat} {ops:Array Oper}
structure Runs (n:Nat) (P:Program) (s:St) (o:Oper) (e:EX):Prop where
 inst:OInst n P o e
 isRun:∃av us I y O mv,e = .run av us I y O mv/\(∀x X,av x=some X->x∈o.op.operands->∃K Z,evF s.get x=some Z/\Z.kill K=X)/\(∀p∈us++I,∃K Z,s.gob p.1=some Z/\Z.kill K=p.2)/\∀m∈mv,(∃p∈I,p.1=m)\/s.gob m=none
 frT:e.I=[]->∀i x,s.get i=some x->x.kill e.ks=x
 frO:e.I=[]->∀q X,s.gob q=some X->X.kill e.ks=X
theorem a8qq {ob:List (Nat×Ob)} {l:List Operand}:∀x X,(St.ev ⟨F7q s l,ob⟩) x=some X->∃K Z,evF s.get x=some Z/\Z.kill K=X:=by
 intro x X hx
 refine ⟨[],X,?_,AV.kill_nil X⟩
 cases x with
 | tmp t=>exact (J2q hx).1
 | const v=>exact hx
 | func f=>exact hx
 | global g=>exact hx
theorem abZq {us nob:List (Nat×Ob)} {y:AV} (h:OpL P o ⟨F7q s o.op.operands.toList,us⟩ y nob) (hd:o.dst.all (· < n)=true) (hts:tsB n o (F7q s o.op.operands.toList)=true) (hus:∀p∈us,s.gob p.1=some p.2) (hf:s.fresh nob=true) :
  Runs n P s o (.run (St.ev ⟨F7q s o.op.operands.toList,us⟩) us [] y nob (nob.map (·.1))):=by
 have hks:∀q,q∈(EX.run (St.ev ⟨F7q s o.op.operands.toList,us⟩) us [] y nob (nob.map (·.1))).ks->∃p∈nob,p.1=q:=fun q hq=>by
  rcases aoz.1 hq with h | h
  ·obtain ⟨p,hp,e⟩:=a1z.1 h; exact ⟨p,hp,e⟩
  ·simp [EX.drop,j3q,EX.I] at h
 refine ⟨⟨hd,fun av us' I y' O mv e => ?_⟩,⟨_,_,_,_,_,_,rfl,fun x X hx _=>a8qq x X hx,fun p hp => ?_,fun m hm=>.inr ?_⟩,fun _ i x hx => ?_,fun _ q X hq => ?_⟩
 ·cases e
  exact ⟨afwq h hts,fun m hm=>by obtain ⟨p,hp,rfl⟩:=a1z.1 hm; exact I1q hf p hp,fun p hp=>.inr (a1z.2 ⟨p,hp,rfl⟩)⟩
 ·rw [apz] at hp
  exact ⟨[],_,hus p hp,Ob.kill_nil _⟩
 ·obtain ⟨p,hp,rfl⟩:=a1z.1 hm
  cases hX:s.gob p.1 with
  | none=>rfl
  | some X=>exact absurd rfl ((v7q hf hX).1 p hp)
 ·exact AV.kill_id fun q hq hk=>by
   obtain ⟨p,hp,e⟩:=hks q hk
   exact O2q hf hx q hq p hp e
 ·exact Ob.kill_id fun r hr hk=>by
   obtain ⟨p,hp,e⟩:=hks r hk
   exact (v7q hf hq).2 r hr p hp e
theorem a9Vq {k:AV->List (Nat×Ob)->Prop} (hE:EnvOk P E) (hz:¬z) (h:abjq z P E o s k):∃y nob,OpL P o s y nob/\k y nob:=by
 unfold abjq at h
 split at h
 ·rename_i c ho
  obtain ⟨callee,args,ats⟩:=c
  simp only at h
  split at h
  ·rename_i v
   obtain ⟨xs,hxs,h⟩:=a0q hz h
   obtain ⟨xs',hxs',h⟩:=a0q hz h
   obtain ⟨V',hV',h⟩:=a0q hz h
   have ho':o.op = .call { callee:=.value v,args:=args.toList.toArray,argTypes:=ats }:=by simpa using ho
   obtain ⟨y,nob,h1,h⟩:=C0q (s0:=frzAll s _) hE hz ho' hV' hxs' h
   obtain ⟨hc,h⟩:=a7q hz h
   simp only [a0z] at hc
   split at h
   ·exact ⟨_,_,a6Oq h1 hc.1 hc.2,h⟩
   ·exact ⟨_,_,a85q h1 hc.1 hc.2,h⟩
  ·exact absurd h hz
 ·exact absurd h hz
theorem acTq {s':St} (h:∀Γ:Cx,Γ.n=n->XOp Γ P o s s'):Step n P o s s':=fun Γ hn ops rest K hg hr=>st_x (h Γ hn) hg hr
theorem a9Cq {k:EX->Prop} {y3:Bool} {ids:List Nat} (hE:EnvOk P E) (hz:¬z) (hd:o.dst.all (· < n)=true) (hts:tsB n o (F7q s o.op.operands.toList)=true) (h:abcq z P E n o s y3 (F7q s o.op.operands.toList) (r7q s ids) k):∃e,Runs n P s o e/\k e:=by
 unfold abcq at h
 simp only [a3dq,a1sq,X1q] at h
 generalize mkL1 (lowI o (r7q s ids)) 2000 (F1q (F1q [] (AV.idsT ((F7q s o.op.operands.toList).map (·.2)))) (H5q (r7q s ids)))=l1 at h
 have fin:∀(s':St),Step n P (Oper.ng o) ⟨U9q (l4q l1) (F7q s o.op.operands.toList),n9q l1 (r7q s ids)⟩ s'->dFin z o s (F7q s o.op.operands.toList) (r7q s ids) l1 k s'->∃e,Runs n P s o e/\k e:=by
  intro s' hstep h
  unfold dFin at h
  obtain ⟨y0,hy,h⟩:=a0q hz h
  simp only [X1q,a3jq,a3dq,a5Tq] at h
  obtain ⟨hc,h⟩:=a7q hz h
  rw [a0z] at hc
  obtain ⟨hc,c5⟩:=hc
  simp only [a0z,mvB,a3z,agz,decide_eq_true_eq,aez,beq_iff_eq,a4z,aaz] at hc
  obtain ⟨⟨c1,c2⟩,c3,c4⟩:=hc
  have hfr:∀mv O,r7q s ids=[]->(!(r7q s ids).isEmpty||(s.fresh O&&mv.all fun m=>O.any (·.1==m)))=true->∀q∈mv++j3q (r7q s ids) O,s.fresh O=true/\∃p∈O,p.1=q:=by
   intro mv O hI hh q hq
   rw [hI] at hh hq
   simp only [List.isEmpty_nil,Bool.not_true,Bool.false_or,a0z,a3z,aez,beq_iff_eq] at hh
   simp only [j3q,List.map_nil,List.filter_nil,apz] at hq
   exact ⟨hh.1,hh.2 q hq⟩
  refine ⟨_,⟨⟨hd,fun av us' I y' O mv e => ?_⟩,⟨_,_,_,_,_,_,rfl,fun x X hx _=>a8qq x X hx,fun p hp => ?_,fun m hm=>(c3 m hm).2⟩,fun hI i x hx=>AV.kill_id fun q hq hk => ?_,fun hI q0 X hX=>Ob.kill_id fun q hq hk => ?_⟩,h⟩
  ·cases e
   exact ⟨adKq hstep hts hd hy a59q c1 c2,fun m hm=>(c3 m hm).1,c4⟩
  ·rw [aCz] at hp
   exact ⟨[],_,D5q hp,Ob.kill_nil _⟩
  ·obtain ⟨h1,p,hp,e⟩:=hfr _ _ hI c5 q hk
   exact O2q h1 hx q hq p hp e
  ·obtain ⟨h1,p,hp,e⟩:=hfr _ _ hI c5 q hk
   exact (v7q h1 hX).2 q hq p hp e
 cases y3 with
 | true =>
  obtain ⟨s',h1,h⟩:=aauq hE hz h
  exact fin s' (acTq h1) h
 | false =>
  obtain ⟨s',h1,h⟩:=aarq hE hz h
  exact fin s' h1 h
theorem a8pq {k:EX->Prop} (hE:EnvOk P E) (hz:¬z) (h:dX z P E n o s k):∃e,Runs n P s o e/\k e:=by
 unfold dX at h
 simp only [a1sq,a3jq,X1q] at h
 obtain ⟨hc,h⟩:=a7q hz h
 simp only [a0z] at hc
 obtain ⟨hd,hts⟩:=hc
 split at h
 ·obtain ⟨y,nob,h1,h⟩:=a3Yq hE hz h
  obtain ⟨hf,h⟩:=a7q hz h
  exact ⟨_,abZq (acAq h1) hd hts (fun p hp=>D5q hp) hf,h⟩
 ·obtain ⟨y,nob,h1,h⟩:=a9Vq hE hz h
  obtain ⟨hf,h⟩:=a7q hz h
  exact ⟨_,abZq h1 hd hts (fun p hp=>D5q hp) hf,h⟩
 ·exact a9Cq hE hz hd hts h
theorem S0q {q:Nat}:∀{a:List Nat},q∈a->(H1q a).testBit q=true
 | x::r,h=>by
  have e:H1q (x::r)=2 ^ x ||| H1q r:=rfl
  rw [e,Nat.testBit_or]
  rcases a5z.1 h with rfl | h
  ·rw [Nat.testBit_two_pow_self]; rfl
  ·rw [S0q h]; simp
theorem a3fq {a b:List Nat} (h:disj (H1q a) (H1q b)=true):∀q∈a,q∉b:=by
 intro q ha hb
 have h0:H1q a &&& H1q b=0:=Nat.eq_of_beq_eq_true h
 have:=congrArg (fun m=>m.testBit q) h0
 simp only [Nat.testBit_and,S0q ha,S0q hb,Nat.zero_testBit] at this
 cases this
theorem afSq {o1 o2:Oper} {e1 e2:EX} (h:(w0q o1 e1).off (w0q o2 e2)=true):a9vq o1 e1 o2 e2:=by
 simp only [Msk.off,w0q,a0z] at h
 exact ⟨a3fq h.1.1.1,a3fq h.1.1.2,a3fq h.1.2,a3fq h.2⟩
def K0q (acc:List (Nat×Oper×EX)):List (Nat×Msk):=acc.map fun a=>(a.1,w0q a.2.1 a.2.2)
theorem a6Rq {ix:Nat} {e:EX} (hix:ix<ops.size):∀{acc:List (Nat×Oper×EX)},B6q ((r1q ops.toList []).getD ix 0) (w0q o e) (K0q acc)=true->∀a∈acc,a31q ops a (ix,o,e)
 | [],_,a,ha=>by cases ha
 | (j,o',e')::r,h,a,ha=>by
  have h:B6q ((r1q ops.toList []).getD ix 0) (w0q o e) ((j,w0q o' e')::K0q r)=true:=h
  have h2:(((r1q ops.toList []).getD ix 0).testBit j=true\/(w0q o' e').off (w0q o e)=true)/\B6q ((r1q ops.toList []).getD ix 0) (w0q o e) (K0q r)=true:=by
   simp only [B6q] at h
   cases h1:(w0q o' e').off (w0q o e) with
   | true =>
    rw [h1] at h
    exact ⟨.inr rfl,h⟩
   | false =>
    rw [h1] at h
    simp only [a0z] at h
    exact ⟨.inl h.1,h.2⟩
  rcases a5z.1 ha with rfl | ha
  ·exact h2.1.imp (fun hb=>a1iq (ops:=ops) ops.toList [] [] (by simp) rfl (by simp) ix j hb _ hix) afSq
  ·exact a6Rq hix h2.2 a ha
structure XRun (n:Nat) (P:Program) (ops:Array Oper) (l:List Oper) (ix:Nat) (s:St) (acc:List (Nat×Oper×EX)) (L:List (Nat×Oper×EX)) (s':St):Prop where
 chain:Chain ops L s.get s.gob s'.get s'.gob
 ixs:L.map (fun x=>x.1)=List.range' ix l.length
 opsL:∀x∈L,l[x.1-ix]?=some x.2.1
 inst:∀x∈L,OInst n P x.2.1 x.2.2
 pair:L.Pairwise (a31q ops)
 apart:∀a∈acc,∀x∈L,a31q ops a x
theorem XRun.cons {o:Oper} {r:List Oper} {ix:Nat} {acc L:List (Nat×Oper×EX)} {s':St} {e:EX} (hi:OInst n P o e) (ha:App ops o e s.get s.gob) (hT:e.I=[]->∀i x,s.get i=some x->x.kill e.ks=x) (hO:e.I=[]->∀q X,s.gob q=some X->X.kill e.ks=X)
  (hp:∀a∈acc,a31q ops a (ix,o,e)) (h:XRun n P ops r (ix+1) (s.xd o.dst e) ((ix,o,e)::acc) L s'):XRun n P ops (o::r) ix s acc ((ix,o,e)::L) s':=by
 obtain ⟨h1,h2,h3,h4,h5,h6⟩:=h
 rw [afVq hT,ag5q hO] at h1
 have hge:∀x∈L,ix+1<=x.1:=fun x hx=>by
  have:x.1∈List.range' (ix+1) r.length:=h2 ▸ a1z.2 ⟨x,hx,rfl⟩
  exact (List.mem_range'_1.1 this).1
 refine ⟨.cons ha h1,by simp [h2,List.range'_succ],fun x hx => ?_,fun x hx => ?_,List.pairwise_cons.2 ⟨fun x hx=>h6 _ (by simp) x hx,h5⟩,fun a hac x hx => ?_⟩
 ·rcases a5z.1 hx with rfl | hx
  ·simp
  ·have hg:=hge x hx
   have:=h3 x hx
   rw [show x.1-ix=(x.1-(ix+1))+1 by omega]
   simpa using this
 ·rcases a5z.1 hx with rfl | hx
  ·exact hi
  ·exact h4 x hx
 ·rcases a5z.1 hx with rfl | hx
  ·exact hp a hac
  ·exact h6 a (by simp [hac]) x hx
theorem XRun.same {l:List Oper} {ix d:Nat} {x:AV} {acc L:List (Nat×Oper×EX)} {s':St} (hx:s.get d=some x) (h:XRun n P ops l ix (s.upd (some d) x []) acc L s'):XRun n P ops l ix s acc L s':=by
 have e1:(s.upd (some d) x []).get=s.get:=funext fun i=>by
  rw [z3q]
  split
  ·rename_i e; simp at e; subst e; exact hx.symm
  ·rfl
 have e2:(s.upd (some d) x []).gob=s.gob:=funext fun i=>by rw [I9q]; simp [a1q]
 obtain ⟨h1,h2,h3,h4,h5,h6⟩:=h
 rw [e1,e2] at h1
 exact ⟨h1,h2,h3,h4,h5,h6⟩
theorem a6Iq {k:St->Prop} {rg:Nat} (hE:EnvOk P E):∀{l:List Oper} {ix:Nat} {s:St} {acc:List (Nat×Oper×EX)},ix+l.length<=ops.size->vDX P E n rg ops (r1q ops.toList []) l ix s (K0q acc) k->∃L s',XRun n P ops l ix s acc L s'/\k s'
 | [],ix,s,acc,_,h=>⟨[],s,⟨.nil,rfl,by simp,by simp,.nil,by simp⟩,h⟩
 | o::r,ix,s,acc,hl,h=>by
  simp only [List.length_cons] at hl
  have nx:∀(s:St) (e:EX),OInst n P o e->App ops o e s.get s.gob->(e.I=[]->∀i x,s.get i=some x->x.kill e.ks=x)->(e.I=[]->∀q X,s.gob q=some X->X.kill e.ks=X) ->
    (frcM (w0q o e) fun mk=>chk (j0q rg ix) (B6q ((r1q ops.toList []).getD ix 0) mk (K0q acc)) (frcS ((s).xd o.dst e) e fun s'=>vDX P E n rg ops (r1q ops.toList []) r (ix+1) s' ((ix,mk)::K0q acc) k))->∃L s',XRun n P ops (o::r) ix s acc L s'/\k s':=by
   intro s e hi ha hT hO h
   simp only [afyq,afgq] at h
   obtain ⟨h1,h⟩:=a7q f5q h
   obtain ⟨L,s',hx,h⟩:=a6Iq (acc:=(ix,o,e)::acc) hE (by omega) h
   exact ⟨_,s',XRun.cons hi ha hT hO (a6Rq (by omega) h1) hx,h⟩
  have run:∀(s:St) (e:EX),Runs n P s o e->(o.guard=none\/∃j want d,o.guard=some (j,want)/\(ops[j]?).bind (·.dst)=some d/\s.get d=some (B want)) ->
    (frcM (w0q o e) fun mk=>chk (j0q rg ix) (B6q ((r1q ops.toList []).getD ix 0) mk (K0q acc)) (frcS ((s).xd o.dst e) e fun s'=>vDX P E n rg ops (r1q ops.toList []) r (ix+1) s' ((ix,mk)::K0q acc) k))->∃L s',XRun n P ops (o::r) ix s acc L s'/\k s':=by
   intro s e hr hg h
   refine nx s e hr.inst ⟨fun av us I y O mv he => ?_,fun he => ?_⟩ hr.frT hr.frO h
   ·obtain ⟨av',us',I',y',O',mv',he',h1,h2,h3⟩:=hr.isRun
    rw [he] at he'
    cases he'
    exact ⟨hg,h1,h2,h3⟩
   ·obtain ⟨av',us',I',y',O',mv',he',_⟩:=hr.isRun
    rw [he] at he'; cases he'
  have skip:∀(s:St),o.dst.all (· < n)=true->(∃j want d,o.guard=some (j,want)/\(ops[j]?).bind (·.dst)=some d/\(s.get d=some (B (!want))\/s.get d=some (.tup []))) ->
    (frcM (w0q o EX.skip) fun mk=>chk (j0q rg ix) (B6q ((r1q ops.toList []).getD ix 0) mk (K0q acc)) (frcS ((s).xd o.dst EX.skip) EX.skip fun s'=>vDX P E n rg ops (r1q ops.toList []) r (ix+1) s' ((ix,mk)::K0q acc) k))->∃L s',XRun n P ops (o::r) ix s acc L s'/\k s':=by
   intro s hd hg h
   exact nx s .skip ⟨hd,fun _ _ _ _ _ _ e=>nomatch e⟩ ⟨fun _ _ _ _ _ _ e=>(nomatch e),fun _=>hg⟩ (fun _ i x _=>AV.kill_nil x) (fun _ q X _=>Ob.kill_nil X) h
  simp only [vDX] at h
  split at h
  ·rename_i hg
   obtain ⟨e,hr,h⟩:=a8pq hE f5q h
   exact run s e hr (.inl hg) h
  ·rename_i jw hg
   obtain ⟨j,want⟩:=jw
   obtain ⟨d,hd,h⟩:=a0q f5q h
   obtain ⟨g,hgd,h⟩:=a0q f5q h
   split at h
   ·rename_i b
    have gd:∀bb:Bool,s.get d=some (B bb)->(match bb==want with
     | true=>dX (j0q rg ix) P E n o (s.upd (some d) (B bb) []) fun e=>(frcM (w0q o e) fun mk=>chk (j0q rg ix) (B6q ((r1q ops.toList []).getD ix 0) mk (K0q acc)) (frcS (((s.upd (some d) (B bb) [])).xd o.dst e) e fun s'=>vDX P E n rg ops (r1q ops.toList []) r (ix+1) s' ((ix,mk)::K0q acc) k))
     | false=>chk (j0q rg ix) (o.dst.all (· < n)) ((frcM (w0q o EX.skip) fun mk=>chk (j0q rg ix) (B6q ((r1q ops.toList []).getD ix 0) mk (K0q acc)) (frcS (((s.upd (some d) (B bb) [])).xd o.dst EX.skip) EX.skip fun s'=>vDX P E n rg ops (r1q ops.toList []) r (ix+1) s' ((ix,mk)::K0q acc) k))))->∃L s',XRun n P ops (o::r) ix s acc L s'/\k s':=by
     intro bb hbb hh
     have hget:(s.upd (some d) (B bb) []).get d=some (B bb):=by rw [z3q]; simp
     have key:∃L s',XRun n P ops (o::r) ix (s.upd (some d) (B bb) []) acc L s'/\k s':=by
      by_cases e:bb=want
      ·subst e
       simp only [beq_self_eq_true] at hh
       obtain ⟨e,hr,hh⟩:=a8pq hE f5q hh
       exact run _ e hr (.inr ⟨j,bb,d,hg,hd,hget⟩) hh
      ·have e2:bb = !want:=by cases bb <;> cases want <;> simp_all
       subst e2
       have e3:((!want)==want)=false:=by cases want <;> rfl
       rw [e3] at hh
       obtain ⟨h1,hh⟩:=a7q f5q hh
       exact skip _ h1 ⟨j,want,d,hg,hd,.inl hget⟩ hh
     obtain ⟨L,s',hx,hk⟩:=key
     exact ⟨L,s',XRun.same hbb hx,hk⟩
    cases b with
    | true=>exact gd true hgd h
    | false=>exact gd false hgd h
   ·rename_i ys
    obtain ⟨h1,h⟩:=a7q f5q h
    simp only [a0z,afz] at h1
    obtain ⟨h2,h3⟩:=h1
    rw [h2] at hgd
    exact skip s h3 ⟨j,want,d,hg,hd,.inr hgd⟩ h
   ·exact absurd h f5q
theorem afzq {k:St->Prop} {N:St->Prop} {Ex:Exit->St->Prop} {rg id:Nat} {l:List Oper} (hE:EnvOk P E) (hm:P.follows .mixedOrders=true) (hok:K7q l.toArray=true) (hN:∀s,k s->N s) (h:vDX P E Γ.n rg l.toArray (r1q l []) l 0 s [] k):W Γ P (.region id l.toArray true) N Ex s:=by
 obtain ⟨L,s',hx,hk⟩:=a6Iq (ops:=l.toArray) (l:=l) (ix:=0) (acc:=[]) hE (by simp) h
 have hixs:L.map (fun x=>x.1)=List.range l.length:=by rw [hx.ixs,List.range_eq_range']
 exact acSq hm hok hixs (fun x hxL=>by simpa using hx.opsL x hxL) hx.inst hx.pair hx.chain (hN _ hk)
end
def nilCells (s:St):List (Nat×Nat×Nat×Nat)->St
 | []=>s
 | (t,q,e,es)::r=>match s.get t with
  | some (.one (.op k _))=>match s.gob k with
   | some (.var cs)=>match cs[q]? with
    | some .e0=>match s.fresh [(1600+t+29*q,.lst e es [])] with
     | true=>nilCells (s.nilCell k q (1600+t+29*q) e es cs) r
     | false=>nilCells s r
    | _=>nilCells s r
   | _=>nilCells s r
  | _=>nilCells s r
theorem To.nilCells:∀{l:List (Nat×Nat×Nat×Nat)} {s:St},To s (nilCells s l)
 | [],s=>To.refl s
 | (t,q,e,es)::r,s=>by
  simp only [AM.nilCells]
  split
  ·split
   ·rename_i cs hk
    split
    ·rename_i hc
     split
     ·rename_i hf
      exact (To.nilCell hk hc hf).trans To.nilCells
     ·exact To.nilCells
    ·exact To.nilCells
   ·exact To.nilCells
  ·exact To.nilCells
def a8Bq (E:Env):List Operand->List TypeId->List (Nat×Nat×Nat×Nat)
 | .tmp t::r,ty::ts=>(((a1q E.nlc ty).getD []).map fun p=>(t,p.1,p.2.1,p.2.2))++a8Bq E r ts
 | _::r,_::ts=>a8Bq E r ts
 | _,_=>[]
def olAt (s:St) (t q:Nat):List Nat:=match s.get t with
 | some (.one (.op k _))=>match s.gob k with
  | some (.var cs)=>match cs[q]? with
   | some (.ol d)=>[d]
   | _=>[]
  | _=>[]
 | _=>[]
def a9bq (E:Env) (s:St):List Operand->List TypeId->List Nat
 | .tmp t::r,ty::ts=>(match E.dgl.contains ty with
  | true=>(((a1q E.nlc ty).getD []).map fun p=>olAt s t p.1).flatten
  | false=>[])++a9bq E s r ts
 | _::r,_::ts=>a9bq E s r ts
 | _,_=>[]
def vSu (z:Prop) (P:Program) (E:Env) (n:Nat) (o:Oper) (s:St) (k:St->Prop):Prop :=
 vS z P E o s s fun y nob=>chk z (o.dst.all (· < n)&&s.fresh nob) (k (s.upd o.dst y nob))
def aeEq (E:Env):Operand->Bool
 | .func f=>E.ext.contains f
 | _=>false
def agEq (s:St) (o:Oper):Bool:=match o.op with
 | .buildSlice _ _ ps=>match s6q s.ev ps.toList with
  | some ps'=>(ps'.map (·.2)).flatten.any fun x=>match x with
   | .d (.sl _)=>true
   | .ol k=>match s.gob k with
    | some (.lst _ _ _)=>true
    | _=>false
   | _=>false
  | none=>false
 | _=>false
def vOp (z:Prop) (P:Program) (E:Env) (n:Nat) (o:Oper) (s:St) (k:St->Prop):Prop:=match o.op with
 | .store _ x _=>match isMt s x with
  | true=>a6wq z E o s k
  | false=>vA z E n o s k
 | .binOp .eql _ x y _=>match a8uq s x y with
  | true=>vNil z E n o s k
  | false=>vSu z P E n o s k
 | .load _ x=>match isMt s x with
  | true=>a9mq z E n o s k
  | false=>vSu z P E n o s k
 | .buildSlice _ _ _=>match (a5oq s o).isEmpty||agEq s o with
  | true=>vSu z P E n o (frzAll s (a5oq s o)) k
  | false=>vA z E n o s k
 | .call c=>match c.callee with
  | .value v=>match aeEq E v with
   | true=>vSu z P E n o s k
   | false=>match agGq E v with
    | true=>vOvl z E n o s k
    | false=>match ag2q s c with
     | true=>a99q z P E n o s k
     | false=>(fun s1=>vY z P E n o (degrAll s1 (a9bq E s1 c.args.toList c.argTypes.toList)) k) (nilCells s (a8Bq E c.args.toList c.argTypes.toList))
  | .builtin .append=>vA z E n o s k
  | .builtin .copy=>vA z E n o s k
  | .builtin .clear=>vA z E n o s k
  | _=>vSu z P E n o s k
 | _=>vSu z P E n o s k
def vOpG (z:Prop) (P:Program) (E:Env) (n:Nat) (o:Oper) (s:St) (k:St->Prop):Prop:=match o.op with
 | .call c=>match c.callee with
  | .value v=>match aeEq E v with
   | true=>vSu z P E n o s k
   | false=>vY z P E n o s k
  | _=>vSu z P E n o s k
 | _=>vSu z P E n o s k
def vOps (P:Program) (E:Env) (n rg:Nat) (ops:Array Oper):List Oper->Nat->St->(St->Prop)->Prop
 | [],_,s,k=>k s
 | o::r,ix,s,k=>match o.guard with
  | none=>vOp (j0q rg ix) P E n o s fun s'=>vOps P E n rg ops r (ix+1) s' k
  | some jw=>opt (j0q rg ix) ((ops[jw.1]?).bind (·.dst)) fun d=>opt (j0q rg ix) (s.get d) fun g=>match g with
   | .one (.d (.bool b)) =>
    let gd:=fun (bb:Bool)=>let s1:=s.upd (some d) (B bb) []; match bb==jw.2 with
     | true=>vOpG (j0q rg ix) P E n o s1 fun s'=>vOps P E n rg ops r (ix+1) s' k
     | false=>chk (j0q rg ix) (o.dst.all (· < n)) (vOps P E n rg ops r (ix+1) (s1.upd o.dst (.tup []) []) k)
    ifB b (gd true) (gd false)
   | .tup ys=>chk (j0q rg ix) (ys.isEmpty&&o.dst.all (· < n)) (vOps P E n rg ops r (ix+1) (s.upd o.dst (.tup []) []) k)
   | _=>j0q rg ix
def V3q (P:Program) (E:Env) (n rg:Nat) (s0:St) (ops:Array Oper):List Oper->Nat->St->(St->Prop)->Prop
 | [],_,s,k=>k s
 | o::r,ix,s,k =>
  let go:=fun (s:St)=>vS (j0q rg ix) P E o s s0 fun y nob=>chk (j0q rg ix) (o.dst.all (· < n)&&s.fresh nob&&s0.fresh nob&&C9q s0 y nob) (V3q P E n rg s0 ops r (ix+1) (s.upd o.dst y nob) k)
  match o.guard with
  | none=>go s
  | some jw=>opt (j0q rg ix) ((ops[jw.1]?).bind (·.dst)) fun d=>opt (j0q rg ix) (s.get d) fun g=>match g with
   | .one (.d (.bool b)) =>
    let gd:=fun (bb:Bool)=>let s1:=s.upd (some d) (B bb) []; match bb==jw.2 with
     | true=>go s1
     | false=>chk (j0q rg ix) (o.dst.all (· < n)) (V3q P E n rg s0 ops r (ix+1) (s1.upd o.dst (.tup []) []) k)
    ifB b (gd true) (gd false)
   | .tup ys=>chk (j0q rg ix) (ys.isEmpty&&o.dst.all (· < n)) (V3q P E n rg s0 ops r (ix+1) (s.upd o.dst (.tup []) []) k)
   | _=>j0q rg ix
section
variable {Γ:Cx} {P:Program} {E:Env} {z:Prop} {o:Oper} {s s0:St} {k K:St->Prop} {ops:Array Oper} {rest:List Oper} {rg:Nat}
theorem a2lq (hE:EnvOk P E) (hz:¬z) (h:vSu z P E Γ.n o s k):∃y nob,OpS P o s s y nob/\o.dst.all (· < Γ.n)=true/\s.fresh nob=true/\k (s.upd o.dst y nob):=by
 obtain ⟨y,nob,h1,h⟩:=a3Yq hE hz h
 obtain ⟨h2,h⟩:=a7q hz h
 simp only [a0z] at h2
 exact ⟨y,nob,h1,h2.1,h2.2,h⟩
theorem adaq (hE:EnvOk P E) (hz:¬z) (hg:o.guard=none) (hk:∀s',k s'->d8q Γ P ops rest K s') (h:vOp z P E Γ.n o s k):d8q Γ P ops (o::rest) K s:=by
 have su:vSu z P E Γ.n o s k->d8q Γ P ops (o::rest) K s:=fun h=>by
  obtain ⟨y,nob,h1,h2,h3,h⟩:=a2lq hE hz h
  exact aeGq h1 hg h2 h3 (hk _ h)
 unfold vOp at h
 split at h
 ·split at h
  ·exact a7iq hE hz hg hk h
  ·exact X5q hE hz hg hk h
 ·rename_i ho
  split at h
  ·rename_i hq
   exact abrq hE hz hg hk ho hq h
  ·exact su h
 ·split at h
  ·exact a8Iq hE hz hg hk h
  ·exact su h
 ·split at h
  ·obtain ⟨y,nob,h1,h2,h3,h⟩:=a2lq hE hz h
   exact a1eq To.frzAll (aeGq h1 hg h2 h3 (hk _ h))
  ·exact X5q hE hz hg hk h
 ·split at h
  ·split at h
   ·exact su h
   ·split at h
    ·obtain ⟨s',h1,h⟩:=abxq hE hz h
     exact st_x h1 hg (hk _ h)
    ·split at h
     ·exact a8kq hE hz hg hk h
     ·obtain ⟨s',h1,h⟩:=a8zq hE hz h
      exact a1eq (To.nilCells.trans To.degrAll) (st_x h1 hg (hk _ h))
  ·exact X5q hE hz hg hk h
  ·exact X5q hE hz hg hk h
  ·exact X5q hE hz hg hk h
  ·exact su h
 ·exact su h
theorem abEq (hE:EnvOk P E) (hz:¬z) {j d:Nat} {want:Bool} (hg:o.guard=some (j,want)) (hj:(ops[j]?).bind (·.dst)=some d) (hb:s.get d=some (B want)) (hk:∀s',k s'->d8q Γ P ops rest K s') (h:vOpG z P E Γ.n o s k):d8q Γ P ops (o::rest) K s:=by
 have su:vSu z P E Γ.n o s k->d8q Γ P ops (o::rest) K s:=fun h=>by
  obtain ⟨y,nob,h1,h2,h3,h⟩:=a2lq hE hz h
  exact agoq h1 hg hj hb h2 h3 (hk _ h)
 unfold vOpG at h
 split at h
 ·split at h
  ·split at h
   ·exact su h
   ·obtain ⟨s',h1,h⟩:=a8zq hE hz h
    exact agDq h1 hg hj hb rfl (hk _ h)
  ·exact su h
 ·exact su h
theorem K8q (hE:EnvOk P E) (hk:∀s,k s->K s):∀{l:List Oper} {ix:Nat} {s:St},vOps P E Γ.n rg ops l ix s k->d8q Γ P ops l K s
 | [],_,_,h=>a8wq (hk _ h)
 | o::r,ix,s,h=>by
  simp only [vOps] at h
  split at h
  ·rename_i hg
   exact adaq hE f5q hg (fun s' h=>K8q hE hk h) h
  ·rename_i jw hg
   obtain ⟨j,want⟩:=jw
   obtain ⟨d,hd,h⟩:=a0q f5q h
   obtain ⟨g,hgd,h⟩:=a0q f5q h
   split at h
   ·rename_i b
    have gd:∀bb:Bool,(match bb==want with
     | true=>vOpG (j0q rg ix) P E Γ.n o (s.upd (some d) (B bb) []) fun s'=>vOps P E Γ.n rg ops r (ix+1) s' k
     | false=>chk (j0q rg ix) (o.dst.all (· < Γ.n)) (vOps P E Γ.n rg ops r (ix+1) ((s.upd (some d) (B bb) []).upd o.dst (.tup []) []) k))->d8q Γ P ops (o::r) K (s.upd (some d) (B bb) []):=by
     intro bb hh
     have hget:(s.upd (some d) (B bb) []).get d=some (B bb):=by rw [z3q]; simp
     by_cases e:bb=want
     ·subst e
      simp only [beq_self_eq_true] at hh
      exact abEq hE f5q hg hd hget (fun s' h=>K8q hE hk h) hh
     ·have e2:bb = !want:=by cases bb <;> cases want <;> simp_all
      subst e2
      have e3:((!want)==want)=false:=by cases want <;> rfl
      rw [e3] at hh
      obtain ⟨h1,hh⟩:=a7q f5q hh
      exact ae8q hg hd hget h1 (K8q hE hk hh)
    refine ad6q hg hd hgd (fun e => ?_) fun e => ?_
    ·subst e; exact gd true h
    ·subst e; exact gd false h
   ·rename_i ys
    obtain ⟨h1,h⟩:=a7q f5q h
    simp only [a0z,afz] at h1
    obtain ⟨h2,h3⟩:=h1
    rw [h2] at hgd
    exact adxq hg hd hgd h3 (K8q hE hk h)
   ·exact absurd h f5q
theorem Q3q (hE:EnvOk P E) (hk:∀s,k s->K s):∀{l:List Oper} {ix:Nat} {s:St},V3q P E Γ.n rg s0 ops l ix s k->PR Γ P ops s0 l s K
 | [],_,_,h=>ag0q (hk _ h)
 | o::r,ix,s,h=>by
  have go:∀(s:St) (h:vS (j0q rg ix) P E o s s0 fun y nob=>chk (j0q rg ix) (o.dst.all (· < Γ.n)&&s.fresh nob&&s0.fresh nob&&C9q s0 y nob) (V3q P E Γ.n rg s0 ops r (ix+1) (s.upd o.dst y nob) k)),
   ∃y nob,OpS P o s s0 y nob/\o.dst.all (· < Γ.n)=true/\s.fresh nob=true/\s0.fresh nob=true/\C9q s0 y nob=true/\PR Γ P ops s0 r (s.upd o.dst y nob) K:=by
   intro s h
   obtain ⟨y,nob,h1,h⟩:=a3Yq hE f5q h
   obtain ⟨h2,h⟩:=a7q f5q h
   simp only [a0z] at h2
   exact ⟨y,nob,h1,h2.1.1.1,h2.1.1.2,h2.1.2,h2.2,Q3q hE hk h⟩
  simp only [V3q] at h
  split at h
  ·rename_i hg
   obtain ⟨y,nob,h1,h2,h3,h4,h5,h⟩:=go s h
   exact agNq h1 hg h2 h3 h4 h5 h
  ·rename_i jw hg
   obtain ⟨j,want⟩:=jw
   obtain ⟨d,hd,h⟩:=a0q f5q h
   obtain ⟨g,hgd,h⟩:=a0q f5q h
   split at h
   ·rename_i b
    have gd:∀bb:Bool,(match bb==want with
     | true=>vS (j0q rg ix) P E o (s.upd (some d) (B bb) []) s0 fun y nob=>chk (j0q rg ix) (o.dst.all (· < Γ.n)&&(s.upd (some d) (B bb) []).fresh nob&&s0.fresh nob&&C9q s0 y nob) (V3q P E Γ.n rg s0 ops r (ix+1) ((s.upd (some d) (B bb) []).upd o.dst y nob) k)
     | false=>chk (j0q rg ix) (o.dst.all (· < Γ.n)) (V3q P E Γ.n rg s0 ops r (ix+1) ((s.upd (some d) (B bb) []).upd o.dst (.tup []) []) k))->PR Γ P ops s0 (o::r) (s.upd (some d) (B bb) []) K:=by
     intro bb hh
     have hget:(s.upd (some d) (B bb) []).get d=some (B bb):=by rw [z3q]; simp
     by_cases e:bb=want
     ·subst e
      simp only [beq_self_eq_true] at hh
      obtain ⟨y,nob,h1,h2,h3,h4,h5,hh⟩:=go _ hh
      exact aglq h1 hg hd hget rfl h2 h3 h4 h5 hh
     ·have e2:bb = !want:=by cases bb <;> cases want <;> simp_all
      subst e2
      have e3:((!want)==want)=false:=by cases want <;> rfl
      rw [e3] at hh
      obtain ⟨h1,hh⟩:=a7q f5q hh
      exact aasq hg hd (.inl hget) h1 (Q3q hE hk hh)
    refine afYq hgd (fun e => ?_) fun e => ?_
    ·subst e; exact gd true h
    ·subst e; exact gd false h
   ·rename_i ys
    obtain ⟨h1,h⟩:=a7q f5q h
    simp only [a0z,afz] at h1
    obtain ⟨h2,h3⟩:=h1
    rw [h2] at hgd
    exact aasq hg hd (.inr hgd) h3 (Q3q hE hk h)
   ·exact absurd h f5q
end
structure Hint where
 ts:List Nat
 fz:List Nat
 nl:List (Nat×Nat×Nat)
 nc:List (Nat×Nat×Nat×Nat)
 na:List (Nat×Nat×Nat×Nat):=[]
 dg:List Nat:=[]
 sl:List Nat:=[]
structure b4q where
 loops:List (Nat×Hint)
 joins:List (Nat×Hint)
def a9eq (s:St):List Nat->List Nat
 | []=>[]
 | t::r=>match s.get t with
  | some x=>x.ids++a9eq s r
  | none=>a9eq s r
def O9q (s:St):List Nat->List Nat
 | []=>[]
 | t::r=>match s.get t with
  | some (.one (.op k _))=>(match s.gob k with
   | some (.var cs)=>Q2q [.agg cs]
   | _=>[])++O9q s r
  | some x=>Q2q [x]++O9q s r
  | none=>O9q s r
def nilAll (s:St):List (Nat×Nat×Nat)->St
 | []=>s
 | (t,e,es)::r=>match s.get t with
  | some (.one .e0)=>match s.fresh [(1400+t,.lst e es [])] with
   | true=>nilAll (s.nilOb t (1400+t) e es) r
   | false=>nilAll s r
  | _=>nilAll s r
theorem To.nilAll:∀{l:List (Nat×Nat×Nat)} {s:St},To s (nilAll s l)
 | [],s=>To.refl s
 | (t,e,es)::r,s=>by
  simp only [AM.nilAll]
  split
  ·rename_i ht
   split
   ·rename_i hf
    exact (To.nilOb ht hf).trans To.nilAll
   ·exact To.nilAll
  ·exact To.nilAll
def a8fq:List (Nat×Ob)->List Nat
 | []=>[]
 | (_,.var cs)::r=>Q2q [.agg cs]++a8fq r
 | _::r=>a8fq r
def ag1q (s:St) (k:Nat):Bool:=match s.gob k with
 | some (.lst _ _ _)=>true
 | some (.tr _ _ _)=>true
 | _=>false
def a8vq (keep:Nat->Bool):Nat->List Nat->List (Nat×Nat)
 | _,[]=>[]
 | n,k::r=>match decide (2000<=k)&&keep k with
  | true=>(k,k)::a8vq keep n r
  | false=>(k,n)::a8vq keep (n+1) r
def canonR (s:St) (ts:List Nat) (l:List (Nat×Nat)):St:=match a13q l with
 | true=>s.ren l ts
 | false=>s
def nilDats (s:St):List Nat->St
 | []=>s
 | t::r=>match s.get t with
  | some (.one .e0)=>nilDats (s.nilDat t) r
  | some (.agg cs)=>nilDats (s.nilAgD t cs) r
  | _=>nilDats s r
theorem To.nilDats:∀{l:List Nat} {s:St},To s (nilDats s l)
 | [],s=>To.refl s
 | t::r,s=>by
  simp only [AM.nilDats]
  split
  ·rename_i ht
   exact (To.nilDat ht).trans To.nilDats
  ·rename_i ht
   exact (To.nilAgD ht).trans To.nilDats
  ·exact To.nilDats
def nilAggs (s:St):List (Nat×Nat×Nat×Nat)->St
 | []=>s
 | (t,q,e,es)::r=>match s.get t with
  | some (.agg cs)=>match cs[q]? with
   | some .e0=>match s.fresh [(1100+t+61*q,.lst e es [])] with
    | true=>nilAggs (s.nilAgg t q (1100+t+61*q) e es cs) r
    | false=>nilAggs s r
   | _=>nilAggs s r
  | _=>nilAggs s r
theorem To.nilAggs:∀{l:List (Nat×Nat×Nat×Nat)} {s:St},To s (nilAggs s l)
 | [],s=>To.refl s
 | (t,q,e,es)::r,s=>by
  simp only [AM.nilAggs]
  split
  ·rename_i ht
   split
   ·rename_i hc
    split
    ·rename_i hf
     exact (To.nilAgg ht hc hf).trans To.nilAggs
    ·exact To.nilAggs
   ·exact To.nilAggs
  ·exact To.nilAggs
def canon (h:Hint) (s:St):St :=
 let s0:=nilAggs (nilCells (nilAll s h.nl) h.nc) h.na
 let s1:=nilDats (frzAll s0 (O9q s0 h.fz)) h.fz
 let s2:=degrAll s1 (O9q s1 h.dg)
 let s3:=sealAll s2 (O9q s2 h.sl)
 canonR s3 h.ts (a8vq (fun k => !((a8fq s3.ob).contains k&&ag1q s3 k)) 1900 (O3q s3 8 (F1q [] (a9eq s3 h.ts))))
theorem To.canonR {s:St} {ts:List Nat} {l:List (Nat×Nat)}:To s (canonR s ts l):=by
 unfold AM.canonR
 split
 ·rename_i h; exact To.ren h
 ·exact To.refl s
theorem To.canon {h:Hint} {s:St}:To s (canon h s):=To.nilAll.trans (To.nilCells.trans (To.nilAggs.trans (To.frzAll.trans (To.nilDats.trans (To.degrAll.trans (To.sealAll.trans To.canonR))))))
def canonO (h:Option Hint) (s:St):St:=match h with
 | some h=>canon h s
 | none=>s
theorem To.canonO {h:Option Hint} {s:St}:To s (canonO h s):=by
 cases h with
 | some h=>exact To.canon
 | none=>exact To.refl s
def F0q:Code->Nat
 | .region id _ _=>id
 | .seq a _=>F0q a
 | .block _ c=>F0q c
 | .loop c=>F0q c
 | _=>100000
structure CL (n:Nat) (P:Program) (c:Code) (N:St->Prop) (E:Exit->St->Prop) (s:St):Prop where
 h:∀Γ:Cx,Γ.n=n->WL Γ P c N E s
structure CW (n:Nat) (P:Program) (c:Code) (N:St->Prop) (E:Exit->St->Prop) (s:St):Prop where
 h:∀Γ:Cx,Γ.n=n->W Γ P c N E s
def aaRq:List Oper->Bool
 | []=>false
 | o::r=>(match o.op with
  | .store _ _ _=>true
  | .box _ _=>true
  | .call c=>(match c.callee with
   | .value _=>true
   | .builtin .append=>true
   | .builtin .copy=>true
   | .builtin .clear=>true
   | _=>false)
  | _=>false)||aaRq r
def vC (P:Program) (E:Env) (hs:b4q) (n:Nat):Code->St->(St->Prop)->(Exit->St->Prop)->Prop
 | .skip,s,kn,_=>kn s
 | .region id ops draw,s,kn,_=>frcP (R5q E ops.toList []) fun cols=>match draw with
  | false=>vOps P { E with cols:=cols } n id ops ops.toList 0 s kn
  | true=>chk (j0q id 1000) (a6kq ops) (match aaRq ops.toList with
   | true=>frcL (r1q ops.toList []) fun ms=>vDX P { E with cols:=cols } n id ops ms ops.toList 0 s [] kn
   | false=>V3q P { E with cols:=cols } n id s ops ops.toList 0 s kn)
 | .seq a b,s,kn,ke=>vC P E hs n a s (fun s'=>match a1q hs.joins (F0q b) with
  | some h=>CW n P b kn ke (canon h s')
  | none=>vC P E hs n b s' kn ke) ke
 | .cond c a b,s,kn,ke=>opt (j0q 0 0) ((s.ev c).bind asB) fun bb=>ifB bb (vC P E hs n a s kn ke) (vC P E hs n b s kn ke)
 | .block id c,s,kn,ke=>vC P E hs n c s kn (a4sq id kn ke)
 | .loop c,s,kn,ke=>CL n P c kn ke (canonO (a1q hs.loops (F0q c)) s)
 | .exit id,s,_,ke=>ke (.exit id) s
 | .ret,s,_,ke=>ke .ret s
 | _,_,_,_=>j0q 0 1
theorem E3q {P:Program} {E:Env} {hs:b4q} (hE:EnvOk P E) (hm:P.follows .mixedOrders=true) {n:Nat}:∀(c:Code) {s:St} {kn:St->Prop} {ke:Exit->St->Prop},vC P E hs n c s kn ke->∀Γ:Cx,Γ.n=n->W Γ P c kn ke s
 | .skip,s,kn,ke,h,Γ,hn=>ag7q h
 | .region id ops draw,s,kn,ke,h,Γ,hn=>by
  subst hn
  simp only [vC,a3dq] at h
  have hE:=hE.cols (R5q E ops.toList [])
  cases draw with
  | false =>
   have:=K8q (Γ:=Γ) (K:=kn) hE (fun _ h=>h) h
   have h2:=aduq (E:=ke) (id:=id) (l:=ops.toList) (by simpa using this)
   simpa using h2
  | true =>
   obtain ⟨h1,h⟩:=a7q f5q h
   cases hX:aaRq ops.toList with
   | true =>
    rw [hX] at h
    simp only [a3jq] at h
    have h2:=afzq (Γ:=Γ) (Ex:=ke) (N:=kn) (id:=id) (l:=ops.toList) hE hm (by simpa using a6Qq h1) (fun _ h=>h) (by simpa using h)
    simpa using h2
   | false =>
    rw [hX] at h
    have:=Q3q (Γ:=Γ) (K:=kn) hE (fun _ h=>h) h
    have h2:=aePq (E:=ke) (id:=id) (l:=ops.toList) hm (by simpa using a6Qq h1) (by simpa using this)
    simpa using h2
 | .seq a b,s,kn,ke,h,Γ,hn=>by
  refine agCq (a5nq (E3q hE hm a h Γ hn) (fun s' h => ?_) fun _ _ h=>h)
  split at h
  ·exact W_to To.canon (h.h Γ hn)
  ·exact E3q hE hm b h Γ hn
 | .cond c a b,s,kn,ke,h,Γ,hn=>by
  obtain ⟨bb,hb,h⟩:=a0q f5q h
  have hb:s.ev c=some (B bb):=by
   cases hx:s.ev c with
   | none=>rw [hx] at hb; simp at hb
   | some X=>rw [hx] at hb; exact congrArg some (aayq hb)
  refine agBq hb (fun e => ?_) fun e => ?_
  ·subst e; exact E3q hE hm a h Γ hn
  ·subst e; exact E3q hE hm b h Γ hn
 | .block id c,s,kn,ke,h,Γ,hn=>af1q (E3q hE hm c h Γ hn)
 | .loop c,s,kn,ke,h,Γ,hn=>W_loop' h.h hn
 | .exit id,s,kn,ke,h,Γ,hn=>ag4q h
 | .ret,s,kn,ke,h,Γ,hn=>agYq h
 | .rangeFunc ..,s,kn,ke,h,Γ,hn=>absurd h f5q
 | .scope _,s,kn,ke,h,Γ,hn=>absurd h f5q
 | .label _,s,kn,ke,h,Γ,hn=>absurd h f5q
 | .goto _,s,kn,ke,h,Γ,hn=>absurd h f5q
 | .refuse _,s,kn,ke,h,Γ,hn=>absurd h f5q
where W_loop' {Γ:Cx} {P:Program} {c:Code} {kn:St->Prop} {ke:Exit->St->Prop} {s:St} {n:Nat} {h:Option Hint} (h1:∀Γ:Cx,Γ.n=n->WL Γ P c kn ke (canonO h s)) (hn:Γ.n=n):W Γ P (.loop c) kn ke s:=W_to To.canonO (afpq (h1 Γ hn))
theorem c6q {P:Program} {E:Env} {hs:b4q} (hE:EnvOk P E) (hm:P.follows .mixedOrders=true) {n:Nat} {c:Code} {s:St} {kn:St->Prop} {ke:Exit->St->Prop} (h:vC P E hs n c s (fun s'=>CL n P c kn ke (canonO (a1q hs.loops (F0q c)) s')) ke):CL n P c kn ke s :=
 ⟨fun Γ hn=>aeoq (a5nq (E3q hE hm c h Γ hn) (fun s' h=>agVq To.canonO (h.h Γ hn)) fun _ _ h=>h)⟩
def a50q (E:Env) (s:St):ResultVar->Option AV
 | .tmp t=>s.get t
 | .cell t ty=>match s.get t,a1q E.tab ty with
  | some (.one (.op k 0)),some i=>match s.gob k with
   | some (.var cs)=>if i.agg=true/\cs.length=i.n then some (w2q cs) else none
   | _=>none
  | _,_=>none
def W4q (E:Env) (s:St):List ResultVar->Option (List AV)
 | []=>some []
 | v::r=>match a50q E s v,W4q E s r with
  | some x,some xs=>some (x::xs)
  | _,_=>none
def a4Jq (E:Env) (s:St):List ResultVar->Option AV
 | [v]=>a50q E s v
 | rs=>(W4q E s rs).map .tup
def a16q (tmps:Array Value):ResultVar->Sem Value
 | .tmp t=>pure (tmps.getD t undef)
 | .cell a t=>do loadVar t (<-asAddr (tmps.getD a undef))
theorem a3Dq {fn:Func} {tmps:Array Value}:results fn tmps=(do
 let vs <-fn.results.mapM (a16q tmps)
 pure (if h:vs.size=1 then vs[0] else .tuple vs)):=rfl
theorem a4Qq {P:Program} {E:Env} (hE:EnvOk P E) {s:St} {v:ResultVar} {y:AV} (h:a50q E s v=some y) {Γ:Cx} {a:Act} {w:World} {S:Nat->Prop} {β:Nat->OLoc} (hs:Sim Γ s a w S β):∃u,(a16q a.tmps v).run P w = .ok u w/\RepV w S β y u:=by
 cases v with
 | tmp t =>
  obtain ⟨u,hu,hr⟩:=hs.tm t y h
  exact ⟨u,by simp [a16q,ahz,hu],hr⟩
 | cell t ty =>
  simp only [a50q] at h
  split at h
  ·rename_i k i ht hi
   split at h
   ·rename_i cs hk
    split at h
    ·rename_i hc
     obtain ⟨d1,j1,hd1,hj1,a1,a2,a3,a4,a5,a6,a7⟩:=b2q (hE.tab ty i hi)
     simp at h; subst h
     obtain ⟨v,hv,hrep⟩:=hs.tm t _ ht
     cases hrep.one_inv
     obtain ⟨hh,ar,E',hg,hrp⟩:=hs.mem.ob k _ hk
     have hlen:=hrp.len
     simp only [awz] at hlen
     refine ⟨.agg ar,?_,?_⟩
     ·have hld:=run_loadCells_list (P:=P) w ⟨(β k).blk,0,none⟩ ar.toList (fun q u hu=>by
       rw [o7q,p0q hg,<-Array.getElem?_toList,Nat.zero_add]; exact hu)
      simp only [awz] at hld
      have hl:=hc.2.trans a2.symm
      have hsz:ar.size=j1.size:=by omega
      rw [hsz] at hld
      simp [a16q,hv,asAddr,loadVar,o6q hd1,a1.trans hc.1,sizeOf,typeInfo,hj1,hld]
     ·have h2:=hrp.mk
      simp only [asz] at h2
      exact h2
    ·simp at h
   ·simp at h
  ·simp at h
theorem a3Cq {P:Program} {E:Env} (hE:EnvOk P E) {s:St} {Γ:Cx} {a:Act} {w:World} {S:Nat->Prop} {β:Nat->OLoc} (hs:Sim Γ s a w S β):∀{rs:List ResultVar} {xs:List AV},W4q E s rs=some xs->∃us,(rs.mapM (a16q a.tmps)).run P w = .ok us w/\RepVs w S β xs us/\us.length=rs.length
 | [],xs,h=>by simp [W4q] at h; subst h; exact ⟨[],by simp,.nil,rfl⟩
 | v::r,xs,h=>by
  simp only [W4q] at h
  split at h
  ·rename_i x ys h1 h2
   simp at h; subst h
   obtain ⟨u,hu,hr⟩:=a4Qq hE h1 hs
   obtain ⟨us,hus,hrs,hl⟩:=a3Cq hE hs h2
   refine ⟨u::us,?_,RepVs.cons hr hrs,by simp [hl]⟩
   simp only [aDz,amz,hu,hus,adz,anz]
  ·simp at h
theorem adOq {P:Program} {E:Env} (hE:EnvOk P E) {fn:Func} {s:St} {rs:List ResultVar} {y:AV} (hr:fn.results=rs.toArray) (h:a4Jq E s rs=some y):ResOk P fn s y:=by
 intro Γ a w S β hs
 unfold a4Jq at h
 split at h
 ·rename_i v
  obtain ⟨u,hu,hrep⟩:=a4Qq hE h hs
  refine ⟨u,?_,hrep⟩
  rw [a3Dq,hr,axz]
  simp only [aDz,List.mapM_nil,map_bind,map_pure,amz,hu,adz,anz]
  simp
 ·rename_i hne
  cases hx:W4q E s rs with
  | none=>rw [hx] at h; simp at h
  | some xs =>
   rw [hx] at h
   simp at h; subst h
   obtain ⟨us,hus,hrs,hl⟩:=a3Cq hE hs hx
   refine ⟨.tuple us.toArray,?_,RepVs.tup hrs .nil⟩
   have hl1:us.toArray.size≠1:=by
    intro h1
    simp only [List.size_toArray] at h1
    rw [hl] at h1
    match rs,h1 with
    | [v],_=>exact hne v rfl
   rw [a3Dq,hr,axz]
   have e1:((List.toArray <$> rs.mapM (a16q a.tmps)):Sem (Array Value)).run P w = .ok us.toArray w:=by
    rw [map_eq_pure_bind,amz,hus]
    simp only [adz,anz,Function.comp]
   rw [amz,e1]
   simp only [adz,anz]
   rw [dif_neg hl1]
def AV.normR:AV->AV
 | .tup ys=>.tup (ys.map AV.norm)
 | x=>x.norm
theorem RepV.normR {w:World} {S:Nat->Prop} {β:Nat->OLoc} {x:AV} {v:Value} (h:RepV w S β x v):RepV w S β x.normR v:=by
 unfold AV.normR
 split
 ·obtain ⟨us,hv,h2⟩:=h.tup_inv
  rw [hv]; exact RepVs.tup h2.norm .nil
 ·exact h.norm
theorem ResOk.normR {P:Program} {fn:Func} {s:St} {r:AV} (h:ResOk P fn s r):ResOk P fn s r.normR:=by
 intro Γ a w S β hs
 obtain ⟨v,h1,h2⟩:=h Γ a w S β hs
 exact ⟨v,h1,h2.normR⟩
def a7Xq:List RK->List At->List Nat
 | .k _::ks,x::xs=>x.ids++a7Xq ks xs
 | .o _ _::ks,_::xs=>a7Xq ks xs
 | .e::ks,_::xs=>a7Xq ks xs
 | _,_=>[]
mutual
def fzOf:RS->AV->List Nat
 | .c _,.one x=>x.ids
 | .d _,.agg xs=>AV.idsL xs
 | .s ks,.agg xs=>a7Xq ks xs
 | .t rs,.tup ys=>fzOfL rs ys
 | _,_=>[]
def fzOfL:List RS->List AV->List Nat
 | r::rs,y::ys=>fzOf r y++fzOfL rs ys
 | _,_=>[]
end
def nlOf (s:St):List ResultVar->List RS->List (Nat×Nat×Nat)
 | .tmp t::r,.o e es::rs=>(t,e,es)::nlOf s r rs
 | .tmp t::r,.b e es::rs=>(t,e,es)::nlOf s r rs
 | _::r,_::rs=>nlOf s r rs
 | _,_=>[]
def a53q (t:Nat):List RK->Nat->List (Nat×Nat×Nat×Nat)
 | [],_=>[]
 | .k _::ks,q=>a53q t ks (q+1)
 | .o e es::ks,q=>(t,q,e,es)::a53q t ks (q+1)
 | .e::ks,q=>a53q t ks (q+1)
def naOf:List ResultVar->List RS->List (Nat×Nat×Nat×Nat)
 | .tmp t::r,.s ks::rs=>a53q t ks 0++naOf r rs
 | _::r,_::rs=>naOf r rs
 | _,_=>[]
def ncOf:List ResultVar->List RS->List (Nat×Nat×Nat×Nat)
 | .cell t _::r,.s ks::rs=>a53q t ks 0++ncOf r rs
 | _::r,_::rs=>ncOf r rs
 | _,_=>[]
def dgOf:List ResultVar->List RS->List Nat
 | .tmp t::r,.b _ _::rs=>t::dgOf r rs
 | _::r,_::rs=>dgOf r rs
 | _,_=>[]
def rsL:RS->List RS
 | .t rs=>rs
 | r=>[r]
def a1tq:List ResultVar->List Nat
 | []=>[]
 | .tmp t::r=>t::a1tq r
 | .cell t _::r=>t::a1tq r
def a5hq:Ob->Bool
 | .var _=>true
 | _=>false
def a4Nq:List (Nat×Ob)->Bool
 | []=>true
 | (k,_)::r => !(r.map (·.1)).contains k&&a4Nq r
theorem a3zq {k:Nat} {X:Ob}:∀{l:List (Nat×Ob)},a4Nq l=true->(k,X)∈l->a1q l k=some X
 | [],_,h=>by simp at h
 | (j,Y)::r,hn,h=>by
  simp only [a4Nq,a0z,ajz,arz,decide_eq_false_iff_not] at hn
  rcases a5z.1 h with h | h
  ·cases h; simp [a1q]
  ·have:j≠k:=by
    rintro rfl
    exact hn.1 (a1z.2 ⟨_,h,rfl⟩)
   simp only [a1q]
   rw [if_neg (by simpa using this)]
   exact a3zq hn.2 h
theorem aafq {s:St}:∀{O:List (Nat×Ob)},(∀p∈O,s.gob p.1=some p.2)->usOk s O
 | [],_=>trivial
 | (k,X)::r,h=>⟨h (k,X) (by simp),aafq fun p hp=>h p (by simp [hp])⟩
def a9hq (s:St):List Nat->List Nat
 | []=>[]
 | k::r=>match s.gob k with
  | some (.var cs)=>AV.idsL cs++a9hq s r
  | _=>a9hq s r
def a3iq (s:St):List ResultVar->List Nat
 | []=>[]
 | .tmp _::r=>a3iq s r
 | .cell t _::r=>match s.get t with
  | some (.one (.op k _))=>k::a3iq s r
  | _=>a3iq s r
def a8eq (ks:List (Nat×Bool)) (O:List (Nat×Ob)) (mv:List Nat) (r:AV):Bool :=
 (r.ids++(O.map fun p=>p.1::p.2.ids).flatten).all fun o=>mv.contains o||(decide (2000<=o)&&ks.any (·.1==o))
theorem acgq {ks:List (Nat×Bool)} {I O:List (Nat×Ob)} {mv:List Nat} {r:AV} (hk:I.map (fun p=>(p.1,a5hq p.2))=ks) (h:a8eq ks O mv r=true):a82q I O mv r=true:=by
 subst hk
 unfold a82q
 unfold a8eq at h
 simpa [List.any_map,Function.comp_def] using h
def agFq (s:St) (ts:List Nat):St:=degrAll s (O9q s ts)
def hasE:RS->Bool
 | .s ks=>ks.any fun k=>match k with
  | .e=>true
  | _=>false
 | _=>false
def nrR (rs:RS) (y:AV):AV:=match hasE rs with
 | true=>y
 | false=>y.normR
theorem ResOk.nrR {P:Program} {fn:Func} {s:St} {r:AV} (h:ResOk P fn s r) (rs:RS):ResOk P fn s (nrR rs r):=by
 unfold AM.nrR
 split
 ·exact h
 ·exact h.normR
def e0q (E:Env) (res:List ResultVar) (rs:RS) (ks:List (Nat×Bool)) (dir:List Nat) (r:AV) (O:List (Nat×Ob)) (s:St):Prop :=
 opt (j0q 1 0) (a4Jq E s res) fun y0 =>
  let s1:=frzAll s (fzOf rs y0)
  let s2:=agFq (nilCells (nilAggs (nilAll s1 (nlOf s1 res (rsL rs))) (naOf res (rsL rs))) (ncOf res (rsL rs))) (dgOf res (rsL rs))
  opt (j0q 1 1) (a4Jq E s2 res) fun y1 =>
   let fix:=(ks.filter fun p=>p.2||dir.contains p.1).map (·.1)
   let ids:=(F1q fix (y1.ids++a9hq s2 fix)).drop fix.length
   let l:=fix.map (fun k=>(k,k))++(a2Uq 0 ids++a2Uq 1300 ((a3iq s2 res).filter fun k => !(fix++ids).contains k))
   let s3:=s2.ren l (a1tq res)
   let ob:=s3.ob.filter fun p => !(decide (1300<=p.1)&&decide (p.1<2000))
   chk (j0q 1 2) (a13q l)<|opt (j0q 1 3) (a4Jq E s3 res) fun y2 =>
    chk (j0q 1 4) (a8eq ks ob (A8q ob) (nrR rs y2)&&a4Nq s3.ob) (nrR rs y2=r/\ob=O)
theorem a1wq {P:Program} {E:Env} (hE:EnvOk P E) {fn:Func} {res:List ResultVar} {rs:RS} {I:List (Nat×Ob)} {ks:List (Nat×Bool)} {dir:List Nat} {r:AV} {O:List (Nat×Ob)} {s:St} (hks:I.map (fun p=>(p.1,a5hq p.2))=ks) (hr:fn.results=res.toArray) (h:e0q E res rs ks dir r O s):RetX P fn s r I O (A8q O):=by
 obtain ⟨y0,_,h⟩:=a0q f5q h
 obtain ⟨y1,_,h⟩:=a0q f5q h
 obtain ⟨hg,h⟩:=a7q f5q h
 obtain ⟨y2,h2,h⟩:=a0q f5q h
 obtain ⟨h3,h4,h5⟩:=a7q f5q h
 simp only [a0z] at h3
 have hok:=(adOq hE hr h2).nrR rs
 rw [h4] at hok
 rw [h4,h5] at h3
 have key:=aftq (O:=O) hok (aafq fun p hp => ?_) (acgq hks h3.1)
 ·exact P4q To.frzAll (P4q To.nilAll (P4q To.nilAggs (P4q To.nilCells (P4q To.degrAll (P4q (To.ren hg) key)))))
 ·rw [<-h5] at hp
  exact a3zq h3.2 (List.mem_filter.1 hp).1
def a0Pq (z:Prop) (s:St):List Nat->(St->Prop)->Prop
 | [],k=>k s
 | t::r,k=>match s.get t with
  | some (.one (.ps q es lo n))=>opt z (s.gob q) fun X=>opt z (asP X) fun p=>chk z (decide (lo=0)&&decide (p.2.2.1=es)&&decide (q<2000)) (Do (n<=p.2.2.2.length)/\a0Pq z (s.appd (some t) q [] (.lst p.2.1 es (p.2.2.2.take n))) r k)
  | _=>a0Pq z s r k
theorem a0Cq {z:Prop} (hz:¬z):∀{l:List Nat} {s:St} {k:St->Prop},a0Pq z s l k->∃s',To s s'/\k s'
 | [],s,k,h=>⟨s,To.refl s,h⟩
 | t::r,s,k,h=>by
  simp only [a0Pq] at h
  split at h
  ·rename_i q es lo n ht
   obtain ⟨X,hX,h⟩:=a0q hz h
   obtain ⟨p,hp,h⟩:=a0q hz h
   have hp:=a0Kq hp
   obtain ⟨hl,h1,h⟩:=a7q hz h
   simp only [a0z,decide_eq_true_eq] at hl
   obtain ⟨⟨h2,h3⟩,h4⟩:=hl
   obtain ⟨s',h5,h⟩:=a0Cq hz h
   refine ⟨s',To.trans (fun Γ a w S β hs => ?_) h5,h⟩
   rw [hp,h3] at hX
   rw [h2] at ht
   obtain ⟨β',h6⟩:=adtq hs hX h4 ht h1.h
   exact ⟨S,β',h6⟩
  ·exact a0Cq hz h
def M0q (E:Env) (res:List ResultVar) (rs:RS) (ks:List (Nat×Bool)) (dir:List Nat) (r:AV) (O:List (Nat×Ob)) (s:St):Prop :=
 a0Pq (j0q 1 5) s (a1tq res) fun s'=>e0q E res rs ks dir r O s'
theorem a3Aq {P:Program} {E:Env} (hE:EnvOk P E) {fn:Func} {res:List ResultVar} {rs:RS} {I:List (Nat×Ob)} {ks:List (Nat×Bool)} {dir:List Nat} {r:AV} {O:List (Nat×Ob)} {s:St} (hks:I.map (fun p=>(p.1,a5hq p.2))=ks) (hr:fn.results=res.toArray) (h:M0q E res rs ks dir r O s):RetX P fn s r I O (A8q O):=by
 obtain ⟨s',h1,h⟩:=a0Cq f5q h
 exact P4q h1 (a1wq hE hks hr h)
def W1q (z:Prop):List Nat->St->(St->Prop)->Prop
 | [],s,k=>k s
 | q::r,s,k=>opt z (s.gob q) fun X=>match X with
  | .lst E es xs=>∀c:Nat,xs.length<=c->c<=maxLen->W1q z r (s.mv (a9gq q es xs.length) q [] (.fu E es xs c)) k
  | _=>z
def afWq (l:List (Nat×Nat)) (n:Nat) (s:St):St:=s.ren l (List.range n)
def a2q (fn:Func):Code:=fn.body.getD .skip
def a81q (R:St->Prop):Exit->St->Prop
 | .ret,s=>R s
 | _,_=>j0q 2 0
theorem c1q {P:Program} {E:Env} {hs:b4q} (hE:EnvOk P E) (hm:P.follows .mixedOrders=true) {f:FuncId} {fn:Func} {c:Code} {xs:List AV} {I:List (Nat×Ob)} {r:AV} {O:List (Nat×Ob)} {n:Nat} {res:List ResultVar} {rs:RS} {ks:List (Nat×Bool)} {dir:List Nat} (hks:I.map (fun p=>(p.1,a5hq p.2))=ks) (hf:P.funcs[f]?=some fn) (hb:fn.body=some c) (hn:fn.ntmps=n) (hl:Nat.ble xs.length n=true) (hr:fn.results=res.toArray)
  (h:vC P E hs n c ⟨St.enter 0 xs,I⟩ (e0q E res rs ks dir r O) (a81q (e0q E res rs ks dir r O))):XC P f xs I r O:=by
 refine ⟨aaGq hf hb n hn (aqz hl) fun w0 S0 β0 => ?_⟩
 refine a5nq (E3q hE hm c h _ rfl) (fun s h=>a1wq hE hks hr h) fun e s h => ?_
 cases e with
 | ret=>exact a1wq hE hks hr h
 | _=>exact absurd h f5q
theorem a70q {z:Prop} (hz:¬z) {Γ:Cx} {P:Program} {c:Code} {N:St->Prop} {Ex:Exit->St->Prop}:∀{l:List Nat} {s:St},W1q z l s (fun s=>W Γ P c N Ex s)->W Γ P c N Ex s
 | [],s,h=>h
 | q::r,s,h=>by
  obtain ⟨X,hX,h⟩:=a0q hz h
  split at h
  ·rename_i E es xs
   intro a w S β hs
   obtain ⟨c0,h1,h2,hs'⟩:=aecq hs hX
   exact a70q hz (h c0 h1 h2) a w S β hs'
  ·exact absurd h hz
theorem a2Sq {z:Prop} {p q:St->Prop} (hpq:∀s,p s->q s):∀{l:List Nat} {s:St},W1q z l s p->W1q z l s q
 | [],s,h=>hpq s h
 | k::r,s,h=>by
  unfold W1q at *
  cases hX:s.gob k with
  | none=>rw [hX] at h; exact h
  | some X =>
   rw [hX] at h
   cases X with
   | lst E es xs=>exact fun c h1 h2=>a2Sq hpq (h c h1 h2)
   | _=>exact h
theorem w9q {P:Program} {E:Env} {hs:b4q} (hE:EnvOk P E) (hm:P.follows .mixedOrders=true) {f:FuncId} {fn:Func} {c:Code} {xs:List AV} {I:List (Nat×Ob)} {r:AV} {O:List (Nat×Ob)} {n:Nat} {res:List ResultVar} {rs:RS} {ks:List (Nat×Bool)} {dir:List Nat} (l:List (Nat×Nat)) (op:List Nat) (hl2:a13q l=true) (hks:I.map (fun p=>(p.1,a5hq p.2))=ks) (hf:P.funcs[f]?=some fn) (hb:fn.body=some c) (hn:fn.ntmps=n) (hl:Nat.ble xs.length n=true) (hr:fn.results=res.toArray)
  (h:W1q (j0q 1 6) op (afWq l xs.length ⟨St.enter 0 xs,I⟩) fun s=>vC P E hs n c s (M0q E res rs ks dir r O) (a81q (M0q E res rs ks dir r O))):XC P f xs I r O:=by
 refine ⟨aaGq hf hb n hn (aqz hl) fun w0 S0 β0 => ?_⟩
 refine W_to (To.ren hl2) (a70q f5q (a2Sq (fun s h => ?_) h))
 refine a5nq (E3q hE hm c h _ rfl) (fun s h=>a3Aq hE hks hr h) fun e s h => ?_
 cases e with
 | ret=>exact a3Aq hE hks hr h
 | _=>exact absurd h f5q
def subC:Code->List Nat->Code
 | c,[]=>c
 | .seq a b,0::p=>subC a p
 | .seq a b,_::p=>subC b p
 | .cond _ a b,0::p=>subC a p
 | .cond _ a b,_::p=>subC b p
 | .block _ c,_::p=>subC c p
 | .loop c,_::p=>subC c p
 | c,_=>c
def kont (P:Program) (E:Env) (hs:b4q) (n:Nat):Code->List Nat->(St->Prop)->(Exit->St->Prop)->(St->Prop)×(Exit->St->Prop)
 | .seq a b,0::p,kn,ke=>kont P E hs n a p (fun s'=>match a1q hs.joins (F0q b) with
  | some h=>CW n P b kn ke (canon h s')
  | none=>vC P E hs n b s' kn ke) ke
 | .seq a b,_::p,kn,ke=>kont P E hs n b p kn ke
 | .cond _ a b,0::p,kn,ke=>kont P E hs n a p kn ke
 | .cond _ a b,_::p,kn,ke=>kont P E hs n b p kn ke
 | .block id c,_::p,kn,ke=>kont P E hs n c p kn (a4sq id kn ke)
 | .loop c,_::p,kn,ke=>match p with
  | []=>(kn,ke)
  | q::p=>kont P E hs n c (q::p) (fun s'=>CL n P c kn ke (canonO (a1q hs.loops (F0q c)) s')) ke
 | _,_,kn,ke=>(kn,ke)
theorem a4q {p q:Prop} (e:p=q) (h:p):q:=e ▸ h
end AM
end Go.Proofs.YtmgfoalfimpkjaaGreat
namespace Go.Proofs.YtmgfoalfimpkjaaGreat
namespace AM
open Go
open Go.Proofs.Tryz renaming prog->pg
def ZerL (P:Program):List (Nat×(Nat×Nat×List At))->Prop
 | []=>True
 | (t,z)::r=>ZeroOk P t z.1 z.2.1 z.2.2/\ZerL P r
theorem ZerL.spec {P:Program}:∀{l:List (Nat×(Nat×Nat×List At))},ZerL P l->∀t z,a1q l t=some z->ZeroOk P t z.1 z.2.1 z.2.2
 | [],_,t,z,h=>by simp [a1q] at h
 | (k,y)::r,hl,t,z,h=>by
  simp only [a1q] at h
  split at h
  ·rename_i e; simp at e h; subst e; subst h; exact hl.1
  ·exact ZerL.spec hl.2 t z h
def zer:List (Nat×(Nat×Nat×List At)):=[(2,(1,8,[.d (.int .i64 0)])),
 (3,(1,8,[.d (.int .i64 0)])),
 (4,(1,1,[.d (.bool false)])),
 (5,(1,1,[.d (.int .u8 0)])),
 (6,(1,1,[.d (.int .u8 0)])),
 (7,(4,24,[.d (.int .i64 0),.d (.int .i64 0),.d (.bool false),.d (.int .u8 0)])),
 (8,(4,24,[.d (.int .i64 0),.d (.int .i64 0),.d (.bool false),.d (.int .u8 0)])),
 (9,(1,16,[.d (.str ⟨#[]⟩)])),
 (10,(1,16,[.d (.str ⟨#[]⟩)])),
 (11,(1,16,[.d (.str ⟨#[]⟩)])),
 (12,(1,8,[.d (.int .u64 0)])),
 (13,(2,24,[.d (.str ⟨#[]⟩),.d (.int .u64 0)])),
 (14,(2,24,[.d (.str ⟨#[]⟩),.d (.int .u64 0)])),
 (18,(1,8,[.junk])),
 (19,(1,8,[.junk])),
 (21,(1,4,[.d (.int .i32 0)])),
 (22,(1,24,[.e0])),
 (24,(1,24,[.e0])),
 (25,(1,24,[.e0])),
 (28,(1,24,[.e0])),
 (29,(1,24,[.e0])),
 (34,(1,24,[.e0])),
 (48,(1,24,[.e0])),
 (50,(1,24,[.e0])),
 (51,(3,40,[.d (.int .i64 0),.d (.int .i64 0),.e0])),
 (52,(3,40,[.d (.int .i64 0),.d (.int .i64 0),.e0])),
 (53,(7,88,[.d (.bool false),.d (.int .i64 0),.d (.int .i64 0),.e0,.d (.int .i64 0),.d (.int .i64 0),.e0])),
 (54,(7,88,[.d (.bool false),.d (.int .i64 0),.d (.int .i64 0),.e0,.d (.int .i64 0),.d (.int .i64 0),.e0])),
 (56,(1,24,[.e0])),
 (69,(1,8,[.junk])),
 (91,(1,24,[.e0])),
 (102,(1,8,[.junk])),
 (103,(3,32,[.d (.str ⟨#[]⟩),.d (.int .i64 0),.d (.bool false)])),
 (104,(3,32,[.d (.str ⟨#[]⟩),.d (.int .i64 0),.d (.bool false)])),
 (105,(4,64,[.e0,.d (.int .i64 0),.e0,.d (.bool false)])),
 (106,(4,64,[.e0,.d (.int .i64 0),.e0,.d (.bool false)])),
 (107,(1,24,[.e0])),
 (113,(1,8,[.junk])),
 (114,(5,88,[.e0,.d (.int .i64 0),.d (.bool false),.e0,.e0])),
 (115,(5,88,[.e0,.d (.int .i64 0),.d (.bool false),.e0,.e0])),
 (122,(3,40,[.e0,.d (.int .i64 0),.d (.int .i64 0)])),
 (123,(3,40,[.e0,.d (.int .i64 0),.d (.int .i64 0)])),
 (134,(4,48,[.d (.int .i64 0),.d (.int .i64 0),.d (.int .i64 0),.e0])),
 (135,(4,48,[.d (.int .i64 0),.d (.int .i64 0),.d (.int .i64 0),.e0])),
 (139,(2,32,[.junk,.e0])),
 (140,(2,32,[.junk,.e0])),
 (148,(1,24,[.e0])),
 (169,(1,8,[.d (.int .u64 0)])),
 (171,(1,8,[.junk])),
 (177,(2,16,[.d (.int .i64 0),.d (.int .i64 0)])),
 (178,(1,24,[.e0])),
 (208,(4,40,[.junk,.junk,.junk,.d (.str ⟨#[]⟩)])),
 (209,(4,40,[.junk,.junk,.junk,.d (.str ⟨#[]⟩)])),
 (214,(1,4,[.d (.int .u32 0)])),
 (215,(1,1,[.d (.int .u8 0)])),
 (216,(1,1,[.d (.int .u8 0)])),
 (218,(1,4,[.d (.int .i32 0)])),
 (219,(1,4,[.d (.int .i32 0)]))]
theorem zerOk:ZerL pg zer:=⟨z2,z3,z4,z5,z6,z7,z8,z9,z10,z11,z12,z13,z14,z18,z19,z21,z22,z24,z25,z28,z29,z34,z48,z50,z51,z52,z53,z54,z56,z69,z91,z102,z103,z104,z105,z106,z107,z113,z114,z115,z122,z123,z134,z135,z139,z140,z148,z169,z171,z177,z178,z208,z209,z214,z215,z216,z218,z219,trivial⟩
def cks:List (Nat×List CK):=[(1,[.f]),
 (2,[.i .i64]),
 (3,[.i .i64]),
 (4,[.b]),
 (5,[.i .u8]),
 (6,[.i .u8]),
 (7,[.i .i64,.i .i64,.b,.i .u8]),
 (8,[.i .i64,.i .i64,.b,.i .u8]),
 (9,[.s]),
 (10,[.s]),
 (11,[.s]),
 (12,[.i .u64]),
 (13,[.s,.i .u64]),
 (14,[.s,.i .u64]),
 (21,[.i .i32]),
 (22,[.l]),
 (23,[.f]),
 (24,[.l]),
 (25,[.l]),
 (27,[.f]),
 (28,[.l]),
 (29,[.l]),
 (30,[.f]),
 (32,[.f]),
 (33,[.f]),
 (34,[.l]),
 (36,[.f]),
 (38,[.f]),
 (40,[.f]),
 (41,[.f]),
 (42,[.f]),
 (43,[.f]),
 (44,[.f]),
 (45,[.f]),
 (46,[.f]),
 (47,[.f]),
 (48,[.l]),
 (49,[.f]),
 (50,[.l]),
 (51,[.i .i64,.i .i64,.l]),
 (52,[.i .i64,.i .i64,.l]),
 (53,[.b,.i .i64,.i .i64,.l,.i .i64,.i .i64,.l]),
 (54,[.b,.i .i64,.i .i64,.l,.i .i64,.i .i64,.l]),
 (55,[.f]),
 (56,[.l]),
 (58,[.f]),
 (60,[.f]),
 (61,[.f]),
 (62,[.f]),
 (63,[.f]),
 (64,[.f]),
 (65,[.f]),
 (66,[.f]),
 (67,[.f]),
 (68,[.f]),
 (70,[.f]),
 (71,[.f]),
 (72,[.f]),
 (73,[.f]),
 (74,[.f]),
 (75,[.f]),
 (76,[.f]),
 (77,[.f]),
 (78,[.f]),
 (79,[.f]),
 (80,[.f]),
 (81,[.f]),
 (82,[.f]),
 (83,[.f]),
 (84,[.f]),
 (85,[.f]),
 (86,[.f]),
 (87,[.f]),
 (88,[.f]),
 (89,[.f]),
 (90,[.f]),
 (91,[.l]),
 (92,[.f]),
 (93,[.f]),
 (94,[.f]),
 (95,[.f]),
 (96,[.f]),
 (97,[.f]),
 (98,[.f]),
 (99,[.f]),
 (101,[.f]),
 (103,[.s,.i .i64,.b]),
 (104,[.s,.i .i64,.b]),
 (105,[.l,.i .i64,.l,.b]),
 (106,[.l,.i .i64,.l,.b]),
 (107,[.l]),
 (108,[.f]),
 (109,[.f]),
 (110,[.f]),
 (111,[.f]),
 (112,[.f]),
 (114,[.l,.i .i64,.b,.l,.l]),
 (115,[.l,.i .i64,.b,.l,.l]),
 (116,[.f]),
 (117,[.f]),
 (118,[.f]),
 (119,[.f]),
 (120,[.f]),
 (121,[.f]),
 (122,[.l,.i .i64,.i .i64]),
 (123,[.l,.i .i64,.i .i64]),
 (124,[.f]),
 (125,[.f]),
 (126,[.f]),
 (127,[.f]),
 (128,[.f]),
 (129,[.f]),
 (130,[.f]),
 (131,[.f]),
 (132,[.f]),
 (133,[.f]),
 (134,[.i .i64,.i .i64,.i .i64,.l]),
 (135,[.i .i64,.i .i64,.i .i64,.l]),
 (136,[.f]),
 (137,[.f]),
 (141,[.f]),
 (145,[.f]),
 (146,[.f]),
 (147,[.f]),
 (148,[.l]),
 (149,[.f]),
 (150,[.f]),
 (151,[.f]),
 (152,[.f]),
 (153,[.f]),
 (154,[.f]),
 (155,[.f]),
 (156,[.f]),
 (157,[.f]),
 (158,[.f]),
 (159,[.f]),
 (160,[.f]),
 (161,[.f]),
 (162,[.f]),
 (163,[.f]),
 (164,[.f]),
 (165,[.f]),
 (166,[.f]),
 (167,[.f]),
 (168,[.f]),
 (169,[.i .u64]),
 (170,[.f]),
 (172,[.f]),
 (173,[.f]),
 (174,[.f]),
 (175,[.f]),
 (176,[.f]),
 (177,[.i .i64,.i .i64]),
 (178,[.l]),
 (179,[.f]),
 (180,[.f]),
 (181,[.f]),
 (182,[.f]),
 (184,[.f]),
 (185,[.f]),
 (187,[.f]),
 (189,[.f]),
 (190,[.f]),
 (191,[.f]),
 (192,[.f]),
 (193,[.f]),
 (194,[.f]),
 (196,[.f]),
 (197,[.f]),
 (198,[.f]),
 (199,[.f]),
 (200,[.f]),
 (201,[.f]),
 (202,[.f]),
 (204,[.f]),
 (205,[.f]),
 (206,[.f]),
 (207,[.f]),
 (213,[.f]),
 (214,[.i .u32]),
 (215,[.i .u8]),
 (216,[.i .u8]),
 (217,[.f]),
 (218,[.i .i32]),
 (219,[.i .i32])]
def sigs:List (Nat×RS):=[(2,.t []),
 (3,.c .b),
 (4,.c .b),
 (5,.c .b),
 (6,.c .b),
 (7,.t [.c .l,.c .l]),
 (8,.s [.o 54 7]),
 (9,.t [.c .l,.d [.l]]),
 (10,.s [.o 54 7]),
 (11,.t [.c .l,.c .l,.d [.l]]),
 (12,.t [.d [.l],.c (.i .i64)]),
 (13,.t [.c .l,.d [.l]]),
 (14,.t [.d [.l],.d [.l]]),
 (15,.t [.c .l,.d [.l]]),
 (16,.d [.l]),
 (17,.c .b),
 (18,.d [.l]),
 (19,.d [.l]),
 (20,.s [.o 54 7]),
 (21,.d [.l]),
 (22,.s [.o 54 7]),
 (23,.d [.l]),
 (24,.c .s),
 (25,.c .s),
 (26,.c .b),
 (27,.c .b),
 (28,.c .b),
 (29,.c .b),
 (30,.o 3 1),
 (31,.c .l),
 (32,.c .s),
 (33,.t [.o 104 3,.o 29 1,.c .b]),
 (34,.t [.c .l,.c .l,.c .b]),
 (35,.t [.c .l,.c .l]),
 (36,.c .s),
 (37,.c .s),
 (38,.c .s),
 (39,.c .b),
 (40,.c .b),
 (41,.c .b),
 (42,.c (.i .i64)),
 (43,.c (.i .i64)),
 (44,.c (.i .i64)),
 (45,.c (.i .i64)),
 (46,.p [.k .l,.k (.i .i64),.k (.i .i64)]),
 (47,.c (.i .i64)),
 (48,.d [.b,.i .i64,.i .i64,.l,.i .i64,.i .i64,.l]),
 (49,.c .b),
 (50,.d [.b,.i .i64,.i .i64,.l,.i .i64,.i .i64,.l]),
 (51,.c .l),
 (52,.s [.k .b,.k (.i .i64),.k (.i .i64),.o 52 3,.k (.i .i64),.k (.i .i64),.o 52 3]),
 (53,.t []),
 (54,.c (.i .i64)),
 (55,.o 54 7),
 (56,.c .b),
 (57,.d [.l]),
 (58,.s [.o 54 7]),
 (59,.c (.i .i64)),
 (60,.c (.i .i64)),
 (61,.c .l),
 (62,.d [.l]),
 (63,.c .b),
 (64,.d [.b,.i .i64,.i .i64,.l,.i .i64,.i .i64,.l]),
 (65,.c .b),
 (66,.c .b),
 (67,.d [.i .i64,.i .i64,.l]),
 (68,.s [.k .b,.k (.i .i64),.k (.i .i64),.o 52 3,.k (.i .i64),.k (.i .i64),.o 52 3]),
 (69,.d [.b,.i .i64,.i .i64,.l,.i .i64,.i .i64,.l]),
 (70,.c (.i .i64)),
 (71,.d [.i .i64,.i .i64,.l]),
 (72,.c .s),
 (73,.c .s),
 (74,.c .s),
 (75,.c .b),
 (76,.c .b),
 (77,.c .b),
 (78,.o 3 1),
 (79,.o 3 1),
 (80,.o 3 1),
 (81,.c .l),
 (82,.c .s),
 (83,.c .s),
 (84,.t [.c .l,.c (.i .i64)]),
 (85,.c .b),
 (86,.t []),
 (87,.d [.b,.i .i64,.i .i64,.l,.i .i64,.i .i64,.l]),
 (88,.t []),
 (89,.c .b),
 (90,.c .b),
 (91,.c .b),
 (92,.t [.c .l,.c (.i .i64)]),
 (93,.t []),
 (94,.c .b),
 (95,.c .b),
 (96,.c .s),
 (97,.c .s),
 (98,.c .b),
 (99,.c (.i .i64)),
 (100,.c .b),
 (101,.c .b),
 (102,.c .s),
 (103,.c (.i .i64)),
 (104,.c (.i .i64)),
 (105,.c (.i .i64)),
 (106,.d [.b,.i .i64,.i .i64,.l,.i .i64,.i .i64,.l]),
 (107,.d [.i .i64,.i .i64,.l]),
 (108,.d [.i .i64,.i .i64,.l]),
 (109,.s [.k (.i .i64),.k (.i .i64),.o 52 3]),
 (110,.c .b),
 (111,.t []),
 (112,.c (.i .i64)),
 (113,.d [.l]),
 (114,.s [.k (.i .i64),.k (.i .i64),.o 52 3]),
 (115,.c .l),
 (116,.c (.i .i64)),
 (117,.d [.i .i64,.i .i64,.l]),
 (118,.c .b),
 (119,.c .b),
 (120,.s [.k (.i .i64),.k (.i .i64),.o 52 3]),
 (121,.d [.i .i64,.i .i64,.l]),
 (122,.c .s),
 (123,.t []),
 (125,.c .s),
 (126,.c .s),
 (127,.c .b),
 (128,.c .b),
 (129,.o 3 1),
 (130,.t []),
 (131,.t []),
 (132,.c .b),
 (133,.o 3 1),
 (134,.c .b),
 (135,.c (.i .i64)),
 (136,.c .b),
 (137,.o 3 1),
 (138,.c .l),
 (139,.c .b),
 (140,.c .b),
 (141,.c (.i .i64)),
 (142,.c .s),
 (143,.d [.i .i64,.i .i64,.l]),
 (144,.c (.i .i64)),
 (145,.c .b),
 (146,.c .b),
 (147,.t []),
 (148,.d [.b,.i .i64,.i .i64,.l,.i .i64,.i .i64,.l]),
 (149,.c .b),
 (150,.c (.i .i64)),
 (151,.c .l),
 (152,.c .b),
 (153,.c .b),
 (154,.c (.i .i64)),
 (155,.c .b),
 (156,.c .b),
 (157,.c (.i .i64)),
 (158,.c (.i .i64)),
 (159,.d [.i .i64,.i .i64,.l]),
 (160,.d [.i .i64,.i .i64,.l]),
 (161,.c .b),
 (162,.t []),
 (163,.t []),
 (164,.t []),
 (165,.d [.i .i64,.i .i64,.l]),
 (166,.d [.i .i64,.i .i64,.l]),
 (167,.c .b),
 (168,.b 52 3),
 (169,.s [.k (.i .i64),.k (.i .i64),.o 52 3]),
 (170,.d [.i .i64,.i .i64,.l]),
 (171,.c .b),
 (172,.t []),
 (173,.t []),
 (174,.c .s),
 (175,.c (.i .i64)),
 (176,.c .b),
 (177,.c (.i .i64)),
 (178,.c .b),
 (179,.c .b),
 (181,.t []),
 (182,.c .b),
 (183,.c .b),
 (184,.c (.i .i64)),
 (185,.t [.c .s,.c .b]),
 (186,.t [.c (.i .i64),.c .b]),
 (187,.s [.k (.i .i64),.k (.i .i64),.e]),
 (188,.c (.i .i64)),
 (189,.c .s),
 (190,.d [.i .i64,.i .i64,.l]),
 (191,.c .b),
 (192,.t []),
 (193,.t []),
 (194,.s [.k (.i .i64),.k (.i .i64),.o 52 3]),
 (195,.d [.i .i64,.i .i64,.l]),
 (198,.t []),
 (199,.t []),
 (201,.t [.c .s,.c .b]),
 (202,.t [.c (.i .i64),.c .b]),
 (203,.c (.i .i64)),
 (204,.c (.i .i64)),
 (205,.c .l),
 (206,.c .b),
 (207,.t []),
 (208,.t []),
 (209,.t []),
 (210,.t [.d [.i .i64,.i .i64,.l],.c .b]),
 (211,.s [.k (.i .i64),.k (.i .i64),.o 52 3]),
 (212,.t []),
 (213,.c .b),
 (214,.t []),
 (215,.o 52 3),
 (216,.t [])]
def fnsB:List Nat:=[2,3,4,5,6,7,8,9,10,11,12,13,14,15,16,17,18,19,20,21,22,23,24,25,26,27,28,29,30,31,32,33,34,35,36,37,38,39,40,41,42,43,44,45,46,47,48,49,50,51,52,53,54,55,56,57,58,59,60,61,62,63,64,65,66,67,68,69,70,71,72,73,74,75,76,77,78,79,80,81,82,83,84,85,86,87,88,89,90,91,92,93,94,95,96,97,98,99,100,101,102,103,104,105,106,107,108,109,110,111,112,113,114,115,116,117,118,119,120,121,122,123,124,125,126,127,128,129,130,131,132,133,134,135,136,137,138,139,140,141,142,143,144,145,146,147,148,149,150,151,152,153,154,155,156,157,158,159,160,161,162,163,164,165,166,167,168,169,170,171,172,173,174,175,176,177,178,179,181,182,183,184,185,186,187,188,189,190,191,192,193,194,195,198,199,201,202,203,204,205,206,207,208,209,210,211,212,213,214,215,216]
def objB:List Nat:=[42,43,53,90,102,103,111,144,157,162,163,164,192,193,207,208,209,212,214,216]
def extB:List Nat:=[200]
def eqtB:List (Nat×List CK):=[(104,[.s,.i .i64,.b])]
def tknB:List (Nat×Nat):=[(55,0),(129,0),(137,0)]
def ovlB:List Nat:=[180]
def cksA:List (Nat×List CK):=[(1,[.f]),
 (2,[.i .i64]),
 (3,[.i .i64]),
 (4,[.b]),
 (5,[.i .u8]),
 (6,[.i .u8]),
 (7,[.i .i64,.i .i64,.b,.i .u8]),
 (8,[.i .i64,.i .i64,.b,.i .u8]),
 (9,[.s]),
 (10,[.s]),
 (11,[.s]),
 (12,[.i .u64]),
 (13,[.s,.i .u64]),
 (14,[.s,.i .u64]),
 (21,[.i .i32]),
 (22,[.a]),
 (23,[.f]),
 (24,[.a]),
 (25,[.a]),
 (27,[.f]),
 (28,[.a]),
 (29,[.a]),
 (30,[.f]),
 (32,[.f]),
 (33,[.f]),
 (34,[.a]),
 (36,[.f]),
 (38,[.f]),
 (40,[.f]),
 (41,[.f]),
 (42,[.f]),
 (43,[.f]),
 (44,[.f]),
 (45,[.f]),
 (46,[.f]),
 (47,[.f]),
 (48,[.a]),
 (49,[.f]),
 (50,[.a]),
 (51,[.i .i64,.i .i64,.a]),
 (52,[.i .i64,.i .i64,.a]),
 (53,[.b,.i .i64,.i .i64,.a,.i .i64,.i .i64,.a]),
 (54,[.b,.i .i64,.i .i64,.a,.i .i64,.i .i64,.a]),
 (55,[.f]),
 (56,[.a]),
 (58,[.f]),
 (60,[.f]),
 (61,[.f]),
 (62,[.f]),
 (63,[.f]),
 (64,[.f]),
 (65,[.f]),
 (66,[.f]),
 (67,[.f]),
 (68,[.f]),
 (70,[.f]),
 (71,[.f]),
 (72,[.f]),
 (73,[.f]),
 (74,[.f]),
 (75,[.f]),
 (76,[.f]),
 (77,[.f]),
 (78,[.f]),
 (79,[.f]),
 (80,[.f]),
 (81,[.f]),
 (82,[.f]),
 (83,[.f]),
 (84,[.f]),
 (85,[.f]),
 (86,[.f]),
 (87,[.f]),
 (88,[.f]),
 (89,[.f]),
 (90,[.f]),
 (91,[.a]),
 (92,[.f]),
 (93,[.f]),
 (94,[.f]),
 (95,[.f]),
 (96,[.f]),
 (97,[.f]),
 (98,[.f]),
 (99,[.f]),
 (101,[.f]),
 (103,[.s,.i .i64,.b]),
 (104,[.s,.i .i64,.b]),
 (105,[.a,.i .i64,.a,.b]),
 (106,[.a,.i .i64,.a,.b]),
 (107,[.a]),
 (108,[.f]),
 (109,[.f]),
 (110,[.f]),
 (111,[.f]),
 (112,[.f]),
 (114,[.a,.i .i64,.b,.a,.a]),
 (115,[.a,.i .i64,.b,.a,.a]),
 (116,[.f]),
 (117,[.f]),
 (118,[.f]),
 (119,[.f]),
 (120,[.f]),
 (121,[.f]),
 (122,[.a,.i .i64,.i .i64]),
 (123,[.a,.i .i64,.i .i64]),
 (124,[.f]),
 (125,[.f]),
 (126,[.f]),
 (127,[.f]),
 (128,[.f]),
 (129,[.f]),
 (130,[.f]),
 (131,[.f]),
 (132,[.f]),
 (133,[.f]),
 (134,[.i .i64,.i .i64,.i .i64,.a]),
 (135,[.i .i64,.i .i64,.i .i64,.a]),
 (136,[.f]),
 (137,[.f]),
 (141,[.f]),
 (145,[.f]),
 (146,[.f]),
 (147,[.f]),
 (148,[.a]),
 (149,[.f]),
 (150,[.f]),
 (151,[.f]),
 (152,[.f]),
 (153,[.f]),
 (154,[.f]),
 (155,[.f]),
 (156,[.f]),
 (157,[.f]),
 (158,[.f]),
 (159,[.f]),
 (160,[.f]),
 (161,[.f]),
 (162,[.f]),
 (163,[.f]),
 (164,[.f]),
 (165,[.f]),
 (166,[.f]),
 (167,[.f]),
 (168,[.f]),
 (169,[.i .u64]),
 (170,[.f]),
 (172,[.f]),
 (173,[.f]),
 (174,[.f]),
 (175,[.f]),
 (176,[.f]),
 (177,[.i .i64,.i .i64]),
 (178,[.a]),
 (179,[.f]),
 (180,[.f]),
 (181,[.f]),
 (182,[.f]),
 (184,[.f]),
 (185,[.f]),
 (187,[.f]),
 (189,[.f]),
 (190,[.f]),
 (191,[.f]),
 (192,[.f]),
 (193,[.f]),
 (194,[.f]),
 (196,[.f]),
 (197,[.f]),
 (198,[.f]),
 (199,[.f]),
 (200,[.f]),
 (201,[.f]),
 (202,[.f]),
 (204,[.f]),
 (205,[.f]),
 (206,[.f]),
 (207,[.f]),
 (213,[.f]),
 (214,[.i .u32]),
 (215,[.i .u8]),
 (216,[.i .u8]),
 (217,[.f]),
 (218,[.i .i32]),
 (219,[.i .i32])]
def nlcB:List (Nat×List (Nat×Nat×Nat)):=[(113,[(4,29,1)])]
def dglB:List Nat:=[113]
def env:Env:=⟨tab,zer,cks,sigs,fnsB,objB,extB,eqtB,false,[],[],tknB,ovlB,nlcB,dglB⟩
def d0q:Env:={ env with cks:=cksA }
def envL:Env:={ env with lw:=true }
theorem envOk:EnvOk pg env:=⟨agQq,zerOk.spec,by kernel_rfl,by
 intro f hf
 simp only [env,extB,a5z,alz,or_false] at hf
 subst hf
 exact ⟨_,Tryz.func200,by kernel_rfl,by kernel_rfl,by kernel_rfl,by kernel_rfl⟩,by kernel_rfl,by
 intro f hf
 simp only [env,ovlB,a5z,alz,or_false] at hf
 rcases hf with rfl
 ·exact ⟨_,48,4,3,1,Tryz.func180,by kernel_rfl,by kernel_rfl,by kernel_rfl,by kernel_rfl,by kernel_rfl,by kernel_rfl⟩⟩
theorem agiq:EnvOk pg envL:=⟨envOk.tab,envOk.zer,envOk.fns,envOk.ext,envOk.eqt,envOk.ovl⟩
theorem g7q:EnvOk pg d0q:=⟨envOk.tab,envOk.zer,envOk.fns,envOk.ext,envOk.eqt,envOk.ovl⟩
end AM
end Go.Proofs.YtmgfoalfimpkjaaGreat
