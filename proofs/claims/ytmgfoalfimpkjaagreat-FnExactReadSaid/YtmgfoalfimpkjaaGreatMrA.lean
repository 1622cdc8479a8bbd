/- A part of the proof of the law that the last of these texts states, for every input; no conditions. -/
import Derived.WalkKit
import Derived.Below
import Derived.Orders
import Derived.KernelRfl
import Derived.Laws.AppendOwn
import Derived.Laws.MakeOwn
import Derived.Laws.OwnMore
import Derived.IntWalk
import Derived.Laws.Concat
import Derived.Test.YtmgfoalfimpkjaaGreatProg
import Derived.Laws.BytesArg
import Derived.Laws.Externs
import Derived.Laws.Cover3
import Derived.Lib.AppendZeros
import Derived.Lib.Overlaps
import Derived.Laws.CopyRow
import Derived.Lib.AppendZerosOnto
import Derived.Deep.AppendSrc
import Derived.Laws.StructEq
import Derived.ProofKit
import Derived.SizedLaws
import Derived.Deep.Slices
import Derived.ChangeSame
import Derived.WideKeyArgs
import Derived.Test.YtmgfoalfimpkjaaGreatRows
set_option linter.unusedVariables false
set_option linter.unusedSimpArgs false
open Go.Op renaming operands->a0z,intArith->biz,stringOp->bxz
open List renaming getElem?_eq_some_iff->a1z,eq_nil_of_length_eq_zero->a2z,replicate->a3z,all_eq_true->a4z,append_assoc->a6z,take_append_drop->a9z,mem_cons->abz,getElem?_append_left->afz,mem_append->aiz,getElem?_eq_getElem->ajz,length_take->akz,take_of_length_le->amz,getElem?_append_right->anz,length_append->aoz,getElem?_take->asz,map_toArray->ayz,mem_append_right->aAz,mem_map->aEz,mem_append_left->aGz,contains_eq_mem->aHz,length_drop->aJz,mem_cons_self->aPz,flatten_cons->aRz,drop_of_length_le->aSz,range->aTz,getElem?_toArray->aUz,mem_of_getElem?->aVz,mem_of_mem_take->aWz,take_left'->aXz,mem_range->aYz,getElem?_map->b2z,any_eq_true->b8z,mem_flatten->b9z,getElem_cons_drop->bgz,filter_eq_nil_iff->bhz,getElem?_eq_none->bkz,length_replicate->blz,contains_iff_mem->bmz,drop_zero->bnz,mem_cons_of_mem->boz,flatten_append->bqz,replicate_succ->brz,getElem?_drop->btz,ext_getElem?->bvz,size_toArray->bwz,length_cons->byz,foldl_cons->bAz,nil_append->bBz,mem_filter->bCz,map_cons->bIz
open Go.Result renaming andThen_ok->a5z
open Array renaming getD_eq_getD_getElem?->a7z,length_toList->aaz,getElem?_setIfInBounds_ne->aez,getElem?_toList->atz,getElem?_eq_getElem->aKz,replicate->aNz,getElem?_eq_some_iff->b0z,foldl_toList->buz,ext'->bDz
open Bool renaming and_eq_true->a8z,or_eq_true->azz,not_eq_true'->aCz
open Go.Sem renaming run_bind->acz,run_pure->ahz,run->b4z
open Nat renaming lt_of_lt_of_le->adz,le_refl->apz,le_trans->aqz,add_sub_cancel_left->arz,not_lt->axz,zero_le->aBz,zero_add->aFz,mul_le_mul_right->aIz,min_eq_left->aMz,add_mul->b1z,add_assoc->b3z,add_zero->bcz,le_of_lt->bez,le_mul_of_pos_right->bfz
open Go.Instr renaming sureAddr->agz,sliceBounds->alz,sliceAt->avz,sliceBound->awz,slice->aDz,loadAt->aQz,fill->b7z,indexAt->bpz,buildSlice->bzz,fieldAt->bGz,storeAt->bHz
open Go.Builtin renaming append_->auz,firstCells->aZz,zeroCells->b5z,len_->bdz,lenOf->bsz
open Option renaming map_some->aLz,isSome_iff_exists->aOz,getD_some->baz,bind_some->bbz,none_or->bEz
open Classical renaming byContradiction->b6z
open Go.Utf8 renaming encode->bjz
open ByteArray renaming ext->bFz
namespace Go.Proofs.YtmgfoalfimpkjaaGreat
namespace AM
open Go
inductive Da where
 | int (k:IntKind) (n:Int)
 | bool (b:Bool)
 | str (s:ByteArray)
 | sl (xs:List (List Da))
 | fn (f:FuncId)
 | tg (v:Value) (ys:List (List Da))
inductive RepF (w:World):List Da->List Value->List Nat->Prop
 | nil:RepF w [] [] []
 | int {k n xs vs fp}:RepF w xs vs fp->RepF w (.int k n::xs) (.int k n::vs) fp
 | bool {b xs vs fp}:RepF w xs vs fp->RepF w (.bool b::xs) (.bool b::vs) fp
 | str {s xs vs fp}:s.size<=281474976710656->RepF w xs vs fp->RepF w (.str s::xs) (.string s::vs) fp
 | fn {f xs vs fp}:RepF w xs vs fp->RepF w (.fn f::xs) (.func (.func f) #[] #[]::vs) fp
 | sl0 {ys xs vs fp a n cap}:ys.flatten=[]->n=ys.length->n<=cap->n<=281474976710656->RepF w xs vs fp ->
   RepF w (.sl ys::xs) (.slice a n cap::vs) fp
 | sl1 {ys xs us vs fi fp b off n cap es}:RepF w ys.flatten us fi->n=ys.length->n<=cap->n<=281474976710656->(∀y∈ys,y.length=es) ->
   (∀i u,us[i]?=some u->w.cell? ⟨b,off+i,none⟩=some u)->b<w.heap.size->RepF w xs vs fp ->
   RepF w (.sl ys::xs) (.slice (some ⟨b,off,none⟩) n cap::vs) (b::(fi++fp))
 | tg {v ys xs vs fi fp}:RepF w [.sl ys] [v] fi->RepF w xs vs fp->RepF w (.tg v ys::xs) (v::vs) (fi++fp)
section
variable {w w':World}
theorem RepF.len {xs vs fp} (h:RepF w xs vs fp):vs.length=xs.length:=by
 induction h <;> simp_all
theorem RepF.lt {xs vs fp} (h:RepF w xs vs fp):∀b∈fp,b<w.heap.size:=by
 induction h with
 | nil=>simp
 | sl1 _ _ _ _ _ _ hb _ ih1 ih2 =>
  intro b hm
  simp only [abz,aiz] at hm
  rcases hm with rfl | hm | hm
  ·exact hb
  ·exact ih1 b hm
  ·exact ih2 b hm
 | tg _ _ ih1 ih2 =>
  intro b hm
  rcases aiz.1 hm with hm | hm
  ·exact ih1 b hm
  ·exact ih2 b hm
 | _=>assumption
theorem Z0q {b:Nat} (h:w'.heap[b]?=w.heap[b]?) (i:Nat):w'.cell? ⟨b,i,none⟩=w.cell? ⟨b,i,none⟩:=by
 simp [World.cell?,h]
theorem a5kq {b:Nat} (h:w'.heap[b]?=w.heap[b]?) (hb:b<w.heap.size):b<w'.heap.size:=by
 rcases Nat.lt_or_ge b w'.heap.size with h1 | h1
 ·exact h1
 ·rw [Array.getElem?_eq_none h1,aKz hb] at h; simp at h
theorem RepF.keep {xs vs fp} (h:RepF w xs vs fp):(∀b∈fp,w'.heap[b]?=w.heap[b]?)->RepF w' xs vs fp:=by
 induction h with
 | nil=>intro _; exact .nil
 | int _ ih=>intro hk; exact .int (ih hk)
 | bool _ ih=>intro hk; exact .bool (ih hk)
 | str hs _ ih=>intro hk; exact .str hs (ih hk)
 | fn _ ih=>intro hk; exact .fn (ih hk)
 | sl0 h1 h2 h3 h4 _ ih=>intro hk; exact .sl0 h1 h2 h3 h4 (ih hk)
 | sl1 _ h1 h2 h3 h4 h5 h6 _ ih1 ih2 =>
  intro hk
  have hb:=hk _ (aPz ..)
  refine .sl1 (ih1 fun b hm=>hk b ?_) h1 h2 h3 h4 (fun i u hu => ?_) (a5kq hb h6) (ih2 fun b hm=>hk b ?_)
  ·simp [hm]
  ·rw [Z0q hb]; exact h5 i u hu
  ·simp [hm]
 | tg _ _ ih1 ih2=>intro hk; exact .tg (ih1 fun b hm=>hk b (aGz _ hm)) (ih2 fun b hm=>hk b (aAz _ hm))
theorem RepF.app {xs ys vs us fp fq} (h:RepF w xs vs fp) (k:RepF w ys us fq):RepF w (xs++ys) (vs++us) (fp++fq):=by
 induction h with
 | nil=>simpa using k
 | int _ ih=>exact .int ih
 | bool _ ih=>exact .bool ih
 | str hs _ ih=>exact .str hs ih
 | fn _ ih=>exact .fn ih
 | sl0 h1 h2 h3 h4 _ ih=>exact .sl0 h1 h2 h3 h4 ih
 | sl1 h0 h1 h2 h3 h4 h5 h6 _ _ ih2 =>
  have:=RepF.sl1 h0 h1 h2 h3 h4 h5 h6 ih2
  simpa [a6z] using this
 | tg h0 _ _ ih2 =>
  have:=RepF.tg h0 ih2
  simpa [a6z] using this
theorem RepF.split {xs ys vs fp} (h:RepF w (xs++ys) vs fp) :
  ∃v1 v2 f1 f2,vs=v1++v2/\fp=f1++f2/\RepF w xs v1 f1/\RepF w ys v2 f2:=by
 induction xs generalizing vs fp with
 | nil=>exact ⟨[],vs,[],fp,rfl,rfl,.nil,h⟩
 | cons x xs ih =>
  cases h with
  | int h=>obtain ⟨v1,v2,f1,f2,rfl,rfl,h1,h2⟩:=ih h; exact ⟨_::v1,v2,f1,f2,rfl,rfl,.int h1,h2⟩
  | bool h=>obtain ⟨v1,v2,f1,f2,rfl,rfl,h1,h2⟩:=ih h; exact ⟨_::v1,v2,f1,f2,rfl,rfl,.bool h1,h2⟩
  | str hs h=>obtain ⟨v1,v2,f1,f2,rfl,rfl,h1,h2⟩:=ih h; exact ⟨_::v1,v2,f1,f2,rfl,rfl,.str hs h1,h2⟩
  | fn h=>obtain ⟨v1,v2,f1,f2,rfl,rfl,h1,h2⟩:=ih h; exact ⟨_::v1,v2,f1,f2,rfl,rfl,.fn h1,h2⟩
  | sl0 e1 e2 e3 e4 h=>obtain ⟨v1,v2,f1,f2,rfl,rfl,h1,h2⟩:=ih h; exact ⟨_::v1,v2,f1,f2,rfl,rfl,.sl0 e1 e2 e3 e4 h1,h2⟩
  | sl1 e0 e1 e2 e3 e4 e5 e6 h =>
   obtain ⟨v1,v2,f1,f2,rfl,rfl,h1,h2⟩:=ih h
   exact ⟨_::v1,v2,_::(_++f1),f2,rfl,by simp [a6z],.sl1 e0 e1 e2 e3 e4 e5 e6 h1,h2⟩
  | tg e0 h =>
   obtain ⟨v1,v2,f1,f2,rfl,rfl,h1,h2⟩:=ih h
   exact ⟨_::v1,v2,_++f1,f2,rfl,by simp [a6z],.tg e0 h1,h2⟩
end
def RepDs (w:World) (S:Nat->Prop) (xs:List Da) (vs:List Value):Prop:=∃fp,RepF w xs vs fp/\∀b∈fp,S b
section
variable {w w':World} {S S':Nat->Prop}
theorem RepDs.len {xs vs} (h:RepDs w S xs vs):vs.length=xs.length:=h.elim fun _ h=>h.1.len
theorem RepDs.mono {xs vs} (h:RepDs w S xs vs) (hk:∀b,S b->w'.heap[b]?=w.heap[b]?) (hs:∀b,S b->S' b):RepDs w' S' xs vs:=by
 obtain ⟨fp,h,hf⟩:=h
 exact ⟨fp,h.keep fun b hb=>hk b (hf b hb),fun b hb=>hs b (hf b hb)⟩
theorem RepDs.app {xs ys vs us} (h:RepDs w S xs vs) (k:RepDs w S ys us):RepDs w S (xs++ys) (vs++us):=by
 obtain ⟨fp,h,hf⟩:=h
 obtain ⟨fq,k,hg⟩:=k
 exact ⟨_,h.app k,fun b hb=>by rcases aiz.1 hb with hb | hb; exact hf b hb; exact hg b hb⟩
theorem RepDs.split {xs ys vs} (h:RepDs w S (xs++ys) vs):∃v1 v2,vs=v1++v2/\RepDs w S xs v1/\RepDs w S ys v2:=by
 obtain ⟨fp,h,hf⟩:=h
 obtain ⟨v1,v2,f1,f2,rfl,rfl,h1,h2⟩:=h.split
 exact ⟨v1,v2,rfl,⟨f1,h1,fun b hb=>hf b (by simp [hb])⟩,⟨f2,h2,fun b hb=>hf b (by simp [hb])⟩⟩
theorem RepDs.nil:RepDs w S [] []:=⟨[],.nil,by simp⟩
theorem RepDs.nil_inv {vs} (h:RepDs w S [] vs):vs=[]:=by
 obtain ⟨fp,h,_⟩:=h; cases h; rfl
theorem RepDs.cons_inv {x xs vs} (h:RepDs w S (x::xs) vs):∃v vs',vs=v::vs'/\RepDs w S [x] [v]/\RepDs w S xs vs':=by
 obtain ⟨v1,v2,rfl,h1,h2⟩:=RepDs.split (xs:=[x]) (ys:=xs) h
 have:=h1.len
 match v1,this with
 | [v],_=>exact ⟨v,v2,rfl,h1,h2⟩
theorem RepDs.cons {x xs v vs} (h1:RepDs w S [x] [v]) (h2:RepDs w S xs vs):RepDs w S (x::xs) (v::vs):=h1.app h2
theorem RepDs.int_ (k n):RepDs w S [.int k n] [.int k n]:=⟨[],.int .nil,by simp⟩
theorem RepDs.bool_ (b):RepDs w S [.bool b] [.bool b]:=⟨[],.bool .nil,by simp⟩
theorem RepDs.str_ (s:ByteArray) (hs:s.size<=281474976710656):RepDs w S [.str s] [.string s]:=⟨[],.str hs .nil,by simp⟩
theorem RepDs.fn_ (f):RepDs w S [.fn f] [.func (.func f) #[] #[]]:=⟨[],.fn .nil,by simp⟩
theorem RepDs.int_inv {k n v} (h:RepDs w S [.int k n] [v]):v = .int k n:=by obtain ⟨_,h,_⟩:=h; cases h; rfl
theorem RepDs.bool_inv {b v} (h:RepDs w S [.bool b] [v]):v = .bool b:=by obtain ⟨_,h,_⟩:=h; cases h; rfl
theorem RepDs.str_inv {s v} (h:RepDs w S [.str s] [v]):v = .string s/\s.size<=281474976710656:=by obtain ⟨_,h,_⟩:=h; cases h; exact ⟨rfl,by assumption⟩
theorem RepDs.fn_inv {f v} (h:RepDs w S [.fn f] [v]):v = .func (.func f) #[] #[]:=by obtain ⟨_,h,_⟩:=h; cases h; rfl
theorem RepDs.sl_inv {ys v} (h:RepDs w S [.sl ys] [v]):∃a cap,v = .slice a ys.length cap/\ys.length<=cap/\ys.length<=281474976710656 /\
  (ys.flatten=[]\/∃b off us es,a=some ⟨b,off,none⟩/\S b/\b<w.heap.size/\RepDs w S ys.flatten us/\(∀y∈ys,y.length=es) /\
   ∀i u,us[i]?=some u->w.cell? ⟨b,off+i,none⟩=some u):=by
 obtain ⟨fp,h,hf⟩:=h
 cases h with
 | sl0 h1 h2 h3 h4 _=>subst h2; exact ⟨_,_,rfl,h3,h4,.inl h1⟩
 | sl1 h0 h1 h2 h3 h4 h5 h6 h7 =>
  subst h1
  exact ⟨_,_,rfl,h2,h3,.inr ⟨_,_,_,_,rfl,hf _ (by simp),h6,⟨_,h0,fun b hb=>hf b (by simp [hb])⟩,h4,h5⟩⟩
theorem RepDs.sl_mk {ys b off us es cap} (hc:ys.length<=cap) (hl:ys.length<=281474976710656) (hS:S b) (hb:b<w.heap.size) (hr:RepDs w S ys.flatten us)
  (hes:∀y∈ys,y.length=es) (hm:∀i u,us[i]?=some u->w.cell? ⟨b,off+i,none⟩=some u):RepDs w S [.sl ys] [.slice (some ⟨b,off,none⟩) ys.length cap]:=by
 obtain ⟨fi,h,hf⟩:=hr
 exact ⟨_,.sl1 h rfl hc hl hes hm hb .nil,fun x hx=>by
  simp only [List.append_nil,abz] at hx
  rcases hx with rfl | hx
  ·exact hS
  ·exact hf x hx⟩
theorem RepDs.sl_nil (a:Option Addr) (cap:Nat):RepDs w S [.sl []] [.slice a 0 cap]:=⟨[],.sl0 rfl rfl (aBz _) (aBz _) .nil,by simp⟩
end
structure OLoc where
 blk:Nat
 sa:Option Addr
 sn:Nat
 sc:Nat
 has:Bool
 sub:List Nat:=[]
 clm:List Nat:=[]
def OLoc.Own (l:OLoc) (b:Nat):Prop:=(l.has=true/\l.blk=b)\/b∈l.sub
theorem OLoc.own0 {l:OLoc} {b:Nat} (hs:l.sub=[]) (h:l.Own b):l.has=true/\l.blk=b:=by
 rcases h with h | h
 ·exact h
 ·rw [hs] at h; cases h
def OLoc.sv (l:OLoc):Value:=.slice l.sa l.sn l.sc
inductive At where
 | d (x:Da)
 | e0
 | ol (o:Nat)
 | op (o off:Nat)
 | ep (cs:List Da)
 | clo (f:FuncId) (caps:List (Nat×Nat))
 | raw (a:Option Addr) (n c:Nat)
 | ps (o es lo n:Nat)
 | junk
def G2q (β:Nat->OLoc) (p:Nat×Nat):Value:=.pointer (some ⟨(β p.1).blk,p.2,none⟩)
inductive RepA (w:World) (S:Nat->Prop) (β:Nat->OLoc):At->Value->Prop
 | d {x v}:RepDs w S [x] [v]->RepA w S β (.d x) v
 | e0:RepA w S β .e0 (.slice none 0 0)
 | ol {o}:RepA w S β (.ol o) (β o).sv
 | op {o off}:RepA w S β (.op o off) (.pointer (some ⟨(β o).blk,off,none⟩))
 | ep {cs us b off}:RepDs w S cs us->(us=[]\/(S b/\b<w.heap.size))->(∀i u,us[i]?=some u->w.cell? ⟨b,off+i,none⟩=some u) ->
   RepA w S β (.ep cs) (.pointer (some ⟨b,off,none⟩))
 | clo {f caps}:RepA w S β (.clo f caps) (.func (.func f) #[] (caps.map (G2q β)).toArray)
 | raw {a n c}:RepA w S β (.raw a n c) (.slice a n c)
 | ps {o es lo n a c}:n<=c->lo+c=(β o).sc->(0<c->a=some ⟨(β o).blk,lo*es,none⟩)->RepA w S β (.ps o es lo n) (.slice a n c)
 | junk {v}:RepA w S β .junk v
def At.ids:At->List Nat
 | .ol o=>[o]
 | .op o _=>[o]
 | .clo _ caps=>caps.map (·.1)
 | .ps o _ _ _=>[o]
 | _=>[]
inductive AV where
 | one (x:At)
 | dat (xs:List Da)
 | agg (xs:List At)
 | tup (ys:List AV)
inductive RepAs (w:World) (S:Nat->Prop) (β:Nat->OLoc):List At->List Value->Prop
 | nil:RepAs w S β [] []
 | cons {x v xs vs}:RepA w S β x v->RepAs w S β xs vs->RepAs w S β (x::xs) (v::vs)
def AV.idsL:List At->List Nat
 | []=>[]
 | x::r=>x.ids++AV.idsL r
mutual
def AV.ids:AV->List Nat
 | .one x=>x.ids
 | .dat _=>[]
 | .agg xs=>AV.idsL xs
 | .tup ys=>AV.idsT ys
def AV.idsT:List AV->List Nat
 | []=>[]
 | y::r=>y.ids++AV.idsT r
end
inductive RepVs (w:World) (S:Nat->Prop) (β:Nat->OLoc):List AV->List Value->Prop
 | nil:RepVs w S β [] []
 | one {x v ys vs}:RepA w S β x v->RepVs w S β ys vs->RepVs w S β (.one x::ys) (v::vs)
 | dat {xs cs ys vs}:RepDs w S xs cs->RepVs w S β ys vs->RepVs w S β (.dat xs::ys) (.agg cs.toArray::vs)
 | agg {xs cs ys vs}:RepAs w S β xs cs->RepVs w S β ys vs->RepVs w S β (.agg xs::ys) (.agg cs.toArray::vs)
 | tup {zs us ys vs}:RepVs w S β zs us->RepVs w S β ys vs->RepVs w S β (.tup zs::ys) (.tuple us.toArray::vs)
abbrev RepV (w:World) (S:Nat->Prop) (β:Nat->OLoc) (x:AV) (v:Value):Prop:=RepVs w S β [x] [v]
theorem RepF.sl_val {w:World} {ys:List (List Da)} {v:Value} {fp:List Nat} (h:RepF w [.sl ys] [v] fp):∃a n c,v = .slice a n c:=by
 cases h with
 | sl0=>exact ⟨_,_,_,rfl⟩
 | sl1=>exact ⟨_,_,_,rfl⟩
section
variable {w w':World} {S S':Nat->Prop} {β β':Nat->OLoc}
theorem RepA.mono {x v} (h:RepA w S β x v) (hk:∀b,S b->w'.heap[b]?=w.heap[b]?) (hs:∀b,S b->S' b) (hβ:∀o∈x.ids,β' o=β o):RepA w' S' β' x v:=by
 cases h with
 | d h=>exact .d (h.mono hk hs)
 | e0=>exact .e0
 | @ol o=>rw [<-hβ o (by simp [At.ids])]; exact .ol
 | @op o off=>rw [<-hβ o (by simp [At.ids])]; exact .op
 | ep h1 h2 h3 =>
  refine .ep (h1.mono hk hs) (h2.imp id fun h=>⟨hs _ h.1,a5kq (hk _ h.1) h.2⟩) fun i u hu => ?_
  rcases h2 with rfl | h2
  ·simp at hu
  ·rw [Z0q (hk _ h2.1)]; exact h3 i u hu
 | @clo f caps =>
  have:caps.map (G2q β)=caps.map (G2q β'):=List.map_congr_left fun p hp=>by
   unfold G2q; rw [hβ p.1 (by simp only [At.ids,aEz]; exact ⟨p,hp,rfl⟩)]
  rw [this]; exact .clo
 | raw=>exact .raw
 | @ps o es lo n a c h1 h2 h3 =>
  have e:=hβ o (by simp [At.ids])
  rw [<-e] at h2 h3
  exact .ps h1 h2 h3
 | junk=>exact .junk
theorem RepAs.mono {xs vs} (h:RepAs w S β xs vs) (hk:∀b,S b->w'.heap[b]?=w.heap[b]?) (hs:∀b,S b->S' b) (hβ:∀o∈AV.idsL xs,β' o=β o):RepAs w' S' β' xs vs:=by
 induction h with
 | nil=>exact .nil
 | cons h _ ih=>exact .cons (h.mono hk hs fun o ho=>hβ o (by simp [AV.idsL,ho])) (ih fun o ho=>hβ o (by simp [AV.idsL,ho]))
theorem RepVs.mono {ys vs} (h:RepVs w S β ys vs) (hk:∀b,S b->w'.heap[b]?=w.heap[b]?) (hs:∀b,S b->S' b):(∀o∈AV.idsT ys,β' o=β o)->RepVs w' S' β' ys vs:=by
 induction h with
 | nil=>intro _; exact .nil
 | one h _ ih=>intro hβ; exact .one (h.mono hk hs fun o ho=>hβ o (by simp [AV.idsT,AV.ids,ho])) (ih fun o ho=>hβ o (by simp [AV.idsT,ho]))
 | dat h _ ih=>intro hβ; exact .dat (h.mono hk hs) (ih fun o ho=>hβ o (by simp [AV.idsT,ho]))
 | agg h _ ih=>intro hβ; exact .agg (h.mono hk hs fun o ho=>hβ o (by simp [AV.idsT,AV.ids,ho])) (ih fun o ho=>hβ o (by simp [AV.idsT,ho]))
 | tup _ _ ih1 ih2=>intro hβ; exact .tup (ih1 fun o ho=>hβ o (by simp [AV.idsT,AV.ids,ho])) (ih2 fun o ho=>hβ o (by simp [AV.idsT,ho]))
theorem RepV.mono {x v} (h:RepV w S β x v) (hk:∀b,S b->w'.heap[b]?=w.heap[b]?) (hs:∀b,S b->S' b) (hβ:∀o∈x.ids,β' o=β o):RepV w' S' β' x v :=
 RepVs.mono h hk hs fun o ho=>hβ o (by simpa [AV.idsT] using ho)
theorem RepV.one_inv {x v} (h:RepV w S β (.one x) v):RepA w S β x v:=by cases h; assumption
theorem RepV.dat_inv {xs v} (h:RepV w S β (.dat xs) v):∃cs,v = .agg cs.toArray/\RepDs w S xs cs:=by cases h with | dat h _=>exact ⟨_,rfl,h⟩
theorem RepV.agg_inv {xs v} (h:RepV w S β (.agg xs) v):∃cs,v = .agg cs.toArray/\RepAs w S β xs cs:=by cases h with | agg h _=>exact ⟨_,rfl,h⟩
theorem RepV.tup_inv {ys v} (h:RepV w S β (.tup ys) v):∃us,v = .tuple us.toArray/\RepVs w S β ys us:=by cases h with | tup h _=>exact ⟨_,rfl,h⟩
theorem RepV.one {x v} (h:RepA w S β x v):RepV w S β (.one x) v:=RepVs.one h RepVs.nil
theorem RepV.int_inv {k n v} (h:RepV w S β (.one (.d (.int k n))) v):v = .int k n:=by cases h.one_inv with | d h=>exact h.int_inv
theorem RepV.bool_inv {b v} (h:RepV w S β (.one (.d (.bool b))) v):v = .bool b:=by cases h.one_inv with | d h=>exact h.bool_inv
theorem RepV.str_inv {s v} (h:RepV w S β (.one (.d (.str s))) v):v = .string s/\s.size<=281474976710656:=by cases h.one_inv with | d h=>exact h.str_inv
theorem RepV.fn_inv {f v} (h:RepV w S β (.one (.d (.fn f))) v):v = .func (.func f) #[] #[]:=by cases h.one_inv with | d h=>exact h.fn_inv
theorem RepV.int (k n):RepV w S β (.one (.d (.int k n))) (.int k n):=RepV.one (.d (.int_ k n))
theorem RepV.bool (b):RepV w S β (.one (.d (.bool b))) (.bool b):=RepV.one (.d (.bool_ b))
theorem RepV.str (s) (h:ByteArray.size s<=281474976710656):RepV w S β (.one (.d (.str s))) (.string s):=RepV.one (.d (.str_ s h))
end
inductive Ob where
 | var (cs:List At)
 | lst (E:TypeId) (es:Nat) (xs:List (List Da))
 | tr (E:TypeId) (es:Nat) (xs:List (List Da))
 | tk (xs:List (List Da))
 | mt (E:TypeId) (es:Nat) (xs:List (List Da))
 | mu (E:TypeId) (es:Nat) (xs:List (List Da)) (m q:Nat) (a:Option Addr) (n c:Nat)
 | fu (E:TypeId) (es:Nat) (xs:List (List Da)) (c:Nat)
def Ob.ids:Ob->List Nat
 | .var cs=>AV.idsL cs
 | _=>[]
inductive RepT (w:World):List Da->List Value->List Nat->Prop
 | nil:RepT w [] [] []
 | int {k n xs vs fp}:RepT w xs vs fp->RepT w (.int k n::xs) (.int k n::vs) fp
 | bool {b xs vs fp}:RepT w xs vs fp->RepT w (.bool b::xs) (.bool b::vs) fp
 | str {s xs vs fp}:s.size<=281474976710656->RepT w xs vs fp->RepT w (.str s::xs) (.string s::vs) fp
 | sl0 {xs vs fp a cap}:RepT w xs vs fp->RepT w (.sl []::xs) (.slice a 0 cap::vs) fp
 | sl1 {ys xs us vs fi fp b n cap es c E}:RepT w ys.flatten us fi->n=ys.length->0<n->n<=cap->n<=281474976710656->(∀y∈ys,y.length=es) ->
   w.heap[b]?=some (.cells c E (0,0))->us=c.toList.take (n*es)->RepT w xs vs fp ->
   RepT w (.sl ys::xs) (.slice (some ⟨b,0,none⟩) n cap::vs) (b::(fi++fp))
section
variable {w w':World}
theorem RepT.repF {xs vs fp} (h:RepT w xs vs fp):RepF w xs vs fp:=by
 induction h with
 | nil=>exact .nil
 | int _ ih=>exact .int ih
 | bool _ ih=>exact .bool ih
 | str hs _ ih=>exact .str hs ih
 | sl0 _ ih=>exact .sl0 rfl rfl (aBz _) (aBz _) ih
 | @sl1 ys xs us vs fi fp b n cap es c E _ h1 h2 h3 h4 h5 h6 h7 _ ih1 ih2 =>
  refine .sl1 ih1 h1 h3 h4 h5 (fun i u hu => ?_) (b0z.1 h6).1 ih2
  rw [h7,asz] at hu
  split at hu
  ·simp only [World.cell?,h6,aFz]
   simpa using hu
  ·simp at hu
theorem RepT.len {xs vs fp} (h:RepT w xs vs fp):vs.length=xs.length:=h.repF.len
theorem RepT.keep {xs vs fp} (h:RepT w xs vs fp):(∀b∈fp,w'.heap[b]?=w.heap[b]?)->RepT w' xs vs fp:=by
 induction h with
 | nil=>intro _; exact .nil
 | int _ ih=>intro hk; exact .int (ih hk)
 | bool _ ih=>intro hk; exact .bool (ih hk)
 | str hs _ ih=>intro hk; exact .str hs (ih hk)
 | sl0 _ ih=>intro hk; exact .sl0 (ih hk)
 | sl1 _ h1 h2 h3 h4 h5 h6 h7 _ ih1 ih2 =>
  intro hk
  exact .sl1 (ih1 fun b hm=>hk b (by simp [hm])) h1 h2 h3 h4 h5 ((hk _ (aPz ..)).trans h6) h7 (ih2 fun b hm=>hk b (by simp [hm]))
theorem RepT.app {xs ys vs us fp fq} (h:RepT w xs vs fp) (k:RepT w ys us fq):RepT w (xs++ys) (vs++us) (fp++fq):=by
 induction h with
 | nil=>simpa using k
 | int _ ih=>exact .int ih
 | bool _ ih=>exact .bool ih
 | str hs _ ih=>exact .str hs ih
 | sl0 _ ih=>exact .sl0 ih
 | sl1 h0 h1 h2 h3 h4 h5 h6 h7 _ _ ih2 =>
  have:=RepT.sl1 h0 h1 h2 h3 h4 h5 h6 h7 ih2
  simpa [a6z] using this
theorem RepT.split {xs ys vs fp} (h:RepT w (xs++ys) vs fp) :
  ∃v1 v2 f1 f2,vs=v1++v2/\fp=f1++f2/\RepT w xs v1 f1/\RepT w ys v2 f2:=by
 induction xs generalizing vs fp with
 | nil=>exact ⟨[],vs,[],fp,rfl,rfl,.nil,h⟩
 | cons x xs ih =>
  cases h with
  | int h=>obtain ⟨v1,v2,f1,f2,rfl,rfl,h1,h2⟩:=ih h; exact ⟨_::v1,v2,f1,f2,rfl,rfl,.int h1,h2⟩
  | bool h=>obtain ⟨v1,v2,f1,f2,rfl,rfl,h1,h2⟩:=ih h; exact ⟨_::v1,v2,f1,f2,rfl,rfl,.bool h1,h2⟩
  | str hs h=>obtain ⟨v1,v2,f1,f2,rfl,rfl,h1,h2⟩:=ih h; exact ⟨_::v1,v2,f1,f2,rfl,rfl,.str hs h1,h2⟩
  | sl0 h=>obtain ⟨v1,v2,f1,f2,rfl,rfl,h1,h2⟩:=ih h; exact ⟨_::v1,v2,f1,f2,rfl,rfl,.sl0 h1,h2⟩
  | sl1 e0 e1 e2 e3 e4 e5 e6 e7 h =>
   obtain ⟨v1,v2,f1,f2,rfl,rfl,h1,h2⟩:=ih h
   exact ⟨_::v1,v2,_::(_++f1),f2,rfl,by simp [a6z],.sl1 e0 e1 e2 e3 e4 e5 e6 e7 h1,h2⟩
end
def ZC (l:OLoc) (xs:List (List Da)):Prop:=l.has=false/\xs=[]/\∃a,l.sv = .slice a 0 0
def ObRep (w:World) (S:Nat->Prop) (β:Nat->OLoc) (l:OLoc):Ob->Prop
 | .var cs=>l.has=true/\∃c E,w.heap[l.blk]?=some (.cells c E (0,0))/\RepAs w S β cs c.toList
 | .lst E es xs=>(l.sv.ownBlock=(if l.has then some l.blk else none)/\xs.length<=281474976710656/\(∀x∈xs,x.length=es) /\
   ∃vs,w.ownsRow 0 E es l.sv xs.length vs/\RepDs w S xs.flatten vs)\/ZC l xs
 | .tr E es xs=>(l.sv.ownBlock=(if l.has then some l.blk else none)/\xs.length<=281474976710656/\(∀x∈xs,x.length=es) /\
   ∃vs fp,w.ownsRow 0 E es l.sv xs.length vs/\RepT w xs.flatten vs fp/\(∀b∈fp,S b/\b∈l.clm)/\fp.Nodup)\/ZC l xs
 | .tk xs=>l.has=false/\xs.length<=281474976710656/\∃fp,RepT w [.sl xs] [l.sv] fp/\(∀b∈fp,S b/\b∈l.clm)/\fp.Nodup
 | .mt E es xs=>l.has=false/\xs.length<=281474976710656/\(∀x∈xs,x.length=es)/\(∀a n c,l.sv = .slice (some a) n c->0<n->a=⟨l.blk,0,none⟩)/\∃fp,RepT w [.sl xs] [l.sv] fp/\(∀b∈fp,b∈l.sub)/\fp.Nodup
 | .mu E es xs m q a n c=>(l.has=false/\xs.length<=281474976710656/\(∀x∈xs,x.length=es)/\(∀a n c,l.sv = .slice (some a) n c->0<n->a=⟨l.blk,0,none⟩)/\∃fp,RepT w [.sl xs] [l.sv] fp/\(∀b∈fp,b∈l.sub)/\fp.Nodup) /\
   l.blk∈l.sub/\(∃row ys,xs[m]?=some row/\row[q]?=some (.sl ys))/\w.cell? ⟨l.blk,m*es+q,none⟩=some (.slice a n c)
 | .fu E es xs c=>l.sc=c/\xs.length<=c/\(xs.length<=281474976710656/\c<=maxLen)/\(∀x∈xs,x.length=es) /\
   ((l.has=true/\∃cur,w.heap[l.blk]?=some (.cells cur E (0,0))/\cur.size=c*es/\RepDs w S xs.flatten (cur.toList.take (xs.length*es)))\/(l.has=false/\c=0))
theorem ObRep.lst_of_tr {w:World} {S:Nat->Prop} {β:Nat->OLoc} {l:OLoc} {E es:Nat} {xs:List (List Da)} (h:ObRep w S β l (.tr E es xs)):ObRep w S β l (.lst E es xs):=by
 rcases h with ⟨h1,h2,h3,vs,fp,h4,h5,h6,_⟩ | h
 ·exact .inl ⟨h1,h2,h3,vs,h4,fp,h5.repF,fun b hb=>(h6 b hb).1⟩
 ·exact .inr h
theorem ZC.pos {l:OLoc} {xs:List (List Da)} {p:Prop} (h:ZC l xs) (hp:0<xs.length):p:=by
 rw [h.2.1] at hp; simp at hp
theorem ObRep.pos {w : World} {S : Nat → Prop} {β : Nat → OLoc} {l : OLoc} {E es : Nat} {xs : List (List Da)} (h : ObRep w S β l (.lst E es xs)) (hp : 0 < xs.length) : l.sv.ownBlock = (if l.has then some l.blk else none) ∧ xs.length ≤ 281474976710656 ∧ (∀ x ∈ xs, x.length = es) ∧
      ∃ vs, w.ownsRow 0 E es l.sv xs.length vs ∧ RepDs w S xs.flatten vs := by
  rcases h with h | h
  · exact h
  · exact h.pos hp
theorem ObRep.posT {w : World} {S : Nat → Prop} {β : Nat → OLoc} {l : OLoc} {E es : Nat} {xs : List (List Da)} (h : ObRep w S β l (.tr E es xs)) (hp : 0 < xs.length) : l.sv.ownBlock = (if l.has then some l.blk else none) ∧ xs.length ≤ 281474976710656 ∧ (∀ x ∈ xs, x.length = es) ∧
      ∃ vs fp, w.ownsRow 0 E es l.sv xs.length vs ∧ RepT w xs.flatten vs fp ∧ (∀ b ∈ fp, S b ∧ b ∈ l.clm) ∧ fp.Nodup := by
  rcases h with h | h
  · exact h
  · exact h.pos hp
theorem a2Kq {w w':World} {l:OLoc} {E es n:Nat} {vs:List Value} (h1:l.sv.ownBlock=(if l.has then some l.blk else none)) (h4:w.ownsRow 0 E es l.sv n vs) (hb:l.has=true->w'.heap[l.blk]?=w.heap[l.blk]?):w'.ownsRow 0 E es l.sv n vs:=by
 refine ⟨h4.1,?_⟩
 rcases h4.2 with hn | ⟨g,cap,cur,hv,hb0,hg,rest⟩
 ·exact .inl hn
 ·refine .inr ⟨g,cap,cur,hv,hb0,?_,rest⟩
  rw [hv] at h1
  simp only [Value.ownBlock] at h1
  split at h1
  ·rename_i hh
   simp at h1
   rw [h1,hb hh,<-h1]; exact hg
  ·simp at h1
theorem ObRep.mono {w w':World} {S S':Nat->Prop} {β β':Nat->OLoc} {l:OLoc} {X:Ob} (h:ObRep w S β l X) (hb':∀b,l.Own b->w'.heap[b]?=w.heap[b]?)
  (hk:∀b,S b->w'.heap[b]?=w.heap[b]?) (hs:∀b,S b->S' b) (hβ:∀o∈X.ids,β' o=β o):ObRep w' S' β' l X:=by
 have hb:l.has=true->w'.heap[l.blk]?=w.heap[l.blk]?:=fun h=>hb' _ (.inl ⟨h,rfl⟩)
 cases X with
 | var cs =>
  obtain ⟨h1,c,E,h2,h3⟩:=h
  exact ⟨h1,c,E,(hb h1).trans h2,h3.mono hk hs hβ⟩
 | lst E es xs =>
  rcases h with ⟨h1,h2,h3,vs,h4,h5⟩ | h
  ·exact .inl ⟨h1,h2,h3,vs,a2Kq h1 h4 hb,h5.mono hk hs⟩
  ·exact .inr h
 | tr E es xs =>
  rcases h with ⟨h1,h2,h3,vs,fp,h4,h5,h6,h7⟩ | h
  ·exact .inl ⟨h1,h2,h3,vs,fp,a2Kq h1 h4 hb,h5.keep fun b hb=>hk b (h6 b hb).1,fun b hb=>⟨hs b (h6 b hb).1,(h6 b hb).2⟩,h7⟩
  ·exact .inr h
 | tk xs =>
  obtain ⟨h1,h2,fp,h3,h4,h5⟩:=h
  exact ⟨h1,h2,fp,h3.keep fun b hm=>hk b (h4 b hm).1,fun b hb=>⟨hs b (h4 b hb).1,(h4 b hb).2⟩,h5⟩
 | mt E es xs =>
  obtain ⟨h1,h2,h6,h7,fp,h3,h4,h5⟩:=h
  exact ⟨h1,h2,h6,h7,fp,h3.keep fun b hm=>hb' b (.inr (h4 b hm)),h4,h5⟩
 | mu E es xs m q a n c =>
  obtain ⟨⟨h1,h2,h6,h7,fp,h3,h4,h5⟩,h8,h9,h10⟩:=h
  exact ⟨⟨h1,h2,h6,h7,fp,h3.keep fun b hm=>hb' b (.inr (h4 b hm)),h4,h5⟩,h8,h9,by rw [Z0q (hb' _ (.inr h8))]; exact h10⟩
 | fu E es xs c =>
  obtain ⟨h0,h1,h2,h3,h⟩:=h
  refine ⟨h0,h1,h2,h3,?_⟩
  rcases h with ⟨h4,cur,h5,h6,h7⟩ | h
  ·exact .inl ⟨h4,cur,(hb h4).trans h5,h6,h7.mono hk hs⟩
  ·exact .inr h
structure St where
 tm:List (Nat×AV)
 ob:List (Nat×Ob)
def a1q {α:Type} (l:List (Nat×α)) (i:Nat):Option α :=
 match l with
 | []=>none
 | (k,x)::r=>if k==i then some x else a1q r i
def St.get (s:St) (i:Nat):Option AV:=a1q s.tm i
def St.gob (s:St) (o:Nat):Option Ob:=a1q s.ob o
def J7q {α:Type} (l:List (Nat×α)) (i:Nat):List (Nat×α) :=
 match l with
 | []=>[]
 | (k,x)::r=>if k==i then J7q r i else (k,x)::J7q r i
def only {α:Type} (l:List (Nat×α)) (ks:List Nat):List (Nat×α) :=
 match l with
 | []=>[]
 | (k,x)::r=>if ks.contains k then (k,x)::only r ks else only r ks
def St.drop (s:St):Option Nat->St
 | some d=>{ s with tm:=J7q s.tm d }
 | none=>s
def St.upd (s:St) (dst:Option Nat) (y:AV) (nob:List (Nat×Ob)):St :=
 { tm:=match dst with | some d=>(d,y)::s.tm | none=>s.tm,ob:=nob++s.ob }
def a1xq:List (Nat×AV)->List Nat
 | []=>[]
 | (_,x)::r=>x.ids++a1xq r
def a0jq:List (Nat×Ob)->List Nat
 | []=>[]
 | (k,x)::r=>k::(x.ids++a0jq r)
def St.fresh (s:St) (nob:List (Nat×Ob)):Bool:=nob.all fun p => !(a1xq s.tm).contains p.1 && !(a0jq s.ob).contains p.1&&decide (p.1<2000)
theorem a0yq {α:Type} (l r:List (Nat×α)) (i:Nat):a1q (l++r) i=(a1q l i).or (a1q r i):=by
 induction l with
 | nil=>simp [a1q]
 | cons p l ih =>
  simp only [List.cons_append,a1q]
  split
  ·simp
  ·exact ih
theorem g2q {α:Type} {l:List (Nat×α)} {i:Nat} {x:α} (h:a1q l i=some x):(i,x)∈l:=by
 induction l with
 | nil=>simp [a1q] at h
 | cons p l ih =>
  obtain ⟨k,y⟩:=p
  simp only [a1q] at h
  split at h
  ·rename_i hk; simp at hk h; subst hk; subst h; exact aPz ..
  ·exact boz _ (ih h)
theorem Z1q {α:Type} {l:List (Nat×α)} {i:Nat} (h:∀p∈l,p.1≠i):a1q l i=none:=by
 induction l with
 | nil=>rfl
 | cons p l ih =>
  obtain ⟨k,y⟩:=p
  simp only [a1q]
  rw [if_neg (by have:=h (k,y) (aPz ..); simpa using this)]
  exact ih fun q hq=>h q (boz _ hq)
theorem E2q {α:Type} (l:List (Nat×α)) (i j:Nat):a1q (J7q l i) j=if i=j then none else a1q l j:=by
 induction l with
 | nil=>simp [J7q,a1q]
 | cons p l ih =>
  obtain ⟨k,y⟩:=p
  simp only [J7q]
  by_cases hk:k=i
  ·subst hk
   simp only [beq_self_eq_true,if_true,ih]
   by_cases hj:k=j <;> simp [a1q,hj]
  ·rw [if_neg (by simpa using hk)]
   simp only [a1q,ih]
   by_cases hj:k=j
   ·subst hj; simp [Ne.symm hk]
   ·simp [hj]
theorem a6Fq {α:Type} (l:List (Nat×α)) (ks:List Nat) (j:Nat) {x:α} (h:a1q (only l ks) j=some x):a1q l j=some x:=by
 induction l with
 | nil=>simp [only,a1q] at h
 | cons p l ih =>
  obtain ⟨k,y⟩:=p
  simp only [only] at h
  by_cases hk:ks.contains k=true
  ·rw [if_pos hk] at h
   simp only [a1q] at h ⊢
   split at h
   ·rename_i e; rw [if_pos e]; exact h
   ·rename_i e; rw [if_neg e]; exact ih h
  ·rw [if_neg hk] at h
   simp only [a1q]
   by_cases e:(k==j)=true
   ·exfalso
    have hx:=g2q h
    have:∀q∈only l ks,ks.contains q.1=true:=by
     intro q hq
     clear h ih hx
     induction l with
     | nil=>simp [only] at hq
     | cons p l ih =>
      simp only [only] at hq
      split at hq
      ·rename_i hc
       rcases abz.1 hq with rfl | hq
       ·exact hc
       ·exact ih hq
      ·exact ih hq
    have:=this _ hx
    simp at e
    subst e
    exact hk this
   ·rw [if_neg e]; exact ih h
theorem a5lq {s:St} {i:Nat} {x:AV} (h:s.get i=some x):∀o∈x.ids,o∈a1xq s.tm:=by
 intro o ho
 have hm:=g2q h
 generalize s.tm=l at hm
 induction l with
 | nil=>simp at hm
 | cons p l ih =>
  simp only [a1xq,aiz]
  rcases abz.1 hm with rfl | hm
  ·exact .inl ho
  ·exact .inr (ih hm)
theorem a4Pq {s:St} {i:Nat} {x:Ob} (h:s.gob i=some x):i∈a0jq s.ob/\∀o∈x.ids,o∈a0jq s.ob:=by
 have hm:=g2q h
 generalize s.ob=l at hm
 induction l with
 | nil=>simp at hm
 | cons p l ih =>
  simp only [a0jq,aiz,abz]
  rcases abz.1 hm with rfl | hm
  ·exact ⟨.inl rfl,fun o ho=>.inr (.inl ho)⟩
  ·obtain ⟨h1,h2⟩:=ih hm
   exact ⟨.inr (.inr h1),fun o ho=>.inr (.inr (h2 o ho))⟩
structure Cx where
 n:Nat
 w0:World
 S0:Nat->Prop
 pass:Nat->Prop
 fix:Nat->OLoc->Prop
 pc:Nat->Prop
structure Mem (Γ:Cx) (T:Nat->Option Ob) (w:World) (S:Nat->Prop) (β:Nat->OLoc):Prop where
 lt:∀b,S b->b<w.heap.size
 ob:∀o X,T o=some X->ObRep w S β (β o) X
 own:∀o X,T o=some X->∀b,(β o).Own b->b<w.heap.size/\¬S b/\(Γ.w0.heap.size<=b\/Γ.pass b)
 sep:∀o o' X X',T o=some X->T o'=some X'->∀b,(β o).Own b->(β o').Own b->o=o'
 os:w.os=Γ.w0.os
 tape:w.tape=Γ.w0.tape
 output:w.output=Γ.w0.output
 size:Γ.w0.heap.size<=w.heap.size
 block:∀b,b<Γ.w0.heap.size->¬Γ.pass b->w.heap[b]?=Γ.w0.heap[b]?
 sub:∀b,Γ.S0 b->S b
 sup:∀b,S b->Γ.S0 b\/Γ.w0.heap.size<=b\/Γ.pass b
 fix:∀o l,Γ.fix o l->2000<=o/\β o=l
 clm:∀o X,T o=some X->∀b∈(β o).clm,S b/\(Γ.w0.heap.size<=b\/Γ.pass b\/Γ.pc b)
 sepc:∀o o' X X',T o=some X->T o'=some X'->∀b∈(β o).clm,b∈(β o').clm->o=o'
structure SimF (Γ:Cx) (g:Nat->Option AV) (T:Nat->Option Ob) (a:Act) (w:World) (S:Nat->Prop) (β:Nat->OLoc):Prop where
 defers:a.defers=[]
 sz:a.tmps.size=Γ.n
 tm:∀i x,g i=some x->∃v,a.tmps[i]?=some v/\RepV w S β x v
 mem:Mem Γ T w S β
abbrev Sim (Γ:Cx) (s:St):=SimF Γ s.get s.gob
theorem SimF.weaken {Γ:Cx} {g g':Nat->Option AV} {T T':Nat->Option Ob} {a:Act} {w:World} {S:Nat->Prop} {β:Nat->OLoc} (h:SimF Γ g T a w S β)
  (hg:∀i x,g' i=some x->g i=some x) (hT:∀o X,T' o=some X->T o=some X):SimF Γ g' T' a w S β :=
 ⟨h.defers,h.sz,fun i x hi=>h.tm i x (hg i x hi),⟨h.mem.lt,fun o X ho=>h.mem.ob o X (hT o X ho),fun o X ho=>h.mem.own o X (hT o X ho),
  fun o o' X X' ho ho'=>h.mem.sep o o' X X' (hT o X ho) (hT o' X' ho'),h.mem.os,h.mem.tape,h.mem.output,h.mem.size,h.mem.block,h.mem.sub,h.mem.sup,h.mem.fix,
  fun o X ho=>h.mem.clm o X (hT o X ho),fun o o' X X' ho ho'=>h.mem.sepc o o' X X' (hT o X ho) (hT o' X' ho')⟩⟩
structure Grow (w:World) (S:Nat->Prop) (β:Nat->OLoc) (nob:List (Nat×Ob)) (w':World) (S':Nat->Prop) (β':Nat->OLoc):Prop where
 os:w'.os=w.os
 tape:w'.tape=w.tape
 output:w'.output=w.output
 size:w.heap.size<=w'.heap.size
 block:∀b,b<w.heap.size->w'.heap[b]?=w.heap[b]?
 sub:∀b,S b->S' b
 sup:∀b,S' b->b<w'.heap.size/\(S b\/w.heap.size<=b)
 loc:∀o,(∀p∈nob,p.1≠o)->β' o=β o
 ob:∀p∈nob,ObRep w' S' β' (β' p.1) p.2
 own:∀p∈nob,∀b,(β' p.1).Own b->w.heap.size<=b/\b<w'.heap.size/\¬S' b
 sep:∀p∈nob,∀q∈nob,∀b,(β' p.1).Own b->(β' q.1).Own b->p.1=q.1
 clm:∀p∈nob,∀b∈(β' p.1).clm,S' b/\w.heap.size<=b
 sepc:∀p∈nob,∀q∈nob,∀b∈(β' p.1).clm,b∈(β' q.1).clm->p.1=q.1
theorem Grow.refl {w:World} {S:Nat->Prop} {β:Nat->OLoc} (h:∀b,S b->b<w.heap.size):Grow w S β [] w S β :=
 ⟨rfl,rfl,rfl,apz _,fun _ _=>rfl,fun _ h=>h,fun b hb=>⟨h b hb,.inl hb⟩,fun _ _=>rfl,by simp,by simp,by simp,by simp,by simp⟩
def a17q:Value->Option At
 | .int k n=>some (.d (.int k n))
 | .bool b=>some (.d (.bool b))
 | .string s=>if s.size<=281474976710656 then some (.d (.str s)) else none
 | .slice none 0 0=>some .e0
 | .pointer none=>some .junk
 | _=>none
def W0q (v:Value):Option AV:=(a17q v).map .one
def St.ev (s:St):Operand->Option AV
 | .tmp t=>s.get t
 | .const v=>W0q v
 | .func f=>some (.one (.d (.fn f)))
 | .global _=>none
theorem Q6q {w:World} {S:Nat->Prop} {β:Nat->OLoc} {v:Value} {x:AV} (h:W0q v=some x):RepV w S β x v:=by
 unfold W0q at h
 cases hc:a17q v with
 | none=>simp [hc] at h
 | some y =>
  simp only [hc,aLz,Option.some.injEq] at h
  subst h
  refine RepV.one ?_
  unfold a17q at hc
  split at hc <;> simp at hc
  ·subst hc; exact .d (.int_ _ _)
  ·subst hc; exact .d (.bool_ _)
  ·obtain ⟨h1,rfl⟩:=hc; exact .d (.str_ _ h1)
  ·subst hc; exact .e0
  ·subst hc; exact .junk
theorem SimF.eval {Γ:Cx} {s:St} {T:Nat->Option Ob} {a:Act} {w:World} {S:Nat->Prop} {β:Nat->OLoc} (h:SimF Γ s.get T a w S β) {x:Operand} {X:AV} (hx:s.ev x=some X):RepV w S β X (a.eval x):=by
 cases x with
 | tmp t =>
  obtain ⟨v,hv,hr⟩:=h.tm t X hx
  have:a.eval (.tmp t)=v:=by simp [Act.eval,a7z,hv]
  rw [this]; exact hr
 | const v=>exact Q6q hx
 | func f=>simp only [St.ev,Option.some.injEq] at hx; subst hx; exact RepV.one (.d (.fn_ f))
 | global g=>simp [St.ev] at hx
def OpP (P:Program) (o:Oper) (av:Operand->Option AV) (us:List (Nat×Ob)) (y:AV) (nob:List (Nat×Ob)):Prop :=
 ∀(a:Act) (w:World) (S:Nat->Prop) (β:Nat->OLoc),(∀b,S b->b<w.heap.size) ->
  (∀x X,av x=some X->x∈o.op.operands->RepV w S β X (a.eval x)) ->
  (∀p∈us,ObRep w S β (β p.1) p.2) ->
  ∀(K:Act->World->Prop) (Q:Exit->Act->World->Prop),
   (∀v w' S' β',Grow w S β nob w' S' β'->RepV w' S' β' y v->K (a.put o.dst v) w')->o.wp P a w K Q
def d8q (Γ:Cx) (P:Program) (ops:Array Oper) (l:List Oper) (K:St->Prop) (s:St):Prop :=
 ∀(a:Act) (w:World) (S:Nat->Prop) (β:Nat->OLoc) (R:Exit->Act->World->Prop),Sim Γ s a w S β ->
  (∀a' w' s' S' β',K s'->Sim Γ s' a' w' S' β'->R .normal a' w')->wpList P ops R l a w
def awp (Γ:Cx) (P:Program) (c:Code) (Q:Exit->St->Prop) (s:St):Prop :=
 ∀(a:Act) (w:World) (S:Nat->Prop) (β:Nat->OLoc),Sim Γ s a w S β ->
  c.wp P (fun e a' w'=>∃s' S' β',Q e s'/\Sim Γ s' a' w' S' β') a w
section
variable {Γ:Cx} {P:Program} {ops:Array Oper} {rest:List Oper} {o:Oper} {K:St->Prop} {s:St} {Q:Exit->St->Prop}
theorem Grow.sim {g:Nat->Option AV} {T:Nat->Option Ob} {a:Act} {w w':World} {S S':Nat->Prop} {β β':Nat->OLoc} {nob:List (Nat×Ob)} {y:AV} {v:Value} {dst:Option Nat}
  (hG:Grow w S β nob w' S' β') (hlo:∀p∈nob,p.1<2000) (hy:RepV w' S' β' y v) (h:SimF Γ g T a w S β)
  (hd:dst.all (· < Γ.n)=true) (hfg:∀i x,g i=some x->∀o∈x.ids,∀p∈nob,p.1≠o) (hfT:∀o X,T o=some X->(∀p∈nob,p.1≠o)/\∀o'∈X.ids,∀p∈nob,p.1≠o') :
  SimF Γ (fun i=>if dst=some i then some y else g i) (fun o=>(a1q nob o).or (T o)) (a.put dst v) w' S' β':=by
 have hS:∀b,S b->w'.heap[b]?=w.heap[b]?:=fun b hb=>hG.block b (h.mem.lt b hb)
 have hT:∀o X,(a1q nob o).or (T o)=some X->(o,X)∈nob\/((∀p∈nob,p.1≠o)/\T o=some X):=by
  intro o X ho
  cases hl:a1q nob o with
  | some Y=>rw [hl] at ho; simp at ho; subst ho; exact .inl (g2q hl)
  | none=>rw [hl] at ho; simp at ho; exact .inr ⟨(hfT o X ho).1,ho⟩
 refine ⟨?_,?_,?_,?_⟩
 ·cases dst <;> simp [Act.put,h.defers]
 ·cases dst <;> simp [Act.put,h.sz]
 ·intro i x hi
  by_cases hdi:dst=some i
  ·rw [if_pos hdi] at hi
   simp at hi
   subst hi
   subst hdi
   simp at hd
   refine ⟨v,?_,hy⟩
   simp [Act.put,h.sz,hd]
  ·rw [if_neg hdi] at hi
   obtain ⟨u,hu,hr⟩:=h.tm i x hi
   refine ⟨u,?_,hr.mono hS hG.sub fun o ho=>hG.loc o (hfg i x hi o ho)⟩
   cases dst with
   | none=>exact hu
   | some d =>
    simp only [Act.put]
    rw [aez (fun e=>hdi (by rw [e]))]
    exact hu
 ·refine ⟨fun b hb=>(hG.sup b hb).1,?_,?_,?_,hG.os.trans h.mem.os,hG.tape.trans h.mem.tape,hG.output.trans h.mem.output,aqz h.mem.size hG.size,?_,fun b hb=>hG.sub b (h.mem.sub b hb),?_,fun o l hl => ?_,fun o X ho b hh => ?_,fun o o' X X' ho ho' b hh hh' => ?_⟩
  ·intro o X ho
   rcases hT o X ho with hm | ⟨hne,ho⟩
   ·exact hG.ob _ hm
   ·rw [hG.loc o hne]
    exact (h.mem.ob o X ho).mono (fun b hh=>hG.block _ (h.mem.own o X ho b hh).1) hS hG.sub fun o' ho'=>hG.loc o' ((hfT o X ho).2 o' ho')
  ·intro o X ho b hh
   rcases hT o X ho with hm | ⟨hne,ho⟩
   ·obtain ⟨h1,h2,h3⟩:=hG.own _ hm b hh
    exact ⟨h2,h3,.inl (aqz h.mem.size h1)⟩
   ·rw [hG.loc o hne] at hh
    obtain ⟨h1,h2,h3⟩:=h.mem.own o X ho b hh
    refine ⟨adz h1 hG.size,fun hs => ?_,h3⟩
    rcases (hG.sup _ hs).2 with hs | hs
    ·exact h2 hs
    ·omega
  ·intro o o' X X' ho ho' b hh hh'
   rcases hT o X ho with hm | ⟨hne,ho⟩ <;> rcases hT o' X' ho' with hm' | ⟨hne',ho'⟩
   ·exact hG.sep _ hm _ hm' b hh hh'
   ·exfalso
    have h1:=(hG.own _ hm b hh).1
    rw [hG.loc o' hne'] at hh'
    have h2:=(h.mem.own o' X' ho' b hh').1
    omega
   ·exfalso
    have h1:=(hG.own _ hm' b hh').1
    rw [hG.loc o hne] at hh
    have h2:=(h.mem.own o X ho b hh).1
    omega
   ·rw [hG.loc o hne] at hh
    rw [hG.loc o' hne'] at hh'
    exact h.mem.sep o o' X X' ho ho' b hh hh'
  ·intro b hb hp
   exact (hG.block b (adz hb h.mem.size)).trans (h.mem.block b hb hp)
  ·intro b hb
   rcases (hG.sup b hb).2 with hb | hb
   ·exact h.mem.sup b hb
   ·exact .inr (.inl (aqz h.mem.size hb))
  ·obtain ⟨h1,h2⟩:=h.mem.fix o l hl
   exact ⟨h1,(hG.loc o fun p hp e=>by have:=hlo p hp; omega).trans h2⟩
  ·rcases hT o X ho with hm | ⟨hne,ho⟩
   ·obtain ⟨h1,h2⟩:=hG.clm _ hm b hh
    exact ⟨h1,.inl (aqz h.mem.size h2)⟩
   ·rw [hG.loc o hne] at hh
    obtain ⟨h1,h2⟩:=h.mem.clm o X ho b hh
    exact ⟨hG.sub b h1,h2⟩
  ·rcases hT o X ho with hm | ⟨hne,ho⟩ <;> rcases hT o' X' ho' with hm' | ⟨hne',ho'⟩
   ·exact hG.sepc _ hm _ hm' b hh hh'
   ·exfalso
    have h1:=(hG.clm _ hm b hh).2
    rw [hG.loc o' hne'] at hh'
    have h2:=h.mem.lt b (h.mem.clm o' X' ho' b hh').1
    omega
   ·exfalso
    have h1:=(hG.clm _ hm' b hh').2
    rw [hG.loc o hne] at hh
    have h2:=h.mem.lt b (h.mem.clm o X ho b hh).1
    omega
   ·rw [hG.loc o hne] at hh
    rw [hG.loc o' hne'] at hh'
    exact h.mem.sepc o o' X X' ho ho' b hh hh'
theorem z3q (dst:Option Nat) (y:AV) (nob:List (Nat×Ob)) (i:Nat):(s.upd dst y nob).get i=if dst=some i then some y else s.get i:=by
 cases dst with
 | none=>simp [St.upd,St.get]
 | some d =>
  simp only [St.upd,St.get,a1q,Option.some.injEq]
  by_cases h:d=i <;> simp [h]
theorem I9q (dst:Option Nat) (y:AV) (nob:List (Nat×Ob)) (o:Nat):(s.upd dst y nob).gob o=(a1q nob o).or (s.gob o):=by
 simp [St.upd,St.gob,a0yq]
theorem a8oq (dst:Option Nat) (i:Nat):(s.drop dst).get i=if dst=some i then none else s.get i:=by
 cases dst with
 | none=>simp [St.drop]
 | some d=>simp [St.drop,St.get,E2q]
theorem a9Bq (dst:Option Nat) (o:Nat):(s.drop dst).gob o=s.gob o:=by cases dst <;> rfl
theorem O2q {nob:List (Nat×Ob)} (h:s.fresh nob=true) {i:Nat} {x:AV} (hi:s.get i=some x):∀o∈x.ids,∀p∈nob,p.1≠o:=by
 intro o ho p hp he
 simp only [St.fresh,a4z,a8z,aCz,aHz,decide_eq_false_iff_not,decide_eq_true_eq] at h
 exact (h p hp).1.1 (he ▸ a5lq hi o ho)
theorem v7q {nob:List (Nat×Ob)} (h:s.fresh nob=true) {o:Nat} {X:Ob} (ho:s.gob o=some X):(∀p∈nob,p.1≠o)/\∀o'∈X.ids,∀p∈nob,p.1≠o':=by
 simp only [St.fresh,a4z,a8z,aCz,aHz,decide_eq_false_iff_not,decide_eq_true_eq] at h
 obtain ⟨h1,h2⟩:=a4Pq ho
 exact ⟨fun p hp he=>(h p hp).1.2 (he ▸ h1),fun o' ho' p hp he=>(h p hp).1.2 (he ▸ h2 o' ho')⟩
theorem I1q {nob:List (Nat×Ob)} (h:s.fresh nob=true):∀p∈nob,p.1<2000:=by
 simp only [St.fresh,a4z,a8z,decide_eq_true_eq] at h
 exact fun p hp=>(h p hp).2
theorem Sim.upd {a:Act} {w w':World} {S S':Nat->Prop} {β β':Nat->OLoc} {nob:List (Nat×Ob)} {y:AV} {v:Value} {dst:Option Nat}
  (h:Sim Γ s a w S β) (hG:Grow w S β nob w' S' β') (hy:RepV w' S' β' y v) (hd:dst.all (· < Γ.n)=true) (hf:s.fresh nob=true) :
  Sim Γ (s.upd dst y nob) (a.put dst v) w' S' β':=by
 have:=hG.sim (I1q hf) hy h hd (fun i x hi=>O2q hf hi) (fun o X ho=>v7q hf ho)
 have e1:(s.upd dst y nob).get=fun i=>if dst=some i then some y else s.get i:=funext fun i=>z3q ..
 have e2:(s.upd dst y nob).gob=fun o=>(a1q nob o).or (s.gob o):=funext fun o=>I9q ..
 rw [Sim,e1,e2]
 exact this
theorem Sim.drop {a:Act} {w:World} {S:Nat->Prop} {β:Nat->OLoc} {dst:Option Nat} (h:Sim Γ s a w S β):Sim Γ (s.drop dst) (a.put dst undef) w S β:=by
 refine ⟨?_,?_,?_,?_⟩
 ·cases dst <;> simp [Act.put,h.defers]
 ·cases dst <;> simp [Act.put,h.sz]
 ·intro i x hi
  rw [a8oq] at hi
  by_cases hdi:dst=some i
  ·rw [if_pos hdi] at hi; simp at hi
  ·rw [if_neg hdi] at hi
   obtain ⟨u,hu,hr⟩:=h.tm i x hi
   refine ⟨u,?_,hr⟩
   cases dst with
   | none=>exact hu
   | some d =>
    simp only [Act.put]
    rw [aez (fun e=>hdi (by rw [e]))]
    exact hu
 ·have:(s.drop dst).gob=s.gob:=funext fun o=>a9Bq ..
  rw [this]; exact h.mem
theorem a8wq (h:K s):d8q Γ P ops [] K s:=fun _ _ _ _ _ hs hR=>wpList_nil (hR _ _ _ _ _ h hs)
theorem afrq {us nob:List (Nat×Ob)} {y:AV} (hop:OpP P o s.ev us y nob) (hg:o.guard=none) (hd:o.dst.all (· < Γ.n)=true) (hus:∀p∈us,s.gob p.1=some p.2) (hf:s.fresh nob=true)
  (h:d8q Γ P ops rest K (s.upd o.dst y nob)):d8q Γ P ops (o::rest) K s:=by
 intro a w S β R hs hR
 refine wpList_plain hg fun K' hK=>hop a w S β hs.mem.lt (fun x X hx _=>hs.eval hx) (fun p hp=>hs.mem.ob _ _ (hus p hp)) K' R fun v w' S' β' hG hy=>hK _ _ ?_
 exact h _ _ _ _ R (hs.upd hG hy hd hf) hR
theorem a1vq {j d:Nat} {b:Bool} {a:Act} {w:World} {S:Nat->Prop} {β:Nat->OLoc} (hj:(ops[j]?).bind (·.dst)=some d) (hs:SimF Γ s.get (fun _=>none) a w S β\/Sim Γ s a w S β) (hb:s.get d=some (.one (.d (.bool b)))) :
  yielded ops a.tmps j=some b:=by
 have:∃v,a.tmps[d]?=some v/\RepV w S β (.one (.d (.bool b))) v:=by
  rcases hs with hs | hs
  ·exact hs.tm d _ hb
  ·exact hs.tm d _ hb
 obtain ⟨v,hv,hr⟩:=this
 rw [hr.bool_inv] at hv
 simp [yielded,hj,hv]
theorem aenq {us nob:List (Nat×Ob)} {y:AV} {j d:Nat} {want b:Bool} (hg:o.guard=some (j,want)) (hj:(ops[j]?).bind (·.dst)=some d) (hb:s.get d=some (.one (.d (.bool b)))) (hd:o.dst.all (· < Γ.n)=true)
  (hy:b=want->OpP P o s.ev us y nob/\(∀p∈us,s.gob p.1=some p.2)/\s.fresh nob=true/\d8q Γ P ops rest K (s.upd o.dst y nob))
  (hn:b = !want->d8q Γ P ops rest K (s.drop o.dst)):d8q Γ P ops (o::rest) K s:=by
 intro a w S β R hs hR
 have hyl:=a1vq (Γ:=Γ) hj (.inr hs) hb
 refine wpList_step fun K' hK => ?_
 have hw:Region.wanted o (yielded ops a.tmps)=(b==want):=by simp only [Region.wanted,hg,hyl]; cases b <;> cases want <;> rfl
 by_cases hbw:b=want
 ·obtain ⟨hop,hus,hf,h⟩:=hy hbw
  rw [hw,if_pos (by simpa using hbw)]
  refine hop a w S β hs.mem.lt (fun x X hx _=>hs.eval hx) (fun p hp=>hs.mem.ob _ _ (hus p hp)) K' R fun v w' S' β' hG hy=>hK _ _ ?_
  exact h _ _ _ _ R (hs.upd hG hy hd hf) hR
 ·rw [hw,if_neg (by simpa using hbw)]
  exact hK _ _ (hn (by cases b <;> cases want <;> simp_all) _ _ _ _ R hs.drop hR)
def Ent (s s':St):Prop:=(∀i x,s'.get i=some x->s.get i=some x)/\∀o X,s'.gob o=some X->s.gob o=some X
theorem Ent.sim {s':St} (h:Ent s s') {a:Act} {w:World} {S:Nat->Prop} {β:Nat->OLoc} (hs:Sim Γ s a w S β):Sim Γ s' a w S β:=hs.weaken h.1 h.2
def St.keep (s:St) (ts os:List Nat):St:=⟨only s.tm ts,only s.ob os⟩
theorem Ent.keep (ts os:List Nat):Ent s (s.keep ts os):=⟨fun _ _ h=>a6Fq _ _ _ h,fun _ _ h=>a6Fq _ _ _ h⟩
theorem abqq {id:Nat} {l:List Oper} (h:d8q Γ P l.toArray l (Q .normal) s):awp Γ P (.region id l.toArray false) Q s :=
 fun a w S β hs=>wp_region_lit (h a w S β _ hs fun _ _ _ _ _ hq hs'=>⟨_,_,_,hq,hs'⟩)
theorem adVq (h:Q .normal s):awp Γ P .skip Q s:=fun _ _ _ _ hs=>wp_skip ⟨_,_,_,h,hs⟩
theorem adDq {id:Nat} (h:Q (.exit id) s):awp Γ P (.exit id) Q s:=fun _ _ _ _ hs=>wp_exit ⟨_,_,_,h,hs⟩
theorem aeJq (h:Q .ret s):awp Γ P .ret Q s:=fun _ _ _ _ hs=>wp_ret ⟨_,_,_,h,hs⟩
def a7Yq (y:St->Prop) (Q:Exit->St->Prop):Exit->St->Prop
 | .normal,s=>y s
 | e,s=>Q e s
def a8Jq (id:Nat) (Q:Exit->St->Prop):Exit->St->Prop
 | .exit id',s=>if id'=id then Q .normal s else Q (.exit id') s
 | e,s=>Q e s
theorem a3Jq {c:Code} {Q':Exit->St->Prop} (h:awp Γ P c Q s) (hq:∀e s,Q e s->Q' e s):awp Γ P c Q' s :=
 fun a w S β hs=>Code.wp_mono (fun _ _ _ ⟨s',S',β',h1,h2⟩=>⟨s',S',β',hq _ _ h1,h2⟩) (h a w S β hs)
theorem aeVq {x y:Code} (h:awp Γ P x (a7Yq (awp Γ P y Q) Q) s):awp Γ P (.seq x y) Q s:=by
 intro a w S β hs
 refine wp_seq (Code.wp_mono ?_ (h a w S β hs))
 rintro e a' w' ⟨s',S',β',hq,hs'⟩
 cases e with
 | normal=>exact hq a' w' S' β' hs'
 | _=>exact ⟨s',S',β',hq,hs'⟩
theorem ac8q {id:Nat} {c:Code} (h:awp Γ P c (a8Jq id Q) s):awp Γ P (.block id c) Q s:=by
 intro a w S β hs
 refine wp_block (Code.wp_mono ?_ (h a w S β hs))
 rintro e a' w' ⟨s',S',β',hq,hs'⟩
 cases e with
 | exit id' =>
  simp only [a8Jq] at hq
  simp only [Exit.inBlock]
  split
  ·rename_i e; rw [if_pos e] at hq; exact ⟨s',S',β',hq,hs'⟩
  ·rename_i e; rw [if_neg e] at hq; exact ⟨s',S',β',hq,hs'⟩
 | _=>exact ⟨s',S',β',hq,hs'⟩
theorem adNq {c:Operand} {x y:Code} {b:Bool} (hc:s.ev c=some (.one (.d (.bool b)))) (ht:b=true->awp Γ P x Q s) (hf:b=false->awp Γ P y Q s):awp Γ P (.cond c x y) Q s :=
 fun a w S β hs=>wp_cond_split (hs.eval hc).bool_inv (fun h=>ht h a w S β hs) (fun h=>hf h a w S β hs)
theorem aexq (p:Nat->Prop) (h:∃m,p m):∃m,p m/\∀k,p k->m<=k:=by
 obtain ⟨m,hm⟩:=h
 induction m using Nat.strongRecOn with
 | _ m ih =>
  by_cases hk:∃k,k<m/\p k
  ·obtain ⟨k,hk,hp⟩:=hk; exact ih k hk hp
  ·exact ⟨m,hm,fun k hp=>Nat.le_of_not_lt fun hlt=>hk ⟨k,hlt,hp⟩⟩
end
abbrev I (k:IntKind) (n:Int):AV:=.one (.d (.int k n))
abbrev Z (n:Int):AV:=.one (.d (.int .i64 n))
abbrev B (b:Bool):AV:=.one (.d (.bool b))
abbrev T (s:ByteArray):AV:=.one (.d (.str s))
abbrev L (xs:List (List Da)):AV:=.one (.d (.sl xs))
section
variable {P:Program} {o:Oper} {av:Operand->Option AV} {us:List (Nat×Ob)} {y:AV}
theorem c0q (h:∀(a:Act) (w:World) (S:Nat->Prop) (β:Nat->OLoc),(∀b,S b->b<w.heap.size)->(∀x X,av x=some X->x∈o.op.operands->RepV w S β X (a.eval x)) ->
  (∀p∈us,ObRep w S β (β p.1) p.2)->∃v,(execOp a.eval o).run P w = .ok (.value v) w/\RepV w S β y v):OpP P o av us y []:=by
 intro a w S β hlt hr hu K Q hK
 obtain ⟨v,he,hy⟩:=h a w S β hlt hr hu
 unfold Oper.wp
 rw [he]
 exact hK v w S β (Grow.refl hlt) hy
theorem adHq {x:Operand} (ho:o.op = .move x) (hx:av x=some y):OpP P o av [] y [] :=
 c0q fun a w S β _ hr _=>⟨_,by simp [execOp,ho],hr x y hx (by simp [ho,a0z])⟩
theorem aaJq {x:Operand} (ho:o.op = .assign x) (hx:av x=some y):OpP P o av [] y [] :=
 c0q fun a w S β _ hr _=>⟨_,by simp [execOp,ho],hr x y hx (by simp [ho,a0z])⟩
section
variable {t t':TypeId} {x z:Operand} {k:IntKind} {m n:Int}
theorem aeOq (ho:o.op = .binOp .add t x z t') (hx:av x=some (I k m)) (hz:av z=some (I k n)):OpP P o av [] (I k (k.wrap (m+n))) [] :=
 c0q fun a w S β _ hr _=>⟨_,by simp [execOp,ho,(hr x _ hx (by simp [ho,a0z])).int_inv,(hr z _ hz (by simp [ho,a0z])).int_inv,binOp_add,biz,eqGuard],RepV.int _ _⟩
theorem aeTq (ho:o.op = .binOp .sub t x z t') (hx:av x=some (I k m)) (hz:av z=some (I k n)):OpP P o av [] (I k (k.wrap (m-n))) [] :=
 c0q fun a w S β _ hr _=>⟨_,by simp [execOp,ho,(hr x _ hx (by simp [ho,a0z])).int_inv,(hr z _ hz (by simp [ho,a0z])).int_inv,binOp_sub,biz,eqGuard],RepV.int _ _⟩
theorem afnq (ho:o.op = .binOp .mul t x z t') (hx:av x=some (I k m)) (hz:av z=some (I k n)):OpP P o av [] (I k (k.wrap (m*n))) [] :=
 c0q fun a w S β _ hr _=>⟨_,by simp [execOp,ho,(hr x _ hx (by simp [ho,a0z])).int_inv,(hr z _ hz (by simp [ho,a0z])).int_inv,binOp_mul,biz,eqGuard],RepV.int _ _⟩
theorem afsq (ho:o.op = .binOp .quo t x z t') (hx:av x=some (I k m)) (hz:av z=some (I k n)) (hn:n≠0):OpP P o av [] (I k (k.wrap (m.tdiv n))) [] :=
 c0q fun a w S β _ hr _=>⟨_,by simp [execOp,ho,(hr x _ hx (by simp [ho,a0z])).int_inv,(hr z _ hz (by simp [ho,a0z])).int_inv,binOp_quo,Op.intDiv,eqGuard,hn],RepV.int _ _⟩
theorem af2q (ho:o.op = .binOp .rem t x z t') (hx:av x=some (I k m)) (hz:av z=some (I k n)) (hn:n≠0):OpP P o av [] (I k (m.tmod n)) [] :=
 c0q fun a w S β _ hr _=>⟨_,by simp [execOp,ho,(hr x _ hx (by simp [ho,a0z])).int_inv,(hr z _ hz (by simp [ho,a0z])).int_inv,binOp_rem,Op.intDiv,eqGuard,hn],RepV.int _ _⟩
theorem afoq (ho:o.op = .binOp .lss t x z t') (hx:av x=some (I k m)) (hz:av z=some (I k n)):OpP P o av [] (B (decide (m<n))) [] :=
 c0q fun a w S β _ hr _=>⟨_,by simp [execOp,ho,(hr x _ hx (by simp [ho,a0z])).int_inv,(hr z _ hz (by simp [ho,a0z])).int_inv,binOp_lss,eqGuard],RepV.bool _⟩
theorem aeRq (ho:o.op = .binOp .leq t x z t') (hx:av x=some (I k m)) (hz:av z=some (I k n)):OpP P o av [] (B (decide (m<=n))) [] :=
 c0q fun a w S β _ hr _=>⟨_,by simp [execOp,ho,(hr x _ hx (by simp [ho,a0z])).int_inv,(hr z _ hz (by simp [ho,a0z])).int_inv,binOp_leq,eqGuard],RepV.bool _⟩
theorem afCq (ho:o.op = .binOp .gtr t x z t') (hx:av x=some (I k m)) (hz:av z=some (I k n)):OpP P o av [] (B (decide (n<m))) [] :=
 c0q fun a w S β _ hr _=>⟨_,by simp [execOp,ho,(hr x _ hx (by simp [ho,a0z])).int_inv,(hr z _ hz (by simp [ho,a0z])).int_inv,binOp_gtr,eqGuard],RepV.bool _⟩
theorem af8q (ho:o.op = .binOp .geq t x z t') (hx:av x=some (I k m)) (hz:av z=some (I k n)):OpP P o av [] (B (decide (n<=m))) [] :=
 c0q fun a w S β _ hr _=>⟨_,by simp [execOp,ho,(hr x _ hx (by simp [ho,a0z])).int_inv,(hr z _ hz (by simp [ho,a0z])).int_inv,binOp_geq,eqGuard],RepV.bool _⟩
theorem aflq (ho:o.op = .binOp .eql t x z t') (hx:av x=some (I k m)) (hz:av z=some (I k n)):OpP P o av [] (B (decide (m=n))) [] :=
 c0q fun a w S β _ hr _=>⟨.bool (m==n),by simp [execOp,ho,(hr x _ hx (by simp [ho,a0z])).int_inv,(hr z _ hz (by simp [ho,a0z])).int_inv,binOp_eql,eqGuard],RepV.bool _⟩
theorem afjq (ho:o.op = .binOp .neq t x z t') (hx:av x=some (I k m)) (hz:av z=some (I k n)):OpP P o av [] (B (decide (m≠n))) [] :=
 c0q fun a w S β _ hr _=>⟨.bool (m != n),by simp [execOp,ho,(hr x _ hx (by simp [ho,a0z])).int_inv,(hr z _ hz (by simp [ho,a0z])).int_inv,binOp_neq,eqGuard],by
  have:(m != n)=decide (m≠n):=by by_cases h:m=n <;> simp [h]
  rw [this]; exact RepV.bool _⟩
theorem af7q {yk:IntKind} (ho:o.op = .binOp .shr t x z t') (hx:av x=some (I k m)) (hz:av z=some (I yk n)) (h0:0<=n) (h1:n<=k.bits):OpP P o av [] (I k (m / 2 ^ n.toNat)) [] :=
 c0q fun a w S β _ hr _=>⟨_,by simp [execOp,ho,(hr x _ hx (by simp [ho,a0z])).int_inv,(hr z _ hz (by simp [ho,a0z])).int_inv,binOp_shr,shift_shr k yk m n h0 h1,eqGuard],RepV.int _ _⟩
theorem aeSq {yk:IntKind} (ho:o.op = .binOp .shl t x z t') (hx:av x=some (I k m)) (hz:av z=some (I yk n)) (h0:0<=n) (h1:n<=k.bits):OpP P o av [] (I k (k.wrap (m*2 ^ n.toNat))) [] :=
 c0q fun a w S β _ hr _=>⟨_,by simp [execOp,ho,(hr x _ hx (by simp [ho,a0z])).int_inv,(hr z _ hz (by simp [ho,a0z])).int_inv,binOp_shl,shift_shl k yk m n h0 h1,eqGuard],RepV.int _ _⟩
theorem affq (ho:o.op = .binOp .and t x z t') (hx:av x=some (I k m)) (hz:av z=some (I k n)):OpP P o av [] (I k (bits .and k m n)) [] :=
 c0q fun a w S β _ hr _=>⟨_,by simp [execOp,ho,(hr x _ hx (by simp [ho,a0z])).int_inv,(hr z _ hz (by simp [ho,a0z])).int_inv,binOp_and,intBits_and,eqGuard],RepV.int _ _⟩
theorem ag6q (ho:o.op = .binOp .or t x z t') (hx:av x=some (I k m)) (hz:av z=some (I k n)):OpP P o av [] (I k (bits .or k m n)) [] :=
 c0q fun a w S β _ hr _=>⟨_,by simp [execOp,ho,(hr x _ hx (by simp [ho,a0z])).int_inv,(hr z _ hz (by simp [ho,a0z])).int_inv,binOp_or,intBits_or,eqGuard],RepV.int _ _⟩
theorem aeMq (ho:o.op = .binOp .xor t x z t') (hx:av x=some (I k m)) (hz:av z=some (I k n)):OpP P o av [] (I k (bits .xor k m n)) [] :=
 c0q fun a w S β _ hr _=>⟨_,by simp [execOp,ho,(hr x _ hx (by simp [ho,a0z])).int_inv,(hr z _ hz (by simp [ho,a0z])).int_inv,binOp_xor,intBits_xor,eqGuard],RepV.int _ _⟩
end
section
variable {t t':TypeId} {x z:Operand} {p q:ByteArray} {b c:Bool}
theorem achq (ho:o.op = .binOp .eql t x z t') (hx:av x=some (T p)) (hz:av z=some (T q)):OpP P o av [] (B (decide (p=q))) []:=by
 refine c0q fun a w S β _ hr _=>⟨.bool (p.toList==q.toList),?_,?_⟩
 ·simp [execOp,ho,(hr x _ hx (by simp [ho,a0z])).str_inv.1,(hr z _ hz (by simp [ho,a0z])).str_inv.1,binOp,bxz,eqGuard]
 ·have:(p.toList==q.toList)=decide (p=q):=by
   by_cases h:p=q
   ·simp [h]
   ·have:¬p.toList=q.toList:=fun e=>h (by
     have e1:=ByteArray.toList_eq p
     have e2:=ByteArray.toList_eq q
     rw [e1,e2] at e
     exact bFz (bDz e))
    simp [h,this]
  rw [this]; exact RepV.bool _
theorem acBq (ho:o.op = .binOp .neq t x z t') (hx:av x=some (T p)) (hz:av z=some (T q)):OpP P o av [] (B (decide (p≠q))) []:=by
 refine c0q fun a w S β _ hr _=>⟨.bool !(p.toList==q.toList),?_,?_⟩
 ·simp [execOp,ho,(hr x _ hx (by simp [ho,a0z])).str_inv.1,(hr z _ hz (by simp [ho,a0z])).str_inv.1,binOp,bxz,eqGuard]
 ·have:(!(p.toList==q.toList))=decide (p≠q):=by
   by_cases h:p=q
   ·simp [h]
   ·have:¬p.toList=q.toList:=fun e=>h (by
     have e1:=ByteArray.toList_eq p
     have e2:=ByteArray.toList_eq q
     rw [e1,e2] at e
     exact bFz (bDz e))
    simp [h,this]
  rw [this]; exact RepV.bool _
theorem aaYq (ho:o.op = .binOp .add t x z t') (hx:av x=some (T p)) (hz:av z=some (T q)) (hs:(p++q).size<=281474976710656):OpP P o av [] (T (p++q)) []:=by
 refine c0q fun a w S β _ hr _=>⟨.string (p++q),?_,RepV.str _ hs⟩
 have hh:¬((9223372036854775807:Int)<(p.size:Int)+(q.size:Int)):=by
  have:=hs; rw [ByteArray.size_append] at this; omega
 simp [execOp,ho,(hr x _ hx (by simp [ho,a0z])).str_inv.1,(hr z _ hz (by simp [ho,a0z])).str_inv.1,binOp,bxz,eqGuard,IntKind.max,IntKind.signed,IntKind.bits,hh]
theorem a0Fq (ht:P.underlying t=some .bool) (w:World) (b c:Bool):(Op.equal t (.bool b) (.bool c)).run P w = .ok (b==c) w:=by
 have h:∀d:Nat,(Op.equalIn (d+1) t (.bool b) (.bool c)).run P w = .ok (b==c) w:=fun d=>by simp [Op.equalIn,run_underlying ht]
 exact h 9999
theorem aaVq (ho:o.op = .binOp .eql t x z t') (ht:P.underlying t=some .bool) (hx:av x=some (B b)) (hz:av z=some (B c)):OpP P o av [] (B (decide (b=c))) []:=by
 refine c0q fun a w S β _ hr _=>⟨.bool (b==c),?_,?_⟩
 ·have hb:binOp .eql t (.bool b) (.bool c)=(do pure (.bool (<-Op.equal t (.bool b) (.bool c)))):=rfl
  simp only [execOp,ho,(hr x _ hx (by simp [ho,a0z])).bool_inv,(hr z _ hz (by simp [ho,a0z])).bool_inv,hb]
  simp [eqGuard,a0Fq ht]
 ·have:(b==c)=decide (b=c):=by cases b <;> cases c <;> rfl
  rw [this]; exact RepV.bool _
theorem abFq (ho:o.op = .binOp .neq t x z t') (ht:P.underlying t=some .bool) (hx:av x=some (B b)) (hz:av z=some (B c)):OpP P o av [] (B (decide (b≠c))) []:=by
 refine c0q fun a w S β _ hr _=>⟨.bool (!(b==c)),?_,?_⟩
 ·have hb:binOp .neq t (.bool b) (.bool c)=(do pure (.bool (!(<-Op.equal t (.bool b) (.bool c))))):=rfl
  simp only [execOp,ho,(hr x _ hx (by simp [ho,a0z])).bool_inv,(hr z _ hz (by simp [ho,a0z])).bool_inv,hb]
  simp [eqGuard,a0Fq ht]
 ·have:(!(b==c))=decide (b≠c):=by cases b <;> cases c <;> rfl
  rw [this]; exact RepV.bool _
theorem af9q (ho:o.op = .unOp .not t x) (hx:av x=some (B b)):OpP P o av [] (B (!b)) [] :=
 c0q fun a w S β _ hr _=>⟨_,by simp [execOp,ho,(hr x _ hx (by simp [ho,a0z])).bool_inv,Op.unary],RepV.bool _⟩
theorem aeLq {k:IntKind} {n:Int} (ho:o.op = .unOp .neg t x) (hx:av x=some (I k n)):OpP P o av [] (I k (k.wrap (0-n))) [] :=
 c0q fun a w S β _ hr _=>⟨.int k (k.wrap (0-n)),by simp [execOp,ho,(hr x _ hx (by simp [ho,a0z])).int_inv,Op.unary,biz],RepV.int k _⟩
theorem a9Kq {src dst:TypeId} {k k':IntKind} {n:Int} {d:TypeDesc} (ho:o.op = .convert src dst x) (hs:P.underlying src=some d) (hd:P.underlying dst=some (.int k')) (hx:av x=some (I k n)):OpP P o av [] (I k' (k'.wrap n)) [] :=
 c0q fun a w S β _ hr _=>⟨_,by simp [execOp,ho,(hr x _ hx (by simp [ho,a0z])).int_inv,convert,run_underlying hs,run_underlying hd,Conv.intToInt],RepV.int _ _⟩
theorem a9Wq {src dst:TypeId} {k:IntKind} {n:Int} {d:TypeDesc} (ho:o.op = .convert src dst x) (hs:P.underlying src=some d) (hd:P.underlying dst=some .string) (hx:av x=some (I k n)) (hz:(bjz n).size<=281474976710656):OpP P o av [] (T (bjz n)) [] :=
 c0q fun a w S β _ hr _=>⟨_,by simp [execOp,ho,(hr x _ hx (by simp [ho,a0z])).int_inv,convert,run_underlying hs,run_underlying hd,Conv.intToString],RepV.str _ hz⟩
end
def AV.cells:AV->Option (List At)
 | .one .junk=>none
 | .one x=>some [x]
 | .dat xs=>some (xs.map .d)
 | .agg xs=>some xs
 | .tup _=>none
def At.toD:At->Option Da
 | .d x=>some x
 | .e0=>some (.sl [])
 | _=>none
def toDs:List At->Option (List Da)
 | []=>some []
 | x::r=>match x.toD,toDs r with
  | some y,some ys=>some (y::ys)
  | _,_=>none
def noE0:List At->Bool
 | []=>true
 | .e0::_=>false
 | _::r=>noE0 r
def a2Bq (cs:List At):AV:=match toDs cs with
 | some ds=>.dat ds
 | none=>.agg cs
def w2q (cs:List At):AV:=match noE0 cs with
 | true=>a2Bq cs
 | false=>.agg cs
section
variable {w:World} {S:Nat->Prop} {β:Nat->OLoc}
theorem RepAs.len {xs vs} (h:RepAs w S β xs vs):vs.length=xs.length:=by induction h <;> simp_all
theorem RepAs.app {xs ys vs us} (h:RepAs w S β xs vs) (k:RepAs w S β ys us):RepAs w S β (xs++ys) (vs++us):=by
 induction h with
 | nil=>exact k
 | cons h _ ih=>exact .cons h ih
theorem RepAs.of_ds {xs vs} (h:RepDs w S xs vs):RepAs w S β (xs.map .d) vs:=by
 induction xs generalizing vs with
 | nil=>rw [h.nil_inv]; exact .nil
 | cons x xs ih=>obtain ⟨v,vs',rfl,h1,h2⟩:=h.cons_inv; exact .cons (.d h1) (ih h2)
theorem RepA.toD {x v y} (h:RepA w S β x v) (hx:x.toD=some y):RepDs w S [y] [v]:=by
 cases h <;> simp [At.toD] at hx
 ·subst hx; assumption
 ·subst hx; exact RepDs.sl_nil _ _
theorem RepAs.toDs {xs vs ys} (h:RepAs w S β xs vs) (hx:toDs xs=some ys):RepDs w S ys vs:=by
 induction h generalizing ys with
 | nil=>simp [AM.toDs] at hx; subst hx; exact RepDs.nil
 | cons h _ ih =>
  simp only [AM.toDs] at hx
  split at hx
  ·rename_i h1 h2; simp at hx; subst hx; exact RepDs.cons (h.toD h1) (ih h2)
  ·simp at hx
theorem RepAs.mkN {xs vs} (h:RepAs w S β xs vs):RepV w S β (a2Bq xs) (.agg vs.toArray):=by
 unfold a2Bq
 split
 ·rename_i h1; exact RepVs.dat (h.toDs h1) .nil
 ·exact RepVs.agg h .nil
theorem RepAs.mk {xs vs} (h:RepAs w S β xs vs):RepV w S β (w2q xs) (.agg vs.toArray):=by
 unfold w2q
 split
 ·exact h.mkN
 ·exact RepVs.agg h .nil
theorem RepA.notAgg {x v} (h:RepA w S β x v) (hj:x ≠ .junk):v.cells = #[v]:=by
 cases h with
 | d h =>
  obtain ⟨_,h,_⟩:=h
  cases h with
  | tg h=>obtain ⟨_,_,_,rfl⟩:=h.sl_val; rfl
  | _=>rfl
 | ol=>rfl
 | junk=>exact absurd rfl hj
 | _=>rfl
theorem RepV.cells {X v cs} (h:RepV w S β X v) (hc:X.cells=some cs):RepAs w S β cs v.cells.toList:=by
 cases X with
 | one x =>
  have hj:x ≠ .junk:=by rintro rfl; simp [AV.cells] at hc
  have:cs=[x]:=by cases x <;> simp_all [AV.cells]
  subst this
  rw [h.one_inv.notAgg hj]
  exact .cons h.one_inv .nil
 | dat xs=>simp [AV.cells] at hc; subst hc; obtain ⟨vs,rfl,h2⟩:=h.dat_inv; exact RepAs.of_ds h2
 | agg xs=>simp [AV.cells] at hc; subst hc; obtain ⟨vs,rfl,h2⟩:=h.agg_inv; exact h2
 | tup _=>simp [AV.cells] at hc
theorem RepAs.take_drop {xs vs} (h:RepAs w S β xs vs) (i n:Nat):RepAs w S β ((xs.drop i).take n) ((vs.drop i).take n):=by
 induction h generalizing i n with
 | nil=>simp; exact .nil
 | cons h h2 ih =>
  cases i with
  | zero =>
   cases n with
   | zero=>simp; exact .nil
   | succ n=>simp only [bnz,List.take_succ_cons]; exact .cons h (by simpa using ih 0 n)
  | succ i=>simpa using ih i n
theorem RepAs.get {xs vs} (h:RepAs w S β xs vs) {i:Nat} {x:At} (hx:xs[i]?=some x):∃v,vs[i]?=some v/\RepA w S β x v:=by
 induction h generalizing i with
 | nil=>simp at hx
 | cons h _ ih =>
  cases i with
  | zero=>simp at hx; subst hx; exact ⟨_,rfl,h⟩
  | succ i=>simpa using ih (by simpa using hx)
end
def E9q:TypeDesc->Bool
 | .struct _=>true
 | .array _ _=>true
 | _=>false
theorem o6q {P:Program} {t:TypeId} {d:TypeDesc} (h:P.underlying t=some d) (w:World):(isAgg t).run P w = .ok (E9q d) w:=by
 simp only [isAgg,acz,run_underlying h,a5z]
 cases d <;> rfl
theorem aaMq {t:TypeId} {x:Operand} {i:Nat} {X:AV} {cs:List At} {c:At} {fs:Array Field} {f:Field} {d:TypeDesc} (ho:o.op = .field t x i) (ht:P.underlying t=some (.struct fs)) (hf:fs[i]?=some f)
  (hd:P.underlying f.type=some d) (hna:E9q d=false) (hx:av x=some X) (hc:X.cells=some cs) (hX:(∃ys,X = .dat ys)\/∃ys,X = .agg ys) (hi:cs[f.offset]?=some c):OpP P o av [] (.one c) []:=by
 refine c0q fun a w S β _ hr _ => ?_
 have h1:=hr x _ hx (by simp [ho,a0z])
 have key:∃vs,a.eval x = .agg vs.toArray/\RepAs w S β cs vs:=by
  rcases hX with ⟨ys,rfl⟩ | ⟨ys,rfl⟩
  ·simp [AV.cells] at hc; subst hc
   obtain ⟨vs,e,h⟩:=h1.dat_inv; exact ⟨vs,e,RepAs.of_ds h⟩
  ·simp [AV.cells] at hc; subst hc; exact h1.agg_inv
 obtain ⟨vs,e,h⟩:=key
 obtain ⟨v,hv,hrep⟩:=h.get hi
 refine ⟨v,?_,RepV.one hrep⟩
 have hag:(isAgg f.type).run P w = .ok false w:=by rw [o6q hd,hna]
 simp [execOp,ho,e,Instr.field,run_underlying ht,hf,asAgg,part,hag,hv]
theorem abeq {t:TypeId} {x:Operand} {i:Nat} {X:AV} {cs:List At} {fs:Array Field} {f:Field} {d:TypeDesc} {j:TypeInfo} (ho:o.op = .field t x i) (ht:P.underlying t=some (.struct fs)) (hf:fs[i]?=some f)
  (hd:P.underlying f.type=some d) (hna:E9q d=true) (hj:P.info? f.type=some j) (hx:av x=some X) (hc:X.cells=some cs) (hX:(∃ys,X = .dat ys)\/∃ys,X = .agg ys):OpP P o av [] (w2q ((cs.drop f.offset).take j.size)) []:=by
 refine c0q fun a w S β _ hr _ => ?_
 have h1:=hr x _ hx (by simp [ho,a0z])
 have key:∃vs,a.eval x = .agg vs.toArray/\RepAs w S β cs vs:=by
  rcases hX with ⟨ys,rfl⟩ | ⟨ys,rfl⟩
  ·simp [AV.cells] at hc; subst hc
   obtain ⟨vs,e,h⟩:=h1.dat_inv; exact ⟨vs,e,RepAs.of_ds h⟩
  ·simp [AV.cells] at hc; subst hc; exact h1.agg_inv
 obtain ⟨vs,e,h⟩:=key
 refine ⟨.agg (vs.toArray.extract f.offset (f.offset+j.size)),?_,?_⟩
 ·have hag:(isAgg f.type).run P w = .ok true w:=by rw [o6q hd,hna]
  simp [execOp,ho,e,Instr.field,run_underlying ht,hf,asAgg,part,hag,sizeOf,typeInfo,hj]
 ·have:=(h.take_drop f.offset j.size).mk
  have e2:vs.toArray.extract f.offset (f.offset+j.size)=((vs.drop f.offset).take j.size).toArray:=by
   apply bDz; simp [List.extract_eq_take_drop]
  rw [e2]; exact this
theorem RepVs.get {w:World} {S:Nat->Prop} {β:Nat->OLoc} {ys vs} (h:RepVs w S β ys vs):∀{i:Nat} {x:AV},ys[i]?=some x->∃v,vs[i]?=some v/\RepV w S β x v:=by
 induction h with
 | nil=>intro i x hx; simp at hx
 | one h _ ih=>intro i x hx; cases i with | zero=>simp at hx; subst hx; exact ⟨_,rfl,RepVs.one h RepVs.nil⟩ | succ i=>simpa using ih (by simpa using hx)
 | dat h _ ih=>intro i x hx; cases i with | zero=>simp at hx; subst hx; exact ⟨_,rfl,RepVs.dat h RepVs.nil⟩ | succ i=>simpa using ih (by simpa using hx)
 | agg h _ ih=>intro i x hx; cases i with | zero=>simp at hx; subst hx; exact ⟨_,rfl,RepVs.agg h RepVs.nil⟩ | succ i=>simpa using ih (by simpa using hx)
 | tup h _ _ ih=>intro i x hx; cases i with | zero=>simp at hx; subst hx; exact ⟨_,rfl,RepVs.tup h RepVs.nil⟩ | succ i=>simpa using ih (by simpa using hx)
theorem a9Rq {x:Operand} {i:Nat} {ys:List AV} (ho:o.op = .extract x i) (hx:av x=some (.tup ys)) (hi:ys[i]?=some y):OpP P o av [] y []:=by
 refine c0q fun a w S β _ hr _ => ?_
 obtain ⟨vs,e,h⟩:=(hr x _ hx (by simp [ho,a0z])).tup_inv
 obtain ⟨v,hv,hrep⟩:=h.get hi
 exact ⟨v,by simp [execOp,ho,e,Instr.extract,hv],hrep⟩
section
variable {t:TypeId} {x z:Operand} {i:Nat} {fs:Array Field} {f:Field}
theorem a5Mq {k off:Nat} (ho:o.op = .fieldAddr t x i) (ht:P.underlying t=some (.struct fs)) (hf:fs[i]?=some f) (hx:av x=some (.one (.op k off)))
  (hp:∀(w:World) (a:Addr),(fieldPlace a f).run P w = .ok (a.add f.offset) w):OpP P o av [] (.one (.op k (off+f.offset))) []:=by
 refine c0q fun a w S β _ hr _ => ?_
 have h:=(hr x _ hx (by simp [ho,a0z])).one_inv
 generalize hv:a.eval x=v at h
 cases h
 refine ⟨.pointer (some ⟨(β k).blk,off+f.offset,none⟩),?_,RepV.one .op⟩
 have:(⟨(β k).blk,off,none⟩:Addr).add f.offset=⟨(β k).blk,off+f.offset,none⟩:=by unfold Addr.add; split <;> simp_all
 simp [execOp,ho,hv,bGz,run_underlying ht,hf,agz,hp,this]
end
section
variable {t:TypeId} {x z:Operand}
theorem abdq {xs:List (List Da)} {k:IntKind} {n:Nat} {c:List Da} {e:TypeId} {j:TypeInfo} (ho:o.op = .indexAddr t x z) (ht:P.underlying t=some (.slice e)) (hj:P.info? e=some j) (hx:av x=some (L xs)) (hz:av z=some (I k (n:Int)))
  (hi:xs[n]?=some c) (hc:c.length=j.size) (hpos:0<j.size):OpP P o av [] (.one (.ep c)) []:=by
 refine c0q fun a w S β _ hr _ => ?_
 have ez:=(hr z _ hz (by simp [ho,a0z])).int_inv
 have h:=(hr x _ hx (by simp [ho,a0z])).one_inv
 generalize hv:a.eval x=v at h
 cases h with
 | d h =>
  obtain ⟨ad,cap,rfl,h1,h2,h3⟩:=h.sl_inv
  have hn:n<xs.length:=(a1z.1 hi).1
  have hmem:c∈xs:=aVz hi
  have hsplit:xs.flatten=(xs.take n).flatten++(c++(xs.drop (n+1)).flatten):=by
   have:xs=xs.take n++c::xs.drop (n+1):=by
    rw [(a1z.1 hi).2.symm,bgz,a9z]
   conv=>lhs; rw [this]
   simp
  rcases h3 with h3 | ⟨b,off,us,es,rfl,hS,hb,hd,hes,hm⟩
  ·have hc0:c=[]:=by
    rw [h3] at hsplit
    have:=hsplit.symm
    simp at this
    exact this.2.1
   subst hc0
   simp at hc; omega
  ·rw [hsplit] at hd
   obtain ⟨v1,v2,rfl,d1,d2⟩:=hd.split
   obtain ⟨v3,v4,rfl,d3,d4⟩:=d2.split
   have hl1:v1.length=n*j.size:=by
    have hee:es=j.size:=by rw [<-hc,hes c hmem]
    rw [d1.len,List.length_flatten]
    have:(xs.take n).map List.length=a3z n j.size:=by
     apply bvz
     intro q
     by_cases hq:q<n
     ·have hq2:q<xs.length:=by omega
      simp only [b2z,asz,hq,if_true,List.getElem?_replicate,ajz hq2,aLz]
      rw [hes _ (List.getElem_mem hq2),hee]
     ·simp [hq]; omega
    rw [this]; simp
   refine ⟨.pointer (some ⟨b,off+n*j.size,none⟩),?_,RepV.one (.ep d3 (.inr ⟨hS,hb⟩) fun q u hu => ?_)⟩
   ·have hadd:(⟨b,off,none⟩:Addr).add (n*j.size)=⟨b,off+n*j.size,none⟩:=by unfold Addr.add; split <;> simp_all
    simp [execOp,ho,hv,ez,bpz,run_underlying ht,asIntOf,sizeOf,typeInfo,hj,hn,Nat.not_le.2 hn,hadd]
   ·have hq:q<v3.length:=(a1z.1 hu).1
    have:=hm (n*j.size+q) u (by
     rw [anz (by omega),hl1,arz,afz hq]; exact hu)
    rw [b3z]; exact this
end
end
theorem o7q (b off n:Nat):(⟨b,off,none⟩:Addr).add n=⟨b,off+n,none⟩:=by unfold Addr.add; split <;> simp_all
section
variable {P:Program} {o:Oper} {av:Operand->Option AV} {us:List (Nat×Ob)} {y:AV} {t:TypeId} {x z:Operand}
theorem abDq {cs:List Da} {c:Da} {d:TypeDesc} (ho:o.op = .load t x) (ht:P.underlying t=some d) (hd:E9q d=false) (hx:av x=some (.one (.ep cs))) (hc:cs[0]?=some c):OpP P o av [] (.one (.d c)) []:=by
 refine c0q fun a w S β _ hr _ => ?_
 have h:=(hr x _ hx (by simp [ho,a0z])).one_inv
 generalize hv:a.eval x=v at h
 cases h with
 | @ep _ vs b off h1 h2 h3 =>
  match cs,hc with
  | c0::r,hc =>
   simp at hc; subst hc
   obtain ⟨v,vs',rfl,h4,h5⟩:=h1.cons_inv
   refine ⟨v,?_,RepV.one (.d h4)⟩
   have:=h3 0 v rfl
   simp only [bcz] at this
   simp [execOp,ho,hv,aQz,agz,loadVar,o6q ht,hd,run_load,this]
theorem aaNq {cs:List Da} {d:TypeDesc} {j:TypeInfo} (ho:o.op = .load t x) (ht:P.underlying t=some d) (hd:E9q d=true) (hj:P.info? t=some j) (hx:av x=some (.one (.ep cs))) (hc:j.size<=cs.length):OpP P o av [] (.dat (cs.take j.size)) []:=by
 refine c0q fun a w S β _ hr _ => ?_
 have h:=(hr x _ hx (by simp [ho,a0z])).one_inv
 generalize hv:a.eval x=v at h
 cases h with
 | @ep _ vs b off h1 h2 h3 =>
  have hsp:cs=cs.take j.size++cs.drop j.size:=(a9z _ _).symm
  rw [hsp] at h1
  obtain ⟨v1,v2,rfl,h4,h5⟩:=h1.split
  have hl:v1.length=j.size:=by rw [h4.len,akz]; omega
  refine ⟨.agg v1.toArray,?_,RepVs.dat h4 RepVs.nil⟩
  have hld:=run_loadCells_list (P:=P) w ⟨b,off,none⟩ v1 (fun q u hu=>by
   rw [o7q]; exact h3 q u (by rw [afz (a1z.1 hu).1]; exact hu))
  rw [hl] at hld
  simp [execOp,ho,hv,aQz,agz,loadVar,o6q ht,hd,sizeOf,typeInfo,hj,hld]
theorem a6fq {cs:List Da} {i:Nat} {fs:Array Field} {f:Field} (ho:o.op = .fieldAddr t x i) (ht:P.underlying t=some (.struct fs)) (hf:fs[i]?=some f) (hx:av x=some (.one (.ep cs)))
  (hp:∀(w:World) (a:Addr),(fieldPlace a f).run P w = .ok (a.add f.offset) w):OpP P o av [] (.one (.ep (cs.drop f.offset))) []:=by
 refine c0q fun a w S β _ hr _ => ?_
 have h:=(hr x _ hx (by simp [ho,a0z])).one_inv
 generalize hv:a.eval x=v at h
 cases h with
 | @ep _ vs b off h1 h2 h3 =>
  refine ⟨.pointer (some ⟨b,off+f.offset,none⟩),?_,RepV.one (.ep (us:=vs.drop f.offset) ?_ (h2.imp (fun h=>by simp [h]) id) fun q u hu => ?_)⟩
  ·simp [execOp,ho,hv,bGz,run_underlying ht,hf,agz,hp,o7q]
  ·have hsp:cs=cs.take f.offset++cs.drop f.offset:=(a9z _ _).symm
   rw [hsp] at h1
   obtain ⟨v1,v2,rfl,h4,h5⟩:=h1.split
   have hl:=h4.len
   rw [akz] at hl
   by_cases hq:f.offset<=cs.length
   ·have e:(v1++v2).drop f.offset=v2:=by
     have:f.offset=v1.length:=by omega
     rw [this]; simp
    rw [e]; exact h5
   ·rw [aSz (by omega)] at h5 ⊢
    rw [h5.nil_inv]
    rw [aSz (by simp; omega)]
    exact RepDs.nil
  ·rw [btz] at hu
   rw [b3z]; exact h3 _ u hu
theorem p0q {w:World} {g i:Nat} {c:Array Value} {E:TypeId} {fr:Nat×Nat} (h:w.heap[g]?=some (.cells c E fr)):w.cell? ⟨g,i,none⟩=c[i]?:=by simp [World.cell?,h]
theorem abWq {k off:Nat} {cs:List At} {c:At} {d:TypeDesc} (ho:o.op = .load t x) (ht:P.underlying t=some d) (hd:E9q d=false) (hx:av x=some (.one (.op k off))) (hc:cs[off]?=some c):OpP P o av [(k,.var cs)] (.one c) []:=by
 refine c0q fun a w S β _ hr hu => ?_
 have h:=(hr x _ hx (by simp [ho,a0z])).one_inv
 obtain ⟨hh,ar,E,hg,hrep⟩:=hu (k,.var cs) (by simp)
 generalize hv:a.eval x=v at h
 cases h
 obtain ⟨v,hv2,h4⟩:=hrep.get hc
 refine ⟨v,?_,RepV.one h4⟩
 have hc2:=p0q (i:=off) hg
 rw [<-atz,hv2] at hc2
 simp [execOp,ho,hv,aQz,agz,loadVar,o6q ht,hd,run_load,hc2]
theorem abHq {k off:Nat} {cs:List At} {d:TypeDesc} {j:TypeInfo} (ho:o.op = .load t x) (ht:P.underlying t=some d) (hd:E9q d=true) (hj:P.info? t=some j) (hx:av x=some (.one (.op k off))) (hc:off+j.size<=cs.length):OpP P o av [(k,.var cs)] (w2q ((cs.drop off).take j.size)) []:=by
 refine c0q fun a w S β _ hr hu => ?_
 have h:=(hr x _ hx (by simp [ho,a0z])).one_inv
 obtain ⟨hh,ar,E,hg,hrep⟩:=hu (k,.var cs) (by simp)
 generalize hv:a.eval x=v at h
 cases h
 have hl:((ar.toList.drop off).take j.size).length=j.size:=by
  have:=hrep.len
  simp only [akz,aJz]; omega
 refine ⟨.agg ((ar.toList.drop off).take j.size).toArray,?_,(hrep.take_drop off j.size).mk⟩
 have hld:=run_loadCells_list (P:=P) w ⟨(β k).blk,off,none⟩ ((ar.toList.drop off).take j.size) (fun q u hu=>by
  rw [o7q,p0q hg,<-atz]
  rw [asz] at hu
  split at hu
  ·rw [btz] at hu; exact hu
  ·simp at hu)
 rw [hl] at hld
 simp only [execOp,ho,hv,aQz,agz,loadVar,acz,ahz,a5z,o6q ht,hd,sizeOf,typeInfo,program,b4z,hj,hld,if_true]
theorem abAq {s:ByteArray} {k:IntKind} {n:Nat} {c:UInt8} (ho:o.op = .index t x z) (ht:P.underlying t=some .string) (hx:av x=some (T s)) (hz:av z=some (I k (n:Int))) (hc:s[n]?=some c):OpP P o av [] (I .u8 c.toNat) []:=by
 refine c0q fun a w S β _ hr _=>⟨.int .u8 c.toNat,?_,RepV.int _ _⟩
 have e1:=(hr x _ hx (by simp [ho,a0z])).str_inv.1
 have e2:=(hr z _ hz (by simp [ho,a0z])).int_inv
 simp [execOp,ho,e1,e2,Instr.index,asIntOf,run_underlying ht,hc]
section
variable {ty:TypeId}
theorem aeqq {s:ByteArray} (ho:o.op = .call { callee:=.builtin .len,args := #[x],argTypes := #[t] }) (ht:P.underlying t=some .string) (hx:av x=some (T s)):OpP P o av [] (Z s.size) []:=by
 refine c0q fun a w S β _ hr _=>⟨goInt s.size,?_,RepV.int _ _⟩
 have e1:=(hr x _ hx (by simp [ho,a0z,Call.operands])).str_inv.1
 simp [execOp,ho,resolve,invoke,builtin,e1,bdz,run_underlying ht]
theorem aeeq {xs:List (List Da)} {e:TypeId} (ho:o.op = .call { callee:=.builtin .len,args := #[x],argTypes := #[t] }) (ht:P.underlying t=some (.slice e)) (hx:av x=some (L xs)):OpP P o av [] (Z xs.length) []:=by
 refine c0q fun a w S β _ hr _=>⟨goInt xs.length,?_,RepV.int _ _⟩
 have h:=(hr x _ hx (by simp [ho,a0z,Call.operands])).one_inv
 generalize hv:a.eval x=v at h
 cases h with
 | d h =>
  obtain ⟨ad,cap,rfl,_⟩:=h.sl_inv
  simp [execOp,ho,resolve,invoke,builtin,hv,bdz,run_underlying ht]
theorem aeuq {e:TypeId} (ho:o.op = .call { callee:=.builtin .len,args := #[x],argTypes := #[t] }) (ht:P.underlying t=some (.slice e)) (hx:av x=some (.one .e0)):OpP P o av [] (Z 0) []:=by
 refine c0q fun a w S β _ hr _=>⟨goInt 0,?_,RepV.int _ _⟩
 have h:=(hr x _ hx (by simp [ho,a0z,Call.operands])).one_inv
 generalize hv:a.eval x=v at h
 cases h
 simp [execOp,ho,resolve,invoke,builtin,hv,bdz,run_underlying ht]
theorem M9q {w:World} {b:Nat} {e:TypeId} {es:Nat} {v:Value} {n:Nat} {xs:List Value} (h:w.ownsRow b e es v n xs):∃a cap,v = .slice a n cap/\n<=cap:=by
 rcases h.2 with ⟨rfl,rfl⟩ | ⟨g,cap,cur,rfl,_,_,h,_⟩
 ·exact ⟨_,_,rfl,apz _⟩
 ·exact ⟨_,_,rfl,h⟩
theorem aehq {k:Nat} {E es:Nat} {xs:List (List Da)} {e:TypeId} (ho:o.op = .call { callee:=.builtin .len,args := #[x],argTypes := #[t] }) (ht:P.underlying t=some (.slice e)) (hx:av x=some (.one (.ol k))):OpP P o av [(k,.lst E es xs)] (Z xs.length) []:=by
 refine c0q fun a w S β _ hr hu=>⟨goInt xs.length,?_,RepV.int _ _⟩
 have h:=(hr x _ hx (by simp [ho,a0z,Call.operands])).one_inv
 have hsv:∃ad cap,(β k).sv = .slice ad xs.length cap:=by
  rcases hu (k,.lst E es xs) (by simp) with ⟨_,_,_,vs,hown,_⟩ | ⟨_,h0,ad,hz⟩
  ·obtain ⟨ad,cap,hsv,_⟩:=M9q hown; exact ⟨ad,cap,hsv⟩
  ·exact ⟨ad,0,by rw [h0]; exact hz⟩
 obtain ⟨ad,cap,hsv⟩:=hsv
 generalize hv:a.eval x=v at h
 cases h
 rw [hsv] at hv
 simp [execOp,ho,resolve,invoke,builtin,hv,bdz,run_underlying ht]
end
theorem aaLq {k':Nat} {E es:Nat} {xs:List (List Da)} {k:IntKind} {n:Nat} {e:TypeId} {j:TypeInfo} (ho:o.op = .indexAddr t x z) (ht:P.underlying t=some (.slice e)) (hj:P.info? e=some j) (hes:j.size=es) (hpos:0<es) (hx:av x=some (.one (.ol k'))) (hz:av z=some (I k (n:Int)))
  (hn:n<xs.length):OpP P o av [(k',.lst E es xs)] (.one (.op k' (n*es))) []:=by
 refine c0q fun a w S β _ hr hu=>⟨.pointer (some ⟨(β k').blk,n*es,none⟩),?_,RepV.one .op⟩
 have ez:=(hr z _ hz (by simp [ho,a0z])).int_inv
 have h:=(hr x _ hx (by simp [ho,a0z])).one_inv
 obtain ⟨hob,_,hle,vs,hown,hrep⟩:=ObRep.pos (hu (k',.lst E es xs) (by simp)) (by omega)
 dsimp only at hob hown
 rcases hown.2 with ⟨_,h0⟩ | ⟨g,cap,cur,hsv,_,_,hcap,_⟩
 ·omega
 generalize hv:a.eval x=v at h
 cases h
 rw [hsv] at hv hob
 have hg:g=(β k').blk:=by
  simp only [Value.ownBlock] at hob
  split at hob
  ·simpa using hob
  ·simp at hob
 subst hes
 simp [execOp,ho,hv,ez,bpz,run_underlying ht,asIntOf,sizeOf,typeInfo,hj,hn,Nat.not_le.2 hn,o7q,hg]
theorem p1q {α:Type} {xs:List (List α)} {n:Nat} {c:List α} (hi:xs[n]?=some c):xs.flatten=(xs.take n).flatten++(c++(xs.drop (n+1)).flatten):=by
 have:xs=xs.take n++c::xs.drop (n+1):=by
  rw [(a1z.1 hi).2.symm,bgz,a9z]
 conv=>lhs; rw [this]
 simp
theorem s0q {α:Type} {xs:List (List α)} {es:Nat} (h:∀x∈xs,x.length=es):xs.flatten.length=xs.length*es:=by
 induction xs with
 | nil=>simp
 | cons x xs ih =>
  simp only [aRz,aoz,byz,h x (by simp),ih fun y hy=>h y (by simp [hy])]
  rw [b1z]; omega
theorem i6q {α:Type} {xs:List (List α)} {es n:Nat} (h:∀x∈xs,x.length=es) (hn:n<=xs.length):(xs.take n).flatten.length=n*es:=by
 rw [s0q (es:=es) fun x hx=>h x (aWz hx),akz,aMz hn]
theorem a2Pq {w:World} {k:Nat} {β:Nat->OLoc} {E es:Nat} {n:Nat} {vs:List Value} (hown:w.ownsRow 0 E es (β k).sv n vs) (hob:(β k).sv.ownBlock=(if (β k).has then some (β k).blk else none)) {i:Nat} {u:Value} (hu:vs[i]?=some u) :
  w.cell? ⟨(β k).blk,i,none⟩=some u/\(β k).has=true:=by
 rcases hown.2 with ⟨_,h0⟩ | ⟨g,cap,cur,hsv,_,hg,hcap,_,hsz,htk⟩
 ·exfalso
  have:=hown.1
  subst h0
  rw [Nat.zero_mul] at this
  have:=a2z this
  subst this; simp at hu
 ·rw [hsv] at hob
  simp only [Value.ownBlock] at hob
  split at hob
  ·rename_i hh
   simp at hob
   refine ⟨?_,hh⟩
   rw [<-hob,p0q hg,<-atz]
   rw [<-htk,asz] at hu
   split at hu
   ·exact hu
   ·simp at hu
  ·simp at hob
theorem abgq {k off n q:Nat} {E es:Nat} {xs:List (List Da)} {c:List Da} {x0:Da} {d:TypeDesc} (ho:o.op = .load t x) (ht:P.underlying t=some d) (hd:E9q d=false) (hx:av x=some (.one (.op k off))) (hn:xs[n]?=some c) (hq:c[q]?=some x0) (hoff:off=n*es+q):OpP P o av [(k,.lst E es xs)] (.one (.d x0)) []:=by
 refine c0q fun a w S β _ hr hu => ?_
 have h:=(hr x _ hx (by simp [ho,a0z])).one_inv
 have hnl0:n<xs.length:=(a1z.1 hn).1
 obtain ⟨hob,_,hle,vs,hown,hrep⟩:=ObRep.pos (hu (k,.lst E es xs) (by simp)) (by omega)
 dsimp only at hob hown
 generalize hv:a.eval x=v at h
 cases h
 have hnl:n<xs.length:=(a1z.1 hn).1
 rw [p1q hn] at hrep
 obtain ⟨v1,v2,rfl,d1,d2⟩:=hrep.split
 obtain ⟨v3,v4,rfl,d3,d4⟩:=d2.split
 have hl1:v1.length=n*es:=by rw [d1.len,i6q hle (bez hnl)]
 have hql:q<c.length:=(a1z.1 hq).1
 have hg3:∃u,v3[q]?=some u/\RepDs w S [x0] [u]:=by
  have:=(RepAs.of_ds (β:=β) d3).get (i:=q) (x:=.d x0) (by simp [hq])
  obtain ⟨u,hu,hr⟩:=this
  cases hr with | d hr=>exact ⟨u,hu,hr⟩
 obtain ⟨u,hu3,hr3⟩:=hg3
 refine ⟨u,?_,RepV.one (.d hr3)⟩
 have hlen3:=d3.len
 have hc:=(a2Pq hown hob (i:=off) (u:=u) (by
  rw [hoff,anz (by omega),hl1,arz,afz (by omega)]; exact hu3)).1
 simp [execOp,ho,hv,aQz,agz,loadVar,o6q ht,hd,run_load,hc]
theorem abbq {k off n:Nat} {E es:Nat} {xs:List (List Da)} {c:List Da} {d:TypeDesc} {j:TypeInfo} (ho:o.op = .load t x) (ht:P.underlying t=some d) (hd:E9q d=true) (hj:P.info? t=some j) (hx:av x=some (.one (.op k off))) (hn:xs[n]?=some c) (hoff:off=n*es) (hc:c.length=j.size):OpP P o av [(k,.lst E es xs)] (.dat c) []:=by
 refine c0q fun a w S β _ hr hu => ?_
 have h:=(hr x _ hx (by simp [ho,a0z])).one_inv
 have hnl0:n<xs.length:=(a1z.1 hn).1
 obtain ⟨hob,_,hle,vs,hown,hrep⟩:=ObRep.pos (hu (k,.lst E es xs) (by simp)) (by omega)
 dsimp only at hob hown
 generalize hv:a.eval x=v at h
 cases h
 have hnl:n<xs.length:=(a1z.1 hn).1
 rw [p1q hn] at hrep
 obtain ⟨v1,v2,rfl,d1,d2⟩:=hrep.split
 obtain ⟨v3,v4,rfl,d3,d4⟩:=d2.split
 have hl1:v1.length=n*es:=by rw [d1.len,i6q hle (bez hnl)]
 have hl3:v3.length=j.size:=by rw [d3.len,hc]
 refine ⟨.agg v3.toArray,?_,RepVs.dat d3 RepVs.nil⟩
 have hld:=run_loadCells_list (P:=P) w ⟨(β k).blk,off,none⟩ v3 (fun q u hu=>by
  rw [o7q]
  have hq:q<v3.length:=(a1z.1 hu).1
  exact (a2Pq hown hob (by rw [hoff,anz (by omega),hl1,arz,afz (by omega)]; exact hu)).1)
 rw [hl3] at hld
 simp only [execOp,ho,hv,aQz,agz,loadVar,acz,ahz,a5z,o6q ht,hd,sizeOf,typeInfo,program,b4z,hj,hld,if_true]
theorem ae4q {s:ByteArray} {lo hi:Option Operand} {k k':IntKind} {l h:Nat} (ho:o.op = .slice t x lo hi none) (ht:P.underlying t=some .string) (hx:av x=some (T s))
  (hlo:(lo=none/\l=0)\/∃u,lo=some u/\av u=some (I k (l:Int))) (hhi:(hi=none/\h=s.size)\/∃u,hi=some u/\av u=some (I k' (h:Int))) (hlh:l<=h) (hs:h<=s.size):OpP P o av [] (T (s.extract l h)) []:=by
 refine c0q fun a w S β _ hr _ => ?_
 obtain ⟨e1,hsz⟩:=(hr x _ hx (by simp [ho,a0z])).str_inv
 refine ⟨.string (s.extract l h),?_,RepV.str _ (by rw [ByteArray.size_extract]; omega)⟩
 rcases hlo with ⟨rfl,rfl⟩ | ⟨u,rfl,hu⟩ <;> rcases hhi with ⟨rfl,rfl⟩ | ⟨v,rfl,hv⟩
 ·simp [execOp,ho,e1,avz,aDz,run_underlying ht,alz]
 ·have e3:=(hr v _ hv (by simp [ho,a0z])).int_inv
  simp [execOp,ho,e1,e3,avz,aDz,run_underlying ht,alz,awz,asIntOf,hs,axz.2 hs]
 ·have e2:=(hr u _ hu (by simp [ho,a0z])).int_inv
  simp [execOp,ho,e1,e2,avz,aDz,run_underlying ht,alz,awz,asIntOf,hlh,axz.2 hlh]
 ·have e2:=(hr u _ hu (by simp [ho,a0z])).int_inv
  have e3:=(hr v _ hv (by simp [ho,a0z])).int_inv
  simp [execOp,ho,e1,e2,e3,avz,aDz,run_underlying ht,alz,awz,asIntOf,hs,hlh,axz.2 hs,axz.2 hlh]
theorem adIq {xs:List (List Da)} {lo hi:Option Operand} {k k':IntKind} {l h:Nat} {e:TypeId} {j:TypeInfo} (ho:o.op = .slice t x lo hi none) (ht:P.underlying t=some (.slice e)) (hj:P.info? e=some j) (hes:∀c∈xs,c.length=j.size) (hx:av x=some (L xs))
  (hlo:(lo=none/\l=0)\/∃u,lo=some u/\av u=some (I k (l:Int))) (hhi:(hi=none/\h=xs.length)\/∃u,hi=some u/\av u=some (I k' (h:Int))) (hlh:l<=h) (hs:h<=xs.length):OpP P o av [] (L ((xs.take h).drop l)) []:=by
 refine c0q fun a w S β _ hr _ => ?_
 have h0:=(hr x _ hx (by simp [ho,a0z])).one_inv
 generalize hv0:a.eval x=v at h0
 cases h0 with
 | d h0 =>
  obtain ⟨ad,cap,rfl,h1,h2,h3⟩:=h0.sl_inv
  have hc:h<=cap:=by omega
  have hlen:((xs.take h).drop l).length=h-l:=by rw [aJz,akz,aMz hs]
  refine ⟨.slice (if cap=l then ad else ad.map (·.add (l*j.size))) (h-l) (cap-l),?_,RepV.one (.d ?_)⟩
  ·rcases hlo with ⟨rfl,rfl⟩ | ⟨u,rfl,hu⟩ <;> rcases hhi with ⟨rfl,rfl⟩ | ⟨v,rfl,hv⟩
   ·simp [execOp,ho,hv0,avz,aDz,run_underlying ht,alz,sizeOf,typeInfo,hj]
   ·have e3:=(hr v _ hv (by simp [ho,a0z])).int_inv
    simp [execOp,ho,hv0,e3,avz,aDz,run_underlying ht,alz,awz,asIntOf,hc,axz.2 hc,sizeOf,typeInfo,hj]
   ·have e2:=(hr u _ hu (by simp [ho,a0z])).int_inv
    simp [execOp,ho,hv0,e2,avz,aDz,run_underlying ht,alz,awz,asIntOf,hlh,axz.2 hlh,sizeOf,typeInfo,hj]
   ·have e2:=(hr u _ hu (by simp [ho,a0z])).int_inv
    have e3:=(hr v _ hv (by simp [ho,a0z])).int_inv
    simp [execOp,ho,hv0,e2,e3,avz,aDz,run_underlying ht,alz,awz,asIntOf,hc,hlh,axz.2 hc,axz.2 hlh,sizeOf,typeInfo,hj]
  ·by_cases hlt:h-l=0
   ·have:(xs.take h).drop l=[]:=a2z (by omega)
    rw [this,hlt]
    exact RepDs.sl_nil _ _
   ·have hne:¬cap=l:=by omega
    rw [if_neg hne]
    have hflat:xs.flatten=(xs.take l).flatten++(((xs.take h).drop l).flatten++(xs.drop h).flatten):=by
     have e:xs=xs.take l++((xs.take h).drop l++xs.drop h):=by
      have e1:(xs.take h).take l=xs.take l:=by rw [List.take_take,aMz hlh]
      rw [<-a6z,<-e1,a9z,a9z]
     conv=>lhs; rw [e]
     simp
    rcases h3 with h3 | ⟨b,off,us,es,rfl,hS,hb,hd,hes',hm⟩
    ·have hz:((xs.take h).drop l).flatten=[]:=by
      rw [h3] at hflat
      have:=hflat.symm
      simp only [List.append_eq_nil_iff] at this
      exact this.2.1
     rw [<-hlen]
     exact ⟨[],.sl0 hz rfl (by omega) (by omega) .nil,by simp⟩
    ·rw [hflat] at hd
     obtain ⟨v1,v2,rfl,d1,d2⟩:=hd.split
     obtain ⟨v3,v4,rfl,d3,d4⟩:=d2.split
     have hl1:v1.length=l*j.size:=by rw [d1.len,i6q hes (by omega)]
     simp only [aLz,o7q]
     rw [<-hlen]
     refine RepDs.sl_mk (by omega) (by omega) hS hb d3 (fun c hc=>hes c (aWz (List.mem_of_mem_drop hc))) fun q u hu => ?_
     have hq:q<v3.length:=(a1z.1 hu).1
     rw [b3z]
     exact hm _ u (by rw [anz (by omega),hl1,arz,afz hq]; exact hu)
end
section
variable {w:World} {S:Nat->Prop} {β:Nat->OLoc}
theorem Grow.new (hlt:∀b,S b->b<w.heap.size) (o:Obj) (d:Nat) (X:Ob) (l:OLoc) (hl:l.blk=w.heap.size) (hsub:l.sub=[]) (hcl:l.clm=[]) (hX:ObRep (w.alloc o) S (fun k=>if k=d then l else β k) l X) :
  Grow w S β [(d,X)] (w.alloc o) S (fun k=>if k=d then l else β k):=by
 refine ⟨rfl,rfl,rfl,by simp,fun b hb=>Go.RowKit.Below.heap_alloc w o b hb,fun _ h=>h,fun b hb=>⟨by have:=hlt b hb; simp; omega,.inl hb⟩,fun k hk => ?_,?_,?_,?_,?_,?_⟩
 ·have:=hk (d,X) (by simp)
  dsimp only at this
  rw [if_neg (fun e=>this e.symm)]
 ·intro p hp; simp at hp; subst hp; simp only [if_true]; exact hX
 ·intro p hp b hb; simp at hp; subst hp
  simp only [if_true] at hb
  have hb:=(OLoc.own0 hsub hb).2
  rw [hl] at hb; subst hb
  refine ⟨apz _,by simp,fun hs => ?_⟩
  have:=hlt _ hs; omega
 ·intro p hp q hq _ _ _; simp at hp hq; subst hp; subst hq; rfl
 ·intro p hp b hb; simp at hp; subst hp; simp only [if_true,hcl] at hb; cases hb
 ·intro p hp q hq _ _ _; simp at hp hq; subst hp; subst hq; rfl
theorem RepAs.newβ {xs vs d l} (h:RepAs w S β xs vs) (hd:d∉AV.idsL xs):RepAs w S (fun k=>if k=d then l else β k) xs vs :=
 h.mono (fun _ _=>rfl) (fun _ h=>h) fun o ho=>by rw [if_neg]; rintro rfl; exact hd ho
end
def o3q:List Value->Option (List At)
 | []=>some []
 | v::r=>match a17q v,o3q r with
  | some y,some ys=>some (y::ys)
  | _,_=>none
theorem aa6q {w:World} {S:Nat->Prop} {β:Nat->OLoc} {v:Value} {x:At} (h:a17q v=some x):RepA w S β x v:=by
 have:W0q v=some (.one x):=by simp [W0q,h]
 exact (Q6q this).one_inv
theorem z4q {w:World} {S:Nat->Prop} {β:Nat->OLoc} {vs:List Value} {xs:List At} (h:o3q vs=some xs):RepAs w S β xs vs:=by
 induction vs generalizing xs with
 | nil=>simp [o3q] at h; subst h; exact .nil
 | cons v vs ih =>
  simp only [o3q] at h
  split at h
  ·rename_i h1 h2; simp at h; subst h; exact .cons (aa6q h1) (ih h2)
  ·simp at h
section
variable {P:Program} {o:Oper} {av:Operand->Option AV} {us:List (Nat×Ob)} {y:AV} {t:TypeId} {x z:Operand}
theorem af3q {d:Nat} {X:AV} {cs:List At} (ho:o.op = .box t x) (hx:av x=some X) (hc:X.cells=some cs) (hd:d∉AV.idsL cs):OpP P o av [] (.one (.op d 0)) [(d,.var cs)]:=by
 intro a w S β hlt hr _ K Q hK
 have h:=hr x _ hx (by simp [ho,a0z])
 have hcs:=h.cells hc
 have he:(execOp a.eval o).run P w = .ok (.value (.pointer (some ⟨w.heap.size,0,none⟩))) (w.alloc (.cells (a.eval x).cells t)):=by
  simp [execOp,ho,Instr.box,newVar,newRow]
 unfold Oper.wp
 rw [he]
 have hb:(w.alloc (.cells (a.eval x).cells t)).heap[w.heap.size]?=some (.cells (a.eval x).cells t (0,0)):=heap_alloc_new w _
 have hcs':RepAs (w.alloc (.cells (a.eval x).cells t)) S (fun k=>if k=d then ⟨w.heap.size,none,0,0,true,[],[]⟩ else β k) cs (a.eval x).cells.toList :=
  (hcs.mono (fun b hb=>Go.RowKit.Below.heap_alloc w _ b (hlt b hb)) (fun _ h=>h) (fun _ _=>rfl)).newβ hd
 refine hK _ _ S _ (Grow.new hlt _ d (.var cs) ⟨w.heap.size,none,0,0,true,[],[]⟩ rfl rfl rfl ⟨rfl,_,_,hb,hcs'⟩) (RepV.one ?_)
 have:(some ⟨w.heap.size,0,none⟩:Option Addr)=some ⟨((fun k=>if k=d then (⟨w.heap.size,none,0,0,true,[],[]⟩:OLoc) else β k) d).blk,0,none⟩:=by simp
 rw [this]
 exact .op
theorem acCq {d:Nat} {i:TypeInfo} {zv:Value} {cs:List At} (ho:o.op = .alloc t) (hi:P.info? t=some i) (hz:i.zero=some zv) (hc:o3q zv.cells.toList=some cs):OpP P o av [] (.one (.op d 0)) [(d,.var cs)]:=by
 intro a w S β hlt hr _ K Q hK
 have he:(execOp a.eval o).run P w = .ok (.value (.pointer (some ⟨w.heap.size,0,none⟩))) (w.alloc (.cells zv.cells t)):=by
  simp [execOp,ho,Instr.alloc,zeroValue,typeInfo,hi,hz,newVar,newRow]
 unfold Oper.wp
 rw [he]
 have hb:(w.alloc (.cells zv.cells t)).heap[w.heap.size]?=some (.cells zv.cells t (0,0)):=heap_alloc_new w _
 refine hK _ _ S _ (Grow.new hlt _ d (.var cs) ⟨w.heap.size,none,0,0,true,[],[]⟩ rfl rfl rfl ⟨rfl,_,_,hb,z4q hc⟩) (RepV.one ?_)
 have:(some ⟨w.heap.size,0,none⟩:Option Addr)=some ⟨((fun k=>if k=d then (⟨w.heap.size,none,0,0,true,[],[]⟩:OLoc) else β k) d).blk,0,none⟩:=by simp
 rw [this]
 exact .op
inductive Two {α β:Type} (R:α->β->Prop):List α->List β->Prop
 | nil:Two R [] []
 | cons {a b l m}:R a b->Two R l m->Two R (a::l) (b::m)
def y5q (place:Nat->Option (Nat×Nat)) (cells:List At):List (Nat×List At)->Option (List At)
 | []=>some cells
 | (i,v)::rest=>match place i with
  | none=>none
  | some (off,size)=>if v.length=size/\off+size<=cells.length then y5q place (cells.take off++v++cells.drop (off+size)) rest else none
theorem ac1q (vs:List Value):∀(cells:Array Value) (off k:Nat),off+k+vs.length<=cells.size ->
  ((vs.zipIdx k).foldl (fun cs (p:Value×Nat)=>cs.setIfInBounds (off+p.2) p.1) cells).toList=cells.toList.take (off+k)++vs++cells.toList.drop (off+k+vs.length):=by
 induction vs with
 | nil=>intro cells off k _; simp
 | cons v vs ih =>
  intro cells off k h
  simp only [byz] at h
  simp only [List.zipIdx_cons,bAz]
  rw [ih _ off (k+1) (by simp; omega)]
  have e:=list_seg_step cells.toList (off+k) v vs (by simp; omega)
  simpa [Array.toList_setIfInBounds,b3z] using e
theorem a46q {w:World} {S:Nat->Prop} {β:Nat->OLoc} {place:Nat->Option (Nat×Nat)} (parts:List (Nat×List At)):∀(pv:List (Nat×Value)) (cells:List At) (cv:Array Value) (out:List At),
  RepAs w S β cells cv.toList->Two (fun p q=>p.1=q.1/\RepAs w S β p.2 q.2.cells.toList) parts pv->y5q place cells parts=some out ->
  ∃ov,b7z place cv pv=some ov/\RepAs w S β out ov.toList:=by
 induction parts with
 | nil=>intro pv cells cv out h hp hf; cases hp; simp [y5q] at hf; subst hf; exact ⟨cv,rfl,h⟩
 | cons p parts ih =>
  intro pv cells cv out h hp hf
  cases hp with
  | @cons _ q _ pv h1 h2 =>
   obtain ⟨i,v⟩:=p
   obtain ⟨j,u⟩:=q
   obtain ⟨rfl,hu⟩:=h1
   simp only [y5q] at hf
   split at hf
   ·simp at hf
   ·rename_i off size hpl
    split at hf
    ·rename_i hc
     obtain ⟨hc1,hc2⟩:=hc
     have hlu:u.cells.size=size:=by have:=hu.len; simp at this; omega
     have hlc:=h.len
     have hlen:cv.size=cells.length:=by simpa using hlc
     have e:=ac1q u.cells.toList cv off 0 (by simp; omega)
     simp only [bcz,aaz] at e
     obtain ⟨ov,ho,hr⟩:=ih pv _ ((u.cells.toList.zipIdx).foldl (fun cs (p:Value×Nat)=>cs.setIfInBounds (off+p.2) p.1) cv) out (by
      rw [e]
      have t1:=h.take_drop 0 off
      have t2:=h.take_drop (off+size) cells.length
      simp only [bnz] at t1
      rw [amz (by simp),amz (by simp; omega)] at t2
      rw [hlu]
      exact (t1.app hu).app t2) h2 hf
     refine ⟨ov,?_,hr⟩
     simp only [b7z,hpl]
     rw [if_neg (by simp; omega),<-ho]
     congr 1
     rw [<-buz,Array.toList_zipIdx]
    ·simp at hf
theorem a2tq {w:World} {S:Nat->Prop} {β:Nat->OLoc} {ρ:Operand->Value} (ps:List (Nat×Operand)):∀(ahOq:List (Nat×List At)),
  (∀p∈ps,∀X,av p.2=some X->RepV w S β X (ρ p.2))->Two (fun p q=>p.1=q.1/\∃X,av p.2=some X/\X.cells=some q.2) ps ahOq ->
  Two (fun p q=>p.1=q.1/\RepAs w S β p.2 q.2.cells.toList) ahOq (ps.map fun p=>(p.1,ρ p.2)):=by
 induction ps with
 | nil=>intro ahOq _ h; cases h; exact .nil
 | cons p ps ih =>
  intro ahOq hr h
  cases h with
  | cons h1 h2 =>
   obtain ⟨e,X,hX,hc⟩:=h1
   exact .cons ⟨e.symm,(hr p (by simp) X hX).cells hc⟩ (ih _ (fun q hq=>hr q (by simp [hq])) h2)
def s6q (av:Operand->Option AV):List (Nat×Operand)->Option (List (Nat×List At))
 | []=>some []
 | (i,x)::r=>match (av x).bind AV.cells,s6q av r with
  | some c,some cs=>some ((i,c)::cs)
  | _,_=>none
theorem a0Bq (ps:List (Nat×Operand)):∀(ahOq:List (Nat×List At)),s6q av ps=some ahOq->Two (fun p q=>p.1=q.1/\∃X,av p.2=some X/\X.cells=some q.2) ps ahOq:=by
 induction ps with
 | nil=>intro ahOq h; simp [s6q] at h; subst h; exact .nil
 | cons p ps ih =>
  intro ahOq h
  obtain ⟨i,x⟩:=p
  simp only [s6q] at h
  split at h
  ·rename_i c cs h1 h2
   simp at h; subst h
   obtain ⟨X,hX,hc⟩:=Option.bind_eq_some_iff.1 h1
   exact .cons ⟨rfl,X,hX,hc⟩ (ih _ h2)
  ·simp at h
theorem acuq {ps:List (Nat×Operand)} {fs:Array Field} {i:TypeInfo} {zv:Value} {cs out:List At} {ahOq:List (Nat×List At)} {places:Array (Nat×Nat)} (ho:o.op = .build t ps.toArray) (ht:P.underlying t=some (.struct fs)) (hi:P.info? t=some i) (hz:i.zero=some zv)
  (hpl:∀w,(fs.mapM fun f=>do pure (f.offset,<-sizeOf f.type):Sem (Array (Nat×Nat))).run P w = .ok places w) (hc:o3q zv.cells.toList=some cs) (has:s6q av ps=some ahOq) (hf:y5q (places[·]?) cs ahOq=some out):OpP P o av [] (w2q out) []:=by
 refine c0q fun a w S β _ hr _ => ?_
 have h1:=a2tq (w:=w) (S:=S) (β:=β) (ρ:=a.eval) ps ahOq (fun p hp X hX=>hr p.2 X hX (by simp [ho,a0z]; exact ⟨p.1,hp⟩)) (a0Bq ps ahOq has)
 obtain ⟨ov,hov,hrep⟩:=a46q ahOq _ cs zv.cells out (z4q hc) h1 hf
 refine ⟨.agg ov,?_,by have:=hrep.mk; simpa using this⟩
 have hpl':=hpl w
 simp only [execOp,ho,Instr.build,zeroValue,typeInfo,program,acz,b4z,a5z,hi,hz,ahz,run_underlying ht,hpl',ayz,hov]
def x1q (es:Nat):Nat->List Da->List (List Da)
 | 0,_=>[]
 | n+1,ds=>ds.take es::x1q es n (ds.drop es)
theorem a4Kq {es:Nat}:∀(n:Nat) (ds:List Da),ds.length=n*es->(x1q es n ds).flatten=ds/\(x1q es n ds).length=n/\∀c∈x1q es n ds,c.length=es:=by
 intro n
 induction n with
 | zero=>intro ds h; simp at h; subst h; simp [x1q]
 | succ n ih =>
  intro ds h
  rw [b1z] at h
  obtain ⟨h1,h2,h3⟩:=ih (ds.drop es) (by simp; omega)
  refine ⟨by simp [x1q,h1],by simp [x1q,h2],fun c hc => ?_⟩
  simp only [x1q,abz] at hc
  rcases hc with rfl | hc
  ·simp; omega
  ·exact h3 c hc
theorem a0xq {w:World} {c:Array Value} {E es n cap:Nat} (hc:c.size=cap*es) (hn:n<=cap) (hcap:cap<=maxLen) :
  (w.alloc (.cells c E)).ownsRow 0 E es (.slice (some ⟨w.heap.size,0,none⟩) n cap) n (c.toList.take (n*es)):=by
 refine ⟨?_,.inr ⟨w.heap.size,cap,c,rfl,aBz _,heap_alloc_new w _,hn,hcap,hc,rfl⟩⟩
 rw [akz,aaz,hc]
 exact aMz (aIz _ hn)
theorem a0sq {α:Type} (zs:List α) (n m:Nat) (h:n<=m):((a3z m zs).flatten).take (n*zs.length)=(a3z n zs).flatten:=by
 obtain ⟨k,rfl⟩:=Nat.exists_eq_add_of_le h
 rw [<-List.replicate_append_replicate,bqz]
 exact aXz (by simp)
theorem C8q (z:Array Value) (hz:0<z.size) (n:Nat):(madeCells z (n*z.size)).toList=(a3z n z.toList).flatten:=by
 apply bvz
 intro i
 by_cases hi:i<n*z.size
 ·have h1:(madeCells z (n*z.size)).toList[i]?=some z[i % z.size]!:=by
   simp [madeCells,hi]
  rw [h1]
  have hq:i / z.size<n:=Nat.div_lt_of_lt_mul (by rw [Nat.mul_comm]; exact hi)
  have hm:i % z.size<z.size:=Nat.mod_lt _ hz
  have hsp:(a3z n z.toList)[i / z.size]?=some z.toList:=by simp [hq]
  rw [p1q hsp]
  have hl:((a3z n z.toList).take (i / z.size)).flatten.length=(i / z.size)*z.size:=by
   rw [s0q (es:=z.size) (fun x hx=>by
    have:=aWz hx
    simp at this; rw [this.2]; simp)]
   simp [aMz (bez hq)]
  have hdm:=Nat.div_add_mod' i z.size
  rw [anz (by omega),hl,show i-i / z.size*z.size=i % z.size by omega,afz (by simpa using hm)]
  simp [hm]
 ·rw [bkz (by simp [size_madeCells]; omega),bkz]
  rw [s0q (es:=z.size) (fun x hx=>by simp at hx; rw [hx.2]; simp)]
  simp; omega
theorem a7nq {w:World} {S:Nat->Prop} {β:Nat->OLoc} {cs:List At} {vs:List Value} (h:RepAs w S β cs vs) (n:Nat):RepAs w S β (a3z n cs).flatten (a3z n vs).flatten:=by
 induction n with
 | zero=>exact .nil
 | succ n ih=>simp only [brz,aRz]; exact h.app ih
theorem a14q {w:World} {S:Nat->Prop} {cs:List Da} {vs:List Value} (h:RepDs w S cs vs) (n:Nat):RepDs w S (a3z n cs).flatten (a3z n vs).flatten:=by
 induction n with
 | zero=>exact RepDs.nil
 | succ n ih=>simp only [brz,aRz]; exact h.app ih
theorem a32q {w:World} {S:Nat->Prop} {β:Nat->OLoc} (hlt:∀b,S b->b<w.heap.size) {c:Array Value} {E es cap d:Nat} {xs:List (List Da)} (hc:c.size=cap*es) (hn:xs.length<=cap) (hcap:cap<=maxLen) (hle:∀y∈xs,y.length=es)
  (hsmall:xs.length<=281474976710656) (hr:RepDs w S xs.flatten (c.toList.take (xs.length*es))) :
  Grow w S β [(d,.lst E es xs)] (w.alloc (.cells c E)) S (fun k=>if k=d then ⟨w.heap.size,some ⟨w.heap.size,0,none⟩,xs.length,cap,true,[],[]⟩ else β k) /\
  RepV (w.alloc (.cells c E)) S (fun k=>if k=d then ⟨w.heap.size,some ⟨w.heap.size,0,none⟩,xs.length,cap,true,[],[]⟩ else β k) (.one (.ol d)) (.slice (some ⟨w.heap.size,0,none⟩) xs.length cap):=by
 refine ⟨Grow.new hlt _ d (.lst E es xs) ⟨w.heap.size,some ⟨w.heap.size,0,none⟩,xs.length,cap,true,[],[]⟩ rfl rfl rfl (.inl ⟨rfl,hsmall,hle,_,a0xq hc hn hcap,hr.mono (fun b hb=>Go.RowKit.Below.heap_alloc w _ b (hlt b hb)) fun _ h=>h⟩),RepV.one ?_⟩
 have:(Value.slice (some ⟨w.heap.size,0,none⟩) xs.length cap)=((fun k=>if k=d then (⟨w.heap.size,some ⟨w.heap.size,0,none⟩,xs.length,cap,true,[],[]⟩:OLoc) else β k) d).sv:=by simp [OLoc.sv]
 rw [this]
 exact .ol
theorem a0Yq {ρa:Act} {w:World} {S:Nat->Prop} {β:Nat->OLoc} {ps:List (Nat×Operand)} {n:Nat} {e:TypeId} {i:TypeInfo} {zv:Value} {cs out:List At} {ahOq:List (Nat×List At)} (ho:o.op = .buildSlice t n ps.toArray) (ht:P.underlying t=some (.slice e)) (hi:P.info? e=some i) (hz:i.zero=some zv) (hzs:zv.cells.size=i.size) (hpos:0<i.size)
  (hc:o3q zv.cells.toList=some cs) (hsm:n*i.size<=16777216) (has:s6q av ps=some ahOq) (hf:y5q (fun q=>some (q*i.size,i.size)) (a3z n cs).flatten ahOq=some out)
  (hr:∀x X,av x=some X->x∈o.op.operands->RepV w S β X (ρa.eval x)):∃ov:Array Value,(execOp ρa.eval o).run P w = .ok (.value (.slice (some ⟨w.heap.size,0,none⟩) n n)) (w.alloc (.cells ov e))/\RepAs w S β out ov.toList/\ov.size=n*i.size:=by
 have h1:=a2tq (w:=w) (S:=S) (β:=β) (ρ:=ρa.eval) ps ahOq (fun p hp X hX=>hr p.2 X hX (by simp [ho,a0z]; exact ⟨p.1,hp⟩)) (a0Bq ps ahOq has)
 have hz0:RepAs w S β (a3z n cs).flatten (madeCells zv.cells (n*i.size)).toList:=by
  rw [<-hzs,C8q _ (by omega)]
  exact a7nq (z4q hc) n
 obtain ⟨ov,hov,hrep⟩:=a46q ahOq _ _ (madeCells zv.cells (n*i.size)) out hz0 h1 hf
 have e2:ov.size=n*i.size:=by
   have:∀(place:Nat->Option (Nat×Nat)) (l:List (Nat×Value)) (c r:Array Value),b7z place c l=some r->r.size=c.size:=by
    intro place l
    induction l with
    | nil=>intro c r h; simp [b7z] at h; rw [h]
    | cons p l ih =>
     intro c r h
     obtain ⟨j,u⟩:=p
     simp only [b7z] at h
     split at h
     ·simp at h
     ·split at h
      ·simp at h
      ·rw [ih _ _ h,<-buz]
       generalize (u.cells.zipIdx).toList=q
       have:∀(q:List (Value×Nat)) (c:Array Value) (off:Nat),(q.foldl (fun cs (x:Value×Nat)=>cs.setIfInBounds (off+x.2) x.1) c).size=c.size:=by
        intro q
        induction q with
        | nil=>intro c off; rfl
        | cons x q ih=>intro c off; simp only [bAz]; rw [ih]; simp
       exact this ..
   rw [this _ _ _ _ hov,size_madeCells]
 refine ⟨ov,?_,hrep,e2⟩
 show (execOp ρa.eval o).run P w = .ok (.value (.slice (some ⟨w.heap.size,0,none⟩) n n)) (w.alloc (.cells ov e))
 ·by_cases hn0:n*i.size=0
  ·have hmz:madeCells zv.cells (n*i.size) = #[]:=by rw [hn0]; simp [madeCells,Array.range_zero']
   rw [hmz] at hov
   simp only [execOp,ho,bzz,run_underlying ht,acz,a5z,sizeOf,typeInfo,program,b4z,hi,ahz,if_neg (axz.2 hsm),hn0,if_true,ayz]
   simp [hov,newRow,Array.range_zero']
  ·simp only [execOp,ho,bzz,run_underlying ht,acz,a5z,sizeOf,typeInfo,program,b4z,hi,ahz,if_neg (axz.2 hsm),hn0,if_false,ayz,zeroValue,hz]
   unfold madeCells at hov
   simp [hov,newRow]
theorem a5vq {ps:List (Nat×Operand)} {n d:Nat} {e:TypeId} {i:TypeInfo} {zv:Value} {cs out:List At} {ds:List Da} {ahOq:List (Nat×List At)} (ho:o.op = .buildSlice t n ps.toArray) (ht:P.underlying t=some (.slice e)) (hi:P.info? e=some i) (hz:i.zero=some zv) (hzs:zv.cells.size=i.size) (hpos:0<i.size)
  (hc:o3q zv.cells.toList=some cs) (hsm:n*i.size<=16777216) (has:s6q av ps=some ahOq) (hf:y5q (fun q=>some (q*i.size,i.size)) (a3z n cs).flatten ahOq=some out) (hd:toDs out=some ds):OpP P o av [] (.one (.ol d)) [(d,.lst e i.size (x1q i.size n ds))]:=by
 intro a w S β hlt hr _ K Q hK
 obtain ⟨ov,he,hrep,e2⟩:=a0Yq (ρa:=a) ho ht hi hz hzs hpos hc hsm has hf hr
 have hlen:ds.length=n*i.size:=by
  have e1:=(hrep.toDs hd).len
  simp at e1; omega
 obtain ⟨g1,g2,g3⟩:=a4Kq n ds hlen
 unfold Oper.wp
 rw [he]
 have hov2:ov.toList.take ((x1q i.size n ds).length*i.size)=ov.toList:=by
  rw [g2]; apply amz; have:=(hrep.toDs hd).len; omega
 have hL:=a32q (β:=β) (d:=d) (E:=e) (es:=i.size) (cap:=n) (xs:=x1q i.size n ds) (c:=ov) hlt (by have:=(hrep.toDs hd).len; simp at this; omega) (by omega) (by unfold maxLen; have:n<=n*i.size:=bfz n hpos; omega) g3 (by rw [g2]; have:n<=n*i.size:=bfz n hpos; omega) (by rw [g1,hov2]; exact hrep.toDs hd)
 rw [g2] at hL
 exact hK _ _ S _ hL.1 hL.2
theorem a7hq {l c:Nat} {k k':IntKind} {d:Nat} {e:TypeId} {i:TypeInfo} {zv:Value} {cs:List At} {zd:List Da} (ho:o.op = .makeSlice t x z) (ht:P.underlying t=some (.slice e)) (hi:P.info? e=some i) (hz:i.zero=some zv) (hzs:zv.cells.size=i.size) (hpos:0<i.size)
  (hc:o3q zv.cells.toList=some cs) (hzd:toDs cs=some zd) (hx:av x=some (I k (l:Int))) (hzz:av z=some (I k' (c:Int))) (hlc:l<=c) (hb:i.bytes*c<=281474976710656) (hc48:c<=281474976710656):OpP P o av [] (.one (.ol d)) [(d,.lst e i.size (a3z l zd))]:=by
 intro a w S β hlt hr _ K Q hK
 have e1:=(hr x _ hx (by simp [ho,a0z])).int_inv
 have e2:=(hr z _ hzz (by simp [ho,a0z])).int_inv
 have hbb:(i.bytes:Int)*(c:Int)<=281474976710656:=by
  have h:((i.bytes*c:Nat):Int)<=281474976710656:=by omega
  rwa [Int.natCast_mul] at h
 have hrun:=run_make (P:=P) w t e i zv ht hi hz k k' l c (by omega) (by omega) hbb (by omega)
 simp only [Int.toNat_natCast] at hrun
 have he:(execOp a.eval o).run P w = .ok (.value (.slice (some ⟨w.heap.size,0,none⟩) l c)) (w.alloc (.cells (madeCells zv.cells (c*i.size)) e)):=by
  simp only [execOp,ho,e1,e2,acz,hrun,a5z,ahz]
 unfold Oper.wp
 rw [he]
 have hzr:RepDs w S zd zv.cells.toList:=(z4q (w:=w) (S:=S) (β:=β) hc).toDs hzd
 have hzl:zd.length=i.size:=by have:=hzr.len; simp at this; omega
 have hrr:RepDs w S (a3z l zd).flatten ((madeCells zv.cells (c*i.size)).toList.take ((a3z l zd).length*i.size)):=by
  have e3:(madeCells zv.cells (c*i.size)).toList.take ((a3z l zd).length*i.size)=(a3z l zv.cells.toList).flatten:=by
   have hs2:i.size=zv.cells.toList.length:=by simp [hzs]
   rw [<-hzs,C8q _ (by omega)]
   simp only [blz]
   have:=a0sq zv.cells.toList l c hlc
   simpa using this
  rw [e3]
  exact a14q hzr l
 have hL:=a32q (β:=β) (d:=d) (E:=e) (es:=i.size) (cap:=c) (xs:=a3z l zd) (c:=madeCells zv.cells (c*i.size)) hlt (by simp [size_madeCells]) (by simpa using hlc) (by unfold maxLen; omega) (fun y hy=>by simp at hy; rw [hy.2,hzl]) (by simp; omega) hrr
 simp only [blz] at hL
 exact hK _ _ S _ hL.1 hL.2
def ACall (P:Program) (f:FuncId) (xs:List AV) (r:AV) (nob:List (Nat×Ob)):Prop :=
 ∀(w:World) (S:Nat->Prop) (β:Nat->OLoc) (vs:List Value),(∀b,S b->b<w.heap.size)->RepVs w S β xs vs ->
  Calls P f vs.toArray w fun e w'=>∃v S' β',e = .returned v/\Grow w S β nob w' S' β'/\RepV w' S' β' r v
theorem RepVs.cons {w:World} {S:Nat->Prop} {β:Nat->OLoc} {x:AV} {v:Value} {xs:List AV} {vs:List Value} (h:RepV w S β x v) (k:RepVs w S β xs vs):RepVs w S β (x::xs) (v::vs):=by
 cases h with
 | one h _=>exact .one h k
 | dat h _=>exact .dat h k
 | agg h _=>exact .agg h k
 | tup h _=>exact .tup h k
def p7q (av:Operand->Option AV):List Operand->Option (List AV)
 | []=>some []
 | x::r=>match av x,p7q av r with
  | some c,some cs=>some (c::cs)
  | _,_=>none
theorem a2Oq {w:World} {S:Nat->Prop} {β:Nat->OLoc} {ρ:Operand->Value}:∀(ahOq:List Operand) (xs:List AV),(∀x X,av x=some X->x∈ahOq->RepV w S β X (ρ x))->p7q av ahOq=some xs->RepVs w S β xs (ahOq.map ρ):=by
 intro ahOq
 induction ahOq with
 | nil=>intro xs _ h; simp [p7q] at h; subst h; exact .nil
 | cons a ahOq ih =>
  intro xs hr h
  simp only [p7q] at h
  split at h
  ·rename_i c cs h1 h2
   simp at h; subst h
   exact RepVs.cons (hr a c h1 (by simp)) (ih cs (fun x X hx hm=>hr x X hx (by simp [hm])) h2)
  ·simp at h
theorem S8q {f:FuncId} {fn:Func} (hf:P.funcs[f]?=some fn) (hb:fn.body.isNone=false) (hname:(fn.name == "runtime.NumGoroutine")=false) (args:Array Value) (w:World):(callFunc f args).run P w = .ok (.enter f args) w:=by
 simp at hb hname
 obtain ⟨c,hc⟩:=aOz.1 hb
 simp [callFunc,hf,hc,hname]
end
def St.enter (i:Nat):List AV->List (Nat×AV)
 | []=>[]
 | x::r=>(i,x)::St.enter (i+1) r
theorem acqq {w:World} {S:Nat->Prop} {β:Nat->OLoc} {xs:List AV} {vs:List Value} (h:RepVs w S β xs vs):∀(k i:Nat) (x:AV),a1q (St.enter k xs) i=some x->∃v,k<=i/\vs[i-k]?=some v/\RepV w S β x v:=by
 have key:∀(xs:List AV) (vs:List Value),RepVs w S β xs vs->∀(k i:Nat) (x:AV),a1q (St.enter k xs) i=some x->∃v,k<=i/\vs[i-k]?=some v/\RepV w S β x v:=by
  intro xs
  induction xs with
  | nil=>intro vs _ k i x hx; simp [St.enter,a1q] at hx
  | cons y xs ih =>
   intro vs h k i x hx
   have hsp:∃v vs',vs=v::vs'/\RepV w S β y v/\RepVs w S β xs vs':=by
    cases h with
    | one h1 h2=>exact ⟨_,_,rfl,RepVs.one h1 .nil,h2⟩
    | dat h1 h2=>exact ⟨_,_,rfl,RepVs.dat h1 .nil,h2⟩
    | agg h1 h2=>exact ⟨_,_,rfl,RepVs.agg h1 .nil,h2⟩
    | tup h1 h2=>exact ⟨_,_,rfl,RepVs.tup h1 .nil,h2⟩
   obtain ⟨v,vs',rfl,hy,hr⟩:=hsp
   simp only [St.enter,a1q] at hx
   split at hx
   ·rename_i e
    simp at e hx
    subst e; subst hx
    exact ⟨v,apz _,by simp,hy⟩
   ·rename_i e
    obtain ⟨u,hk,hu,hrep⟩:=ih vs' hr (k+1) i x hx
    refine ⟨u,by omega,?_,hrep⟩
    have:i-k=(i-(k+1))+1:=by omega
    rw [this]; simpa using hu
 exact key xs vs h
mutual
def AV.map (f:At->At):AV->AV
 | .one x=>.one (f x)
 | .dat xs=>.dat xs
 | .agg xs=>w2q (xs.map f)
 | .tup ys=>.tup (AV.mapT f ys)
def AV.mapT (f:At->At):List AV->List AV
 | []=>[]
 | y::r=>y.map f::AV.mapT f r
end
def Ob.map (f:At->At):Ob->Ob
 | .var cs=>.var (cs.map f)
 | X=>X
def U9q (f:At->At):List (Nat×AV)->List (Nat×AV)
 | []=>[]
 | (i,x)::r=>(i,x.map f)::U9q f r
def a7Vq (f:At->At):List (Nat×Ob)->List (Nat×Ob)
 | []=>[]
 | (i,x)::r=>(i,x.map f)::a7Vq f r
def St.map (f:At->At) (s:St):St:=⟨U9q f s.tm,a7Vq f s.ob⟩
theorem s1q (f:At->At) (l:List (Nat×AV)) (i:Nat):a1q (U9q f l) i=(a1q l i).map (·.map f):=by
 induction l with
 | nil=>rfl
 | cons p l ih=>obtain ⟨k,x⟩:=p; simp only [U9q,a1q]; split <;> simp [ih]
theorem A7q (f:At->At) (l:List (Nat×Ob)) (i:Nat):a1q (a7Vq f l) i=(a1q l i).map (·.map f):=by
 induction l with
 | nil=>rfl
 | cons p l ih=>obtain ⟨k,x⟩:=p; simp only [a7Vq,a1q]; split <;> simp [ih]
section
variable {w w':World} {S S':Nat->Prop} {β β':Nat->OLoc} {f:At->At}
theorem RepAs.map {xs vs} (hf:∀x v,RepA w S β x v->RepA w' S' β' (f x) v) (h:RepAs w S β xs vs):RepAs w' S' β' (xs.map f) vs:=by
 induction h with
 | nil=>exact .nil
 | cons h _ ih=>exact .cons (hf _ _ h) ih
theorem RepVs.map {ys vs} (hf:∀x v,RepA w S β x v->RepA w' S' β' (f x) v) (hd:∀xs cs,RepDs w S xs cs->RepDs w' S' xs cs) (h:RepVs w S β ys vs):RepVs w' S' β' (AV.mapT f ys) vs:=by
 induction h with
 | nil=>exact .nil
 | one h _ ih=>exact .one (hf _ _ h) ih
 | dat h _ ih=>exact .dat (hd _ _ h) ih
 | agg h _ ih=>exact RepVs.cons (h.map hf).mk ih
 | tup _ _ ih1 ih2=>exact .tup ih1 ih2
theorem RepV.map {y v} (hf:∀x v,RepA w S β x v->RepA w' S' β' (f x) v) (hd:∀xs cs,RepDs w S xs cs->RepDs w' S' xs cs) (h:RepV w S β y v):RepV w' S' β' (y.map f) v:=RepVs.map hf hd h
end
def u1q (k:Nat) (xs:List (List Da)):At->At
 | .ol o=>if o==k then .d (.sl xs) else .ol o
 | .op o off=>if o==k then .junk else .op o off
 | .clo f caps=>if (caps.map (·.1)).contains k then .junk else .clo f caps
 | x=>x
def St.setOb (s:St) (k:Nat) (X:Ob):St:={ s with ob:=(k,X)::s.ob }
theorem a2sq (s:St) (k:Nat) (X:Ob) (o:Nat):(s.setOb k X).gob o=if o=k then some X else s.gob o:=by
 simp only [St.setOb,St.gob,a1q]
 by_cases h:k=o
 ·subst h; simp
 ·simp [h,Ne.symm h]
section
variable {Γ:Cx} {P:Program} {ops:Array Oper} {rest:List Oper} {o:Oper} {K:St->Prop} {s:St} {Q:Exit->St->Prop} {t:TypeId} {x z:Operand}
theorem Sim.setRow {a:Act} {w:World} {S:Nat->Prop} {β:Nat->OLoc} {k:Nat} {X X':Ob} {cur c2:Array Value} {E:TypeId} (h:Sim Γ s a w S β) (hk:s.gob k=some X) (hh:(β k).has=true) (hg:w.heap[(β k).blk]?=some (.cells cur E (0,0)))
  (hX:ObRep (w.setRow (β k).blk c2) S β (β k) X'):Sim Γ (s.setOb k X') a (w.setRow (β k).blk c2) S β:=by
 have hold:∀b,b≠(β k).blk->(w.setRow (β k).blk c2).heap[b]?=w.heap[b]?:=fun b hb=>setRow_other w _ b c2 hb
 have hkb:(β k).Own (β k).blk:=.inl ⟨hh,rfl⟩
 obtain ⟨o1,o2,o3⟩:=h.mem.own k X hk _ hkb
 have hS:∀b,S b->(w.setRow (β k).blk c2).heap[b]?=w.heap[b]?:=fun b hb=>hold b (fun e=>o2 (e ▸ hb))
 have hsz:(w.setRow (β k).blk c2).heap.size=w.heap.size:=by simp [World.setRow]
 have hT:∀o Y,(s.setOb k X').gob o=some Y->(o=k/\Y=X')\/(o≠k/\s.gob o=some Y):=by
  intro o Y ho
  rw [a2sq] at ho
  by_cases e:o=k
  ·rw [if_pos e] at ho; simp at ho; exact .inl ⟨e,ho.symm⟩
  ·rw [if_neg e] at ho; exact .inr ⟨e,ho⟩
 have hT':∀o Y,(s.setOb k X').gob o=some Y->∃Y',s.gob o=some Y':=by
  intro o Y ho
  rcases hT o Y ho with ⟨rfl,_⟩ | ⟨_,ho⟩
  ·exact ⟨_,hk⟩
  ·exact ⟨_,ho⟩
 refine ⟨h.defers,h.sz,fun i y hi => ?_,?_⟩
 ·obtain ⟨v,hv,hr⟩:=h.tm i y hi
  exact ⟨v,hv,hr.mono hS (fun _ h=>h) fun _ _=>rfl⟩
 ·refine ⟨fun b hb=>by rw [hsz]; exact h.mem.lt b hb,fun o Y ho => ?_,fun o Y ho b hho => ?_,fun o o' Y Y' ho ho' => ?_,h.mem.os,h.mem.tape,h.mem.output,by rw [hsz]; exact h.mem.size,fun b hb hp => ?_,h.mem.sub,h.mem.sup,h.mem.fix,fun o Y ho b hh => ?_,fun o o' Y Y' ho ho' b hh hh' => ?_⟩
  ·rcases hT o Y ho with ⟨rfl,rfl⟩ | ⟨hne,ho⟩
   ·exact hX
   ·exact (h.mem.ob o Y ho).mono (fun b hho=>hold _ fun e=>hne (h.mem.sep o k Y X ho hk b hho (e ▸ hkb))) hS (fun _ h=>h) fun _ _=>rfl
  ·obtain ⟨Y',ho'⟩:=hT' o Y ho
   rw [hsz]; exact h.mem.own o Y' ho' b hho
  ·obtain ⟨Z,hz⟩:=hT' o Y ho
   obtain ⟨Z',hz'⟩:=hT' o' Y' ho'
   exact h.mem.sep o o' Z Z' hz hz'
  ·refine (hold b fun e => ?_).trans (h.mem.block b hb hp)
   rcases o3 with o3 | o3
   ·omega
   ·exact hp (e ▸ o3)
  ·obtain ⟨Z,hz⟩:=hT' o Y ho
   exact h.mem.clm o Z hz b hh
  ·obtain ⟨Z,hz⟩:=hT' o Y ho
   obtain ⟨Z',hz'⟩:=hT' o' Y' ho'
   exact h.mem.sepc o o' Z Z' hz hz' b hh hh'
theorem RepA.oneCell {w:World} {S:Nat->Prop} {β:Nat->OLoc} {x:At} {v:Value} (h:RepA w S β x v) (hj:x ≠ .junk):v.oneCell'=true:=by
 cases h with
 | d h =>
  obtain ⟨_,h,_⟩:=h
  cases h with
  | tg h=>obtain ⟨_,_,_,rfl⟩:=h.sl_val; rfl
  | _=>rfl
 | junk=>exact absurd rfl hj
 | _=>rfl
theorem RepAs.oneCells {w:World} {S:Nat->Prop} {β:Nat->OLoc} {xs:List At} {vs:List Value} (h:RepAs w S β xs vs) (hj : .junk∉xs):∀v∈vs,v.oneCell'=true:=by
 induction h with
 | nil=>simp
 | cons h _ ih =>
  intro v hv
  simp only [abz,not_or] at hv hj
  rcases hv with rfl | hv
  ·exact h.oneCell fun e=>hj.1 e.symm
  ·exact ih hj.2 v hv
theorem RepDs.oneCells {w:World} {S:Nat->Prop} {xs:List Da} {vs:List Value} (h:RepDs w S xs vs):∀v∈vs,v.oneCell'=true :=
 (RepAs.of_ds (β:=fun _=>⟨0,none,0,0,false,[],[]⟩) h).oneCells (by simp)
def a0Oq:List At->Bool
 | []=>true
 | .junk::_=>false
 | _::r=>a0Oq r
theorem a9Uq {xs:List At} (h:a0Oq xs=true) : .junk∉xs:=by
 induction xs with
 | nil=>simp
 | cons x xs ih =>
  cases x <;> simp [a0Oq] at h <;> simp [ih h]
theorem abQq {k off:Nat} {Z:AV} {zs cs:List At} {j:TypeInfo} (ho:o.op = .store t x z) (hg:o.guard=none) (hd:o.dst=none) (hx:s.ev x=some (.one (.op k off))) (hz:s.ev z=some Z) (hc:Z.cells=some zs) (hk:s.gob k=some (.var cs)) (hj:P.info? t=some j) (hsz:j.size=zs.length)
  (hl:off+zs.length<=cs.length) (hnj:a0Oq zs=true) (h:d8q Γ P ops rest K (s.setOb k (.var (cs.take off++zs++cs.drop (off+zs.length))))):d8q Γ P ops (o::rest) K s:=by
 intro a w S β R hs hR
 refine wpList_plain hg fun K' hK => ?_
 have h1:=(hs.eval hx).one_inv
 have h2:=hs.eval hz
 have hcs:=h2.cells hc
 obtain ⟨hh,ar,E,hgb,hrep⟩:=hs.mem.ob k _ hk
 generalize hv:a.eval x=v at h1
 cases h1
 have hl1:=hcs.len
 have hl2:=hrep.len
 simp only [aaz] at hl1 hl2
 have hst:=run_storeCells_at P (β k).blk off E (a.eval z).cells.toList 0 ar w hgb (by simp; omega) (hcs.oneCells (a9Uq hnj))
 simp only [bcz,aaz] at hst
 have he:(execOp a.eval o).run P w = .ok .skip (w.setRow (β k).blk (ar.toList.take off++(a.eval z).cells.toList++ar.toList.drop (off+(a.eval z).cells.size)).toArray):=by
  have hszz:(a.eval z).cells.size=j.size:=by omega
  simp only [execOp,ho,hv,bHz,agz,storeVar,sizeOf,typeInfo,program,acz,b4z,ahz,a5z,hj,hszz,ne_eq,not_true_eq_false,if_false]
  rw [hszz] at hst
  simp [hst]
 unfold Oper.wp
 rw [he,Oper.upon_skip,hd]
 refine hK _ _ (h _ _ S β R (hs.setRow hk hh hgb ⟨hh,_,E,setRow_heap w _ ar _ E _ hgb,?_⟩) hR)
 have hS:∀b,S b->(w.setRow (β k).blk (ar.toList.take off++(a.eval z).cells.toList++ar.toList.drop (off+(a.eval z).cells.size)).toArray).heap[b]?=w.heap[b]?:=fun b hb=>setRow_other w _ b _ fun e=>(hs.mem.own k _ hk _ (.inl ⟨hh,rfl⟩)).2.1 (e ▸ hb)
 have t1:=hrep.take_drop 0 off
 have t2:=hrep.take_drop (off+zs.length) cs.length
 simp only [bnz] at t1
 rw [amz (by simp),amz (by simp; omega)] at t2
 have:=(t1.app hcs).app t2
 rw [show off+zs.length=off+(a.eval z).cells.size by omega] at this ⊢
 exact this.mono hS (fun _ h=>h) fun _ _=>rfl
theorem aa1q {k off n q E es:Nat} {Z:AV} {zs:List At} {ds c:List Da} {xs:List (List Da)} {j:TypeInfo} (ho:o.op = .store t x z) (hg:o.guard=none) (hd:o.dst=none) (hx:s.ev x=some (.one (.op k off))) (hz:s.ev z=some Z) (hc:Z.cells=some zs) (hds:toDs zs=some ds)
  (hk:s.gob k=some (.lst E es xs)) (hj:P.info? t=some j) (hsz:j.size=ds.length) (hn:xs[n]?=some c) (hoff:off=n*es+q) (hq:q+ds.length<=c.length) (hpos:0<ds.length)
  (h:d8q Γ P ops rest K (s.setOb k (.lst E es (xs.set n (c.take q++ds++c.drop (q+ds.length)))))):d8q Γ P ops (o::rest) K s:=by
 intro a w S β R hs hR
 refine wpList_plain hg fun K' hK => ?_
 have h1:=(hs.eval hx).one_inv
 have h2:=hs.eval hz
 have hcs:=(h2.cells hc).toDs hds
 have hnl0:n<xs.length:=(a1z.1 hn).1
 obtain ⟨hob,hsm,hle,vs,hown,hrep⟩:=ObRep.pos (hs.mem.ob k _ hk) (by omega)
 generalize hv:a.eval x=v at h1
 cases h1
 have hnl:n<xs.length:=(a1z.1 hn).1
 have hcl:c.length=es:=hle c (aVz hn)
 rcases hown.2 with ⟨_,h0⟩ | ⟨g,cap,cur,hsv,_,hgb,hcap,hcm,hcsz,htk⟩
 ·omega
 have hbh:(β k).has=true/\g=(β k).blk:=by
  rw [hsv] at hob
  simp only [Value.ownBlock] at hob
  split at hob
  ·rename_i e; exact ⟨e,by simpa using hob⟩
  ·simp at hob
 obtain ⟨hh,rfl⟩:=hbh
 rw [p1q hn] at hrep
 obtain ⟨v1,v2,rfl,d1,d2⟩:=hrep.split
 obtain ⟨v3,v4,rfl,d3,d4⟩:=d2.split
 have hl1:v1.length=n*es:=by rw [d1.len,i6q hle (bez hnl)]
 have hl3:v3.length=es:=by rw [d3.len,hcl]
 have hlz:=hcs.len
 simp only [aaz] at hlz
 have hne:n*es+es<=xs.length*es:=by rw [<-Nat.succ_mul]; exact aIz _ hnl
 have hxc:xs.length*es<=cap*es:=aIz _ hcap
 have hst:=run_storeCells_at P (β k).blk off E (a.eval z).cells.toList 0 cur w hgb (by simp; omega) hcs.oneCells
 simp only [bcz,aaz] at hst
 have he:(execOp a.eval o).run P w = .ok .skip (w.setRow (β k).blk (cur.toList.take off++(a.eval z).cells.toList++cur.toList.drop (off+(a.eval z).cells.size)).toArray):=by
  have hszz:(a.eval z).cells.size=j.size:=by omega
  simp only [execOp,ho,hv,bHz,agz,storeVar,sizeOf,typeInfo,program,acz,b4z,ahz,a5z,hj,hszz,ne_eq,not_true_eq_false,if_false]
  rw [hszz] at hst
  simp [hst]
 unfold Oper.wp
 rw [he,Oper.upon_skip,hd]
 have hlen:(xs.set n (c.take q++ds++c.drop (q+ds.length))).length=xs.length:=by simp
 have hcl':(c.take q++ds++c.drop (q+ds.length)).length=es:=by simp; omega
 have hS:∀b,S b->(w.setRow (β k).blk (cur.toList.take off++(a.eval z).cells.toList++cur.toList.drop (off+(a.eval z).cells.size)).toArray).heap[b]?=w.heap[b]?:=fun b hb=>setRow_other w _ b _ fun e=>(hs.mem.own k _ hk _ (.inl ⟨hh,rfl⟩)).2.1 (e ▸ hb)
 refine hK _ _ (h _ _ S β R (hs.setRow hk hh hgb (.inl ⟨hob,by simpa using hsm,fun y hy => ?_,(v1++((v3.take q++(a.eval z).cells.toList++v3.drop (q+ds.length))++v4)),⟨?_,.inr ⟨_,cap,_,by rw [hsv,hlen],aBz _,setRow_heap w _ cur _ E _ hgb,by simpa using hcap,hcm,by simp; omega,?_⟩⟩,?_⟩)) hR)
 ·rcases List.mem_or_eq_of_mem_set hy with hy | hy
  ·exact hle y hy
  ·rw [hy]; exact hcl'
 ·have:=hown.1
  simp only [aoz,akz,aJz,aaz,hlen] at this ⊢
  omega
 ·have hcur:cur.toList=(v1++(v3++v4))++cur.toList.drop (xs.length*es):=by rw [<-htk]; exact (a9z _ _).symm
  have h4:=hown.1
  simp only [aoz] at h4
  rw [hlen,hcur]
  have e1:((v1++(v3++v4))++cur.toList.drop (xs.length*es)).take off=v1++v3.take q:=by
   rw [hoff,a6z,List.take_append,amz (by omega),hl1,arz,a6z,List.take_append_of_le_length (by omega)]
  have e2:((v1++(v3++v4))++cur.toList.drop (xs.length*es)).drop (off+(a.eval z).cells.size)=v3.drop (q+ds.length)++(v4++cur.toList.drop (xs.length*es)):=by
   rw [hoff,a6z,List.drop_append,aSz (by omega),hl1,show n*es+q+(a.eval z).cells.size-n*es=q+ds.length by omega,a6z,List.drop_append_of_le_length (by omega)]
   simp
  simp only [List.toList_toArray]
  rw [e1,e2]
  rw [show v1++v3.take q++(a.eval z).cells.toList++(v3.drop (q+ds.length)++(v4++cur.toList.drop (xs.length*es)))=(v1++((v3.take q++(a.eval z).cells.toList++v3.drop (q+ds.length))++v4))++cur.toList.drop (xs.length*es) by simp [a6z]]
  apply aXz
  simp only [aoz,akz,aJz,aaz]
  omega
 ·have hfl:(xs.set n (c.take q++ds++c.drop (q+ds.length))).flatten=(xs.take n).flatten++((c.take q++ds++c.drop (q+ds.length))++(xs.drop (n+1)).flatten):=by
   have:=p1q (xs:=xs.set n (c.take q++ds++c.drop (q+ds.length))) (n:=n) (c:=c.take q++ds++c.drop (q+ds.length)) (by simp [hnl])
   rw [this,List.take_set_of_le (apz n),List.drop_set_of_lt (by omega)]
  rw [hfl]
  have dt:RepDs w S (c.take q) (v3.take q)/\RepDs w S (c.drop (q+ds.length)) (v3.drop (q+ds.length)):=by
   have e:c=c.take q++(((c.drop q).take ds.length)++c.drop (q+ds.length)):=by
    rw [<-List.drop_drop,a9z,a9z]
   rw [e] at d3
   obtain ⟨u1,u2,rfl,f1,f2⟩:=d3.split
   obtain ⟨u3,u4,rfl,f3,f4⟩:=f2.split
   have m1:u1.length=q:=by rw [f1.len]; simp; omega
   have m3:u3.length=ds.length:=by rw [f3.len]; simp; omega
   refine ⟨by rw [aXz m1]; exact f1,?_⟩
   rw [<-a6z,List.drop_left' (by simp; omega)]
   exact f4
  exact (d1.app (((dt.1.app hcs).app dt.2).app d4)).mono hS fun _ h=>h
def RowR (tr:Bool) (w:World) (S:Nat->Prop) (cl:List Nat) (xs:List Da) (vs:List Value):Prop:=match tr with
 | true=>∃fp,RepT w xs vs fp/\(∀b∈fp,S b/\b∈cl)/\fp.Nodup
 | false=>RepDs w S xs vs
theorem RowR.ds {tr:Bool} {w:World} {S:Nat->Prop} {cl:List Nat} {xs:List Da} {vs:List Value} (h:RowR tr w S cl xs vs):RepDs w S xs vs:=by
 cases tr with
 | true=>obtain ⟨fp,h1,h2,_⟩:=h; exact ⟨fp,h1.repF,fun b hb=>(h2 b hb).1⟩
 | false=>exact h
theorem RowR.app {tr:Bool} {w w':World} {S:Nat->Prop} {c1 c2:List Nat} {xs ys:List Da} {vs us:List Value} (h:RowR tr w S c1 xs vs) (k:RowR tr w S c2 ys us) (hk:∀b,S b->w'.heap[b]?=w.heap[b]?) (hd:∀b∈c1,b∉c2):RowR tr w' S (c1++c2) (xs++ys) (vs++us):=by
 cases tr with
 | true =>
  obtain ⟨f1,a1,a2,a3⟩:=h
  obtain ⟨f2,b1,b2,b3⟩:=k
  refine ⟨f1++f2,(a1.app b1).keep fun b hb => ?_,fun b hb => ?_,List.nodup_append.2 ⟨a3,b3,fun a ha b hb e => ?_⟩⟩
  ·rcases aiz.1 hb with hb | hb
   ·exact hk b (a2 b hb).1
   ·exact hk b (b2 b hb).1
  ·rcases aiz.1 hb with hb | hb
   ·exact ⟨(a2 b hb).1,aGz _ (a2 b hb).2⟩
   ·exact ⟨(b2 b hb).1,aAz _ (b2 b hb).2⟩
  ·subst e; exact hd a (a2 a ha).2 (b2 a hb).2
 | false=>exact (RepDs.app h k).mono hk fun _ h=>h
theorem RowR.nil {tr:Bool} {w:World} {S:Nat->Prop} {cl:List Nat}:RowR tr w S cl [] []:=by
 cases tr with
 | true=>exact ⟨[],.nil,by simp,by simp⟩
 | false=>exact RepDs.nil
def mkL (tr:Bool) (E:TypeId) (es:Nat) (xs:List (List Da)):Ob:=match tr with
 | true=>.tr E es xs
 | false=>.lst E es xs
theorem O4q {tr:Bool} {w:World} {S:Nat->Prop} {β:Nat->OLoc} {l:OLoc} {E es:Nat} {xs:List (List Da)}:ObRep w S β l (mkL tr E es xs)↔(l.sv.ownBlock=(if l.has then some l.blk else none)/\xs.length<=281474976710656/\(∀x∈xs,x.length=es)/\∃vs,w.ownsRow 0 E es l.sv xs.length vs/\RowR tr w S l.clm xs.flatten vs)\/ZC l xs:=by
 cases tr with
 | true=>exact or_congr ⟨fun ⟨h1,h2,h3,vs,fp,h4,h5⟩=>⟨h1,h2,h3,vs,h4,fp,h5⟩,fun ⟨h1,h2,h3,vs,h4,fp,h5⟩=>⟨h1,h2,h3,vs,fp,h4,h5⟩⟩ Iff.rfl
 | false=>exact Iff.rfl
theorem a1fq {tr:Bool} {w:World} {S:Nat->Prop} {β:Nat->OLoc} {l:OLoc} {E es:Nat} {xs:List (List Da)} (h:ObRep w S β l (mkL tr E es xs)):xs.length<=281474976710656/\∀x∈xs,x.length=es:=by
 rcases O4q.1 h with ⟨_,h1,h2,_⟩ | ⟨_,rfl,_⟩
 ·exact ⟨h1,h2⟩
 ·simp
structure Src (w:World) (R:List Value->Prop) (es m:Nat) (v:Value):Prop where
 small:m<=281474976710656
 val:(∃a c,v = .slice a 0 c/\m=0/\R [])\/∃a c us,v = .slice (some a) m c/\us.length=m*es/\(R us/\∀u∈us,u.oneCell'=true)/\∀j u,us[j]?=some u->w.cell? (a.add j)=some u
theorem a6pq {es:Nat} (hpos:0<es) {ys:List (List Da)} (h:ys.flatten=[]) (hes:∀y∈ys,y.length=es):ys=[]:=by
 cases ys with
 | nil=>rfl
 | cons y ys =>
  have h1:=hes y (by simp)
  simp at h
  rw [h.1] at h1
  simp at h1; omega
theorem Src.of_data {w:World} {S:Nat->Prop} {es:Nat} {ys:List (List Da)} {v:Value} (hpos:0<es) (h:RepDs w S [.sl ys] [v]) (hes:∀y∈ys,y.length=es):Src w (RepDs w S ys.flatten) es ys.length v:=by
 obtain ⟨a,cap,rfl,h1,h2,h3⟩:=h.sl_inv
 refine ⟨h2,?_⟩
 rcases h3 with h3 | ⟨b,off,us,es',rfl,hS,hb,hd,hes',hm⟩
 ·have:=a6pq hpos h3 hes
  subst this
  exact .inl ⟨_,_,rfl,rfl,RepDs.nil⟩
 ·refine .inr ⟨_,_,us,rfl,?_,⟨hd,hd.oneCells⟩,fun j u hu=>by rw [o7q]; exact hm j u hu⟩
  rw [hd.len,s0q hes]
theorem Src.of_own {tr:Bool} {w:World} {S:Nat->Prop} {β:Nat->OLoc} {k E es:Nat} {ys:List (List Da)} (h:ObRep w S β (β k) (mkL tr E es ys)):Src w (RowR tr w S (β k).clm ys.flatten) es ys.length (β k).sv:=by
 rcases O4q.1 h with ⟨hob,hsm,hle,vs,hown,hrep⟩ | ⟨_,rfl,a,hz⟩
 rotate_left
 ·exact ⟨by simp,.inl ⟨a,0,hz,rfl,RowR.nil⟩⟩
 refine ⟨hsm,?_⟩
 rcases hown.2 with ⟨hsv,h0⟩ | ⟨g,cap,cur,hsv,_,hgb,hcap,hcm,hcsz,htk⟩
 ·have:=a2z h0
  subst this
  exact .inl ⟨_,_,hsv,rfl,RowR.nil⟩
 ·refine .inr ⟨⟨g,0,none⟩,cap,vs,hsv,hown.1,⟨hrep,hrep.ds.oneCells⟩,fun j u hu => ?_⟩
  rw [o7q,aFz,p0q hgb,<-atz]
  rw [<-htk,asz] at hu
  split at hu
  ·exact hu
  ·simp at hu
theorem Src.mono {w:World} {R R':List Value->Prop} {es m:Nat} {v:Value} (h:Src w R es m v) (hr:∀us,R us->R' us):Src w R' es m v :=
 ⟨h.small,h.val.imp (fun ⟨a,c,h1,h2,h3⟩=>⟨a,c,h1,h2,hr _ h3⟩) fun ⟨a,c,us,h1,h2,⟨h3,h4⟩,h5⟩=>⟨a,c,us,h1,h2,⟨hr _ h3,h4⟩,h5⟩⟩
theorem a2dq {w:World} {E es n g:Nat} {vs us:List Value} {zc:Array Value} (hl:(vs++us).length=n*es) (hz:zc.size=es) (hn:n<=g) (hg:g<=maxLen) :
  (w.drew.alloc (.cells (vs.toArray++us.toArray++b5z zc (g-n)) E)).ownsRow 0 E es (.slice (some ⟨w.heap.size,0,none⟩) n g) n (vs++us):=by
 have h:=a0xq (w:=w.drew) (E:=E) (es:=es) (n:=n) (cap:=g) (c:=vs.toArray++us.toArray++b5z zc (g-n)) (by
  simp only [Array.size_append,bwz,size_zeroCells,hz]
  have:n*es+(g-n)*es=g*es:=by rw [<-b1z]; congr 1; omega
  simp only [aoz] at hl
  omega) hn hg
 have e:(vs.toArray++us.toArray++b5z zc (g-n)).toList.take (n*es)=vs++us:=by
  simp only [Array.toList_append]
  apply aXz
  rw [hl]
 rw [e] at h
 exact h
theorem aawq {P:Program} {w:World} {R:List Value->Prop} {E es n m:Nat} {t ty:TypeId} {i:TypeInfo} {zv:Value} {v1 v2:Value} {vs:List Value} (ht:P.underlying t=some (.slice E)) (hi:P.info? E=some i) (hz:i.zero=some zv) (hes:i.size=es) (hzs:zv.cells.size=es) (hpos:0<es)
  (hown:w.ownsRow 0 E es v1 n vs) (hsrc:Src w R es m v2) (hsm:(n+m)*i.bytes<=140737488355328) (hn48:n+m<=281474976710656) :
  ∃v' w' us,(auz #[t,t] ty #[v1,v2]).run P w = .ok v' w'/\w'.ownsRow 0 E es v' (n+m) (vs++us)/\R us/\w.grownBy w' v1.ownBlock/\(v'.ownBlock=v1.ownBlock\/v'.ownBlock=some w.heap.size):=by
 rcases hsrc.val with ⟨a,c,rfl,rfl,hR⟩ | ⟨a,c,us,rfl,hl,⟨hd,hone⟩,hm⟩
 ·refine ⟨v1,w,[],?_,by simpa using hown,hR,⟨rfl,rfl,rfl,apz _,fun _ _ _=>rfl⟩,.inl rfl⟩
  obtain ⟨b,cap,rfl,hc⟩:=M9q hown
  cases a <;> cases b <;> simp [auz,run_underlying ht,sizeOf,typeInfo,hi,bsz,hc,aZz,loadCells,loadCellsFrom,storeCells]
 ·by_cases hm0:m=0
  ·subst hm0
   have hus:us=[]:=a2z (by simpa using hl)
   subst hus
   refine ⟨v1,w,[],?_,by simpa using hown,hd,⟨rfl,rfl,rfl,apz _,fun _ _ _=>rfl⟩,.inl rfl⟩
   obtain ⟨b,cap,rfl,hc⟩:=M9q hown
   cases b <;> simp [auz,run_underlying ht,sizeOf,typeInfo,hi,bsz,hc,aZz,loadCells,loadCellsFrom,storeCells]
  ·subst hes
   have hlen:(vs++us).length=(n+m)*i.size:=by rw [aoz,hown.1,hl,b1z]
   have h63:n+m<=maxLen:=by unfold maxLen; omega
   rcases hown.2 with ⟨rfl,rfl⟩ | ⟨g,cap,cur,rfl,hbg,hg,hnc,hcm,hcs,htake⟩
   ·have hx:vs=[]:=a2z (by simpa using hown.1)
    subst hx
    have hr:=run_append_nil (P:=P) w t ty E i zv ht hi hz a m c us hl hm (by omega) (by omega) (by have hb:=hsm; simp only [aFz] at hb; omega)
    simp only [aFz] at hsm hn48 hlen h63 ⊢
    have hgr:=a2dq (w:=w) (E:=E) (zc:=zv.cells) hlen hzs (grownCap_ge w m 0 E) (grownCap_le_maxLen w m 0 E h63)
    simp only [bBz] at hgr ⊢
    rw [show ([]:List Value).toArray++us.toArray=us.toArray by simp] at hgr
    exact ⟨_,_,us,hr,hgr,hd,⟨rfl,rfl,rfl,by simp,fun k hk _=>heap_alloc_old w.drew _ hk⟩,.inr rfl⟩
   ·by_cases hroom:n+m<=cap
    ·have hfit:n*i.size+us.length<=cur.size:=by rw [hl,hcs,<-b1z]; exact aIz _ hroom
     have hr:=run_append_room (P:=P) w t ty E i ht hi g n cap cur hg a m c us hl hm hone hroom hfit
     refine ⟨_,_,us,hr,⟨hlen,.inr ⟨g,cap,_,rfl,hbg,setRow_heap w g cur _ E _ hg,hroom,hcm,?_,?_⟩⟩,hd,⟨rfl,rfl,rfl,by simp,fun k _ hk=>setRow_other w g k _ (fun e=>hk (by simp [Value.ownBlock,e]))⟩,.inl rfl⟩
     ·simp only [bwz,aoz,akz,aJz,aaz]
      omega
     ·rw [htake,<-hlen]
      exact List.take_left
    ·have holds:∀j u,vs[j]?=some u->w.cell? ((⟨g,0,none⟩:Addr).add j)=some u:=hown.cells (g:=g) rfl
     have hr:=run_append_grow (P:=P) w t ty E i zv ht hi hz ⟨g,0,none⟩ n cap vs hown.1 holds a m c us hl hm (by omega) (by omega) (growslice_fits (by omega) hsm)
     have hgr:=a2dq (w:=w) (E:=E) (zc:=zv.cells) hlen hzs (grownCap_ge w (n+m) cap E) (grownCap_le_maxLen w (n+m) cap E h63)
     exact ⟨_,_,us,hr,hgr,hd,⟨rfl,rfl,rfl,by simp,fun k hk _=>heap_alloc_old w.drew _ hk⟩,.inr rfl⟩
theorem adXq {P:Program} {w:World} {R:List Value->Prop} {E es m:Nat} {t ty:TypeId} {i:TypeInfo} {zv:Value} {a1:Option Addr} {v2:Value} (ht:P.underlying t=some (.slice E)) (hi:P.info? E=some i) (hz:i.zero=some zv) (hes:i.size=es) (hzs:zv.cells.size=es) (hpos:0<es)
  (hsrc:Src w R es m v2) (hsm:m*i.bytes<=140737488355328) (hn48:m<=281474976710656) :
  ∃v' w' us,(auz #[t,t] ty #[.slice a1 0 0,v2]).run P w = .ok v' w'/\R us/\w.grownBy w' none/\((w'.ownsRow 0 E es v' m us/\(v'.ownBlock=none\/v'.ownBlock=some w.heap.size))\/(v' = .slice a1 0 0/\m=0/\us=[])):=by
 have empty:∀(b1:Addr) (a:Option Addr) (c:Nat),(auz #[t,t] ty #[.slice (some b1) 0 0,.slice a 0 c]).run P w = .ok (.slice (some b1) 0 0) w:=by
  intro b1 a c
  cases a <;> simp [auz,run_underlying ht,sizeOf,typeInfo,hi,bsz,aZz,loadCells,loadCellsFrom,storeCells]
 cases a1 with
 | none =>
  obtain ⟨v',w',us,h1,h2,h3,h4,h5⟩:=aawq (P:=P) (ty:=ty) (n:=0) (vs:=[]) ht hi hz hes hzs hpos (World.ownsRow_nil w 0 E es) hsrc (by simpa using hsm) (by simpa using hn48)
  exact ⟨v',w',us,h1,h3,h4,.inl ⟨by simpa using h2,h5⟩⟩
 | some b1 =>
  rcases hsrc.val with ⟨a,c,rfl,rfl,hR⟩ | ⟨a,c,us,rfl,hl,⟨hd,hone⟩,hm⟩
  ·exact ⟨_,w,[],empty b1 a c,hR,⟨rfl,rfl,rfl,apz _,fun _ _ _=>rfl⟩,.inr ⟨rfl,rfl,rfl⟩⟩
  ·by_cases hm0:m=0
   ·subst hm0
    have hus:us=[]:=a2z (by simpa using hl)
    subst hus
    exact ⟨_,w,[],empty b1 _ c,hd,⟨rfl,rfl,rfl,apz _,fun _ _ _=>rfl⟩,.inr ⟨rfl,rfl,rfl⟩⟩
   ·subst hes
    have h63:m<=maxLen:=by unfold maxLen; omega
    have hr:=run_append_grow (P:=P) w t ty E i zv ht hi hz b1 0 0 [] (by simp) (by simp) a m c us hl hm (by omega) (by omega) (growslice_fits (by omega) (by simpa using hsm))
    have hgr:=a2dq (w:=w) (E:=E) (zc:=zv.cells) (vs:=[]) (us:=us) (n:=m) (by simpa using hl) hzs (grownCap_ge w m 0 E) (grownCap_le_maxLen w m 0 E h63)
    simp only [aFz,bBz] at hr hgr
    exact ⟨_,_,us,hr,hd,⟨rfl,rfl,rfl,by simp,fun k hk _=>heap_alloc_old w.drew _ hk⟩,.inl ⟨hgr,.inr rfl⟩⟩
def killL (ks:List Nat) (x:At):At:=if x.ids.any ks.contains then .junk else x
def F2q {α:Type} (l:List (Nat×α)):List Nat->List (Nat×α)
 | []=>l
 | i::r=>F2q (J7q l i) r
theorem H3q {α:Type} (l:List (Nat×α)) (is:List Nat) (o:Nat):a1q (F2q l is) o=if o∈is then none else a1q l o:=by
 induction is generalizing l with
 | nil=>simp [F2q]
 | cons i r ih =>
  simp only [F2q,ih,E2q,abz]
  by_cases h1:o∈r
  ·simp [h1]
  ·by_cases h2:o=i
   ·simp [h2]
   ·have:¬i=o:=fun e=>h2 e.symm
    simp [h1,h2,this]
theorem RepA.killL {w w':World} {S S':Nat->Prop} {β β':Nat->OLoc} {ks:List Nat} (hk:∀b,S b->w'.heap[b]?=w.heap[b]?) (hs:∀b,S b->S' b) (hβ:∀o,o∉ks->β' o=β o) (x:At) (v:Value) (h:RepA w S β x v):RepA w' S' β' (killL ks x) v:=by
 unfold AM.killL
 split
 ·exact .junk
 ·rename_i hc
  refine h.mono hk hs fun o ho=>hβ o fun hm=>hc ?_
  exact b8z.2 ⟨o,ho,by simpa using hm⟩
def St.appd (s:St) (dst:Option Nat) (k:Nat) (ks:List Nat) (X:Ob):St :=
 let s1:=s.map (killL (k::ks))
 { tm:=match dst with | some d=>(d,.one (.ol k))::s1.tm | none=>s1.tm,ob:=(k,X)::F2q s1.ob ks }
theorem a8Eq (dst:Option Nat) (k:Nat) (ks:List Nat) (X:Ob) (i:Nat):(s.appd dst k ks X).get i=if dst=some i then some (.one (.ol k)) else (s.get i).map (·.map (killL (k::ks))):=by
 cases dst with
 | none=>simp only [St.appd,St.get,St.map,s1q]; simp
 | some d =>
  simp only [St.appd,St.get,a1q,St.map,s1q,Option.some.injEq]
  by_cases h:d=i <;> simp [h]
theorem adLq (dst:Option Nat) (k:Nat) (ks:List Nat) (X:Ob) (o:Nat):(s.appd dst k ks X).gob o=if o=k then some X else if o∈ks then none else (s.gob o).map (·.map (killL (k::ks))):=by
 simp only [St.appd,St.gob,a1q,H3q,St.map,A7q]
 by_cases h:k=o
 ·subst h; simp
 ·simp [h,Ne.symm h]
theorem ObRep.map {w w':World} {S S':Nat->Prop} {β β':Nat->OLoc} {f:At->At} {l:OLoc} {X:Ob} (hf:∀x v,RepA w S β x v->RepA w' S' β' (f x) v) (hb:∀b,l.Own b->w'.heap[b]?=w.heap[b]?) (hk:∀b,S b->w'.heap[b]?=w.heap[b]?) (hs:∀b,S b->S' b) (h:ObRep w S β l X):ObRep w' S' β' l (X.map f):=by
 cases X with
 | var cs =>
  obtain ⟨h1,c,E,h2,h3⟩:=h
  exact ⟨h1,c,E,(hb _ (.inl ⟨h1,rfl⟩)).trans h2,h3.map hf⟩
 | lst E es xs=>exact h.mono hb hk hs (by simp [Ob.ids])
 | tr E es xs=>exact h.mono hb hk hs (by simp [Ob.ids])
 | tk xs=>exact h.mono hb hk hs (by simp [Ob.ids])
 | mt E es xs=>exact h.mono hb hk hs (by simp [Ob.ids])
 | mu E es xs m q a n c=>exact h.mono hb hk hs (by simp [Ob.ids])
 | fu E es xs c=>exact h.mono hb hk hs (by simp [Ob.ids])
theorem adRq {tr:Bool} {k E es:Nat} {ks:List Nat} {xs ys:List (List Da)} {i:TypeInfo} {zv:Value} (hold:(∃tr0,s.gob k=some (mkL tr0 E es xs)/\(tr=true->tr0=true)/\s.ev x=some (.one (.ol k)))\/(s.ev x=some (.one .e0)/\xs=[]/\s.fresh [(k,.lst E es [])]=true))
  (ho:o.op = .call { callee:=.builtin .append,args := #[x,z],argTypes := #[t,t] }) (hg:o.guard=none) (hd:o.dst.all (· < Γ.n)=true) (ht:P.underlying t=some (.slice E)) (hi:P.info? E=some i) (hz:i.zero=some zv) (hes:i.size=es) (hzs:zv.cells.size=es) (hpos:0<es)
  (hsrc:∀a w S β,Sim Γ s a w S β->∃cl2,Src w (RowR tr w S cl2 ys.flatten) es ys.length (a.eval z)/\(cl2=[]\/∃k2 X2,k2∈ks/\k2≠k/\s.gob k2=some X2/\cl2=(β k2).clm)) (hyes:∀y∈ys,y.length=es) (hsm:(xs.length+ys.length)*i.bytes<=140737488355328) (hn48:xs.length+ys.length<=281474976710656)
  (h:d8q Γ P ops rest K (s.appd o.dst k ks (mkL tr E es (xs++ys)))) (hlow:k<2000):d8q Γ P ops (o::rest) K s:=by
 intro a w S β R hs hR
 refine wpList_plain hg fun K' hK => ?_
 obtain ⟨cl2,hS2,hcl2⟩:=hsrc a w S β hs
 have hc2:∀b∈cl2,∃k2 X2,k2∈ks/\k2≠k/\s.gob k2=some X2/\b∈(β k2).clm:=by
  intro b hb
  rcases hcl2 with rfl | ⟨k2,X2,h1,h2,h3,rfl⟩
  ·cases hb
  ·exact ⟨k2,X2,h1,h2,h3,hb⟩
 have hrow:∃l:OLoc,∃vs,a.eval x=l.sv/\((l.sv.ownBlock=(if l.has then some l.blk else none)/\w.ownsRow 0 E es l.sv xs.length vs)\/((∀b,¬l.Own b)/\l.sub=[]/\xs=[]/\vs=[]/\∃a,l.sv = .slice a 0 0))/\RowR tr w S l.clm xs.flatten vs/\(∀y∈xs,y.length=es) /\
   (∀b,l.Own b->b<w.heap.size/\¬S b/\(Γ.w0.heap.size<=b\/Γ.pass b))/\(∀o X,o≠k->s.gob o=some X->∀b,(β o).Own b->¬l.Own b) /\
   (∀b∈l.clm,∃X,s.gob k=some X/\b∈(β k).clm):=by
  rcases hold with ⟨tr0,hk,htr,hx⟩ | ⟨hx,rfl,hf⟩
  ·have h1:=(hs.eval hx).one_inv
   generalize hv:a.eval x=v at h1
   cases h1
   rcases O4q.1 (hs.mem.ob k _ hk) with ⟨hob,hsm1,hle,vs,hown,hrep⟩ | ⟨_,rfl,ad,hzc⟩
   ·replace hrep:RowR tr w S (β k).clm xs.flatten vs:=by
     cases tr with
     | true=>rw [htr rfl] at hrep; exact hrep
     | false=>exact hrep.ds
    exact ⟨β k,vs,rfl,.inl ⟨hob,hown⟩,hrep,hle,fun b hh=>hs.mem.own k _ hk b hh,fun o X hne ho b hho hh=>hne (hs.mem.sep o k X _ ho hk b hho hh),fun b hb=>⟨_,hk,hb⟩⟩
   ·have hno:∀b,¬({ β k with has:=false,blk:=0,sub:=[] }:OLoc).Own b:=fun b hb=>by (rcases hb with ⟨h,_⟩ | h <;> simp at h)
    exact ⟨{ β k with has:=false,blk:=0,sub:=[] },[],rfl,.inr ⟨hno,rfl,rfl,rfl,ad,hzc⟩,RowR.nil,by simp,fun b hb=>(hno b hb).elim,fun _ _ _ _ b _ hb=>hno b hb,fun b hb=>⟨_,hk,hb⟩⟩
  ·have h1:=(hs.eval hx).one_inv
   generalize hv:a.eval x=v at h1
   cases h1
   refine ⟨⟨0,none,0,0,false,[],[]⟩,[],rfl,.inl ⟨rfl,⟨by simp,.inl ⟨rfl,rfl⟩⟩⟩,RowR.nil,by simp,fun b hb=>by (rcases hb with ⟨h,_⟩ | h <;> simp at h),fun _ _ _ _ b _ hb=>by (rcases hb with ⟨h,_⟩ | h <;> simp at h),by simp⟩
 obtain ⟨l,vs,hev,hown,hrep,hle,hlown,hlsep,hlc⟩:=hrow
 have hpost:∃v' w' us,∃l':OLoc,(auz #[t,t] o.type #[l.sv,a.eval z]).run P w = .ok v' w'/\RowR tr w S cl2 ys.flatten us/\(w'.os=w.os/\w'.tape=w.tape/\w'.output=w.output/\w.heap.size<=w'.heap.size)/\(∀b,b<w.heap.size->¬l.Own b->w'.heap[b]?=w.heap[b]?) /\
   l'.sv=v'/\((l'.sv.ownBlock=(if l'.has then some l'.blk else none)/\w'.ownsRow 0 E es l'.sv (xs.length+ys.length) (vs++us))\/(l'.has=false/\xs.length+ys.length=0/\∃a,l'.sv = .slice a 0 0))/\(∀b,l'.Own b->b<w'.heap.size/\(l.Own b\/b=w.heap.size))/\l'.clm=l.clm++cl2:=by
  have fin:∀(v':Value) (w':World) (us:List Value),w'.ownsRow 0 E es v' (xs.length+ys.length) (vs++us)->w.heap.size<=w'.heap.size->(∀b,l.Own b->b<w.heap.size)->(∀bk,v'.ownBlock=some bk->l.Own bk\/bk=w.heap.size) ->
    ∃l':OLoc,l'.sv=v'/\(l'.sv.ownBlock=(if l'.has then some l'.blk else none)/\w'.ownsRow 0 E es l'.sv (xs.length+ys.length) (vs++us))/\(∀b,l'.Own b->b<w'.heap.size/\(l.Own b\/b=w.heap.size))/\l'.clm=l.clm++cl2:=by
   intro v' w' us hown' hsz hll hwh
   obtain ⟨ad,cap,hv',hcap⟩:=M9q hown'
   have hsv:(OLoc.sv { blk:=(v'.ownBlock).getD 0,sa:=ad,sn:=xs.length+ys.length,sc:=cap,has:=(v'.ownBlock).isSome,sub:=l.sub,clm:=l.clm++cl2 })=v':=hv'.symm
   refine ⟨{ blk:=(v'.ownBlock).getD 0,sa:=ad,sn:=xs.length+ys.length,sc:=cap,has:=(v'.ownBlock).isSome,sub:=l.sub,clm:=l.clm++cl2 },hsv,⟨?_,by rw [hsv]; exact hown'⟩,fun b hh => ?_,rfl⟩
   ·rw [hsv]; cases v'.ownBlock <;> simp
   ·rcases hh with ⟨hh,rfl⟩ | hh
    ·dsimp only at hh ⊢
     obtain ⟨bk,hbk⟩:=aOz.1 hh
     rw [hbk]
     exact ⟨(hown'.lt bk hbk).2,hwh bk hbk⟩
    ·exact ⟨adz (hll b (.inr hh)) hsz,.inl (.inr hh)⟩
  rcases hown with ⟨hob,hown⟩ | ⟨hno,hsub0,hxs,rfl,ad,hz0⟩
  ·obtain ⟨v',w',us,hrun,hown',hus,hgr,hwhere⟩:=aawq (P:=P) (ty:=o.type) ht hi hz hes hzs hpos hown hS2 hsm hn48
   have hrow1:∀b,l.sv.ownBlock=some b->l.has=true/\l.blk=b:=by
    intro b hb
    rw [hob] at hb
    split at hb
    ·rename_i e; simp at hb; exact ⟨e,hb⟩
    ·simp at hb
   obtain ⟨l',f1,f2,f3,f4⟩:=fin v' w' us hown' hgr.size (fun b hb=>(hlown b hb).1) fun bk hbk=>by
    rcases hwhere with e | e
    ·exact .inl (.inl (hrow1 bk (e ▸ hbk)))
    ·rw [hbk] at e; simp at e; exact .inr e
   exact ⟨v',w',us,l',hrun,hus,⟨hgr.os,hgr.tape,hgr.output,hgr.size⟩,fun b hb hn=>hgr.block b hb fun e=>hn (.inl (hrow1 b e.symm)),f1,.inl f2,f3,f4⟩
  ·subst hxs
   simp only [List.length_nil,aFz] at hsm hn48 fin ⊢
   rw [hz0]
   obtain ⟨v',w',us,hrun,hus,hgr,hc⟩:=adXq (P:=P) (ty:=o.type) (a1:=ad) ht hi hz hes hzs hpos hS2 hsm hn48
   have hkeep:∀b,b<w.heap.size->¬l.Own b->w'.heap[b]?=w.heap[b]?:=fun b hb _=>hgr.block b hb (by simp)
   rcases hc with ⟨hown',hwhere⟩ | ⟨rfl,hm0,rfl⟩
   ·obtain ⟨l',f1,f2,f3,f4⟩:=fin v' w' us (by simpa using hown') hgr.size (fun b hb=>(hno b hb).elim) fun bk hbk=>by
     rcases hwhere with e | e
     ·rw [hbk] at e; simp at e
     ·rw [hbk] at e; simp at e; exact .inr e
    exact ⟨v',w',us,l',hrun,hus,⟨hgr.os,hgr.tape,hgr.output,hgr.size⟩,hkeep,f1,.inl (by simpa using f2),f3,f4⟩
   ·exact ⟨_,w',[],{ l with has:=false,clm:=l.clm++cl2 },hrun,hus,⟨hgr.os,hgr.tape,hgr.output,hgr.size⟩,hkeep,hz0,.inr ⟨rfl,hm0,ad,hz0⟩,fun b hb=>by
     rcases hb with ⟨h,_⟩ | h
     ·simp at h
     ·rw [show ({ l with has:=false,clm:=l.clm++cl2 }:OLoc).sub=l.sub from rfl,hsub0] at h; simp at h,rfl⟩
 obtain ⟨v',w',us,l',hrun,hus,⟨hgos,hgtape,hgout,hgsize⟩,hkeep,hl'sv,hl'ob,hl'blk,hl'clm⟩:=hpost
 have he:(execOp a.eval o).run P w = .ok (.value v') w':=by
  simp only [execOp,ho,resolve,invoke,builtin,acz,ahz,a5z,ayz,bIz,List.map_nil,hev,hrun]
 unfold Oper.wp
 rw [he,Oper.upon_value]
 have hS:∀b,S b->w'.heap[b]?=w.heap[b]?:=fun b hb=>hkeep b (hs.mem.lt b hb) fun hh=>(hlown _ hh).2.1 hb
 let β':Nat->OLoc:=fun o=>if o=k then l' else β o
 have hβ':∀o,o≠k->β' o=β o:=fun o h=>if_neg h
 have hβk:β' k=l':=if_pos rfl
 have hkill:∀y v,RepA w S β y v->RepA w' S β' (killL (k::ks) y) v:=fun y v h=>RepA.killL hS (fun _ h=>h) (fun o ho=>hβ' o fun e=>ho (by simp [e])) y v h
 have hkd:∀xs cs,RepDs w S xs cs->RepDs w' S xs cs:=fun xs cs h=>h.mono hS fun _ h=>h
 have hTk:∀o' X,(s.appd o.dst k ks (mkL tr E es (xs++ys))).gob o'=some X->(o'=k/\X=mkL tr E es (xs++ys))\/(o'≠k/\o'∉ks/\∃Y,s.gob o'=some Y/\X=Y.map (killL (k::ks))):=by
  intro o' X h
  rw [adLq] at h
  by_cases e:o'=k
  ·rw [if_pos e] at h; simp at h; exact .inl ⟨e,h.symm⟩
  ·rw [if_neg e] at h
   by_cases e2:o'∈ks
   ·rw [if_pos e2] at h; simp at h
   ·rw [if_neg e2] at h
    cases hY:s.gob o' with
    | none=>rw [hY] at h; simp at h
    | some Y=>rw [hY] at h; simp at h; exact .inr ⟨e,e2,Y,rfl,h.symm⟩
 have hapart:∀o' X,o'≠k->s.gob o'=some X->∀b,(β o').Own b->¬l'.Own b:=by
  intro o' X hne ho' b hh hh'
  rcases (hl'blk b hh').2 with hlh | e2
  ·exact hlsep o' X hne ho' b hh hlh
  ·have:=(hs.mem.own o' X ho' b hh).1; omega
 have hcd:∀b∈l.clm,b∉cl2:=by
  intro b hb hb2
  obtain ⟨X,hX,h1⟩:=hlc b hb
  obtain ⟨k2,X2,_,h2,h3,h4⟩:=hc2 b hb2
  exact h2 (hs.mem.sepc k2 k X2 X h3 hX b h4 h1)
 have hcin:∀b∈l'.clm,∃q X,(q=k\/q∈ks)/\s.gob q=some X/\b∈(β q).clm:=by
  intro b hb
  rw [hl'clm] at hb
  rcases aiz.1 hb with hb | hb
  ·obtain ⟨X,hX,h1⟩:=hlc b hb; exact ⟨k,X,.inl rfl,hX,h1⟩
  ·obtain ⟨k2,X2,h1,_,h3,h4⟩:=hc2 b hb; exact ⟨k2,X2,.inr h1,h3,h4⟩
 refine hK _ _ (h _ _ S β' R ⟨?_,?_,fun i' y hi' => ?_,?_⟩ hR)
 ·cases hdst:o.dst <;> simp [Act.put,hs.defers]
 ·cases hdst:o.dst <;> simp [Act.put,hs.sz]
 ·rw [a8Eq] at hi'
  by_cases hdi:o.dst=some i'
  ·rw [if_pos hdi] at hi'
   simp at hi'
   subst hi'
   rw [hdi] at hd ⊢
   simp at hd
   refine ⟨v',by simp [Act.put,hs.sz,hd],RepV.one ?_⟩
   have:v'=(β' k).sv:=by rw [hβk,hl'sv]
   rw [this]; exact .ol
  ·rw [if_neg hdi] at hi'
   cases hY:s.get i' with
   | none=>rw [hY] at hi'; simp at hi'
   | some Y =>
    rw [hY] at hi'
    simp at hi'
    subst hi'
    obtain ⟨u,hu,hr⟩:=hs.tm i' Y hY
    refine ⟨u,?_,hr.map hkill hkd⟩
    cases hdst:o.dst with
    | none=>exact hu
    | some d =>
     simp only [Act.put]
     rw [aez (fun e=>hdi (by rw [hdst,e]))]
     exact hu
 ·refine ⟨fun b hb=>adz (hs.mem.lt b hb) hgsize,fun o' X ho' => ?_,fun o' X ho' b hh => ?_,fun o1 o2 X1 X2 h1 h2 b hh1 hh2 => ?_,hgos.trans hs.mem.os,hgtape.trans hs.mem.tape,hgout.trans hs.mem.output,aqz hs.mem.size hgsize,fun b hb hp => ?_,hs.mem.sub,hs.mem.sup,fun o' l2 hl2 => ?_,fun o' X ho' b hh => ?_,fun o1 o2 X1 X2 h1 h2 b hh1 hh2 => ?_⟩
  ·rcases hTk o' X ho' with ⟨rfl,rfl⟩ | ⟨hne,_,Y,hY,rfl⟩
   ·rw [hβk]
    rcases hl'ob with ⟨hl'ob,hown'⟩ | ⟨z1,z2,z3⟩
    rotate_left
    ·have e1:xs=[]:=a2z (by omega)
     have e2:ys=[]:=a2z (by omega)
     exact O4q.2 (.inr ⟨z1,by rw [e1,e2]; rfl,z3⟩)
    refine O4q.2 (.inl ⟨hl'ob,by simpa using hn48,fun y hy => ?_,vs++us,by simpa using hown',?_⟩)
    ·rcases aiz.1 hy with hy | hy
     ·exact hle y hy
     ·exact hyes y hy
    ·rw [bqz,hl'clm]
     exact hrep.app hus hS hcd
   ·rw [hβ' o' hne]
    have hob':=hs.mem.ob o' Y hY
    have hbl:∀b,(β o').Own b->w'.heap[b]?=w.heap[b]?:=fun b hh=>hkeep _ (hs.mem.own o' Y hY b hh).1 fun hlh=>hlsep o' Y hne hY b hh hlh
    exact hob'.map hkill hbl hS fun _ h=>h
  ·rcases hTk o' X ho' with ⟨rfl,rfl⟩ | ⟨hne,_,Y,hY,rfl⟩
   ·rw [hβk] at hh
    obtain ⟨h1,h2⟩:=hl'blk b hh
    refine ⟨h1,?_,?_⟩
    ·rcases h2 with hlh | e
     ·exact (hlown b hlh).2.1
     ·rw [e]; intro hs2; have:=hs.mem.lt _ hs2; omega
    ·rcases h2 with hlh | e
     ·exact (hlown b hlh).2.2
     ·rw [e]; exact .inl hs.mem.size
   ·rw [hβ' o' hne] at hh
    obtain ⟨h1,h2,h3⟩:=hs.mem.own o' Y hY b hh
    exact ⟨adz h1 hgsize,h2,h3⟩
  ·rcases hTk o1 X1 h1 with ⟨rfl,rfl⟩ | ⟨hne1,_,Y1,hY1,rfl⟩ <;> rcases hTk o2 X2 h2 with ⟨rfl,rfl⟩ | ⟨hne2,_,Y2,hY2,rfl⟩
   ·rfl
   ·exfalso
    rw [hβk] at hh1
    rw [hβ' o2 hne2] at hh2
    exact hapart o2 Y2 hne2 hY2 b hh2 hh1
   ·exfalso
    rw [hβk] at hh2
    rw [hβ' o1 hne1] at hh1
    exact hapart o1 Y1 hne1 hY1 b hh1 hh2
   ·rw [hβ' o1 hne1] at hh1
    rw [hβ' o2 hne2] at hh2
    exact hs.mem.sep o1 o2 Y1 Y2 hY1 hY2 b hh1 hh2
  ·refine (hkeep b (adz hb hs.mem.size) fun hlh => ?_).trans (hs.mem.block b hb hp)
   rcases (hlown _ hlh).2.2 with h1 | h1
   ·omega
   ·exact hp h1
  ·obtain ⟨f1,f2⟩:=hs.mem.fix o' l2 hl2
   exact ⟨f1,(hβ' o' (by omega)).trans f2⟩
  ·rcases hTk o' X ho' with ⟨rfl,rfl⟩ | ⟨hne,_,Y,hY,rfl⟩
   ·rw [hβk] at hh
    obtain ⟨q,X,_,hX,h1⟩:=hcin b hh
    exact hs.mem.clm q X hX b h1
   ·rw [hβ' o' hne] at hh
    exact hs.mem.clm o' Y hY b hh
  ·rcases hTk o1 X1 h1 with ⟨rfl,rfl⟩ | ⟨hne1,hn1,Y1,hY1,rfl⟩ <;> rcases hTk o2 X2 h2 with ⟨rfl,rfl⟩ | ⟨hne2,hn2,Y2,hY2,rfl⟩
   ·rfl
   ·exfalso
    rw [hβk] at hh1
    rw [hβ' o2 hne2] at hh2
    obtain ⟨q,X,hq,hX,h1⟩:=hcin b hh1
    have:=hs.mem.sepc o2 q Y2 X hY2 hX b hh2 h1
    subst this
    exact hq.elim hne2 hn2
   ·exfalso
    rw [hβk] at hh2
    rw [hβ' o1 hne1] at hh1
    obtain ⟨q,X,hq,hX,h1⟩:=hcin b hh2
    have:=hs.mem.sepc o1 q Y1 X hY1 hX b hh1 h1
    subst this
    exact hq.elim hne1 hn1
   ·rw [hβ' o1 hne1] at hh1
    rw [hβ' o2 hne2] at hh2
    exact hs.mem.sepc o1 o2 Y1 Y2 hY1 hY2 b hh1 hh2
def Da.flat:Da->Bool
 | .sl []=>true
 | .sl _=>false
 | .tg _ _=>false
 | .fn _=>false
 | _=>true
def x6q (ys:List (List Da)):Prop:=∀y∈ys,y.all Da.flat=true
theorem a2gq {ys:List (List Da)} (h:x6q ys):ys.flatten.all Da.flat=true:=by
 rw [a4z]
 intro x hx
 obtain ⟨y,hy,hx⟩:=b9z.1 hx
 exact a4z.1 (h y hy) x hx
theorem RepF.flatT {w:World} {xs:List Da} {vs:List Value} {fp:List Nat} (h:RepF w xs vs fp) (hf:xs.all Da.flat=true):RepT w xs vs []:=by
 induction h with
 | nil=>exact .nil
 | int _ ih=>exact .int (ih (by simpa [Da.flat] using hf))
 | bool _ ih=>exact .bool (ih (by simpa [Da.flat] using hf))
 | str hs _ ih=>exact .str hs (ih (by simpa [Da.flat] using hf))
 | fn=>simp [Da.flat] at hf
 | @sl0 ys _ _ _ _ n _ h1 h2 h3 h4 _ ih =>
  cases ys with
  | nil=>subst h2; exact .sl0 (ih (by simpa [Da.flat] using hf))
  | cons y ys=>simp [Da.flat] at hf
 | @sl1 ys _ _ _ _ _ _ _ n _ _ _ h2 _ _ _ _ _ _ _ ih =>
  cases ys with
  | nil=>subst h2; exact .sl0 (ih (by simpa [Da.flat] using hf))
  | cons y ys=>simp [Da.flat] at hf
 | tg=>simp [Da.flat] at hf
theorem RepDs.flatR {tr:Bool} {w:World} {S:Nat->Prop} {cl:List Nat} {xs:List Da} {vs:List Value} (h:RepDs w S xs vs) (hf:xs.all Da.flat=true):RowR tr w S cl xs vs:=by
 cases tr with
 | true=>obtain ⟨fp,h,_⟩:=h; exact ⟨[],h.flatT hf,by simp,by simp⟩
 | false=>exact h
inductive SrcA (s:St) (z:Operand) (tr:Bool) (k es:Nat) (ys:List (List Da)):List Nat->Prop
 | d:s.ev z=some (L ys)->tr=false\/x6q ys->SrcA s z tr k es ys []
 | o {k2 E2 tr2}:s.ev z=some (.one (.ol k2))->s.gob k2=some (mkL tr2 E2 es ys)->tr=false\/x6q ys->SrcA s z tr k es ys []
 | t {k2 E2}:s.ev z=some (.one (.ol k2))->s.gob k2=some (.tr E2 es ys)->k2≠k->SrcA s z tr k es ys [k2]
 | s:(∀(Γ:Cx) (a:Act) (w:World) (S:Nat->Prop) (β:Nat->OLoc),Sim Γ s a w S β->Src w (RowR tr w S [] ys.flatten) es ys.length (a.eval z))->SrcA s z tr k es ys []
theorem SrcA.src {z:Operand} {tr:Bool} {k es:Nat} {ys:List (List Da)} {ks:List Nat} (h:SrcA s z tr k es ys ks) (hpos:0<es) (hyes:∀y∈ys,y.length=es) {a:Act} {w:World} {S:Nat->Prop} {β:Nat->OLoc} (hs:Sim Γ s a w S β) :
  ∃cl2,Src w (RowR tr w S cl2 ys.flatten) es ys.length (a.eval z)/\(cl2=[]\/∃k2 X2,k2∈ks/\k2≠k/\s.gob k2=some X2/\cl2=(β k2).clm):=by
 have hfl:∀{us:List Value},tr=false\/x6q ys->RepDs w S ys.flatten us->RowR tr w S [] ys.flatten us:=by
  intro us hc hr
  rcases hc with rfl | hc
  ·exact hr
  ·exact hr.flatR (a2gq hc)
 cases h with
 | d hz hc =>
  have h1:=(hs.eval hz).one_inv
  generalize hv:a.eval z=v at h1
  cases h1 with | d h1=>exact ⟨[],(Src.of_data hpos h1 hyes).mono fun us hr=>hfl hc hr,.inl rfl⟩
 | @o k2 E2 tr2 hz hk hc =>
  have h1:=(hs.eval hz).one_inv
  generalize hv:a.eval z=v at h1
  cases h1
  exact ⟨[],(Src.of_own (hs.mem.ob k2 _ hk)).mono fun us hr=>hfl hc hr.ds,.inl rfl⟩
 | @t k2 E2 hz hk hne =>
  have h1:=(hs.eval hz).one_inv
  generalize hv:a.eval z=v at h1
  cases h1
  have:=Src.of_own (tr:=true) (hs.mem.ob k2 _ hk)
  refine ⟨(β k2).clm,this.mono fun us hr => ?_,.inr ⟨k2,_,by simp,hne,hk,rfl⟩⟩
  cases tr with
  | true=>exact hr
  | false=>exact hr.ds
 | s h=>exact ⟨[],h _ a w S β hs,.inl rfl⟩
def St.frz (s:St) (k:Nat) (xs:List (List Da)):St :=
 let s1:=s.map (u1q k xs)
 { s1 with ob:=J7q s1.ob k }
theorem Sim.frz {tr:Bool} {k E es:Nat} {xs:List (List Da)} (hk:s.gob k=some (mkL tr E es xs)) {a:Act} {w:World} {S:Nat->Prop} {β:Nat->OLoc} (hs:Sim Γ s a w S β) (hpos:0<es):∃S',(∀b,S b->S' b)/\Sim Γ (s.frz k xs) a w S' β:=by
 let S':Nat->Prop:=fun b=>S b\/((β k).has=true/\b=(β k).blk)
 have hsub:∀b,S b->S' b:=fun b hb=>.inl hb
 have hd:RepDs w S' [.sl xs] [(β k).sv]:=by
  rcases O4q.1 (hs.mem.ob k _ hk) with ⟨hob,hsm,hle,vs,hown,hrep⟩ | ⟨_,rfl,ad,hz0⟩
  rotate_left
  ·rw [hz0]; exact RepDs.sl_nil _ _
  replace hrep:=hrep.ds
  rcases hown.2 with ⟨hsv,h0⟩ | ⟨g,cap,cur,hsv,_,hgb,hcap,hcm,hcsz,htk⟩
  ·have:=a2z h0
   subst this
   rw [hsv]; exact RepDs.sl_nil _ _
  ·rw [hsv]
   have hbh:(β k).has=true/\g=(β k).blk:=by
    rw [hsv] at hob
    simp only [Value.ownBlock] at hob
    split at hob
    ·rename_i e; exact ⟨e,by simpa using hob⟩
    ·simp at hob
   refine RepDs.sl_mk hcap hsm (.inr hbh) (b0z.1 hgb).1 (hrep.mono (fun _ _=>rfl) hsub) hle fun q u hu => ?_
   rw [aFz,p0q hgb,<-atz]
   rw [<-htk,asz] at hu
   split at hu
   ·exact hu
   ·simp at hu
 have hf:∀y v,RepA w S β y v->RepA w S' β (u1q k xs y) v:=by
  intro y v hy
  have hm:=hy.mono (w':=w) (S':=S') (β':=β) (fun _ _=>rfl) hsub (fun _ _=>rfl)
  cases y with
  | ol o =>
   simp only [u1q]
   split
   ·rename_i e
    simp at e
    subst e
    cases hy
    exact .d hd
   ·exact hm
  | op o off=>simp only [u1q]; split; exact .junk; exact hm
  | clo f caps=>simp only [u1q]; split; exact .junk; exact hm
  | _=>exact hm
 have hT:∀o' X,(s.frz k xs).gob o'=some X->o'≠k/\∃Y,s.gob o'=some Y/\X=Y.map (u1q k xs):=by
  intro o' X h
  simp only [St.frz,St.gob,E2q,St.map,A7q] at h
  split at h
  ·simp at h
  ·rename_i e
   cases hY:s.gob o' with
   | none=>simp only [St.gob] at hY; rw [hY] at h; simp at h
   | some Y=>have hY2:=hY; simp only [St.gob] at hY2; rw [hY2] at h; simp at h; exact ⟨fun e2=>e e2.symm,Y,rfl,h.symm⟩
 refine ⟨S',hsub,hs.defers,hs.sz,fun i y hi => ?_,?_⟩
 ·have:(s.frz k xs).get i=(s.get i).map (·.map (u1q k xs)):=s1q ..
  rw [this] at hi
  cases hY:s.get i with
  | none=>rw [hY] at hi; simp at hi
  | some Y =>
   rw [hY] at hi; simp at hi; subst hi
   obtain ⟨v,hv,hr⟩:=hs.tm i Y hY
   exact ⟨v,hv,hr.map hf fun xs cs h=>h.mono (fun _ _=>rfl) hsub⟩
 ·refine ⟨fun b hb => ?_,fun o' X ho' => ?_,fun o' X ho' b hh => ?_,fun o1 o2 X1 X2 h1 h2 => ?_,hs.mem.os,hs.mem.tape,hs.mem.output,hs.mem.size,hs.mem.block,fun b hb=>.inl (hs.mem.sub b hb),fun b hb => ?_,hs.mem.fix,fun o' X ho' b hh => ?_,fun o1 o2 X1 X2 h1 h2 => ?_⟩
  ·rcases hb with hb | ⟨hh,rfl⟩
   ·exact hs.mem.lt b hb
   ·exact (hs.mem.own k _ hk _ (.inl ⟨hh,rfl⟩)).1
  ·obtain ⟨hne,Y,hY,rfl⟩:=hT o' X ho'
   exact (hs.mem.ob o' Y hY).map hf (fun _ _=>rfl) (fun _ _=>rfl) hsub
  ·obtain ⟨hne,Y,hY,rfl⟩:=hT o' X ho'
   obtain ⟨m1,m2,m3⟩:=hs.mem.own o' Y hY b hh
   refine ⟨m1,fun hb => ?_,m3⟩
   rcases hb with hb | ⟨hkh,hb⟩
   ·exact m2 hb
   ·exact hne (hs.mem.sep o' k Y _ hY hk b hh (.inl ⟨hkh,hb.symm⟩))
  ·obtain ⟨hne,Y,hY,rfl⟩:=hT o1 X1 h1
   obtain ⟨hne2,Y2,hY2,rfl⟩:=hT o2 X2 h2
   exact hs.mem.sep o1 o2 Y Y2 hY hY2
  ·rcases hb with hb | ⟨hh,rfl⟩
   ·exact hs.mem.sup b hb
   ·exact .inr (hs.mem.own k _ hk _ (.inl ⟨hh,rfl⟩)).2.2
  ·obtain ⟨hne,Y,hY,rfl⟩:=hT o' X ho'
   obtain ⟨m1,m2⟩:=hs.mem.clm o' Y hY b hh
   exact ⟨hsub b m1,m2⟩
  ·obtain ⟨hne,Y,hY,rfl⟩:=hT o1 X1 h1
   obtain ⟨hne2,Y2,hY2,rfl⟩:=hT o2 X2 h2
   exact hs.mem.sepc o1 o2 Y Y2 hY hY2
theorem Sim.setX {k:Nat} {X Y:Ob} (hk:s.gob k=some X) {a:Act} {w:World} {S:Nat->Prop} {β:Nat->OLoc} (hs:Sim Γ s a w S β) (hX:ObRep w S β (β k) X->ObRep w S β (β k) Y):Sim Γ (s.setOb k Y) a w S β:=by
 have hT':∀o Z,(s.setOb k Y).gob o=some Z->(o=k/\Z=Y)\/s.gob o=some Z:=by
  intro o Z ho
  rw [a2sq] at ho
  by_cases e:o=k
  ·rw [if_pos e] at ho; simp at ho; exact .inl ⟨e,ho.symm⟩
  ·rw [if_neg e] at ho; exact .inr ho
 have hT:∀o Z,(s.setOb k Y).gob o=some Z->∃Z',s.gob o=some Z':=by
  intro o Z ho
  rcases hT' o Z ho with ⟨rfl,_⟩ | ho
  ·exact ⟨_,hk⟩
  ·exact ⟨_,ho⟩
 refine ⟨hs.defers,hs.sz,hs.tm,⟨hs.mem.lt,fun o Z ho => ?_,fun o Z ho => ?_,fun o o' Z Z' ho ho' => ?_,hs.mem.os,hs.mem.tape,hs.mem.output,hs.mem.size,hs.mem.block,hs.mem.sub,hs.mem.sup,hs.mem.fix,fun o Z ho => ?_,fun o o' Z Z' ho ho' => ?_⟩⟩
 ·rcases hT' o Z ho with ⟨rfl,rfl⟩ | ho
  ·exact hX (hs.mem.ob o X hk)
  ·exact hs.mem.ob o Z ho
 ·obtain ⟨Z',h⟩:=hT o Z ho; exact hs.mem.own o Z' h
 ·obtain ⟨Z1,h1⟩:=hT o Z ho; obtain ⟨Z2,h2⟩:=hT o' Z' ho'; exact hs.mem.sep o o' Z1 Z2 h1 h2
 ·obtain ⟨Z',h⟩:=hT o Z ho; exact hs.mem.clm o Z' h
 ·obtain ⟨Z1,h1⟩:=hT o Z ho; obtain ⟨Z2,h2⟩:=hT o' Z' ho'; exact hs.mem.sepc o o' Z1 Z2 h1 h2
theorem ObRep.tr_of_flat {w:World} {S:Nat->Prop} {β:Nat->OLoc} {l:OLoc} {E es:Nat} {xs:List (List Da)} (h:ObRep w S β l (.lst E es xs)) (hf:x6q xs):ObRep w S β l (.tr E es xs):=by
 rcases h with ⟨h1,h2,h3,vs,h4,h5⟩ | h
 ·exact (O4q (tr:=true)).2 (.inl ⟨h1,h2,h3,vs,h4,h5.flatR (a2gq hf)⟩)
 ·exact .inr h
end
def g8q {α:Type} (φ:Nat->Nat->Option α) (D:Nat->Bool) (g:Nat->α):Nat->Nat->α
 | 0,t=>g t
 | n+1,t=>match (if D n then φ n t else none) with
  | some v=>v
  | none=>g8q φ D g n t
section
variable {α:Type} {φ:Nat->Nat->Option α} {g:Nat->α}
theorem x2q {D D':Nat->Bool} {t:Nat}:∀n,(∀j,j<n->φ j t≠none->D j=D' j)->g8q φ D g n t=g8q φ D' g n t:=by
 intro n
 induction n with
 | zero=>intro _; rfl
 | succ n ih =>
  intro h
  have ih':=ih fun j hj=>h j (by omega)
  simp only [g8q]
  cases hφ:φ n t with
  | none=>simp [ih']
  | some v=>rw [h n (by omega) (by simp [hφ]),ih']
theorem a0Dq {t : Nat} (i : Nat) : ∀ n, i ≤ n → g8q φ (fun j => decide (j < i)) g n t = g8q φ (fun _ => true) g i t := by
  intro n
  induction n with
  | zero => intro h; have : i = 0 := by omega
            subst this; rfl
  | succ n ih =>
    intro h
    by_cases hi : i = n + 1
    · subst hi
      exact x2q _ fun j hj _ => by simp [hj]
    · have := ih (by omega)
      simp only [g8q]
      have hf : decide (n < i) = false := by simp; omega
      simp [hf, this]
theorem a6Sq {D:Nat->Bool} {t i:Nat} {v:α} (hD:D i=true) (hv:φ i t=some v):∀n,i<n->(∀j,i<j->j<n->φ j t≠none->D j=false)->g8q φ D g n t=v:=by
 intro n
 induction n with
 | zero=>intro h; omega
 | succ n ih =>
  intro h hno
  simp only [g8q]
  by_cases hi:i=n
  ·subst hi; simp [hD,hv]
  ·have ih':=ih (by omega) fun j h1 h2=>hno j h1 (by omega)
   cases hφ:φ n t with
   | none=>simp [ih']
   | some u=>simp [hno n (by omega) (by omega) (by simp [hφ]),ih']
theorem a0oq {D:Nat->Bool} {t:Nat}:∀n,g8q φ D g n t=g t\/∃j,j<n/\D j=true/\φ j t=some (g8q φ D g n t):=by
 intro n
 induction n with
 | zero=>exact .inl rfl
 | succ n ih =>
  simp only [g8q]
  cases hD:D n with
  | false =>
   simp only [Bool.false_eq_true,if_false]
   exact ih.imp id fun ⟨j,h1,h2,h3⟩=>⟨j,by omega,h2,h3⟩
  | true =>
   cases hφ:φ n t with
   | some u=>simp only [if_true]; exact .inr ⟨n,by omega,hD,hφ⟩
   | none=>simp only [if_true]; exact ih.imp id fun ⟨j,h1,h2,h3⟩=>⟨j,by omega,h2,h3⟩
end
inductive Eff where
 | run (y:AV) (nob:List (Nat×Ob))
 | skip
def Eff.val:Eff->Option AV
 | .run y _=>some y
 | .skip=>some (.tup [])
def Eff.nob:Eff->List (Nat×Ob)
 | .run _ nob=>nob
 | .skip=>[]
def a0Vq (o:Oper):List Nat:=o.op.operands.toList.filterMap fun | .tmp t=>some t | _=>none
def a1kq (ops:Array Oper) (o:Oper):List Nat:=match o.guard with
 | some (j,_)=>((ops[j]?).bind (·.dst)).toList
 | none=>[]
def h6q (ops:Array Oper) (o:Oper):List Nat:=o.dst.toList++a0Vq o++a1kq ops o
def F9q (ops:Array Oper):Nat->Nat->Nat->Bool
 | 0,_,_=>false
 | f+1,i,j=>match ops[i]? with
  | none=>false
  | some o=>o.after.any fun e=>Region.binds .any e&&(e.on==j||F9q ops f e.on j)
def K7q (ops:Array Oper):Bool :=
 (aTz ops.size).all fun i=>match ops[i]? with
  | none=>true
  | some oi=>oi.after.all (fun e => !Region.binds .any e||decide (e.on<i))&&(aTz ops.size).all fun j=>match ops[j]? with
   | none=>true
   | some oj => !decide (j<i)||((oj.dst.toList.all fun t => !(h6q ops oi).contains t)&&(oi.dst.toList.all fun t => !(h6q ops oj).contains t))||F9q ops ops.size i j
def C9q (s0:St) (y:AV) (nob:List (Nat×Ob)):Bool :=
 y.ids.all (fun o=>(a1xq s0.tm).contains o||(a0jq s0.ob).contains o||(nob.map (·.1)).contains o) &&
 nob.all fun p=>p.2.ids.all fun o=>(a1xq s0.tm).contains o||(a0jq s0.ob).contains o||(nob.map (·.1)).contains o
inductive PRun (Γ:Cx) (P:Program) (ops:Array Oper) (s0:St):List Oper->St->List Eff->St->Prop
 | nil {s}:PRun Γ P ops s0 [] s [] s
 | run {o rest s y nob us es s'}:(o.guard=none\/∃j want d,o.guard=some (j,want)/\(ops[j]?).bind (·.dst)=some d/\s.get d=some (B want))->OpP P o s.ev us y nob->(∀p∈us,s0.gob p.1=some p.2)->s.fresh nob=true->s0.fresh nob=true ->
   o.dst.all (· < Γ.n)=true->C9q s0 y nob=true->PRun Γ P ops s0 rest (s.upd o.dst y nob) es s'->PRun Γ P ops s0 (o::rest) s (.run y nob::es) s'
 | skip {o rest s j want d es s'}:o.guard=some (j,want)->(ops[j]?).bind (·.dst)=some d->(s.get d=some (B (!want))\/s.get d=some (.tup []))->o.dst.all (· < Γ.n)=true->PRun Γ P ops s0 rest (s.upd o.dst (.tup []) []) es s'->PRun Γ P ops s0 (o::rest) s (.skip::es) s'
 | same {l s d x es s'}:s.get d=some x->PRun Γ P ops s0 l (s.upd (some d) x []) es s'->PRun Γ P ops s0 l s es s'
def evF (g:Nat->Option AV):Operand->Option AV
 | .tmp t=>g t
 | .const v=>W0q v
 | .func f=>some (.one (.d (.fn f)))
 | .global _=>none
structure Fact (Γ:Cx) (P:Program) (ops:Array Oper) (s0:St) (g:Nat->Option AV) (T:Nat->Option Ob) (o:Oper) (e:Eff):Prop where
 run:∀y nob,e = .run y nob->(o.guard=none\/∃j want d,o.guard=some (j,want)/\(ops[j]?).bind (·.dst)=some d/\g d=some (B want))/\(∃us,OpP P o (evF g) us y nob/\∀p∈us,s0.gob p.1=some p.2) /\
  (∀p∈nob,T p.1=none)/\s0.fresh nob=true/\o.dst.all (· < Γ.n)=true/\C9q s0 y nob=true
 skip:e = .skip->∃j want d,o.guard=some (j,want)/\(ops[j]?).bind (·.dst)=some d/\(g d=some (B (!want))\/g d=some (.tup []))/\o.dst.all (· < Γ.n)=true
def G3q (l:List Oper) (es:List Eff) (j t:Nat):Option (Option AV):=match l[j]?,es[j]? with
 | some o,some e=>if o.dst=some t then some e.val else none
 | _,_=>none
def x9q (es:List Eff) (j o:Nat):Option (Option Ob):=match es[j]? with
 | some e=>match a1q e.nob o with
  | some X=>some (some X)
  | none=>none
 | none=>none
theorem V4q {α:Type} (φ φ':Nat->Nat->Option α) (g g':Nat->α) (h1:∀j t,φ (j+1) t=φ' j t) (h0:∀t,(match φ 0 t with | some v=>v | none=>g t)=g' t):∀n t,g8q φ (fun _=>true) g (n+1) t=g8q φ' (fun _=>true) g' n t:=by
 intro n
 induction n with
 | zero=>intro t; simp only [g8q,if_true]; exact h0 t
 | succ n ih =>
  intro t
  rw [g8q]
  simp only [if_true,h1]
  cases hφ:φ' n t with
  | some v=>simp [g8q,hφ]
  | none=>simp only [g8q,hφ,if_true]; rw [<-ih]; rfl
theorem afbq (s:St):evF s.get=s.ev:=by funext x; cases x <;> rfl
theorem PRun.facts {Γ:Cx} {P:Program} {ops:Array Oper} {s0:St} {l:List Oper} {s s':St} {es:List Eff} (h:PRun Γ P ops s0 l s es s') :
  es.length=l.length/\(s'.get=g8q (G3q l es) (fun _=>true) s.get l.length)/\(s'.gob=g8q (x9q es) (fun _=>true) s.gob l.length) /\
  ∀i o e,l[i]?=some o->es[i]?=some e->Fact Γ P ops s0 (g8q (G3q l es) (fun _=>true) s.get i) (g8q (x9q es) (fun _=>true) s.gob i) o e:=by
 induction h with
 | nil=>exact ⟨rfl,rfl,rfl,by simp⟩
 | @run o rest s y nob us es s' hg hop hus hf hf0 hd hid _ ih =>
  obtain ⟨h1,h2,h3,h4⟩:=ih
  have sh1:∀n t,g8q (G3q (o::rest) (.run y nob::es)) (fun _=>true) s.get (n+1) t=g8q (G3q rest es) (fun _=>true) (s.upd o.dst y nob).get n t :=
   V4q _ _ _ _ (fun j t=>rfl) fun t=>by
    rw [z3q]
    by_cases hh:o.dst=some t <;> simp [G3q,hh,Eff.val]
  have sh2:∀n t,g8q (x9q (.run y nob::es)) (fun _=>true) s.gob (n+1) t=g8q (x9q es) (fun _=>true) (s.upd o.dst y nob).gob n t :=
   V4q _ _ _ _ (fun j t=>rfl) fun t=>by
    rw [I9q]
    cases hh:a1q nob t <;> simp [x9q,Eff.nob,hh]
  refine ⟨by simp [h1],?_,?_,fun i o' e hi he => ?_⟩
  ·rw [h2]; funext t; exact (sh1 _ t).symm
  ·rw [h3]; funext t; exact (sh2 _ t).symm
  ·cases i with
   | zero =>
    simp at hi he
    subst hi; subst he
    refine ⟨fun y' nob' e => ?_,fun e=>by cases e⟩
    cases e
    refine ⟨hg,⟨us,?_,hus⟩,fun p hp => ?_,hf0,hd,hid⟩
    ·show OpP P o (evF s.get) us y nob
     rw [afbq]; exact hop
    ·show s.gob p.1=none
     cases hX:s.gob p.1 with
     | none=>rfl
     | some X=>exact absurd rfl ((v7q hf hX).1 p hp)
   | succ i =>
    have hh:=h4 i o' e (by simpa using hi) (by simpa using he)
    have e1:g8q (G3q (o::rest) (.run y nob::es)) (fun _=>true) s.get (i+1)=g8q (G3q rest es) (fun _=>true) (s.upd o.dst y nob).get i:=funext (sh1 i)
    have e2:g8q (x9q (.run y nob::es)) (fun _=>true) s.gob (i+1)=g8q (x9q es) (fun _=>true) (s.upd o.dst y nob).gob i:=funext (sh2 i)
    rw [e1,e2]; exact hh
 | @same l s d x es s' hx _ ih =>
  have e1:(s.upd (some d) x []).get=s.get:=funext fun i=>by
   rw [z3q]
   split
   ·rename_i e; simp at e; subst e; exact hx.symm
   ·rfl
  have e2:(s.upd (some d) x []).gob=s.gob:=funext fun i=>by rw [I9q]; simp [a1q]
  rw [e1,e2] at ih
  exact ih
 | @skip o rest s j want d es s' hg hj hs hd _ ih =>
  obtain ⟨h1,h2,h3,h4⟩:=ih
  have sh1:∀n t,g8q (G3q (o::rest) (.skip::es)) (fun _=>true) s.get (n+1) t=g8q (G3q rest es) (fun _=>true) (s.upd o.dst (.tup []) []).get n t :=
   V4q _ _ _ _ (fun j t=>rfl) fun t=>by
    rw [z3q]
    by_cases hh:o.dst=some t <;> simp [G3q,hh,Eff.val]
  have sh2:∀n t,g8q (x9q (.skip::es)) (fun _=>true) s.gob (n+1) t=g8q (x9q es) (fun _=>true) (s.upd o.dst (.tup []) []).gob n t :=
   V4q _ _ _ _ (fun j t=>rfl) fun t=>by
    rw [I9q]; simp [x9q,Eff.nob,a1q]
  refine ⟨by simp [h1],?_,?_,fun i o' e hi he => ?_⟩
  ·rw [h2]; funext t; exact (sh1 _ t).symm
  ·rw [h3]; funext t; exact (sh2 _ t).symm
  ·cases i with
   | zero =>
    simp at hi he
    subst hi; subst he
    exact ⟨fun y' nob' e=>(by cases e),fun _=>⟨j,want,d,hg,hj,hs,hd⟩⟩
   | succ i =>
    have hh:=h4 i o' e (by simpa using hi) (by simpa using he)
    have e1:g8q (G3q (o::rest) (.skip::es)) (fun _=>true) s.get (i+1)=g8q (G3q rest es) (fun _=>true) (s.upd o.dst (.tup []) []).get i:=funext (sh1 i)
    have e2:g8q (x9q (.skip::es)) (fun _=>true) s.gob (i+1)=g8q (x9q es) (fun _=>true) (s.upd o.dst (.tup []) []).gob i:=funext (sh2 i)
    rw [e1,e2]; exact hh
def a4Uq (ops:Array Oper) (D:Nat->Bool):Prop:=∀i o,D i=true->ops[i]?=some o->∀e∈o.after,Region.binds .any e=true->D e.on=true
theorem M5q {ops:Array Oper} {D:Nat->Bool} (hc:a4Uq ops D):∀(f i j:Nat),F9q ops f i j=true->(∀o,ops[i]?=some o->∀e∈o.after,Region.binds .any e=true->D e.on=true)->D j=true:=by
 intro f
 induction f with
 | zero=>intro i j h; simp [F9q] at h
 | succ f ih =>
  intro i j h hp
  simp only [F9q] at h
  split at h
  ·simp at h
  ·rename_i o ho
   obtain ⟨e,he,hb⟩:=Array.any_eq_true'.1 h
   simp only [a8z,azz,beq_iff_eq] at hb
   have hD:=hp o ho e he hb.1
   rcases hb.2 with rfl | hr
   ·exact hD
   ·exact ih e.on j hr fun o' ho' e' he' hb'=>hc e.on o' hD ho' e' he' hb'
theorem a1Eq {o:Oper} {t:Nat} (h:Operand.tmp t∈o.op.operands):t∈a0Vq o:=by
 simp only [a0Vq,List.mem_filterMap]
 exact ⟨.tmp t,by simpa using h,rfl⟩
theorem I4q {p:Nat×Ob}:∀(r:List (Nat×Ob)),p∈r->a1q r p.1≠none:=by
 intro r
 induction r with
 | nil=>simp
 | cons q r ih =>
  intro hq
  simp only [a1q]
  split
  ·simp
  ·rename_i hne
   rcases abz.1 hq with rfl | hq
   ·simp at hne
   ·exact ih hq
theorem adZq {Γ:Cx} {P:Program} {l:List Oper} {s s':St} {es:List Eff} {id:Nat} {Q:Exit->St->Prop} (hm:P.follows .mixedOrders=true) (hok:K7q l.toArray=true) (hrun:PRun Γ P l.toArray s l s es s') (hQ:Q .normal s'):awp Γ P (.region id l.toArray true) Q s:=by
 intro a w S β hs
 obtain ⟨hel,hget,hgob,hfact⟩:=hrun.facts
 have hn:l.toArray.size=l.length:=by simp
 simp only [K7q,a4z,aYz,hn] at hok
 have hlow:∀(i:Nat) (o:Oper),l[i]?=some o->∀e∈o.after,Region.binds .any e=true->e.on<i:=by
  intro i o hi e he hb
  have h1:=hok i (a1z.1 hi).1
  simp only [aUz,hi,a8z] at h1
  have h2:=Array.all_eq_true_iff_forall_mem.1 h1.1 e he
  simpa [hb] using h2
 have hord:∀(i j:Nat) (oi oj:Oper),l[i]?=some oi->l[j]?=some oj->j<i->((∃t,oj.dst=some t/\t∈h6q l.toArray oi)\/∃t,oi.dst=some t/\t∈h6q l.toArray oj)->F9q l.toArray l.length i j=true:=by
  intro i j oi oj hi hj hji hsh
  have h1:=hok i (a1z.1 hi).1
  simp only [aUz,hi,a8z,a4z,aYz] at h1
  have h2:=h1.2 j (a1z.1 hj).1
  simp only [hj,azz,aCz,decide_eq_false_iff_not,a8z,a4z,aHz] at h2
  rcases h2 with (h2 | h2) | h2
  ·exact absurd hji h2
  ·exfalso
   rcases hsh with ⟨t,ht,hm⟩ | ⟨t,ht,hm⟩
   ·exact h2.1 t (by simp [ht]) hm
   ·exact h2.2 t (by simp [ht]) hm
  ·exact h2
 let φ:=G3q l es
 let ψ:=x9q es
 have hφ:∀j t,φ j t≠none->∃o,l[j]?=some o/\o.dst=some t:=by
  intro j t h
  simp only [φ,G3q] at h
  split at h
  ·rename_i o e ho he
   split at h
   ·rename_i hd; exact ⟨o,ho,hd⟩
   ·exact absurd rfl h
  ·exact absurd rfl h
 have hkey:∀(i:Nat) (e:Eff),es[i]?=some e->∀p∈e.nob,s.fresh e.nob=true/\∀j e',es[j]?=some e'->j≠i->a1q e'.nob p.1=none:=by
  have hlt:∀(i j:Nat) (e e':Eff),es[i]?=some e->es[j]?=some e'->j<i->∀p∈e.nob,a1q e'.nob p.1=none:=by
   intro i j e e' he he' hji p hp
   cases e with
   | skip=>simp [Eff.nob] at hp
   | run y nob =>
    have hil:i<l.length:=by rw [<-hel]; exact (a1z.1 he).1
    have hf:=(hfact i _ _ (ajz hil) he).run y nob rfl
    have hT:=hf.2.2.1 p hp
    cases hlk:a1q e'.nob p.1 with
    | none=>rfl
    | some X =>
     exfalso
     have:g8q ψ (fun _=>true) s.gob i p.1≠none:=by
      intro hnone
      rcases a0oq (φ:=ψ) (g:=s.gob) (D:=fun _=>true) (t:=p.1) i with h | ⟨q,hq,_,hq2⟩
      ·have h2:g8q ψ (fun _=>true) s.gob i p.1≠s.gob p.1\/True:=.inr trivial
       have hψ:∀m,j<m->m<=i->g8q ψ (fun _=>true) s.gob m p.1≠none:=by
        intro m hjm
        induction m with
        | zero=>omega
        | succ m ih =>
         intro hmi
         simp only [g8q,if_true]
         cases hψm:ψ m p.1 with
         | some v =>
          simp only [ψ,x9q] at hψm
          split at hψm
          ·split at hψm
           ·simp at hψm; subst hψm; simp
           ·simp at hψm
          ·simp at hψm
         | none =>
          by_cases hmj:m=j
          ·subst hmj
           simp [ψ,x9q,he',hlk] at hψm
          ·exact ih (by omega) (by omega)
       exact hψ i hji (apz i) hnone
      ·rw [hnone] at hq2
       simp only [ψ,x9q] at hq2
       split at hq2
       ·split at hq2 <;> simp at hq2
       ·simp at hq2
     exact this hT
  intro i e he p hp
  refine ⟨?_,fun j e' he' hji => ?_⟩
  ·cases e with
   | skip=>simp [Eff.nob] at hp
   | run y nob =>
    have hil:i<l.length:=by rw [<-hel]; exact (a1z.1 he).1
    exact ((hfact i _ _ (ajz hil) he).run y nob rfl).2.2.2.1
  ·rcases Nat.lt_or_ge j i with h | h
   ·exact hlt i j e e' he he' h p hp
   ·cases hlk:a1q e'.nob p.1 with
    | none=>rfl
    | some X =>
     exfalso
     have h1:=hlt j i e' e he' he (by omega) (p.1,X) (g2q hlk)
     have h2:a1q e.nob p.1≠none:=by
      intro h3
      have:∀(r:List (Nat×Ob)),p∈r->a1q r p.1≠none:=by
       intro r
       induction r with
       | nil=>simp
       | cons q r ih =>
        intro hq
        simp only [a1q]
        split
        ·simp
        ·rename_i hne
         rcases abz.1 hq with rfl | hq
         ·simp at hne
         ·exact ih hq
      exact this _ hp h3
     exact h2 h1
 refine wp_region_any hm ?_
 have hcontains:∀{L:List Nat} {o:Nat},L.contains o=true->o∈L:=by intro L o h; simpa using h
 have hdone:∀(listed:Array Bool) (a:Act) (w:World) (S:Nat->Prop) (β:Nat->OLoc),(∀j,j<l.length->listed.getD j false=true) ->
   SimF Γ (g8q φ (fun j=>listed.getD j false) s.get l.length) (g8q ψ (fun j=>listed.getD j false) s.gob l.length) a w S β->∃s' S' β',Q .normal s'/\Sim Γ s' a w S' β':=by
  intro listed a w S β hall hsim
  refine ⟨s',S,β,hQ,?_⟩
  rw [Sim,hget,hgob]
  have e1:g8q φ (fun j=>listed.getD j false) s.get l.length=g8q φ (fun _=>true) s.get l.length:=funext fun t=>x2q _ fun j hj _=>hall j hj
  have e2:g8q ψ (fun j=>listed.getD j false) s.gob l.length=g8q ψ (fun _=>true) s.gob l.length:=funext fun t=>x2q _ fun j hj _=>hall j hj
  rw [<-e1,<-e2]
  exact hsim
 have hready:∀(listed:Array Bool),listed.size=l.length->Region.ready .any l.toArray listed=[]->∀j,j<l.length->listed.getD j false=true:=by
  intro listed hsz hr j hj
  apply b6z
  intro hne
  obtain ⟨m,⟨hm1,hm2⟩,hmin⟩:=aexq (fun j=>j<l.length/\listed.getD j false≠true) ⟨j,hj,hne⟩
  have hmem:m∈Region.ready .any l.toArray listed:=by
   rw [mem_ready]
   refine ⟨?_,l[m],by simp [hm1],fun e he hb => ?_⟩
   ·have:m<listed.size:=by omega
    simp only [a7z,aKz this,baz] at hm2 ⊢
    simpa using hm2
   ·have hlt:=hlow m l[m] (ajz hm1) e he hb
    apply b6z
    intro hn2
    have:=hmin e.on ⟨by omega,hn2⟩
    omega
  rw [hr] at hmem
  simp at hmem
 have key:∀(fuel:Nat) (listed:Array Bool) (a:Act) (w:World) (S:Nat->Prop) (β:Nat->OLoc),listed.size=l.length->a4Uq l.toArray (fun j=>listed.getD j false) ->
   SimF Γ (g8q φ (fun j=>listed.getD j false) s.get l.length) (g8q ψ (fun j=>listed.getD j false) s.gob l.length) a w S β->(((aTz l.length).filter fun j => !listed.getD j false).length<=fuel) ->
   wpAny P .any l.toArray (fun e a' w'=>∃s' S' β',Q e s'/\Sim Γ s' a' w' S' β') fuel listed a w:=by
  intro fuel
  induction fuel with
  | zero =>
   intro listed a w S β hsz hc hsim hfu
   have hall:∀j,j<l.length->listed.getD j false=true:=by
    intro j hj
    have:=a2z (Nat.le_zero.1 hfu)
    rw [bhz] at this
    simpa using this j (by simpa using hj)
   refine ⟨?_,hdone listed a w S β hall hsim⟩
   simp only [Region.ready]
   rw [bhz]
   intro j hj
   simp only [aYz,hn] at hj
   have h1:=hall j hj
   have h2:listed.getD j true=true:=by
    simp only [a7z] at h1 ⊢
    cases hx:listed[j]? with
    | none=>rw [hx] at h1; simp at h1
    | some b=>rw [hx] at h1; simpa using h1
   simp [h2]
  | succ fuel ih =>
   intro listed a w S β hsz hc hsim hfu
   refine ⟨fun hr=>hdone listed a w S β (hready listed hsz hr) hsim,fun i hi => ?_⟩
   rw [mem_ready] at hi
   obtain ⟨hil,o,ho,hpre⟩:=hi
   have ho':l[i]?=some o:=by simpa using ho
   have hin:i<l.length:=(a1z.1 ho').1
   have hisz:i<listed.size:=by omega
   have hDi:listed.getD i false=false:=by
    simp only [a7z,aKz hisz,baz] at hil ⊢
    exact hil
   obtain ⟨e,he⟩:∃e,es[i]?=some e:=⟨es[i]'(by omega),ajz (by omega)⟩
   have hF:=hfact i o e ho' he
   have hpre':∀o',l.toArray[i]?=some o'->∀e∈o'.after,Region.binds .any e=true->listed.getD e.on false=true:=by
    intro o' h; rw [ho] at h; simp at h; subst h; exact hpre
   have hname:∀t∈h6q l.toArray o,g8q φ (fun j=>listed.getD j false) s.get l.length t=g8q φ (fun _=>true) s.get i t:=by
    intro t ht
    rw [<-a0Dq i l.length (by omega)]
    refine x2q _ fun j hj hjt => ?_
    obtain ⟨oj,hoj,hdj⟩:=hφ j t hjt
    rcases Nat.lt_trichotomy j i with h | h | h
    ·have:=hord i j o oj ho' hoj h (.inl ⟨t,hdj,ht⟩)
     have hD:=M5q hc _ i j this hpre'
     simp only [h,decide_true]; exact hD
    ·subst h; simp only [Nat.lt_irrefl,decide_false]; exact hDi
    ·have hr:=hord j i oj o hoj ho' h (.inr ⟨t,hdj,ht⟩)
     have:decide (j<i)=false:=by simp; omega
     rw [this]
     cases hDj:listed.getD j false with
     | false=>rfl
     | true =>
      exfalso
      have:listed.getD i false=true:=M5q hc _ j i hr fun o'' ho'' e' he' hb'=>hc j o'' hDj ho'' e' he' hb'
      rw [hDi] at this
      cases this
   have hset:∀j,(listed.setIfInBounds i true).getD j false=if j=i then true else listed.getD j false:=by
    intro j
    by_cases h:j=i
    ·subst h; simp [a7z,hisz]
    ·simp only [a7z,if_neg h]; rw [aez (Ne.symm h)]
   have hfoldT:g8q φ (fun j=>(listed.setIfInBounds i true).getD j false) s.get l.length=fun t=>if o.dst=some t then e.val else g8q φ (fun j=>listed.getD j false) s.get l.length t:=by
    funext t
    by_cases ht:o.dst=some t
    ·rw [if_pos ht]
     refine a6Sq (i:=i) (by rw [hset]; simp) (by simp [φ,G3q,ho',he,ht]) _ hin fun j hij hjn hjt => ?_
     rw [hset,if_neg (by omega)]
     obtain ⟨oj,hoj,hdj⟩:=hφ j t hjt
     have hr:=hord j i oj o hoj ho' hij (.inl ⟨t,ht,by simp [h6q,hdj]⟩)
     cases hDj:listed.getD j false with
     | false=>rfl
     | true =>
      exfalso
      have:listed.getD i false=true:=M5q hc _ j i hr fun o'' ho'' e' he' hb'=>hc j o'' hDj ho'' e' he' hb'
      rw [hDi] at this
      cases this
    ·rw [if_neg ht]
     refine x2q _ fun j hj hjt => ?_
     rw [hset]
     by_cases hji:j=i
     ·subst hji
      obtain ⟨oj,hoj,hdj⟩:=hφ j t hjt
      rw [ho'] at hoj; simp at hoj; subst hoj
      exact absurd hdj ht
     ·rw [if_neg hji]
   have hfoldO:g8q ψ (fun j=>(listed.setIfInBounds i true).getD j false) s.gob l.length=fun q=>(a1q e.nob q).or (g8q ψ (fun j=>listed.getD j false) s.gob l.length q):=by
    funext q
    cases hq:a1q e.nob q with
    | some X =>
     simp only [Option.some_or]
     refine a6Sq (i:=i) (by rw [hset]; simp) (by simp [ψ,x9q,he,hq]) _ hin fun j hij hjn hjt => ?_
     exfalso
     simp only [ψ,x9q] at hjt
     split at hjt
     ·rename_i e' he'
      have:=(hkey i e he (q,X) (g2q hq)).2 j e' he' (by omega)
      dsimp only at this
      rw [this] at hjt
      simp at hjt
     ·exact hjt rfl
    | none =>
     simp only [bEz]
     refine x2q _ fun j hj hjt => ?_
     rw [hset]
     by_cases hji:j=i
     ·subst hji
      exfalso
      simp [ψ,x9q,he,hq] at hjt
     ·rw [if_neg hji]
   have hclosed':a4Uq l.toArray (fun j=>(listed.setIfInBounds i true).getD j false):=by
    intro j oj hj hoj e' he' hb'
    dsimp only at hj ⊢
    rw [hset] at hj ⊢
    by_cases hji:j=i
    ·subst hji
     have:=hpre' oj hoj e' he' hb'
     rw [this]; simp
    ·rw [if_neg hji] at hj
     have:=hc j oj hj hoj e' he' hb'
     dsimp only at this
     rw [this]; simp
   have hfuel':((aTz l.length).filter fun j => !(listed.setIfInBounds i true).getD j false).length<=fuel:=by
    have h1:((aTz l.length).filter fun j => !(listed.setIfInBounds i true).getD j false)=((aTz l.length).filter fun j => !listed.getD j false).filter (· != i):=by
     rw [List.filter_filter]
     apply List.filter_congr
     intro j hj
     rw [hset]
     by_cases h:j=i
     ·subst h; simp
     ·simp [h]
    rw [h1]
    have h2:i∈(aTz l.length).filter fun j => !listed.getD j false:=bCz.2 ⟨aYz.2 hin,by rw [hDi]; rfl⟩
    have h3:∀(L:List Nat),i∈L->(L.filter (· != i)).length<L.length:=by
     intro L hL
     have:=List.length_filter_lt_length_iff_exists (p:=(· != i)) (l:=L)
     exact this.2 ⟨i,hL,by simp⟩
    have:=h3 _ h2
    omega
   have hsize':(listed.setIfInBounds i true).size=l.length:=by simpa using hsz
   unfold wpOp
   simp only [ho]
   have hyield:∀(j:Nat) (d:Nat) (b want:Bool),o.guard=some (j,want)->(l.toArray[j]?).bind (·.dst)=some d->g8q φ (fun _=>true) s.get i d=some (B b)->yielded l.toArray a.tmps j=some b:=by
    intro j d b want hg hj hv
    have hmem:d∈h6q l.toArray o:=by simp only [h6q,a1kq,hg,hj]; simp
    rw [<-hname d hmem] at hv
    obtain ⟨v,hv1,hv2⟩:=hsim.tm d _ hv
    rw [hv2.bool_inv] at hv1
    simp only [yielded,hj,bbz,hv1]
   cases e with
   | skip =>
    obtain ⟨j,want,d,hg,hj,hv,hd⟩:=hF.skip rfl
    have hw:Region.wanted o (yielded l.toArray a.tmps)=false:=by
     rcases hv with hv | hv
     ·have hy:=hyield j d _ want hg hj hv
      simp only [Region.wanted,hg,hy]; cases want <;> rfl
     ·have hmem:d∈h6q l.toArray o:=by simp only [h6q,a1kq,hg,hj]; simp
      rw [<-hname d hmem] at hv
      obtain ⟨v,hv1,hv2⟩:=hsim.tm d _ hv
      obtain ⟨us,rfl,hu⟩:=hv2.tup_inv
      cases hu
      have hyl:yielded l.toArray a.tmps j=none:=by simp only [yielded,hj,bbz,hv1]
      simp only [Region.wanted,hg,hyl]; rfl
    rw [hw,if_neg (by simp)]
    refine ih _ _ _ S β hsize' hclosed' ?_ hfuel'
    rw [hfoldT,hfoldO]
    have:=(Grow.refl hsim.mem.lt).sim (v:=undef) (y:=.tup []) (by simp) (RepVs.tup .nil .nil) hsim hd (by simp) (by simp)
    simpa [Eff.val,Eff.nob,a1q] using this
   | run y nob =>
    obtain ⟨hg,⟨us,hop,hus⟩,_,hf0,hd,hid⟩:=hF.run y nob rfl
    have hw:Region.wanted o (yielded l.toArray a.tmps)=true:=by
     rcases hg with hg | ⟨j,want,d,hg,hj,hv⟩
     ·simp [Region.wanted,hg]
     ·have hy:=hyield j d _ want hg hj hv
      simp [Region.wanted,hg,hy]
    rw [hw,if_pos rfl]
    left
    simp only [C9q,a8z,a4z] at hid
    have hfr:∀p∈nob,p.1∉a1xq s.tm/\p.1∉a0jq s.ob:=by
     intro p hp
     simp only [St.fresh,a4z,a8z,aCz,aHz,decide_eq_false_iff_not,decide_eq_true_eq] at hf0
     exact (hf0 p hp).1
    have hother:∀(j:Nat) (e':Eff),es[j]?=some e'->listed.getD j false=true->∀p∈nob,∀p'∈e'.nob,p'.1≠p.1:=by
     intro j e' he' hDj p hp p' hp' heq
     have hji:j≠i:=by rintro rfl; rw [hDi] at hDj; cases hDj
     have h1:=(hkey i _ he p hp).2 j e' he' hji
     rw [<-heq] at h1
     exact I4q _ hp' h1
    refine hop a w S β hsim.mem.lt (fun x X hx hxm => ?_) (fun p hp => ?_) _ _ fun v w' S' β' hG hy => ?_
    ·cases x with
     | tmp t =>
      have hmem:t∈h6q l.toArray o:=by simp only [h6q,aiz]; exact .inl (.inr (a1Eq hxm))
      simp only [evF] at hx
      rw [<-hname t hmem] at hx
      obtain ⟨v,hv,hr⟩:=hsim.tm t X hx
      have:a.eval (.tmp t)=v:=by simp [Act.eval,a7z,hv]
      rw [this]; exact hr
     | const v=>exact Q6q hx
     | func f=>simp only [evF,Option.some.injEq] at hx; subst hx; exact RepV.one (.d (.fn_ f))
     | global g=>simp [evF] at hx
    ·refine hsim.mem.ob p.1 p.2 ?_
     rcases a0oq (φ:=ψ) (g:=s.gob) (D:=fun j=>listed.getD j false) (t:=p.1) l.length with h | ⟨j,hj,hDj,hψj⟩
     ·rw [h]; exact hus p hp
     ·exfalso
      simp only [ψ,x9q] at hψj
      split at hψj
      ·rename_i e' he'
       split at hψj
       ·rename_i X hX
        have hfr2:=(hkey j e' he' (p.1,X) (g2q hX)).1
        exact (v7q hfr2 (hus p hp)).1 (p.1,X) (g2q hX) rfl
       ·cases hψj
      ·cases hψj
    ·refine ih _ _ _ S' β' hsize' hclosed' ?_ hfuel'
     rw [hfoldT,hfoldO]
     refine hG.sim (I1q hf0) hy hsim hd (fun t x hx q hq p hp heq => ?_) (fun q X hX => ?_)
     ·rcases a0oq (φ:=φ) (g:=s.get) (D:=fun j=>listed.getD j false) (t:=t) l.length with h | ⟨j,hj,hDj,hφj⟩
      ·rw [h] at hx
       exact (hfr p hp).1 (heq ▸ a5lq hx q hq)
      ·rw [hx] at hφj
       simp only [φ,G3q] at hφj
       split at hφj
       ·rename_i oj ej hoj hej
        split at hφj
        ·simp at hφj
         cases ej with
         | skip =>
          simp [Eff.val] at hφj
          subst hφj
          simp [AV.ids,AV.idsT] at hq
         | run yj nobj =>
          simp [Eff.val] at hφj
          subst hφj
          have hidj:=((hfact j oj _ hoj hej).run _ nobj rfl).2.2.2.2.2
          simp only [C9q,a8z,a4z] at hidj
          have:=hidj.1 q hq
          simp only [azz] at this
          rcases this with (h1 | h1) | h1
          ·exact (hfr p hp).1 (heq ▸ hcontains h1)
          ·exact (hfr p hp).2 (heq ▸ hcontains h1)
          ·obtain ⟨p',hp',he'⟩:=aEz.1 (hcontains h1)
           exact hother j _ hej hDj p hp p' hp' (he'.trans heq.symm)
        ·cases hφj
       ·cases hφj
     ·rcases a0oq (φ:=ψ) (g:=s.gob) (D:=fun j=>listed.getD j false) (t:=q) l.length with h | ⟨j,hj,hDj,hψj⟩
      ·rw [h] at hX
       obtain ⟨m1,m2⟩:=a4Pq hX
       exact ⟨fun p hp heq=>(hfr p hp).2 (heq ▸ m1),fun q' hq' p hp heq=>(hfr p hp).2 (heq ▸ m2 q' hq')⟩
      ·rw [hX] at hψj
       simp only [ψ,x9q] at hψj
       split at hψj
       ·rename_i ej hej
        split at hψj
        ·rename_i Y hY
         simp at hψj
         subst hψj
         refine ⟨fun p hp heq=>hother j _ hej hDj p hp _ (g2q hY) heq.symm,fun q' hq' p hp heq => ?_⟩
         cases ej with
         | skip=>simp [Eff.nob,a1q] at hY
         | run yj nobj =>
          have hjl:j<l.length:=hj
          have hidj:=((hfact j _ _ (ajz hjl) hej).run _ nobj rfl).2.2.2.2.2
          simp only [C9q,a8z,a4z] at hidj
          have:=hidj.2 (q,Y) (g2q hY) q' hq'
          simp only [azz] at this
          rcases this with (h1 | h1) | h1
          ·exact (hfr p hp).1 (heq ▸ hcontains h1)
          ·exact (hfr p hp).2 (heq ▸ hcontains h1)
          ·obtain ⟨p',hp',he'⟩:=aEz.1 (hcontains h1)
           exact hother j _ hej hDj p hp p' hp' (he'.trans heq.symm)
        ·cases hψj
       ·cases hψj
 have h0:∀j,(aNz l.length false).getD j false=false:=by
  intro j
  simp only [a7z,Array.getElem?_replicate]
  split <;> rfl
 have e1:g8q φ (fun j=>(aNz l.length false).getD j false) s.get l.length=s.get:=by
  funext t
  rw [x2q (D':=fun j=>decide (j<0)) _ (fun j _ _=>by rw [h0]; simp),a0Dq 0 _ (aBz _)]; rfl
 have e2:g8q ψ (fun j=>(aNz l.length false).getD j false) s.gob l.length=s.gob:=by
  funext t
  rw [x2q (D':=fun j=>decide (j<0)) _ (fun j _ _=>by rw [h0]; simp),a0Dq 0 _ (aBz _)]; rfl
 rw [hn]
 refine key l.length (aNz l.length false) a _ S β (by simp) (fun i o h=>by dsimp only at h; rw [h0] at h; cases h) ?_ (aqz (List.length_filter_le _ _) (by simp))
 rw [e1,e2]
 exact ⟨hs.defers,hs.sz,fun i x hi=>by
  obtain ⟨v,hv,hr⟩:=hs.tm i x hi
  exact ⟨v,hv,hr.mono (fun _ _=>rfl) (fun _ h=>h) fun _ _=>rfl⟩,
  ⟨hs.mem.lt,fun o X ho=>(hs.mem.ob o X ho).mono (fun _ _=>rfl) (fun _ _=>rfl) (fun _ h=>h) fun _ _=>rfl,hs.mem.own,hs.mem.sep,hs.mem.os,hs.mem.tape,hs.mem.output,hs.mem.size,hs.mem.block,hs.mem.sub,hs.mem.sup,hs.mem.fix,hs.mem.clm,hs.mem.sepc⟩⟩
def usOk (s:St):List (Nat×Ob)->Prop
 | []=>True
 | (k,X)::r=>s.gob k=some X/\usOk s r
theorem q5q {s:St}:∀{us:List (Nat×Ob)},usOk s us->∀p∈us,s.gob p.1=some p.2
 | [],_=>by simp
 | (k,X)::r,h=>by
  intro p hp
  rcases abz.1 hp with rfl | hp
  ·exact h.1
  ·exact q5q h.2 p hp
theorem OpP.tr {P:Program} {o:Oper} {av:Operand->Option AV} {y:AV} {nob:List (Nat×Ob)} {tr:Bool} {k E es:Nat} {xs:List (List Da)} (h:OpP P o av [(k,.lst E es xs)] y nob):OpP P o av [(k,mkL tr E es xs)] y nob:=by
 cases tr with
 | false=>exact h
 | true =>
  intro a w S β hlt hr hu
  exact h a w S β hlt hr fun p hp=>by
   simp only [List.mem_singleton] at hp
   subst hp
   exact ObRep.lst_of_tr (hu (k,.tr E es xs) (by simp [mkL]))
def OpS (P:Program) (o:Oper) (s s0:St) (y:AV) (nob:List (Nat×Ob)):Prop:=∃us,OpP P o s.ev us y nob/\usOk s0 us
section
variable {P:Program} {o:Oper} {s s0:St} {y:AV} {nob:List (Nat×Ob)} {t:TypeId} {x z:Operand}
theorem d2q (h:OpP P o s.ev [] y nob):OpS P o s s0 y nob:=⟨[],h,trivial⟩
end
section
variable {Γ:Cx} {P:Program} {ops:Array Oper} {rest:List Oper} {o:Oper} {K:St->Prop} {s s0:St} {y:AV} {nob:List (Nat×Ob)} {es:List Eff} {s':St}
theorem aeGq (h:OpS P o s s y nob) (hg:o.guard=none) (hd:o.dst.all (· < Γ.n)=true) (hf:s.fresh nob=true) (hr:d8q Γ P ops rest K (s.upd o.dst y nob)):d8q Γ P ops (o::rest) K s:=by
 obtain ⟨us,h1,h2⟩:=h
 exact afrq h1 hg hd (q5q h2) hf hr
theorem agoq {j d:Nat} {want:Bool} (h:OpS P o s s y nob) (hg:o.guard=some (j,want)) (hj:(ops[j]?).bind (·.dst)=some d) (hb:s.get d=some (B want)) (hd:o.dst.all (· < Γ.n)=true) (hf:s.fresh nob=true) (hr:d8q Γ P ops rest K (s.upd o.dst y nob)):d8q Γ P ops (o::rest) K s:=by
 obtain ⟨us,h1,h2⟩:=h
 exact aenq hg hj hb hd (fun _=>⟨h1,q5q h2,hf,hr⟩) (fun e=>by cases want <;> cases e)
theorem Sim.at {d:Nat} {b:Bool} {a:Act} {w:World} {S:Nat->Prop} {β:Nat->OLoc} (hb:s.get d=some (B b)) (hs:Sim Γ s a w S β):Sim Γ (s.upd (some d) (B b) []) a w S β:=by
 refine hs.weaken (fun i x hi => ?_) (fun o X ho => ?_)
 ·rw [z3q] at hi
  split at hi
  ·rename_i e; simp at e hi; subst e; subst hi; exact hb
  ·exact hi
 ·rw [I9q] at ho; simpa [a1q] using ho
theorem ae3q {l:List Oper} (d:Nat) {b:Bool} (hb:s.get d=some (B b)) (ht:b=true->d8q Γ P ops l K (s.upd (some d) (B true) [])) (hf:b=false->d8q Γ P ops l K (s.upd (some d) (B false) [])):d8q Γ P ops l K s:=by
 intro a w S β R hs hR
 have h1:=Sim.at hb hs
 cases b with
 | true=>exact ht rfl a w S β R h1 hR
 | false=>exact hf rfl a w S β R h1 hR
theorem agRq (h:OpS P o s s0 y nob) (hg:o.guard=none) (hd:o.dst.all (· < Γ.n)=true) (hf:s.fresh nob=true) (hf0:s0.fresh nob=true) (hid:C9q s0 y nob=true) (hr:PRun Γ P ops s0 rest (s.upd o.dst y nob) es s'):PRun Γ P ops s0 (o::rest) s (.run y nob::es) s':=by
 obtain ⟨us,h1,h2⟩:=h
 exact .run (.inl hg) h1 (q5q h2) hf hf0 hd hid hr
theorem agyq {j d:Nat} {want:Bool} (h:OpS P o s s0 y nob) (hg:o.guard=some (j,want)) (hj:(ops[j]?).bind (·.dst)=some d) (hb:s.get d=some (B want)) (hd:o.dst.all (· < Γ.n)=true) (hf:s.fresh nob=true) (hf0:s0.fresh nob=true) (hid:C9q s0 y nob=true) (hr:PRun Γ P ops s0 rest (s.upd o.dst y nob) es s'):PRun Γ P ops s0 (o::rest) s (.run y nob::es) s':=by
 obtain ⟨us,h1,h2⟩:=h
 exact .run (.inr ⟨j,want,d,hg,hj,hb⟩) h1 (q5q h2) hf hf0 hd hid hr
end
def W (Γ:Cx) (P:Program) (c:Code) (N:St->Prop) (E:Exit->St->Prop) (s:St):Prop:=awp Γ P c (a7Yq N E) s
def a4sq (id:Nat) (N:St->Prop) (E:Exit->St->Prop):Exit->St->Prop
 | .exit id',s=>if id'=id then N s else E (.exit id') s
 | e,s=>E e s
section
variable {Γ:Cx} {P:Program} {N:St->Prop} {E:Exit->St->Prop} {s:St}
theorem agCq {x y:Code} (h:W Γ P x (W Γ P y N E) E s):W Γ P (.seq x y) N E s:=by
 refine aeVq (a3Jq h ?_)
 intro e s' hq
 cases e <;> exact hq
theorem ag7q (h:N s):W Γ P .skip N E s:=adVq h
theorem ag4q {id:Nat} (h:E (.exit id) s):W Γ P (.exit id) N E s:=adDq h
theorem agYq (h:E .ret s):W Γ P .ret N E s:=aeJq h
theorem af1q {id:Nat} {c:Code} (h:W Γ P c N (a4sq id N E) s):W Γ P (.block id c) N E s:=by
 refine ac8q (a3Jq h ?_)
 intro e s' hq
 cases e with
 | exit id' =>
  simp only [a7Yq,a4sq,a8Jq] at hq ⊢
  split
  ·rename_i hh; rw [if_pos hh] at hq; exact hq
  ·rename_i hh; rw [if_neg hh] at hq; exact hq
 | _=>exact hq
theorem agBq {c:Operand} {x y:Code} {b:Bool} (hc:s.ev c=some (B b)) (ht:b=true->W Γ P x N E s) (hf:b=false->W Γ P y N E s):W Γ P (.cond c x y) N E s:=adNq hc ht hf
theorem aduq {id:Nat} {l:List Oper} (h:d8q Γ P l.toArray l N s):W Γ P (.region id l.toArray false) N E s:=abqq h
theorem afUq {l:List Oper} {s':St} {es:List Eff} {id:Nat} (hm:P.follows .mixedOrders=true) (hok:K7q l.toArray=true) (hrun:PRun Γ P l.toArray s l s es s') (hN:N s'):W Γ P (.region id l.toArray true) N E s:=adZq hm hok hrun hN
theorem a5nq {c:Code} {N':St->Prop} {E':Exit->St->Prop} (h:W Γ P c N E s) (hn:∀s,N s->N' s) (he:∀e s,E e s->E' e s):W Γ P c N' E' s:=by
 refine a3Jq h ?_
 intro e s' hq
 cases e <;> first | exact hn _ hq | exact he _ _ hq
end
def retE (R:St->Prop):Exit->St->Prop
 | .ret,s=>R s
 | _,_=>False
theorem Ent.refl (s:St):Ent s s:=⟨fun _ _ h=>h,fun _ _ h=>h⟩
def agZq (s:St) (tm:List (Nat×AV)) (ob:List (Nat×Ob)):Prop:=(∀p∈tm,s.get p.1=some p.2)/\∀p∈ob,s.gob p.1=some p.2
theorem Ent.of {s:St} {tm:List (Nat×AV)} {ob:List (Nat×Ob)} (h:agZq s tm ob):Ent s ⟨tm,ob⟩ :=
 ⟨fun i x hi=>h.1 (i,x) (g2q hi),fun o X ho=>h.2 (o,X) (g2q ho)⟩
structure TI where
 agg:Bool
 n:Nat
 b:Nat
 el:Option Nat
 fs:List (Option (Nat×Nat×Bool))
 pr:Nat
 ik:Option IntKind
 deriving DecidableEq,Repr
def J4q (P:Program) (f:Field):Option (Nat×Nat×Bool):=match P.info? f.type,P.underlying f.type with
 | some i,some d=>some (f.offset,i.size,E9q d)
 | _,_=>none
def elD:TypeDesc->Option Nat
 | .slice e=>some e
 | .array _ e=>some e
 | _=>none
def fsD:TypeDesc->List Field
 | .struct fs=>fs.toList
 | _=>[]
def prD:TypeDesc->Nat
 | .bool=>1
 | .string=>2
 | .int _=>3
 | .slice _=>4
 | .struct _=>5
 | .array n _=>10+n
 | _=>0
def ikD:TypeDesc->Option IntKind
 | .int k=>some k
 | _=>none
def tiOf (P:Program) (t:TypeId):Option TI :=
 match P.underlying t,P.info? t with
 | some d,some i=>some { agg:=E9q d,n:=i.size,b:=i.bytes,el:=elD d,fs:=(fsD d).map (J4q P),pr:=prD d,ik:=ikD d }
 | _,_=>none
def TabOk (P:Program) (tab:List (Nat×TI)):Prop:=∀t i,a1q tab t=some i->tiOf P t=some i
theorem TabOk.of {P:Program} {tab:List (Nat×TI)} (h:(tab.all fun p=>decide (tiOf P p.1=some p.2))=true):TabOk P tab:=by
 intro t i hi
 have:=a4z.1 h _ (g2q hi)
 simpa using this
theorem b2q {P:Program} {t:TypeId} {i:TI} (h:tiOf P t=some i):∃d j,P.underlying t=some d/\P.info? t=some j/\E9q d=i.agg/\j.size=i.n/\j.bytes=i.b/\elD d=i.el/\(fsD d).map (J4q P)=i.fs/\prD d=i.pr/\ikD d=i.ik:=by
 unfold tiOf at h
 split at h
 ·rename_i d j hd hj
  simp at h
  subst h
  exact ⟨d,j,hd,hj,rfl,rfl,rfl,rfl,rfl,rfl,rfl⟩
 ·simp at h
theorem h5q {d:TypeDesc} {e:Nat} (h1:elD d=some e) (h2:prD d=4):d = .slice e:=by
 cases d <;> simp [elD,prD] at h1 h2
 ·exact congrArg _ h1
 ·omega
theorem a8cq {d:TypeDesc} {e n:Nat} (h1:elD d=some e) (h2:prD d=10+n):d = .array n e:=by
 cases d <;> simp [elD,prD] at h1 h2
 ·omega
 ·rw [h1,h2]
theorem E1q {d:TypeDesc} (h2:prD d=2):d = .string:=by
 cases d <;> simp [prD] at h2 <;> first | rfl | omega
theorem aaAq {d:TypeDesc} (h2:prD d=1):d = .bool:=by
 cases d <;> simp [prD] at h2 <;> first | rfl | omega
theorem a8Tq {d:TypeDesc} {k:IntKind} (h2:ikD d=some k):d = .int k:=by
 cases d <;> simp [ikD] at h2; exact congrArg _ h2
def AV.sc:AV->Option (List At)
 | .dat xs=>some (xs.map .d)
 | .agg xs=>some xs
 | _=>none
theorem AV.sc_cells {X:AV} {cs:List At} (h:X.sc=some cs):X.cells=some cs/\((∃ys,X = .dat ys)\/∃ys,X = .agg ys):=by
 cases X <;> simp [AV.sc] at h
 ·exact ⟨by simp [AV.cells,h],.inl ⟨_,rfl⟩⟩
 ·exact ⟨by simp [AV.cells,h],.inr ⟨_,rfl⟩⟩
section
variable {P:Program} {tab:List (Nat×TI)} {o:Oper} {s s0:St} {y:AV} {nob:List (Nat×Ob)} {t:TypeId} {x z:Operand} {i:TI}
theorem Q1q (hT:TabOk P tab) (ht:a1q tab t=some i) {q off n:Nat} {a:Bool} (hq:i.fs[q]?=some (some (off,n,a))) :
  ∃fs f d j,P.underlying t=some (.struct fs)/\fs[q]?=some f/\f.offset=off/\P.underlying f.type=some d/\E9q d=a/\P.info? f.type=some j/\j.size=n:=by
 obtain ⟨d,j,hd,hj,_,_,_,_,hfs,_,_⟩:=b2q (hT t i ht)
 rw [<-hfs] at hq
 simp only [b2z,Option.map_eq_some_iff] at hq
 obtain ⟨f,hf,h1⟩:=hq
 unfold J4q at h1
 split at h1
 ·rename_i j2 d2 hj2 hd2
  simp at h1
  obtain ⟨rfl,rfl,rfl⟩:=h1
  cases d <;> simp [fsD] at hf
  exact ⟨_,f,d2,j2,hd,by simpa using hf,rfl,hd2,rfl,hj2,rfl⟩
 ·simp at h1
theorem a6Uq {f:Field} {j:TypeInfo} (hj:P.info? f.type=some j) (hn:0<j.size) (w:World) (a:Addr):(fieldPlace a f).run P w = .ok (a.add f.offset) w:=by
 have:¬j.size=0:=by omega
 simp [fieldPlace,sizeOf,typeInfo,hj,this]
theorem acQq (hT:TabOk P tab) {q off n:Nat} {X:AV} {cs:List At} {c:At} (ho:o.op = .field t x q) (ht:a1q tab t=some i) (hq:i.fs[q]?=some (some (off,n,false))) (hx:s.ev x=some X) (hc:X.sc=some cs) (hi:cs[off]?=some c):OpS P o s s0 (.one c) []:=by
 obtain ⟨fs,f,d,j,h1,h2,rfl,h4,h5,h6,h7⟩:=Q1q hT ht hq
 obtain ⟨c1,c2⟩:=AV.sc_cells hc
 exact d2q (aaMq ho h1 h2 h4 h5 hx c1 c2 hi)
theorem a6Gq (hT:TabOk P tab) {q off n:Nat} {X:AV} {cs:List At} (ho:o.op = .field t x q) (ht:a1q tab t=some i) (hq:i.fs[q]?=some (some (off,n,true))) (hx:s.ev x=some X) (hc:X.sc=some cs):OpS P o s s0 (w2q ((cs.drop off).take n)) []:=by
 obtain ⟨fs,f,d,j,h1,h2,rfl,h4,h5,h6,rfl⟩:=Q1q hT ht hq
 obtain ⟨c1,c2⟩:=AV.sc_cells hc
 exact d2q (abeq ho h1 h2 h4 h5 h6 hx c1 c2)
theorem acpq (hT:TabOk P tab) {q off n:Nat} {ds:List Da} (ho:o.op = .field t x q) (ht:a1q tab t=some i) (hq:i.fs[q]?=some (some (off,n,true))) (hx:s.ev x=some (.dat ds)):OpS P o s s0 (.dat ((ds.drop off).take n)) []:=by
 have:=a6Gq (s0:=s0) hT ho ht hq hx rfl
 have e:((ds.map At.d).drop off).take n=((ds.drop off).take n).map .d:=by simp [List.map_drop,List.map_take]
 rw [e] at this
 have e2:∀l:List Da,w2q (l.map .d) = .dat l:=by
  intro l
  have:toDs (l.map .d)=some l:=by induction l with | nil=>rfl | cons a l ih=>simp [toDs,At.toD,ih]
  have h2:noE0 (l.map .d)=true:=by clear this; induction l with | nil=>rfl | cons a l ih=>simpa [noE0] using ih
  simp [w2q,a2Bq,h2,this]
 rw [e2] at this
 exact this
theorem a7Dq (hT:TabOk P tab) {q off n k off0:Nat} {a:Bool} (ho:o.op = .fieldAddr t x q) (ht:a1q tab t=some i) (hq:i.fs[q]?=some (some (off,n,a))) (hn:0<n) (hx:s.ev x=some (.one (.op k off0))):OpS P o s s0 (.one (.op k (off0+off))) []:=by
 obtain ⟨fs,f,d,j,h1,h2,rfl,h4,h5,h6,rfl⟩:=Q1q hT ht hq
 exact d2q (a5Mq ho h1 h2 hx (a6Uq h6 hn))
theorem a7Sq (hT:TabOk P tab) {q off n:Nat} {a:Bool} {cs:List Da} (ho:o.op = .fieldAddr t x q) (ht:a1q tab t=some i) (hq:i.fs[q]?=some (some (off,n,a))) (hn:0<n) (hx:s.ev x=some (.one (.ep cs))):OpS P o s s0 (.one (.ep (cs.drop off))) []:=by
 obtain ⟨fs,f,d,j,h1,h2,rfl,h4,h5,h6,rfl⟩:=Q1q hT ht hq
 exact d2q (a6fq ho h1 h2 hx (a6Uq h6 hn))
theorem ac6q (hT:TabOk P tab) {cs:List Da} {c:Da} (ho:o.op = .load t x) (ht:a1q tab t=some i) (ha:i.agg=false) (hx:s.ev x=some (.one (.ep cs))) (hc:cs[0]?=some c):OpS P o s s0 (.one (.d c)) []:=by
 obtain ⟨d,j,hd,hj,h1,h2,h3,_⟩:=b2q (hT t i ht)
 exact d2q (abDq ho hd (h1.trans ha) hx hc)
theorem abLq (hT:TabOk P tab) {cs:List Da} (ho:o.op = .load t x) (ht:a1q tab t=some i) (ha:i.agg=true) (hx:s.ev x=some (.one (.ep cs))) (hc:i.n<=cs.length):OpS P o s s0 (.dat (cs.take i.n)) []:=by
 obtain ⟨d,j,hd,hj,h1,h2,h3,_⟩:=b2q (hT t i ht)
 rw [<-h2] at hc ⊢
 exact d2q (aaNq ho hd (h1.trans ha) hj hx hc)
theorem aceq (hT:TabOk P tab) {k off:Nat} {cs:List At} {c:At} (ho:o.op = .load t x) (ht:a1q tab t=some i) (ha:i.agg=false) (hx:s.ev x=some (.one (.op k off))) (hk:s0.gob k=some (.var cs)) (hc:cs[off]?=some c):OpS P o s s0 (.one c) []:=by
 obtain ⟨d,j,hd,hj,h1,h2,h3,_⟩:=b2q (hT t i ht)
 exact ⟨_,abWq ho hd (h1.trans ha) hx hc,hk,trivial⟩
theorem ad3q (hT:TabOk P tab) {k off:Nat} {cs:List At} (ho:o.op = .load t x) (ht:a1q tab t=some i) (ha:i.agg=true) (hx:s.ev x=some (.one (.op k off))) (hk:s0.gob k=some (.var cs)) (hc:off+i.n<=cs.length):OpS P o s s0 (w2q ((cs.drop off).take i.n)) []:=by
 obtain ⟨d,j,hd,hj,h1,h2,h3,_⟩:=b2q (hT t i ht)
 rw [<-h2] at hc ⊢
 exact ⟨_,abHq ho hd (h1.trans ha) hj hx hc,hk,trivial⟩
theorem a6Eq (hT:TabOk P tab) {tr:Bool} {k off n q E es:Nat} {xs:List (List Da)} {c:List Da} {x0:Da} (ho:o.op = .load t x) (ht:a1q tab t=some i) (ha:i.agg=false) (hx:s.ev x=some (.one (.op k off))) (hk:s0.gob k=some (mkL tr E es xs)) (hn:xs[n]?=some c) (hq:c[q]?=some x0) (hoff:off=n*es+q):OpS P o s s0 (.one (.d x0)) []:=by
 obtain ⟨d,j,hd,hj,h1,h2,h3,_⟩:=b2q (hT t i ht)
 exact ⟨_,(abgq ho hd (h1.trans ha) hx hn hq hoff).tr,hk,trivial⟩
theorem actq (hT:TabOk P tab) {tr:Bool} {k off n E es:Nat} {xs:List (List Da)} {c:List Da} (ho:o.op = .load t x) (ht:a1q tab t=some i) (ha:i.agg=true) (hx:s.ev x=some (.one (.op k off))) (hk:s0.gob k=some (mkL tr E es xs)) (hn:xs[n]?=some c) (hoff:off=n*es) (hc:c.length=i.n):OpS P o s s0 (.dat c) []:=by
 obtain ⟨d,j,hd,hj,h1,h2,h3,_⟩:=b2q (hT t i ht)
 exact ⟨_,(abbq ho hd (h1.trans ha) hj hx hn hoff (hc.trans h2.symm)).tr,hk,trivial⟩
theorem acZq (hT:TabOk P tab) {xs:List (List Da)} {k:IntKind} {n:Nat} {c:List Da} {e:Nat} {i2:TI} (ho:o.op = .indexAddr t x z) (ht:a1q tab t=some i) (hp:i.pr=4) (he:i.el=some e) (ht2:a1q tab e=some i2) (hpos:0<i2.n) (hx:s.ev x=some (L xs)) (hz:s.ev z=some (I k (n:Int))) (hi:xs[n]?=some c) (hc:c.length=i2.n):OpS P o s s0 (.one (.ep c)) []:=by
 obtain ⟨d,j,hd,hj,h1,h2,h3,h4,h5,h6,h7⟩:=b2q (hT t i ht)
 obtain ⟨d2,j2,hd2,hj2,g1,g2,g3,_⟩:=b2q (hT e i2 ht2)
 have:=h5q (h4.trans he) (h6.trans hp)
 subst this
 exact d2q (abdq ho hd hj2 hx hz hi (hc.trans g2.symm) (by omega))
theorem acHq (hT:TabOk P tab) {tr:Bool} {k' E es:Nat} {xs:List (List Da)} {k:IntKind} {n:Nat} {e:Nat} {i2:TI} (ho:o.op = .indexAddr t x z) (ht:a1q tab t=some i) (hp:i.pr=4) (he:i.el=some e) (ht2:a1q tab e=some i2) (hx:s.ev x=some (.one (.ol k'))) (hk:s0.gob k'=some (mkL tr E es xs)) (hes:i2.n=es) (hpos:0<es) (hz:s.ev z=some (I k (n:Int))) (hn:n<xs.length):OpS P o s s0 (.one (.op k' (n*es))) []:=by
 obtain ⟨d,j,hd,hj,h1,h2,h3,h4,h5,h6,h7⟩:=b2q (hT t i ht)
 obtain ⟨d2,j2,hd2,hj2,g1,g2,g3,_⟩:=b2q (hT e i2 ht2)
 have:=h5q (h4.trans he) (h6.trans hp)
 subst this
 exact ⟨_,(aaLq ho hd hj2 (g2.trans hes) hpos hx hz hn).tr,hk,trivial⟩
theorem acJq (hT:TabOk P tab) {q:ByteArray} {k:IntKind} {n:Nat} {c:UInt8} (ho:o.op = .index t x z) (ht:a1q tab t=some i) (hp:i.pr=2) (hx:s.ev x=some (T q)) (hz:s.ev z=some (I k (n:Int))) (hc:q[n]?=some c):OpS P o s s0 (I .u8 c.toNat) []:=by
 obtain ⟨d,j,hd,hj,h1,h2,h3,h4,h5,h6,h7⟩:=b2q (hT t i ht)
 have:=E1q (h6.trans hp); subst this
 exact d2q (abAq ho hd hx hz hc)
theorem afOq (hT:TabOk P tab) {q:ByteArray} (ho:o.op = .call { callee:=.builtin .len,args := #[x],argTypes := #[t] }) (hx:s.ev x=some (T q)) (ht:a1q tab t=some i) (hp:i.pr=2):OpS P o s s0 (Z q.size) []:=by
 obtain ⟨d,j,hd,hj,h1,h2,h3,h4,h5,h6,h7⟩:=b2q (hT t i ht)
 have:=E1q (h6.trans hp); subst this
 exact d2q (aeqq ho hd hx)
theorem aeXq (hT:TabOk P tab) {xs:List (List Da)} {e:Nat} (ho:o.op = .call { callee:=.builtin .len,args := #[x],argTypes := #[t] }) (hx:s.ev x=some (L xs)) (ht:a1q tab t=some i) (hp:i.pr=4) (he:i.el=some e):OpS P o s s0 (Z xs.length) []:=by
 obtain ⟨d,j,hd,hj,h1,h2,h3,h4,h5,h6,h7⟩:=b2q (hT t i ht)
 have:=h5q (h4.trans he) (h6.trans hp); subst this
 exact d2q (aeeq ho hd hx)
theorem afMq (hT:TabOk P tab) {e:Nat} (ho:o.op = .call { callee:=.builtin .len,args := #[x],argTypes := #[t] }) (hx:s.ev x=some (.one .e0)) (ht:a1q tab t=some i) (hp:i.pr=4) (he:i.el=some e):OpS P o s s0 (Z 0) []:=by
 obtain ⟨d,j,hd,hj,h1,h2,h3,h4,h5,h6,h7⟩:=b2q (hT t i ht)
 have:=h5q (h4.trans he) (h6.trans hp); subst this
 exact d2q (aeuq ho hd hx)
theorem aeIq (hT:TabOk P tab) {tr:Bool} {k E es:Nat} {xs:List (List Da)} {e:Nat} (ho:o.op = .call { callee:=.builtin .len,args := #[x],argTypes := #[t] }) (hx:s.ev x=some (.one (.ol k))) (hk:s0.gob k=some (mkL tr E es xs)) (ht:a1q tab t=some i) (hp:i.pr=4) (he:i.el=some e):OpS P o s s0 (Z xs.length) []:=by
 obtain ⟨d,j,hd,hj,h1,h2,h3,h4,h5,h6,h7⟩:=b2q (hT t i ht)
 have:=h5q (h4.trans he) (h6.trans hp); subst this
 exact ⟨_,(aehq ho hd hx).tr,hk,trivial⟩
theorem afeq (hT:TabOk P tab) {q:ByteArray} {lo hi:Option Operand} {k k':IntKind} {l h:Nat} (ho:o.op = .slice t x lo hi none) (ht:a1q tab t=some i) (hp:i.pr=2) (hx:s.ev x=some (T q))
  (hlo:(lo=none/\l=0)\/∃u,lo=some u/\s.ev u=some (I k (l:Int))) (hhi:(hi=none/\h=q.size)\/∃u,hi=some u/\s.ev u=some (I k' (h:Int))) (hlh:l<=h) (hs:h<=q.size):OpS P o s s0 (T (q.extract l h)) []:=by
 obtain ⟨d,j,hd,hj,h1,h2,h3,h4,h5,h6,h7⟩:=b2q (hT t i ht)
 have:=E1q (h6.trans hp); subst this
 exact d2q (ae4q ho hd hx hlo hhi hlh hs)
theorem afPq (hT:TabOk P tab) {xs:List (List Da)} {lo hi:Option Operand} {k k':IntKind} {l h e:Nat} {i2:TI} (ho:o.op = .slice t x lo hi none) (ht:a1q tab t=some i) (hp:i.pr=4) (he:i.el=some e) (ht2:a1q tab e=some i2) (hes:∀c∈xs,c.length=i2.n) (hx:s.ev x=some (L xs))
  (hlo:(lo=none/\l=0)\/∃u,lo=some u/\s.ev u=some (I k (l:Int))) (hhi:(hi=none/\h=xs.length)\/∃u,hi=some u/\s.ev u=some (I k' (h:Int))) (hlh:l<=h) (hs:h<=xs.length):OpS P o s s0 (L ((xs.take h).drop l)) []:=by
 obtain ⟨d,j,hd,hj,h1,h2,h3,h4,h5,h6,h7⟩:=b2q (hT t i ht)
 obtain ⟨d2,j2,hd2,hj2,g1,g2,g3,_⟩:=b2q (hT e i2 ht2)
 have:=h5q (h4.trans he) (h6.trans hp); subst this
 exact d2q (adIq ho hd hj2 (fun c hc=>(hes c hc).trans g2.symm) hx hlo hhi hlh hs)
theorem abXq (hT:TabOk P tab) {t':TypeId} {b c:Bool} (ho:o.op = .binOp .eql t x z t') (hx:s.ev x=some (B b)) (hz:s.ev z=some (B c)) (ht:a1q tab t=some i) (hp:i.pr=1):OpS P o s s0 (B (decide (b=c))) []:=by
 obtain ⟨d,j,hd,hj,h1,h2,h3,h4,h5,h6,h7⟩:=b2q (hT t i ht)
 have:=aaAq (h6.trans hp); subst this
 exact d2q (aaVq ho hd hx hz)
theorem acWq (hT:TabOk P tab) {t':TypeId} {b c:Bool} (ho:o.op = .binOp .neq t x z t') (hx:s.ev x=some (B b)) (hz:s.ev z=some (B c)) (ht:a1q tab t=some i) (hp:i.pr=1):OpS P o s s0 (B (decide (b≠c))) []:=by
 obtain ⟨d,j,hd,hj,h1,h2,h3,h4,h5,h6,h7⟩:=b2q (hT t i ht)
 have:=aaAq (h6.trans hp); subst this
 exact d2q (abFq ho hd hx hz)
theorem abkq (hT:TabOk P tab) {src dst:TypeId} {k k':IntKind} {n:Int} {i2:TI} (ho:o.op = .convert src dst x) (hx:s.ev x=some (I k n)) (hs:a1q tab src=some i) (hd:a1q tab dst=some i2) (hk:i2.ik=some k'):OpS P o s s0 (I k' (k'.wrap n)) []:=by
 obtain ⟨d,j,hd1,_⟩:=b2q (hT src i hs)
 obtain ⟨d2,j2,hd2,hj2,h1,h2,h3,h4,h5,h6,h7⟩:=b2q (hT dst i2 hd)
 have:=a8Tq (h7.trans hk); subst this
 exact d2q (a9Kq ho hd1 hd2 hx)
theorem abNq (hT:TabOk P tab) {src dst:TypeId} {k:IntKind} {n:Int} {i2:TI} (ho:o.op = .convert src dst x) (hx:s.ev x=some (I k n)) (hs:a1q tab src=some i) (hd:a1q tab dst=some i2) (hp:i2.pr=2) (hz:(bjz n).size<=281474976710656):OpS P o s s0 (T (bjz n)) []:=by
 obtain ⟨d,j,hd1,_⟩:=b2q (hT src i hs)
 obtain ⟨d2,j2,hd2,hj2,h1,h2,h3,h4,h5,h6,h7⟩:=b2q (hT dst i2 hd)
 have:=E1q (h6.trans hp); subst this
 exact d2q (a9Wq ho hd1 hd2 hx hz)
theorem agkq {d:Nat} {X:AV} {cs:List At} (ho:o.op = .box t x) (hdst:o.dst=some d) (hx:s.ev x=some X) (hc:X.cells=some cs) (hd:(AV.idsL cs).contains d=false):OpS P o s s0 (.one (.op d 0)) [(d,.var cs)] :=
 d2q (af3q ho hx hc (by simpa using hd))
end
def ZeroOk (P:Program) (t:TypeId) (n b:Nat) (cs:List At):Prop:=∃j zv,P.info? t=some j/\j.size=n/\j.bytes=b/\j.zero=some zv/\zv.cells.size=n/\o3q zv.cells.toList=some cs
theorem ZeroOk.of {P:Program} {t:TypeId} {n b:Nat} {cs:List At} {zv:Value} (h:(P.info? t).map (fun i=>(i.size,i.bytes,i.zero))=some (n,b,some zv)) (hn:zv.cells.size=n) (hc:o3q zv.cells.toList=some cs):ZeroOk P t n b cs:=by
 cases hj:P.info? t with
 | none=>rw [hj] at h; simp at h
 | some j=>rw [hj] at h; simp at h; exact ⟨j,zv,hj,h.1,h.2.1,h.2.2,hn,hc⟩
section
variable {Γ:Cx} {P:Program} {ops:Array Oper} {rest:List Oper} {o:Oper} {K:St->Prop} {s s0:St} {t:TypeId} {x z:Operand}
theorem adpq {d:Nat} {n b:Nat} {cs:List At} (hz:ZeroOk P t n b cs) (ho:o.op = .alloc t) (hdst:o.dst=some d):OpS P o s s0 (.one (.op d 0)) [(d,.var cs)]:=by
 obtain ⟨j,zv,h1,h2,h3,h4,h5,h6⟩:=hz
 exact d2q (acCq ho h1 h4 h6)
theorem afcq {tab:List (Nat×TI)} {i:TI} {e:Nat} {d:Nat} {n b l c:Nat} {k k':IntKind} {cs:List At} {zd:List Da} (hT:TabOk P tab) (hz:ZeroOk P e n b cs) (ho:o.op = .makeSlice t x z) (hdst:o.dst=some d) (ht:a1q tab t=some i) (hp:i.pr=4) (he:i.el=some e) (hpos:0<n) (hzd:toDs cs=some zd)
  (hx:s.ev x=some (I k (l:Int))) (hzz:s.ev z=some (I k' (c:Int))) (hlc:l<=c) (hb:b*c<=281474976710656) (hc48:c<=281474976710656):OpS P o s s0 (.one (.ol d)) [(d,.lst e n (a3z l zd))]:=by
 obtain ⟨j,zv,h1,h2,h3,h4,h5,h6⟩:=hz
 obtain ⟨d1,j1,hd,hj,g1,g2,g3,g4,g5,g6,g7⟩:=b2q (hT t i ht)
 have:=h5q (g4.trans he) (g6.trans hp); subst this
 subst h2; subst h3
 exact d2q (a7hq ho hd h1 h4 h5 hpos h6 hzd hx hzz hlc hb hc48)
theorem ae2q {tab:List (Nat×TI)} {i:TI} {n b:Nat} {ps:List (Nat×Operand)} {cs out:List At} {ahOq:List (Nat×List At)} (hT:TabOk P tab) (hz:ZeroOk P t n b cs) (ho:o.op = .build t ps.toArray) (ht:a1q tab t=some i) (hp:i.pr=5) (hfs:i.fs.all (·.isSome)=true) (has:s6q s.ev ps=some ahOq)
  (hf:y5q (fun q=>(i.fs[q]?).bind fun (f:Option (Nat×Nat×Bool))=>f.map fun f=>(f.1,f.2.1)) cs ahOq=some out):OpS P o s s0 (w2q out) []:=by
 obtain ⟨j,zv,h1,h2,h3,h4,h5,h6⟩:=hz
 obtain ⟨d1,j1,hd,hj,g1,g2,g3,g4,g5,g6,g7⟩:=b2q (hT t i ht)
 have hst:∃fs,d1 = .struct fs:=by
  have:=g6.trans hp
  cases d1 <;> simp [prD] at this <;> first | exact ⟨_,rfl⟩ | omega
 obtain ⟨fs,rfl⟩:=hst
 have hall:∀f∈fs.toList,∃p,J4q P f=some p:=by
  intro f hf
  have hm:J4q P f∈i.fs:=by rw [<-g5]; exact aEz.2 ⟨f,hf,rfl⟩
  have:=a4z.1 hfs _ hm
  exact aOz.1 this
 ·have hpl:∃places:Array (Nat×Nat),(∀w,(fs.mapM fun f=>do pure (f.offset,<-sizeOf f.type):Sem (Array (Nat×Nat))).run P w = .ok places w)/\∀q:Nat,places[q]?=(i.fs[q]?).bind fun (f:Option (Nat×Nat×Bool))=>f.map fun f=>(f.1,f.2.1):=by
   refine ⟨(fs.toList.map fun f=>(f.offset,((P.info? f.type).map (·.size)).getD 0)).toArray,fun w => ?_,fun q => ?_⟩
   ·have key:∀(l:List Field),(∀f∈l,∃p,J4q P f=some p)->(l.mapM fun f=>do pure (f.offset,<-sizeOf f.type):Sem (List (Nat×Nat))).run P w = .ok (l.map fun f=>(f.offset,((P.info? f.type).map (·.size)).getD 0)) w:=by
     intro l
     induction l with
     | nil=>intro _; simp
     | cons f l ih =>
      intro h
      obtain ⟨p,hp⟩:=h f (by simp)
      have ih':=ih fun g hg=>h g (by simp [hg])
      unfold J4q at hp
      split at hp
      ·rename_i j2 d2 hj2 hd2
       have hs:(sizeOf f.type).run P w = .ok j2.size w:=by simp [sizeOf,typeInfo,hj2]
       simp only [List.mapM_cons,acz,hs,hj2,ahz,a5z,ih',bIz,aLz,baz]
      ·simp at hp
    have hk:=key fs.toList hall
    rw [show fs=fs.toList.toArray by simp,List.mapM_toArray]
    simp only [map_eq_pure_bind,acz,hk,a5z,ahz]
   ·rw [<-g5]
    simp only [fsD,aUz,b2z]
    cases hq:fs.toList[q]? with
    | none=>rfl
    | some f =>
     obtain ⟨p,hp⟩:=hall f (aVz hq)
     simp only [aLz,bbz,hp]
     unfold J4q at hp
     split at hp
     ·rename_i j2 d2 hj2 hd2
      simp at hp
      simp [hj2,<-hp]
     ·simp at hp
  obtain ⟨places,hp1,hp2⟩:=hpl
  have e:(fun q=>(i.fs[q]?).bind fun (f:Option (Nat×Nat×Bool))=>f.map fun f=>(f.1,f.2.1))=(places[·]?):=funext fun q=>(hp2 q).symm
  rw [e] at hf
  exact d2q (acuq ho hd h1 h4 hp1 h6 has hf)
theorem a7Aq {tab:List (Nat×TI)} {i:TI} {e:Nat} {d:Nat} {n b m:Nat} {ps:List (Nat×Operand)} {cs out:List At} {ds:List Da} {ahOq:List (Nat×List At)} (hT:TabOk P tab) (hz:ZeroOk P e n b cs) (ho:o.op = .buildSlice t m ps.toArray) (hdst:o.dst=some d) (ht:a1q tab t=some i) (hp:i.pr=4) (he:i.el=some e) (hpos:0<n) (hsm:m*n<=16777216)
  (has:s6q s.ev ps=some ahOq) (hf:y5q (fun q=>some (q*n,n)) (a3z m cs).flatten ahOq=some out) (hd:toDs out=some ds):OpS P o s s0 (.one (.ol d)) [(d,.lst e n (x1q n m ds))]:=by
 obtain ⟨j,zv,h1,h2,h3,h4,h5,h6⟩:=hz
 obtain ⟨d1,j1,hdd,hj,g1,g2,g3,g4,g5,g6,g7⟩:=b2q (hT t i ht)
 have:=h5q (g4.trans he) (g6.trans hp); subst this
 subst h2
 exact d2q (a5vq ho hdd h1 h4 h5 hpos h6 hsm has hf hd)
theorem adoq {tab:List (Nat×TI)} {i:TI} {k off:Nat} {Zv:AV} {zs cs:List At} (hT:TabOk P tab) (ho:o.op = .store t x z) (hg:o.guard=none) (hd:o.dst=none) (hx:s.ev x=some (.one (.op k off))) (hz:s.ev z=some Zv) (hc:Zv.cells=some zs) (hk:s.gob k=some (.var cs)) (ht:a1q tab t=some i) (hsz:i.n=zs.length)
  (hl:off+zs.length<=cs.length) (hnj:a0Oq zs=true) (h:d8q Γ P ops rest K (s.setOb k (.var (cs.take off++zs++cs.drop (off+zs.length))))):d8q Γ P ops (o::rest) K s:=by
 obtain ⟨d1,j1,hdd,hj,g1,g2,g3,g4,g5,g6,g7⟩:=b2q (hT t i ht)
 exact abQq ho hg hd hx hz hc hk hj (g2.trans hsz) hl hnj h
theorem accq {tab:List (Nat×TI)} {i:TI} {k off n q E es:Nat} {Zv:AV} {zs:List At} {ds c:List Da} {xs:List (List Da)} (hT:TabOk P tab) (ho:o.op = .store t x z) (hg:o.guard=none) (hd:o.dst=none) (hx:s.ev x=some (.one (.op k off))) (hz:s.ev z=some Zv) (hc:Zv.cells=some zs) (hds:toDs zs=some ds)
  (hk:s.gob k=some (.lst E es xs)) (ht:a1q tab t=some i) (hsz:i.n=ds.length) (hn:xs[n]?=some c) (hoff:off=n*es+q) (hq:q+ds.length<=c.length) (hpos:0<ds.length)
  (h:d8q Γ P ops rest K (s.setOb k (.lst E es (xs.set n (c.take q++ds++c.drop (q+ds.length)))))):d8q Γ P ops (o::rest) K s:=by
 obtain ⟨d1,j1,hdd,hj,g1,g2,g3,g4,g5,g6,g7⟩:=b2q (hT t i ht)
 exact aa1q ho hg hd hx hz hc hds hk hj (g2.trans hsz) hn hoff hq hpos h
theorem acVq {tab:List (Nat×TI)} {i:TI} {e n b k:Nat} {ks:List Nat} {tr:Bool} {cs:List At} {xs ys:List (List Da)} (hT:TabOk P tab) (hz:ZeroOk P e n b cs) (ho:o.op = .call { callee:=.builtin .append,args := #[x,z],argTypes := #[t,t] }) (hg:o.guard=none) (hd:o.dst.all (· < Γ.n)=true) (ht:a1q tab t=some i) (hp:i.pr=4) (he:i.el=some e) (hpos:0<n)
  (hold:(∃tr0,s.gob k=some (mkL tr0 e n xs)/\(tr=true->tr0=true)/\s.ev x=some (.one (.ol k)))\/(s.ev x=some (.one .e0)/\xs=[]/\s.fresh [(k,.lst e n [])]=true)) (hsrc:SrcA s z tr k n ys ks) (hyes:∀y∈ys,y.length=n) (hsm:(xs.length+ys.length)*b<=140737488355328) (hn48:xs.length+ys.length<=281474976710656)
  (h:d8q Γ P ops rest K (s.appd o.dst k ks (mkL tr e n (xs++ys)))) (hlow:k<2000):d8q Γ P ops (o::rest) K s:=by
 obtain ⟨j,zv,h1,h2,h3,h4,h5,h6⟩:=hz
 obtain ⟨d1,j1,hdd,hj,g1,g2,g3,g4,g5,g6,g7⟩:=b2q (hT t i ht)
 have:=h5q (g4.trans he) (g6.trans hp); subst this
 subst h3
 exact adRq hold ho hg hd hdd h1 h4 h2 h5 hpos (fun a w S β hs=>hsrc.src hpos hyes hs) hyes hsm hn48 h hlow
end
end AM
end Go.Proofs.YtmgfoalfimpkjaaGreat
namespace Go.Proofs.YtmgfoalfimpkjaaGreat
namespace AM
open Go
open Go.Proofs.Tryz renaming prog->pg
def tab:List (Nat×TI):=[(2,⟨false,1,8,none,[],3,some .i64⟩),
 (3,⟨false,1,8,none,[],3,some .i64⟩),
 (4,⟨false,1,1,none,[],1,none⟩),
 (5,⟨false,1,1,none,[],3,some .u8⟩),
 (6,⟨false,1,1,none,[],3,some .u8⟩),
 (7,⟨true,4,24,none,[some (0,1,false),some (1,1,false),some (2,1,false),some (3,1,false)],5,none⟩),
 (8,⟨true,4,24,none,[some (0,1,false),some (1,1,false),some (2,1,false),some (3,1,false)],5,none⟩),
 (9,⟨false,1,16,none,[],2,none⟩),
 (10,⟨false,1,16,none,[],2,none⟩),
 (11,⟨false,1,16,none,[],2,none⟩),
 (12,⟨false,1,8,none,[],3,some .u64⟩),
 (13,⟨true,2,24,none,[some (0,1,false),some (1,1,false)],5,none⟩),
 (14,⟨true,2,24,none,[some (0,1,false),some (1,1,false)],5,none⟩),
 (18,⟨true,1,8,none,[some (0,1,false)],5,none⟩),
 (19,⟨true,1,8,none,[some (0,1,false)],5,none⟩),
 (21,⟨false,1,4,none,[],3,some .i32⟩),
 (22,⟨false,1,24,some 5,[],4,none⟩),
 (24,⟨false,1,24,some 104,[],4,none⟩),
 (25,⟨false,1,24,some 54,[],4,none⟩),
 (28,⟨true,1,24,none,[some (0,1,false)],5,none⟩),
 (29,⟨true,1,24,none,[some (0,1,false)],5,none⟩),
 (34,⟨false,1,24,some 135,[],4,none⟩),
 (48,⟨false,1,24,some 3,[],4,none⟩),
 (50,⟨false,1,24,some 52,[],4,none⟩),
 (51,⟨true,3,40,none,[some (0,1,false),some (1,1,false),some (2,1,false)],5,none⟩),
 (52,⟨true,3,40,none,[some (0,1,false),some (1,1,false),some (2,1,false)],5,none⟩),
 (53,⟨true,7,88,none,[some (0,1,false),some (1,3,true),some (4,3,true)],5,none⟩),
 (54,⟨true,7,88,none,[some (0,1,false),some (1,3,true),some (4,3,true)],5,none⟩),
 (56,⟨false,1,24,some 29,[],4,none⟩),
 (69,⟨false,1,8,none,[],0,none⟩),
 (91,⟨false,1,24,some 9,[],4,none⟩),
 (102,⟨false,1,8,none,[],0,none⟩),
 (103,⟨true,3,32,none,[some (0,1,false),some (1,1,false),some (2,1,false)],5,none⟩),
 (104,⟨true,3,32,none,[some (0,1,false),some (1,1,false),some (2,1,false)],5,none⟩),
 (105,⟨true,4,64,none,[some (0,1,false),some (1,1,false),some (2,1,false),some (3,1,false)],5,none⟩),
 (106,⟨true,4,64,none,[some (0,1,false),some (1,1,false),some (2,1,false),some (3,1,false)],5,none⟩),
 (107,⟨false,1,24,some 25,[],4,none⟩),
 (113,⟨false,1,8,none,[],0,none⟩),
 (114,⟨true,5,88,none,[some (0,1,false),some (1,1,false),some (2,1,false),some (3,1,false),some (4,1,false)],5,none⟩),
 (115,⟨true,5,88,none,[some (0,1,false),some (1,1,false),some (2,1,false),some (3,1,false),some (4,1,false)],5,none⟩),
 (122,⟨true,3,40,none,[some (0,1,false),some (1,1,false),some (2,1,false)],5,none⟩),
 (123,⟨true,3,40,none,[some (0,1,false),some (1,1,false),some (2,1,false)],5,none⟩),
 (134,⟨true,4,48,none,[some (0,1,false),some (1,3,true)],5,none⟩),
 (135,⟨true,4,48,none,[some (0,1,false),some (1,3,true)],5,none⟩),
 (139,⟨true,2,32,none,[some (0,1,false),some (1,1,false)],5,none⟩),
 (140,⟨true,2,32,none,[some (0,1,false),some (1,1,false)],5,none⟩),
 (148,⟨false,1,24,some 48,[],4,none⟩),
 (169,⟨false,1,8,none,[],3,some .u64⟩),
 (171,⟨false,1,8,none,[],0,none⟩),
 (177,⟨true,2,16,some 3,[],12,none⟩),
 (178,⟨false,1,24,some 177,[],4,none⟩),
 (208,⟨true,4,40,none,[some (0,1,false),some (1,1,false),some (2,1,false),some (3,1,false)],5,none⟩),
 (209,⟨true,4,40,none,[some (0,1,false),some (1,1,false),some (2,1,false),some (3,1,false)],5,none⟩),
 (210,⟨true,0,0,some 16,[],10,none⟩),
 (211,⟨true,0,0,none,[some (0,0,true)],5,none⟩),
 (212,⟨true,0,0,none,[some (0,0,true)],5,none⟩),
 (214,⟨false,1,4,none,[],3,some .u32⟩),
 (215,⟨false,1,1,none,[],3,some .u8⟩),
 (216,⟨false,1,1,none,[],3,some .u8⟩),
 (218,⟨false,1,4,none,[],3,some .i32⟩),
 (219,⟨false,1,4,none,[],3,some .i32⟩),
 (220,⟨true,11,48,none,[some (0,1,false),some (1,1,false),some (2,1,false),some (3,1,false),some (4,1,false),some (5,1,false),some (6,1,false),some (7,1,false),some (8,1,false),some (9,1,false),some (10,1,false)],5,none⟩),
 (221,⟨true,11,48,none,[some (0,1,false),some (1,1,false),some (2,1,false),some (3,1,false),some (4,1,false),some (5,1,false),some (6,1,false),some (7,1,false),some (8,1,false),some (9,1,false),some (10,1,false)],5,none⟩)]
theorem agQq:TabOk pg tab:=TabOk.of (by kernel_rfl)
theorem a5q:Tryz.prog.follows .mixedOrders=true:=by kernel_rfl
theorem z2:ZeroOk pg 2 1 8 [.d (.int .i64 0)]:=ZeroOk.of (zv:=.int .i64 0) (by kernel_rfl) rfl rfl
theorem z3:ZeroOk pg 3 1 8 [.d (.int .i64 0)]:=ZeroOk.of (zv:=.int .i64 0) (by kernel_rfl) rfl rfl
theorem z4:ZeroOk pg 4 1 1 [.d (.bool false)]:=ZeroOk.of (zv:=.bool false) (by kernel_rfl) rfl rfl
theorem z5:ZeroOk pg 5 1 1 [.d (.int .u8 0)]:=ZeroOk.of (zv:=.int .u8 0) (by kernel_rfl) rfl rfl
theorem z6:ZeroOk pg 6 1 1 [.d (.int .u8 0)]:=ZeroOk.of (zv:=.int .u8 0) (by kernel_rfl) rfl rfl
theorem z7:ZeroOk pg 7 4 24 [.d (.int .i64 0),.d (.int .i64 0),.d (.bool false),.d (.int .u8 0)]:=ZeroOk.of (zv:=.agg #[(.int .i64 0),(.int .i64 0),(.bool false),(.int .u8 0)]) (by kernel_rfl) rfl rfl
theorem z8:ZeroOk pg 8 4 24 [.d (.int .i64 0),.d (.int .i64 0),.d (.bool false),.d (.int .u8 0)]:=ZeroOk.of (zv:=.agg #[(.int .i64 0),(.int .i64 0),(.bool false),(.int .u8 0)]) (by kernel_rfl) rfl rfl
theorem z9:ZeroOk pg 9 1 16 [.d (.str ⟨#[]⟩)]:=ZeroOk.of (zv:=.string ⟨#[]⟩) (by kernel_rfl) rfl rfl
theorem z10:ZeroOk pg 10 1 16 [.d (.str ⟨#[]⟩)]:=ZeroOk.of (zv:=.string ⟨#[]⟩) (by kernel_rfl) rfl rfl
theorem z11:ZeroOk pg 11 1 16 [.d (.str ⟨#[]⟩)]:=ZeroOk.of (zv:=.string ⟨#[]⟩) (by kernel_rfl) rfl rfl
theorem z12:ZeroOk pg 12 1 8 [.d (.int .u64 0)]:=ZeroOk.of (zv:=.int .u64 0) (by kernel_rfl) rfl rfl
theorem z13:ZeroOk pg 13 2 24 [.d (.str ⟨#[]⟩),.d (.int .u64 0)]:=ZeroOk.of (zv:=.agg #[(.string ⟨#[]⟩),(.int .u64 0)]) (by kernel_rfl) rfl rfl
theorem z14:ZeroOk pg 14 2 24 [.d (.str ⟨#[]⟩),.d (.int .u64 0)]:=ZeroOk.of (zv:=.agg #[(.string ⟨#[]⟩),(.int .u64 0)]) (by kernel_rfl) rfl rfl
theorem z18:ZeroOk pg 18 1 8 [.junk]:=ZeroOk.of (zv:=.agg #[(.pointer none)]) (by kernel_rfl) rfl rfl
theorem z19:ZeroOk pg 19 1 8 [.junk]:=ZeroOk.of (zv:=.agg #[(.pointer none)]) (by kernel_rfl) rfl rfl
theorem z21:ZeroOk pg 21 1 4 [.d (.int .i32 0)]:=ZeroOk.of (zv:=.int .i32 0) (by kernel_rfl) rfl rfl
theorem z22:ZeroOk pg 22 1 24 [.e0]:=ZeroOk.of (zv:=.slice none 0 0) (by kernel_rfl) rfl rfl
theorem z24:ZeroOk pg 24 1 24 [.e0]:=ZeroOk.of (zv:=.slice none 0 0) (by kernel_rfl) rfl rfl
theorem z25:ZeroOk pg 25 1 24 [.e0]:=ZeroOk.of (zv:=.slice none 0 0) (by kernel_rfl) rfl rfl
theorem z28:ZeroOk pg 28 1 24 [.e0]:=ZeroOk.of (zv:=.agg #[(.slice none 0 0)]) (by kernel_rfl) rfl rfl
theorem z29:ZeroOk pg 29 1 24 [.e0]:=ZeroOk.of (zv:=.agg #[(.slice none 0 0)]) (by kernel_rfl) rfl rfl
theorem z34:ZeroOk pg 34 1 24 [.e0]:=ZeroOk.of (zv:=.slice none 0 0) (by kernel_rfl) rfl rfl
theorem z48:ZeroOk pg 48 1 24 [.e0]:=ZeroOk.of (zv:=.slice none 0 0) (by kernel_rfl) rfl rfl
theorem z50:ZeroOk pg 50 1 24 [.e0]:=ZeroOk.of (zv:=.slice none 0 0) (by kernel_rfl) rfl rfl
theorem z51:ZeroOk pg 51 3 40 [.d (.int .i64 0),.d (.int .i64 0),.e0]:=ZeroOk.of (zv:=.agg #[(.int .i64 0),(.int .i64 0),(.slice none 0 0)]) (by kernel_rfl) rfl rfl
theorem z52:ZeroOk pg 52 3 40 [.d (.int .i64 0),.d (.int .i64 0),.e0]:=ZeroOk.of (zv:=.agg #[(.int .i64 0),(.int .i64 0),(.slice none 0 0)]) (by kernel_rfl) rfl rfl
theorem z53:ZeroOk pg 53 7 88 [.d (.bool false),.d (.int .i64 0),.d (.int .i64 0),.e0,.d (.int .i64 0),.d (.int .i64 0),.e0]:=ZeroOk.of (zv:=.agg #[(.bool false),(.int .i64 0),(.int .i64 0),(.slice none 0 0),(.int .i64 0),(.int .i64 0),(.slice none 0 0)]) (by kernel_rfl) rfl rfl
theorem z54:ZeroOk pg 54 7 88 [.d (.bool false),.d (.int .i64 0),.d (.int .i64 0),.e0,.d (.int .i64 0),.d (.int .i64 0),.e0]:=ZeroOk.of (zv:=.agg #[(.bool false),(.int .i64 0),(.int .i64 0),(.slice none 0 0),(.int .i64 0),(.int .i64 0),(.slice none 0 0)]) (by kernel_rfl) rfl rfl
theorem z56:ZeroOk pg 56 1 24 [.e0]:=ZeroOk.of (zv:=.slice none 0 0) (by kernel_rfl) rfl rfl
theorem z69:ZeroOk pg 69 1 8 [.junk]:=ZeroOk.of (zv:=.pointer none) (by kernel_rfl) rfl rfl
theorem z91:ZeroOk pg 91 1 24 [.e0]:=ZeroOk.of (zv:=.slice none 0 0) (by kernel_rfl) rfl rfl
theorem z102:ZeroOk pg 102 1 8 [.junk]:=ZeroOk.of (zv:=.pointer none) (by kernel_rfl) rfl rfl
theorem z103:ZeroOk pg 103 3 32 [.d (.str ⟨#[]⟩),.d (.int .i64 0),.d (.bool false)]:=ZeroOk.of (zv:=.agg #[(.string ⟨#[]⟩),(.int .i64 0),(.bool false)]) (by kernel_rfl) rfl rfl
theorem z104:ZeroOk pg 104 3 32 [.d (.str ⟨#[]⟩),.d (.int .i64 0),.d (.bool false)]:=ZeroOk.of (zv:=.agg #[(.string ⟨#[]⟩),(.int .i64 0),(.bool false)]) (by kernel_rfl) rfl rfl
theorem z105:ZeroOk pg 105 4 64 [.e0,.d (.int .i64 0),.e0,.d (.bool false)]:=ZeroOk.of (zv:=.agg #[(.slice none 0 0),(.int .i64 0),(.slice none 0 0),(.bool false)]) (by kernel_rfl) rfl rfl
theorem z106:ZeroOk pg 106 4 64 [.e0,.d (.int .i64 0),.e0,.d (.bool false)]:=ZeroOk.of (zv:=.agg #[(.slice none 0 0),(.int .i64 0),(.slice none 0 0),(.bool false)]) (by kernel_rfl) rfl rfl
theorem z107:ZeroOk pg 107 1 24 [.e0]:=ZeroOk.of (zv:=.slice none 0 0) (by kernel_rfl) rfl rfl
theorem z113:ZeroOk pg 113 1 8 [.junk]:=ZeroOk.of (zv:=.pointer none) (by kernel_rfl) rfl rfl
theorem z114:ZeroOk pg 114 5 88 [.e0,.d (.int .i64 0),.d (.bool false),.e0,.e0]:=ZeroOk.of (zv:=.agg #[(.slice none 0 0),(.int .i64 0),(.bool false),(.slice none 0 0),(.slice none 0 0)]) (by kernel_rfl) rfl rfl
theorem z115:ZeroOk pg 115 5 88 [.e0,.d (.int .i64 0),.d (.bool false),.e0,.e0]:=ZeroOk.of (zv:=.agg #[(.slice none 0 0),(.int .i64 0),(.bool false),(.slice none 0 0),(.slice none 0 0)]) (by kernel_rfl) rfl rfl
theorem z122:ZeroOk pg 122 3 40 [.e0,.d (.int .i64 0),.d (.int .i64 0)]:=ZeroOk.of (zv:=.agg #[(.slice none 0 0),(.int .i64 0),(.int .i64 0)]) (by kernel_rfl) rfl rfl
theorem z123:ZeroOk pg 123 3 40 [.e0,.d (.int .i64 0),.d (.int .i64 0)]:=ZeroOk.of (zv:=.agg #[(.slice none 0 0),(.int .i64 0),(.int .i64 0)]) (by kernel_rfl) rfl rfl
theorem z134:ZeroOk pg 134 4 48 [.d (.int .i64 0),.d (.int .i64 0),.d (.int .i64 0),.e0]:=ZeroOk.of (zv:=.agg #[(.int .i64 0),(.int .i64 0),(.int .i64 0),(.slice none 0 0)]) (by kernel_rfl) rfl rfl
theorem z135:ZeroOk pg 135 4 48 [.d (.int .i64 0),.d (.int .i64 0),.d (.int .i64 0),.e0]:=ZeroOk.of (zv:=.agg #[(.int .i64 0),(.int .i64 0),(.int .i64 0),(.slice none 0 0)]) (by kernel_rfl) rfl rfl
theorem z139:ZeroOk pg 139 2 32 [.junk,.e0]:=ZeroOk.of (zv:=.agg #[(.pointer none),(.slice none 0 0)]) (by kernel_rfl) rfl rfl
theorem z140:ZeroOk pg 140 2 32 [.junk,.e0]:=ZeroOk.of (zv:=.agg #[(.pointer none),(.slice none 0 0)]) (by kernel_rfl) rfl rfl
theorem z148:ZeroOk pg 148 1 24 [.e0]:=ZeroOk.of (zv:=.slice none 0 0) (by kernel_rfl) rfl rfl
theorem z169:ZeroOk pg 169 1 8 [.d (.int .u64 0)]:=ZeroOk.of (zv:=.int .u64 0) (by kernel_rfl) rfl rfl
theorem z171:ZeroOk pg 171 1 8 [.junk]:=ZeroOk.of (zv:=.pointer none) (by kernel_rfl) rfl rfl
theorem z177:ZeroOk pg 177 2 16 [.d (.int .i64 0),.d (.int .i64 0)]:=ZeroOk.of (zv:=.agg #[(.int .i64 0),(.int .i64 0)]) (by kernel_rfl) rfl rfl
theorem z178:ZeroOk pg 178 1 24 [.e0]:=ZeroOk.of (zv:=.slice none 0 0) (by kernel_rfl) rfl rfl
theorem z208:ZeroOk pg 208 4 40 [.junk,.junk,.junk,.d (.str ⟨#[]⟩)]:=ZeroOk.of (zv:=.agg #[(.pointer none),(.pointer none),(.pointer none),(.string ⟨#[]⟩)]) (by kernel_rfl) rfl rfl
theorem z209:ZeroOk pg 209 4 40 [.junk,.junk,.junk,.d (.str ⟨#[]⟩)]:=ZeroOk.of (zv:=.agg #[(.pointer none),(.pointer none),(.pointer none),(.string ⟨#[]⟩)]) (by kernel_rfl) rfl rfl
theorem z214:ZeroOk pg 214 1 4 [.d (.int .u32 0)]:=ZeroOk.of (zv:=.int .u32 0) (by kernel_rfl) rfl rfl
theorem z215:ZeroOk pg 215 1 1 [.d (.int .u8 0)]:=ZeroOk.of (zv:=.int .u8 0) (by kernel_rfl) rfl rfl
theorem z216:ZeroOk pg 216 1 1 [.d (.int .u8 0)]:=ZeroOk.of (zv:=.int .u8 0) (by kernel_rfl) rfl rfl
theorem z218:ZeroOk pg 218 1 4 [.d (.int .i32 0)]:=ZeroOk.of (zv:=.int .i32 0) (by kernel_rfl) rfl rfl
theorem z219:ZeroOk pg 219 1 4 [.d (.int .i32 0)]:=ZeroOk.of (zv:=.int .i32 0) (by kernel_rfl) rfl rfl
end AM
end Go.Proofs.YtmgfoalfimpkjaaGreat
namespace Go.Proofs.YtmgfoalfimpkjaaGreat
namespace AM
open Go
section
variable {P:Program} {o:Oper} {av:Operand->Option AV} {y:AV}
theorem ackq {c x z:Operand} {b:Bool} (ho:o.op = .pick c x z) (hc:av c=some (B b)) (e:b=true) (hx:av x=some y):OpP P o av [] y []:=by
 refine c0q fun a w S β _ hr _ => ?_
 subst e
 have e:=(hr c _ hc (by simp [ho,a0z])).bool_inv
 exact ⟨a.eval x,by simp [execOp,ho,e,asBool],hr x _ hx (by simp [ho,a0z])⟩
theorem acbq {c x z:Operand} {b:Bool} (ho:o.op = .pick c x z) (hc:av c=some (B b)) (e:b=false) (hz:av z=some y):OpP P o av [] y []:=by
 refine c0q fun a w S β _ hr _ => ?_
 subst e
 have e:=(hr c _ hc (by simp [ho,a0z])).bool_inv
 exact ⟨a.eval z,by simp [execOp,ho,e,asBool],hr z _ hz (by simp [ho,a0z])⟩
end
section
variable {Γ:Cx} {P:Program} {ops:Array Oper} {rest:List Oper} {o:Oper} {K:St->Prop} {s s0:St} {y:AV} {nob:List (Nat×Ob)} {es:List Eff} {s':St}
theorem ad6q {j d:Nat} {want b:Bool} (hg:o.guard=some (j,want)) (hj:(ops[j]?).bind (·.dst)=some d) (hb:s.get d=some (B b)) (ht:b=true->d8q Γ P ops (o::rest) K (s.upd (some d) (B true) [])) (hf:b=false->d8q Γ P ops (o::rest) K (s.upd (some d) (B false) [])):d8q Γ P ops (o::rest) K s :=
 ae3q d hb ht hf
theorem afBq {j d:Nat} {want b:Bool} (h:OpS P o s s0 y nob) (hg:o.guard=some (j,want)) (hj:(ops[j]?).bind (·.dst)=some d) (hb:s.get d=some (B b)) (e:b=want) (hd:o.dst.all (· < Γ.n)=true) (hf:s.fresh nob=true) (hf0:s0.fresh nob=true) (hid:C9q s0 y nob=true) (hr:PRun Γ P ops s0 rest (s.upd o.dst y nob) es s'):PRun Γ P ops s0 (o::rest) s (.run y nob::es) s':=by
 subst e; exact agyq h hg hj hb hd hf hf0 hid hr
end
section
variable {Γ:Cx} {P:Program} {N:St->Prop} {E:Exit->St->Prop} {s:St}
def PR (Γ:Cx) (P:Program) (ops:Array Oper) (s0:St) (l:List Oper) (s:St) (K:St->Prop):Prop:=∃es s',PRun Γ P ops s0 l s es s'/\K s'
theorem aePq {l:List Oper} {id:Nat} (hm:P.follows .mixedOrders=true) (hok:K7q l.toArray=true) (h:PR Γ P l.toArray s l s N):W Γ P (.region id l.toArray true) N E s:=by
 obtain ⟨es,s',h1,h2⟩:=h
 exact afUq hm hok h1 h2
section
variable {ops:Array Oper} {rest:List Oper} {o:Oper} {K:St->Prop} {s0:St} {y:AV} {nob:List (Nat×Ob)}
theorem ag0q (h:K s):PR Γ P ops s0 [] s K:=⟨_,_,.nil,h⟩
theorem agNq (h:OpS P o s s0 y nob) (hg:o.guard=none) (hd:o.dst.all (· < Γ.n)=true) (hf:s.fresh nob=true) (hf0:s0.fresh nob=true) (hid:C9q s0 y nob=true) (hr:PR Γ P ops s0 rest (s.upd o.dst y nob) K):PR Γ P ops s0 (o::rest) s K:=by
 obtain ⟨es,s',h1,h2⟩:=hr
 exact ⟨_,_,agRq h hg hd hf hf0 hid h1,h2⟩
theorem aglq {j d:Nat} {want b:Bool} (h:OpS P o s s0 y nob) (hg:o.guard=some (j,want)) (hj:(ops[j]?).bind (·.dst)=some d) (hb:s.get d=some (B b)) (e:b=want) (hd:o.dst.all (· < Γ.n)=true) (hf:s.fresh nob=true) (hf0:s0.fresh nob=true) (hid:C9q s0 y nob=true) (hr:PR Γ P ops s0 rest (s.upd o.dst y nob) K):PR Γ P ops s0 (o::rest) s K:=by
 obtain ⟨es,s',h1,h2⟩:=hr
 exact ⟨_,_,afBq h hg hj hb e hd hf hf0 hid h1,h2⟩
theorem aasq {j d:Nat} {want:Bool} (hg:o.guard=some (j,want)) (hj:(ops[j]?).bind (·.dst)=some d) (hb:s.get d=some (B (!want))\/s.get d=some (.tup [])) (hd:o.dst.all (· < Γ.n)=true) (hr:PR Γ P ops s0 rest (s.upd o.dst (.tup []) []) K):PR Γ P ops s0 (o::rest) s K:=by
 obtain ⟨es,s',h1,h2⟩:=hr
 exact ⟨_,s',.skip hg hj hb hd h1,h2⟩
theorem afYq {l:List Oper} {d:Nat} {b:Bool} (hb:s.get d=some (B b)) (ht:b=true->PR Γ P ops s0 l (s.upd (some d) (B true) []) K) (hf:b=false->PR Γ P ops s0 l (s.upd (some d) (B false) []) K):PR Γ P ops s0 l s K:=by
 cases b with
 | true=>obtain ⟨es,s',h1,h2⟩:=ht rfl; exact ⟨es,s',.same hb h1,h2⟩
 | false=>obtain ⟨es,s',h1,h2⟩:=hf rfl; exact ⟨es,s',.same hb h1,h2⟩
end
end
def FitD (ds:List Da):Prop:=∃w vs fp,RepF w ds vs fp
def Fits (xs:List AV):Prop:=∃w S β vs,RepVs w S β xs vs
theorem Fits.tail {x:AV} {xs:List AV} (h:Fits (x::xs)):Fits xs:=by
 obtain ⟨w,S,β,vs,h⟩:=h
 cases h <;> exact ⟨_,_,_,_,by assumption⟩
theorem Fits.dat {ds:List Da} {xs:List AV} (h:Fits (.dat ds::xs)):FitD ds:=by
 obtain ⟨w,S,β,vs,h⟩:=h
 cases h with | dat h _=>obtain ⟨fp,h,_⟩:=h; exact ⟨_,_,_,h⟩
theorem Fits.one {d:Da} {xs:List AV} (h:Fits (.one (.d d)::xs)):FitD [d]:=by
 obtain ⟨w,S,β,vs,h⟩:=h
 cases h with | one h _=>cases h with | d h=>obtain ⟨fp,h,_⟩:=h; exact ⟨_,_,_,h⟩
theorem FitD.tail {d:Da} {ds:List Da} (h:FitD (d::ds)):FitD ds:=by
 obtain ⟨w,vs,fp,h⟩:=h
 cases h <;> exact ⟨_,_,_,by assumption⟩
theorem FitD.app {ds es:List Da} (h:FitD (ds++es)):FitD ds/\FitD es:=by
 obtain ⟨w,vs,fp,h⟩:=h
 obtain ⟨_,_,_,_,_,_,h1,h2⟩:=h.split
 exact ⟨⟨_,_,_,h1⟩,⟨_,_,_,h2⟩⟩
theorem FitD.len {ys:List (List Da)} {ds:List Da} (h:FitD (.sl ys::ds)):ys.length<=281474976710656:=by
 obtain ⟨w,vs,fp,h⟩:=h
 cases h <;> omega
theorem FitD.flat {ys:List (List Da)} {ds:List Da} (h:FitD (.sl ys::ds)):FitD ys.flatten:=by
 obtain ⟨w,vs,fp,h⟩:=h
 cases h with
 | sl0 e _ _ _ _=>rw [e]; exact ⟨w,_,_,.nil⟩
 | sl1 h _ _ _ _ _ _ _=>exact ⟨w,_,_,h⟩
theorem FitD.mem {ys:List (List Da)} (h:FitD ys.flatten):∀y∈ys,FitD y:=by
 induction ys with
 | nil=>simp
 | cons z ys ih =>
  rw [aRz] at h
  intro y hy
  rcases abz.1 hy with rfl | hy
  ·exact h.app.1
  ·exact ih h.app.2 y hy
theorem FitD.str {q:ByteArray} {ds:List Da} (h:FitD (.str q::ds)):q.size<=281474976710656:=by
 obtain ⟨w,vs,fp,h⟩:=h
 cases h; assumption
section
variable {Γ:Cx} {P:Program} {s:St} {k E es:Nat} {xs:List (List Da)}
theorem a8Zq {tr:Bool} {ops:Array Oper} {l:List Oper} {K:St->Prop} (hk:s.gob k=some (mkL tr E es xs)) (h:xs.length<=281474976710656->(∀x∈xs,x.length=es)->d8q Γ P ops l K s):d8q Γ P ops l K s:=by
 intro a w S β R hs hR
 obtain ⟨h1,h2⟩:=a1fq (hs.mem.ob k _ hk)
 exact h h1 h2 a w S β R hs hR
end
section
variable {P:Program} {o:Oper} {av:Operand->Option AV} {t:TypeId} {x z:Operand}
theorem abuq {ps:List (Nat×Operand)} {n:Nat} {e:TypeId} {i je:TypeInfo} {zv:Value} {cs out:List At} {zs:List (Nat×List At)} (ho:o.op = .build t ps.toArray) (ht:P.underlying t=some (.array n e)) (hi:P.info? t=some i) (hz:i.zero=some zv) (hje:P.info? e=some je)
  (hc:o3q zv.cells.toList=some cs) (has:s6q av ps=some zs) (hf:y5q (fun q=>some (q*je.size,je.size)) cs zs=some out):OpP P o av [] (w2q out) []:=by
 refine c0q fun a w S β _ hr _ => ?_
 have h1:=a2tq (w:=w) (S:=S) (β:=β) (ρ:=a.eval) ps zs (fun p hp X hX=>hr p.2 X hX (by simp [ho,a0z]; exact ⟨p.1,hp⟩)) (a0Bq ps zs has)
 obtain ⟨ov,hov,hrep⟩:=a46q zs _ cs zv.cells out (z4q hc) h1 hf
 refine ⟨.agg ov,?_,by have:=hrep.mk; simpa using this⟩
 have hs:(sizeOf e).run P w = .ok je.size w:=by simp [sizeOf,typeInfo,hje]
 simp only [execOp,ho,Instr.build,zeroValue,typeInfo,program,acz,b4z,a5z,hi,hz,ahz,run_underlying ht,hs,ayz,hov]
theorem aaPq {k' off n:Nat} {k:IntKind} {e:TypeId} {m:Nat} {j:TypeInfo} (ho:o.op = .indexAddr t x z) (ht:P.underlying t=some (.array m e)) (hj:P.info? e=some j) (hx:av x=some (.one (.op k' off))) (hz:av z=some (I k (n:Int))) (hn:n<m):OpP P o av [] (.one (.op k' (off+n*j.size))) []:=by
 refine c0q fun a w S β _ hr _ => ?_
 have h:=(hr x _ hx (by simp [ho,a0z])).one_inv
 have h2:=(hr z _ hz (by simp [ho,a0z])).int_inv
 generalize hv:a.eval x=v at h
 cases h
 refine ⟨.pointer (some ⟨(β k').blk,off+n*j.size,none⟩),?_,RepV.one .op⟩
 have hs:(sizeOf e).run P w = .ok j.size w:=by simp [sizeOf,typeInfo,hj]
 have:(⟨(β k').blk,off,none⟩:Addr).add (n*j.size)=⟨(β k').blk,off+n*j.size,none⟩:=by unfold Addr.add; split <;> simp_all
 have hlt:0<=(n:Int)/\(n:Int)<(m:Int):=by omega
 simp [execOp,ho,hv,h2,bpz,asIntOf,run_underlying ht,agz,hlt,hs,this,hn]
end
section
variable {P:Program} {tab:List (Nat×TI)} {o:Oper} {s s0:St} {y:AV} {nob:List (Nat×Ob)} {t:TypeId} {x z:Operand} {i:TI}
theorem adcq {n b e m:Nat} {i2:TI} {ps:List (Nat×Operand)} {cs out:List At} {zs:List (Nat×List At)} (hT:TabOk P tab) (hz:ZeroOk P t n b cs) (ho:o.op = .build t ps.toArray) (ht:a1q tab t=some i) (he:i.el=some e) (hp:i.pr=10+m) (ht2:a1q tab e=some i2) (has:s6q s.ev ps=some zs)
  (hf:y5q (fun q=>some (q*i2.n,i2.n)) cs zs=some out):OpS P o s s0 (w2q out) []:=by
 obtain ⟨j,zv,h1,h2,h3,h4,h5,h6⟩:=hz
 obtain ⟨d1,j1,hd,hj,g1,g2,g3,g4,g5,g6,g7⟩:=b2q (hT t i ht)
 obtain ⟨d2,j2,hd2,hj2,f1,f2,f3,_⟩:=b2q (hT e i2 ht2)
 have:=a8cq (g4.trans he) (g6.trans hp); subst this
 rw [<-f2] at hf
 exact d2q (abuq ho hd h1 h4 hj2 h6 has hf)
theorem ac9q {e m k' off n:Nat} {k:IntKind} {i2:TI} (hT:TabOk P tab) (ho:o.op = .indexAddr t x z) (ht:a1q tab t=some i) (he:i.el=some e) (hp:i.pr=10+m) (ht2:a1q tab e=some i2) (hx:s.ev x=some (.one (.op k' off))) (hz:s.ev z=some (I k (n:Int))) (hn:n<m):OpS P o s s0 (.one (.op k' (off+n*i2.n))) []:=by
 obtain ⟨d1,j1,hd,hj,g1,g2,g3,g4,g5,g6,g7⟩:=b2q (hT t i ht)
 obtain ⟨d2,j2,hd2,hj2,f1,f2,f3,_⟩:=b2q (hT e i2 ht2)
 have:=a8cq (g4.trans he) (g6.trans hp); subst this
 rw [<-f2]
 exact d2q (aaPq ho hd hj2 hx hz hn)
end
def i9q (I:List (Nat×Ob)) (β:Nat->OLoc) (b:Nat):Prop:=∃p∈I,(β p.1).Own b
def C5q (I:List (Nat×Ob)) (β:Nat->OLoc) (b:Nat):Prop:=∃p∈I,b∈(β p.1).clm
def aaSq (I:List (Nat×Ob)) (β:Nat->OLoc) (o:Nat) (l:OLoc):Prop:=2000<=o/\(∃p∈I,p.1=o)/\β o=l
structure GrowX (w:World) (S:Nat->Prop) (β:Nat->OLoc) (I O:List (Nat×Ob)) (mv:List Nat) (w':World) (S':Nat->Prop) (β':Nat->OLoc):Prop where
 os:w'.os=w.os
 tape:w'.tape=w.tape
 output:w'.output=w.output
 size:w.heap.size<=w'.heap.size
 block:∀b,b<w.heap.size->¬i9q I β b->w'.heap[b]?=w.heap[b]?
 sub:∀b,S b->S' b
 sup:∀b,S' b->b<w'.heap.size/\(S b\/w.heap.size<=b\/i9q I β b)
 loc:∀o,o∉mv->β' o=β o
 ob:∀p∈O,ObRep w' S' β' (β' p.1) p.2
 own:∀p∈O,∀b,(β' p.1).Own b->b<w'.heap.size/\¬S' b/\(w.heap.size<=b\/i9q I β b)
 sep:∀p∈O,∀q∈O,∀b,(β' p.1).Own b->(β' q.1).Own b->p.1=q.1
 clm:∀p∈O,∀b∈(β' p.1).clm,S' b/\(w.heap.size<=b\/i9q I β b\/C5q I β b)
 sepc:∀p∈O,∀q∈O,∀b∈(β' p.1).clm,b∈(β' q.1).clm->p.1=q.1
structure R9q (w:World) (S:Nat->Prop) (β:Nat->OLoc) (I:List (Nat×Ob)):Prop where
 ob:∀p∈I,ObRep w S β (β p.1) p.2
 own:∀p∈I,∀b,(β p.1).Own b->b<w.heap.size/\¬S b
 sep:∀p∈I,∀q∈I,∀b,(β p.1).Own b->(β q.1).Own b->p.1=q.1
 clm:∀p∈I,∀b∈(β p.1).clm,S b
 sepc:∀p∈I,∀q∈I,∀b∈(β p.1).clm,b∈(β q.1).clm->p.1=q.1
def XCall (P:Program) (f:FuncId) (xs:List AV) (r:AV) (I O:List (Nat×Ob)) (mv:List Nat):Prop :=
 ∀(w:World) (S:Nat->Prop) (β:Nat->OLoc) (vs:List Value),(∀b,S b->b<w.heap.size)->RepVs w S β xs vs->R9q w S β I ->
  Calls P f vs.toArray w fun e w'=>∃v S' β',e = .returned v/\GrowX w S β I O mv w' S' β'/\RepV w' S' β' r v
def RetX (P:Program) (fn:Func) (s:St) (r:AV) (I O:List (Nat×Ob)) (mv:List Nat):Prop :=
 ∀(w0:World) (S0:Nat->Prop) (n:Nat) (β0:Nat->OLoc) (a:Act) (w:World) (S:Nat->Prop) (β:Nat->OLoc),Sim ⟨n,w0,S0,i9q I β0,aaSq I β0,C5q I β0⟩ s a w S β ->
  ∃v S' β',(results fn a.tmps).run P w = .ok v w/\GrowX w0 S0 β0 I O mv w S' β'/\RepV w S' β' r v
def ResOk (P:Program) (fn:Func) (s:St) (r:AV):Prop:=∀(Γ:Cx) (a:Act) (w:World) (S:Nat->Prop) (β:Nat->OLoc),Sim Γ s a w S β->∃v,(results fn a.tmps).run P w = .ok v w/\RepV w S β r v
section
variable {P:Program} {fn:Func} {s:St} {r:AV} {I O:List (Nat×Ob)} {mv:List Nat}
def a82q (I O:List (Nat×Ob)) (mv:List Nat) (r:AV):Bool :=
 (r.ids++(O.map fun p=>p.1::p.2.ids).flatten).all fun o=>mv.contains o||(decide (2000<=o)&&I.any (·.1==o))
theorem afLq (hres:ResOk P fn s r) (hO:∀p∈O,s.gob p.1=some p.2) (hids:∀o∈r.ids++(O.map fun p=>p.1::p.2.ids).flatten,o∈mv\/(2000<=o/\∃p∈I,p.1=o)):RetX P fn s r I O mv:=by
 intro w0 S0 n β0 a w S β hs
 obtain ⟨v,hrun,hrep⟩:=hres _ a w S β hs
 let β':Nat->OLoc:=fun o=>if o∈mv then β o else β0 o
 have key:∀o∈r.ids++(O.map fun p=>p.1::p.2.ids).flatten,β' o=β o:=by
  intro o ho
  by_cases hm:o∈mv
  ·exact if_pos hm
  ·rcases hids o ho with h | ⟨h1,h2⟩
   ·exact absurd h hm
   ·have:=(hs.mem.fix o (β0 o) ⟨h1,h2,rfl⟩).2
    rw [this]; exact if_neg hm
 have kO:∀p∈O,β' p.1=β p.1/\∀o∈p.2.ids,β' o=β o:=by
  intro p hp
  refine ⟨key _ (aAz _ (b9z.2 ⟨_,aEz.2 ⟨p,hp,rfl⟩,by simp⟩)),fun o ho=>key _ (aAz _ (b9z.2 ⟨_,aEz.2 ⟨p,hp,rfl⟩,by simp [ho]⟩))⟩
 refine ⟨v,S,β',hrun,⟨hs.mem.os,hs.mem.tape,hs.mem.output,hs.mem.size,fun b hb hp=>hs.mem.block b hb hp,hs.mem.sub,fun b hb=>⟨hs.mem.lt b hb,hs.mem.sup b hb⟩,fun o ho=>if_neg ho,fun p hp => ?_,fun p hp b hh => ?_,fun p hp q hq b hh hh' => ?_,fun p hp b hh => ?_,fun p hp q hq b hh hh' => ?_⟩,hrep.mono (fun _ _=>rfl) (fun _ h=>h) fun o ho=>key o (aGz _ ho)⟩
 ·rw [(kO p hp).1]
  exact (hs.mem.ob p.1 p.2 (hO p hp)).mono (fun _ _=>rfl) (fun _ _=>rfl) (fun _ h=>h) (kO p hp).2
 ·rw [(kO p hp).1] at hh
  obtain ⟨h1,h2,h3⟩:=hs.mem.own p.1 p.2 (hO p hp) b hh
  exact ⟨h1,h2,h3⟩
 ·rw [(kO p hp).1] at hh
  rw [(kO q hq).1] at hh'
  exact hs.mem.sep p.1 q.1 _ _ (hO p hp) (hO q hq) b hh hh'
 ·rw [(kO p hp).1] at hh
  exact hs.mem.clm p.1 p.2 (hO p hp) b hh
 ·rw [(kO p hp).1] at hh
  rw [(kO q hq).1] at hh'
  exact hs.mem.sepc p.1 q.1 _ _ (hO p hp) (hO q hq) b hh hh'
theorem ab1q (h:a82q I O mv r=true):∀o∈r.ids++(O.map fun p=>p.1::p.2.ids).flatten,o∈mv\/(2000<=o/\∃p∈I,p.1=o):=by
 intro o ho
 have:=a4z.1 h o ho
 simp only [azz,a8z,decide_eq_true_eq,b8z,beq_iff_eq,bmz] at this
 exact this
theorem aftq (hres:ResOk P fn s r) (hO:usOk s O) (hids:a82q I O mv r=true):RetX P fn s r I O mv:=afLq hres (q5q hO) (ab1q hids)
theorem aaGq {f:FuncId} {c:Code} {xs:List AV} (hf:P.funcs[f]?=some fn) (hb:fn.body=some c) (n:Nat) (hn:fn.ntmps=n) (hl:xs.length<=n)
  (h:∀w0 S0 β0,W ⟨n,w0,S0,i9q I β0,aaSq I β0,C5q I β0⟩ P c (fun s=>RetX P fn s r I O mv) (retE fun s=>RetX P fn s r I O mv) ⟨St.enter 0 xs,I⟩):XCall P f xs r I O mv:=by
 subst hn
 intro w S β vs hlt hr hin
 refine calls_of_wp hf hb ?_
 have hvl:vs.length=xs.length:=by
  clear h hl hlt
  have:∀xs vs,RepVs w S β xs vs->vs.length=xs.length:=by intro xs vs h; induction h <;> simp_all
  exact this _ _ hr
 have hgob:∀o X,(⟨St.enter 0 xs,I⟩:St).gob o=some X->(o,X)∈I:=fun o X ho=>g2q ho
 have hsim:Sim ⟨fn.ntmps,w,S,i9q I β,aaSq I β,C5q I β⟩ ⟨St.enter 0 xs,I⟩ { tmps:=vs.toArray++aNz (fn.ntmps-vs.toArray.size) undef,defers:=[] } w S β:=by
  refine ⟨rfl,by simp; omega,fun i x hi => ?_,⟨hlt,?_,?_,?_,rfl,rfl,rfl,apz _,fun _ _ _=>rfl,fun _ h=>h,fun _ h=>.inl h,fun o l h=>⟨h.1,h.2.2⟩,fun o X ho b hh => ?_,fun o o' X X' ho ho' b hh hh' => ?_⟩⟩
  ·obtain ⟨v,_,hv,hrep⟩:=acqq hr 0 i x hi
   refine ⟨v,?_,hrep⟩
   simp only [Nat.sub_zero] at hv
   have hi2:i<vs.length:=(a1z.1 hv).1
   rw [Array.getElem?_append_left (by simpa using hi2)]
   simpa using hv
  ·intro o X ho; exact hin.ob (o,X) (hgob o X ho)
  ·intro o X ho b hh
   obtain ⟨h1,h2⟩:=hin.own (o,X) (hgob o X ho) b hh
   exact ⟨h1,h2,.inr ⟨(o,X),hgob o X ho,hh⟩⟩
  ·intro o o' X X' ho ho' b hh hh'
   exact hin.sep (o,X) (hgob o X ho) (o',X') (hgob o' X' ho') b hh hh'
  ·exact ⟨hin.clm (o,X) (hgob o X ho) b hh,.inr (.inr ⟨(o,X),hgob o X ho,hh⟩)⟩
  ·exact hin.sepc (o,X) (hgob o X ho) (o',X') (hgob o' X' ho') b hh hh'
 refine Code.wp_mono ?_ (h w S β _ w S β hsim)
 rintro e a' w' ⟨s',S',β',hq,hs'⟩
 cases e with
 | normal =>
  obtain ⟨v,S2,β2,hrun,hG,hrep⟩:=hq w S _ β _ _ _ _ hs'
  exact ⟨hs'.defers,v,hrun,v,S2,β2,rfl,hG,hrep⟩
 | ret =>
  obtain ⟨v,S2,β2,hrun,hG,hrep⟩:=hq w S _ β _ _ _ _ hs'
  exact ⟨hs'.defers,v,hrun,v,S2,β2,rfl,hG,hrep⟩
 | exit id=>exact hq.elim
 | goto l=>exact hq.elim
 | panic ch=>exact hq.elim
 | outgrown=>exact hq.elim
end
def j3q (I O:List (Nat×Ob)):List Nat:=(I.map (·.1)).filter fun i => !O.any (·.1==i)
def St.xkill (s:St) (ks:List Nat):St:=match ks with
 | []=>s
 | _=>s.map (killL ks)
def St.xupd (s:St) (dst:Option Nat) (r:AV) (I O:List (Nat×Ob)) (mv:List Nat):St :=
 let s1:=s.xkill (mv++j3q I O)
 { tm:=match dst with | some d=>(d,r)::s1.tm | none=>s1.tm,ob:=O++F2q s1.ob (j3q I O) }
theorem adsq (s:St) (dst:Option Nat) (r:AV) (I O:List (Nat×Ob)) (mv:List Nat) (i:Nat):(s.xupd dst r I O mv).get i=if dst=some i then some r else (s.xkill (mv++j3q I O)).get i:=by
 cases dst with
 | none=>simp [St.xupd,St.get]
 | some d =>
  simp only [St.xupd,St.get,a1q,Option.some.injEq]
  by_cases h:d=i <;> simp [h]
theorem adgq (s:St) (dst:Option Nat) (r:AV) (I O:List (Nat×Ob)) (mv:List Nat) (o:Nat):(s.xupd dst r I O mv).gob o=(a1q O o).or (if o∈j3q I O then none else (s.xkill (mv++j3q I O)).gob o):=by
 simp only [St.xupd,St.gob,a0yq,H3q]
section
variable {w w':World} {S S':Nat->Prop} {β β':Nat->OLoc} {ks:List Nat}
theorem aczq {s:St} (hk:∀b,S b->w'.heap[b]?=w.heap[b]?) (hs:∀b,S b->S' b) (hβ:∀o,o∉ks->β' o=β o) {i:Nat} {x:AV} (h:(s.xkill ks).get i=some x):∃y,s.get i=some y/\∀v,RepV w S β y v->RepV w' S' β' x v:=by
 unfold St.xkill at h
 split at h
 ·exact ⟨x,h,fun v hv=>hv.mono hk hs fun o _=>hβ o (by simp)⟩
 ·have e:(s.map (AM.killL ks)).get i=(s.get i).map (·.map (AM.killL ks)):=s1q ..
  rw [e] at h
  cases hY:s.get i with
  | none=>rw [hY] at h; simp at h
  | some Y =>
   rw [hY] at h; simp at h; subst h
   exact ⟨Y,rfl,fun v hv=>hv.map (RepA.killL hk hs hβ) fun xs cs h=>h.mono hk hs⟩
theorem acnq {s:St} (hk:∀b,S b->w'.heap[b]?=w.heap[b]?) (hs:∀b,S b->S' b) (hβ:∀o,o∉ks->β' o=β o) {o:Nat} {X:Ob} (h:(s.xkill ks).gob o=some X):∃Y,s.gob o=some Y/\∀l:OLoc,(∀b,l.Own b->w'.heap[b]?=w.heap[b]?)->ObRep w S β l Y->ObRep w' S' β' l X:=by
 unfold St.xkill at h
 split at h
 ·exact ⟨X,h,fun l hb hv=>hv.mono hb hk hs fun o _=>hβ o (by simp)⟩
 ·have e:(s.map (AM.killL ks)).gob o=(s.gob o).map (·.map (AM.killL ks)):=A7q ..
  rw [e] at h
  cases hY:s.gob o with
  | none=>rw [hY] at h; simp at h
  | some Y =>
   rw [hY] at h; simp at h; subst h
   exact ⟨Y,rfl,fun l hb hv=>hv.map (RepA.killL hk hs hβ) hb hk hs⟩
end
section
variable {Γ:Cx} {P:Program} {ops:Array Oper} {rest:List Oper} {o:Oper} {K:St->Prop} {s:St} {I O:List (Nat×Ob)} {mv:List Nat} {r:AV}
theorem GrowX.sim {a:Act} {w w':World} {S S':Nat->Prop} {β β':Nat->OLoc} {v:Value} {dst:Option Nat} (hG:GrowX w S β I O mv w' S' β') (hr:RepV w' S' β' r v) (hs:Sim Γ s a w S β) (hd:dst.all (· < Γ.n)=true)
  (hI:∀p∈I,s.gob p.1=some p.2) (hlow:∀m∈mv,m<2000) (hOin:∀p∈O,(∃q∈I,q.1=p.1)\/p.1∈mv) (hmv:∀m∈mv,(∃p∈I,p.1=m)\/s.gob m=none):Sim Γ (s.xupd dst r I O mv) (a.put dst v) w' S' β':=by
 have hpass:∀b,i9q I β b->∃p∈I,s.gob p.1=some p.2/\(β p.1).Own b:=fun b ⟨p,hp,h1⟩=>⟨p,hp,hI p hp,h1⟩
 have hSn:∀b,S b->¬i9q I β b:=by
  intro b hb hp
  obtain ⟨p,_,hg,h1⟩:=hpass b hp
  exact (hs.mem.own p.1 p.2 hg b h1).2.1 hb
 have hk:∀b,S b->w'.heap[b]?=w.heap[b]?:=fun b hb=>hG.block b (hs.mem.lt b hb) (hSn b hb)
 have hβ:∀q,q∉mv++j3q I O->β' q=β q:=fun q hq=>hG.loc q fun h=>hq (aGz _ h)
 have hT:∀q X,(s.xupd dst r I O mv).gob q=some X->(q,X)∈O\/(q∉mv/\(∀p∈I,p.1≠q)/\∃Y,s.gob q=some Y/\∀l:OLoc,(∀b,l.Own b->w'.heap[b]?=w.heap[b]?)->ObRep w S β l Y->ObRep w' S' β' l X):=by
  intro q X hq
  rw [adgq] at hq
  cases hl:a1q O q with
  | some Y=>rw [hl] at hq; simp at hq; subst hq; exact .inl (g2q hl)
  | none =>
   rw [hl] at hq
   simp only [bEz] at hq
   split at hq
   ·simp at hq
   ·rename_i hnd
    obtain ⟨Y,hY,hYr⟩:=acnq hk hG.sub hβ hq
    have hnO:∀p∈O,p.1≠q:=fun p hp e=>I4q O hp (e ▸ hl)
    have hnI:∀p∈I,p.1≠q:=by
     intro p hp e
     refine hnd ?_
     simp only [j3q,bCz,aEz,aCz,List.any_eq_false,beq_iff_eq]
     exact ⟨⟨p,hp,e⟩,fun p' hp'=>hnO p' hp'⟩
    refine .inr ⟨fun hm => ?_,hnI,Y,hY,hYr⟩
    rcases hmv q hm with ⟨p,hp,e⟩ | h
    ·exact hnI p hp e
    ·rw [hY] at h; simp at h
 have hapart:∀q Y,s.gob q=some Y->(∀p∈I,p.1≠q)->∀b,(β q).Own b->¬i9q I β b:=by
  intro q Y hY hn b hh hp
  obtain ⟨p,hpI,hg,h1⟩:=hpass _ hp
  exact hn p hpI (hs.mem.sep p.1 q _ _ hg hY b h1 hh)
 refine ⟨?_,?_,fun i x hi => ?_,⟨fun b hb=>(hG.sup b hb).1,fun q X hq => ?_,fun q X hq b hh => ?_,fun q q' X X' hq hq' b hh hh' => ?_,hG.os.trans hs.mem.os,hG.tape.trans hs.mem.tape,hG.output.trans hs.mem.output,aqz hs.mem.size hG.size,fun b hb hp => ?_,fun b hb=>hG.sub b (hs.mem.sub b hb),fun b hb => ?_,fun q l hl => ?_,fun q X hq b hh => ?_,fun q q' X X' hq hq' b hh hh' => ?_⟩⟩
 ·cases dst <;> simp [Act.put,hs.defers]
 ·cases dst <;> simp [Act.put,hs.sz]
 ·rw [adsq] at hi
  by_cases hdi:dst=some i
  ·rw [if_pos hdi] at hi
   simp at hi
   subst hi; subst hdi
   simp at hd
   exact ⟨v,by simp [Act.put,hs.sz,hd],hr⟩
  ·rw [if_neg hdi] at hi
   obtain ⟨y,hy,hyr⟩:=aczq hk hG.sub hβ hi
   obtain ⟨u,hu,hur⟩:=hs.tm i y hy
   refine ⟨u,?_,hyr u hur⟩
   cases dst with
   | none=>exact hu
   | some d =>
    simp only [Act.put]
    rw [aez (fun e=>hdi (by rw [e]))]
    exact hu
 ·rcases hT q X hq with hm | ⟨hnm,hnI,Y,hY,hYr⟩
  ·exact hG.ob _ hm
  ·rw [hG.loc q hnm]
   exact hYr _ (fun b hh=>hG.block _ (hs.mem.own q Y hY b hh).1 (hapart q Y hY hnI b hh)) (hs.mem.ob q Y hY)
 ·rcases hT q X hq with hm | ⟨hnm,hnI,Y,hY,hYr⟩
  ·obtain ⟨h1,h2,h3⟩:=hG.own _ hm b hh
   refine ⟨h1,h2,?_⟩
   rcases h3 with h3 | h3
   ·exact .inl (aqz hs.mem.size h3)
   ·obtain ⟨p,_,hg,h4⟩:=hpass _ h3
    exact (hs.mem.own p.1 p.2 hg b h4).2.2
  ·rw [hG.loc q hnm] at hh
   obtain ⟨h1,h2,h3⟩:=hs.mem.own q Y hY b hh
   refine ⟨adz h1 hG.size,fun hb => ?_,h3⟩
   rcases (hG.sup _ hb).2 with hb | hb | hb
   ·exact h2 hb
   ·omega
   ·exact hapart q Y hY hnI b hh hb
 ·have hmix:∀q q' X Y',(q,X)∈O->q'∉mv->(∀p∈I,p.1≠q')->s.gob q'=some Y'->∀b,(β' q).Own b->(β' q').Own b->False:=by
   intro q q' X Y' hm hnm hnI hY' b hh hh'
   rw [hG.loc q' hnm] at hh'
   rcases (hG.own _ hm b hh).2.2 with h3 | h3
   ·have:=(hs.mem.own q' Y' hY' b hh').1
    omega
   ·exact hapart q' Y' hY' hnI b hh' h3
  rcases hT q X hq with hm | ⟨hnm,hnI,Y,hY,hYr⟩ <;> rcases hT q' X' hq' with hm' | ⟨hnm',hnI',Y',hY',hYr'⟩
  ·exact hG.sep _ hm _ hm' b hh hh'
  ·exact (hmix q q' X Y' hm hnm' hnI' hY' b hh hh').elim
  ·exact (hmix q' q X' Y hm' hnm hnI hY b hh' hh).elim
  ·rw [hG.loc q hnm] at hh
   rw [hG.loc q' hnm'] at hh'
   exact hs.mem.sep q q' Y Y' hY hY' b hh hh'
 ·refine (hG.block b (adz hb hs.mem.size) fun hpb => ?_).trans (hs.mem.block b hb hp)
  obtain ⟨p,_,hg,h1⟩:=hpass b hpb
  rcases (hs.mem.own p.1 p.2 hg b h1).2.2 with h3 | h3
  ·omega
  ·exact hp h3
 ·rcases (hG.sup b hb).2 with hb | hb | hb
  ·exact hs.mem.sup b hb
  ·exact .inr (.inl (aqz hs.mem.size hb))
  ·obtain ⟨p,_,hg,h1⟩:=hpass b hb
   exact .inr (hs.mem.own p.1 p.2 hg b h1).2.2
 ·obtain ⟨h1,h2⟩:=hs.mem.fix q l hl
  exact ⟨h1,(hG.loc q fun hm=>by have:=hlow q hm; omega).trans h2⟩
 ·rcases hT q X hq with hm | ⟨hnm,hnI,Y,hY,hYr⟩
  ·obtain ⟨h1,h3⟩:=hG.clm _ hm b hh
   refine ⟨h1,?_⟩
   rcases h3 with h3 | h3 | h3
   ·exact .inl (aqz hs.mem.size h3)
   ·obtain ⟨p,_,hg,h4⟩:=hpass _ h3
    exact (hs.mem.own p.1 p.2 hg b h4).2.2.imp id .inl
   ·obtain ⟨p,hp,h4⟩:=h3
    exact (hs.mem.clm p.1 p.2 (hI p hp) b h4).2
  ·rw [hG.loc q hnm] at hh
   obtain ⟨h1,h2⟩:=hs.mem.clm q Y hY b hh
   exact ⟨hG.sub b h1,h2⟩
 ·have hmix:∀q q' X Y',(q,X)∈O->q'∉mv->(∀p∈I,p.1≠q')->s.gob q'=some Y'->∀b,b∈(β' q).clm->b∈(β' q').clm->False:=by
   intro q q' X Y' hm hnm hnI hY' b hh hh'
   rw [hG.loc q' hnm] at hh'
   have hSb:=(hs.mem.clm q' Y' hY' b hh').1
   rcases (hG.clm _ hm b hh).2 with h3 | h3 | h3
   ·have:=hs.mem.lt b hSb
    omega
   ·exact hSn b hSb h3
   ·obtain ⟨p,hp,h4⟩:=h3
    exact hnI p hp (hs.mem.sepc p.1 q' _ _ (hI p hp) hY' b h4 hh')
  rcases hT q X hq with hm | ⟨hnm,hnI,Y,hY,hYr⟩ <;> rcases hT q' X' hq' with hm' | ⟨hnm',hnI',Y',hY',hYr'⟩
  ·exact hG.sepc _ hm _ hm' b hh hh'
  ·exact (hmix q q' X Y' hm hnm' hnI' hY' b hh hh').elim
  ·exact (hmix q' q X' Y hm' hnm hnI hY b hh' hh).elim
  ·rw [hG.loc q hnm] at hh
   rw [hG.loc q' hnm'] at hh'
   exact hs.mem.sepc q q' Y Y' hY hY' b hh hh'
def XOp (Γ:Cx) (P:Program) (o:Oper) (s s':St):Prop:=∀(a:Act) (w:World) (S:Nat->Prop) (β:Nat->OLoc) (K':Act->World->Prop) (R:Exit->Act->World->Prop),Sim Γ s a w S β ->
 (∀a' w' S' β',Sim Γ s' a' w' S' β'->K' a' w')->o.wp P a w K' R
def OpL (P:Program) (o:Oper) (s:St) (y:AV) (nob:List (Nat×Ob)):Prop:=∀(Γ:Cx) (a:Act) (w:World) (S:Nat->Prop) (β:Nat->OLoc),Sim Γ s a w S β->∀(K:Act->World->Prop) (R:Exit->Act->World->Prop),
 (∀v w' S' β',Grow w S β nob w' S' β'->RepV w' S' β' y v->K (a.put o.dst v) w')->o.wp P a w K R
theorem st_x {s':St} (h:XOp Γ P o s s') (hg:o.guard=none) (hr:d8q Γ P ops rest K s'):d8q Γ P ops (o::rest) K s:=by
 intro a w S β R hs hR
 exact wpList_plain hg fun K' hK=>h a w S β K' R hs fun a' w' S' β' hs'=>hK _ _ (hr _ _ _ _ R hs' hR)
theorem agDq {s':St} {j d:Nat} {want b:Bool} (h:XOp Γ P o s s') (hg:o.guard=some (j,want)) (hj:(ops[j]?).bind (·.dst)=some d) (hb:s.get d=some (B b)) (e:b=want) (hr:d8q Γ P ops rest K s'):d8q Γ P ops (o::rest) K s:=by
 subst e
 intro a w S β R hs hR
 have hyl:=a1vq (Γ:=Γ) hj (.inr hs) hb
 refine wpList_step fun K' hK => ?_
 have hw:Region.wanted o (yielded ops a.tmps)=true:=by simp only [Region.wanted,hg,hyl]; cases b <;> rfl
 rw [hw,if_pos rfl]
 exact h a w S β K' R hs fun a' w' S' β' hs'=>hK _ _ (hr _ _ _ _ R hs' hR)
def a5pq (P:Program) (v:AV) (xs:List AV) (r:AV) (I O:List (Nat×Ob)) (mv:List Nat):Prop:=match v with
 | .one (.d (.fn f))=>(∃fn,P.funcs[f]?=some fn/\fn.body.isNone=false/\(fn.name == "runtime.NumGoroutine")=false)/\XCall P f xs r I O mv
 | .one (.clo f caps)=>(∃fn,P.funcs[f]?=some fn/\fn.body.isNone=false/\(fn.name == "runtime.NumGoroutine")=false)/\XCall P f (xs++caps.map fun p=>.one (.op p.1 p.2)) r I O mv
 | _=>False
theorem RepVs.append {w:World} {S:Nat->Prop} {β:Nat->OLoc} {xs ys:List AV} {vs us:List Value} (h:RepVs w S β xs vs) (k:RepVs w S β ys us):RepVs w S β (xs++ys) (vs++us):=by
 induction h with
 | nil=>simpa using k
 | one h _ ih=>exact .one h ih
 | dat h _ ih=>exact .dat h ih
 | agg h _ ih=>exact .agg h ih
 | tup h _ _ ih=>exact .tup h ih
theorem adFq {w:World} {S:Nat->Prop} {β:Nat->OLoc} (caps:List (Nat×Nat)):RepVs w S β (caps.map fun p=>.one (.op p.1 p.2)) (caps.map (G2q β)):=by
 induction caps with
 | nil=>exact .nil
 | cons p r ih=>exact .one .op ih
theorem addq {sV:St} (hV:∀a w S β,Sim Γ s a w S β->Sim Γ sV a w S β) {c:Operand} {ag:List Operand} {ts:Array TypeId} {v:AV} {xs:List AV} (ho:o.op = .call { callee:=.value c,args:=ag.toArray,argTypes:=ts }) (hc:sV.ev c=some v) (has:p7q sV.ev ag=some xs) (hv:a5pq P v xs r I O mv) (hd:o.dst.all (· < Γ.n)=true)
  (hI:∀p∈I,s.gob p.1=some p.2) (hlow:∀m∈mv,m<2000) (hOin:∀p∈O,(∃q∈I,q.1=p.1)\/p.1∈mv) (hmv:∀m∈mv,(∃p∈I,p.1=m)\/s.gob m=none):XOp Γ P o s (s.xupd o.dst r I O mv):=by
 intro a w S β K' R hs hK
 have h1:=a2Oq (w:=w) (S:=S) (β:=β) (ρ:=a.eval) ag xs (fun x X hx _=>(hV a w S β hs).eval hx) has
 have hcv:=(hV a w S β hs).eval hc
 have hin:R9q w S β I:=⟨fun p hp=>hs.mem.ob p.1 p.2 (hI p hp),fun p hp b hh=>⟨(hs.mem.own p.1 p.2 (hI p hp) b hh).1,(hs.mem.own p.1 p.2 (hI p hp) b hh).2.1⟩,fun p hp q hq b hh hh'=>hs.mem.sep p.1 q.1 _ _ (hI p hp) (hI q hq) b hh hh',fun p hp b hh=>(hs.mem.clm p.1 p.2 (hI p hp) b hh).1,fun p hp q hq b hh hh'=>hs.mem.sepc p.1 q.1 _ _ (hI p hp) (hI q hq) b hh hh'⟩
 have main:∃f cs us,(∃fn,P.funcs[f]?=some fn/\fn.body.isNone=false/\(fn.name == "runtime.NumGoroutine")=false)/\XCall P f (xs++cs) r I O mv/\a.eval c = .func (.func f) #[] us.toArray/\RepVs w S β cs us:=by
  unfold a5pq at hv
  split at hv
  ·rename_i f
   refine ⟨f,[],[],hv.1,by simpa using hv.2,by simpa using hcv.fn_inv,.nil⟩
  ·rename_i f caps
   have:=hcv.one_inv
   generalize hg:a.eval c=u at this
   cases this
   exact ⟨f,_,_,hv.1,hv.2,rfl,adFq caps⟩
  ·exact hv.elim
 obtain ⟨f,cs,us,⟨fn,hf,hb,hname⟩,hx,hev,hcr⟩:=main
 have he:(execOp a.eval o).run P w = .ok (.enter f (ag.map a.eval++us).toArray) w:=by
  simp only [execOp,ho,resolve,hev,Deferred.ofValue,acz,ahz,a5z,invoke,ayz]
  rw [show (#[]:Array Value)++(ag.map a.eval).toArray++us.toArray=(ag.map a.eval++us).toArray by simp]
  exact S8q hf hb hname _ _
 unfold Oper.wp
 rw [he,Oper.upon_enter]
 refine (hx w S β _ hs.mem.lt (h1.append hcr) hin).mono ?_
 rintro e w' ⟨v,S',β',rfl,hG,hrep⟩
 exact hK _ _ S' β' (hG.sim hrep hs hd hI hlow hOin hmv)
def xok (s:St) (I O:List (Nat×Ob)) (mv:List Nat):Bool :=
 (mv.all fun m=>decide (m<2000)&&(I.any (·.1==m)||(s.gob m).isNone))&&O.all fun p=>I.any (·.1==p.1)||mv.contains p.1
theorem a9zq {sV:St} (hV:∀a w S β,Sim Γ s a w S β->Sim Γ sV a w S β) {c:Operand} {ag:List Operand} {ts:Array TypeId} {v:AV} {xs:List AV} (hv:a5pq P v xs r I O mv) (ho:o.op = .call { callee:=.value c,args:=ag.toArray,argTypes:=ts }) (hc:sV.ev c=some v) (has:p7q sV.ev ag=some xs) (hd:o.dst.all (· < Γ.n)=true)
  (hI:usOk s I) (hok:xok s I O mv=true):XOp Γ P o s (s.xupd o.dst r I O mv):=by
 simp only [xok,a8z,a4z,azz,decide_eq_true_eq,b8z,beq_iff_eq,bmz,Option.isNone_iff_eq_none] at hok
 exact addq hV ho hc has hv hd (q5q hI) (fun m hm=>(hok.1 m hm).1) hok.2 fun m hm=>(hok.1 m hm).2
theorem a8Wq {f:FuncId} {fn:Func} {xs:List AV} (hx:XCall P f xs r I O mv) (hf:P.funcs[f]?=some fn) (hb:fn.body.isNone=false) (hname:(fn.name == "runtime.NumGoroutine")=false):a5pq P (.one (.d (.fn f))) xs r I O mv:=⟨⟨fn,hf,hb,hname⟩,hx⟩
theorem acfq {f:FuncId} {fn:Func} {xs ys:List AV} {caps:List (Nat×Nat)} (hx:XCall P f ys r I O mv) (e:xs++(caps.map fun p=>.one (.op p.1 p.2))=ys) (hf:P.funcs[f]?=some fn) (hb:fn.body.isNone=false) (hname:(fn.name == "runtime.NumGoroutine")=false):a5pq P (.one (.clo f caps)) xs r I O mv:=⟨⟨fn,hf,hb,hname⟩,by subst e; exact hx⟩
end
section
variable {P:Program} {f:FuncId} {xs:List AV} {r:AV} {I O:List (Nat×Ob)} {mv:List Nat}
theorem XCall.of (h:ACall P f xs r []):XCall P f xs r I I []:=by
 intro w S β vs hlt hr hin
 refine (h w S β vs hlt hr).mono ?_
 rintro e w' ⟨v,S',β',rfl,hG,hrep⟩
 have hk:∀b,S b->w'.heap[b]?=w.heap[b]?:=fun b hb=>hG.block b (hlt b hb)
 have hβ:β'=β:=funext fun o=>hG.loc o (by simp)
 subst hβ
 refine ⟨v,S',β',rfl,⟨hG.os,hG.tape,hG.output,hG.size,fun b hb _=>hG.block b hb,hG.sub,fun b hb=>⟨(hG.sup b hb).1,(hG.sup b hb).2.imp id .inl⟩,fun _ _=>rfl,fun p hp => ?_,fun p hp b hh => ?_,hin.sep,fun p hp b hh=>⟨hG.sub b (hin.clm p hp b hh),.inr (.inr ⟨p,hp,hh⟩)⟩,hin.sepc⟩,hrep⟩
 ·exact (hin.ob p hp).mono (fun b hh=>hG.block _ (hin.own p hp b hh).1) hk hG.sub fun _ _=>rfl
 ·obtain ⟨h1,h2⟩:=hin.own p hp b hh
  refine ⟨adz h1 hG.size,fun hb => ?_,.inr ⟨p,hp,hh⟩⟩
  rcases (hG.sup _ hb).2 with hb | hb
  ·exact h2 hb
  ·omega
theorem XCall.plain (h:XCall P f xs r [] [] []):ACall P f xs r []:=by
 intro w S β vs hlt hr
 refine (h w S β vs hlt hr ⟨by simp,by simp,by simp,by simp,by simp⟩).mono ?_
 rintro e w' ⟨v,S',β',rfl,hG,hrep⟩
 exact ⟨v,S',β',rfl,⟨hG.os,hG.tape,hG.output,hG.size,fun b hb=>hG.block b hb (fun ⟨p,hp,_⟩=>by simp at hp),hG.sub,fun b hb=>⟨(hG.sup b hb).1,(hG.sup b hb).2.imp id fun h=>h.resolve_right fun ⟨p,hp,_⟩=>by simp at hp⟩,fun o _=>hG.loc o (by simp),by simp,by simp,by simp,by simp,by simp⟩,hrep⟩
end
end AM
end Go.Proofs.YtmgfoalfimpkjaaGreat
