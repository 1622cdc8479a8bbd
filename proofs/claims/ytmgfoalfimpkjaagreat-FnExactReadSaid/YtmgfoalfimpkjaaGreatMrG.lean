/- A part of the proof of the law that the last of these texts states, for every input; no conditions. -/
import Derived.Test.YtmgfoalfimpkjaaGreatMrF
set_option linter.unusedVariables false
set_option linter.unusedSimpArgs false
namespace Go.Proofs.YtmgfoalfimpkjaaGreat
namespace AM
open Go Go.ChangeShapes Go.WideShapes Go.RowKit
open Go.Proofs.Tryz renaming prog->pg
set_option maxRecDepth 100000 in
theorem a2fq (os:Os) (started:os.Started) (H:Type) (enc:TypeId×Value->H) :
  ReturnsInHanded {} Tryz.checked os 5 .any (Rows.fnExactReadSpec.pre6 enc pg Tryz.f5 Rows.fnExactReadRow.domain false) (Rows.fnExactReadSpec.post enc pg Tryz.f5 false true false false):=by
 refine abzq (C:=Tryz.checked) [9] own started (by kernel_rfl) Tryz.func5
  (ChangeSpec.witness6 (enc:=enc) (C:=Tryz.checked) false ⟨#[],#[.string .empty],[]⟩ 8 (by kernel_rfl) (by kernel_rfl) (by kernel_rfl) (by kernel_rfl))
  af6q (by kernel_rfl) (by kernel_rfl) rfl rfl Tryz.underlying4 (fun ds hd => ?_) (fun xs hx => ?_)
 ·match ds,hd with
  | [d0],_=>exact ⟨rfl,rfl,rfl⟩
 ·have hx2:a4xq pg [9] xs:=hx
  match xs,hx2 with
  | [x0],⟨h0,_⟩ =>
   simp only [a5uq,Tryz.underlying9] at h0
   obtain ⟨_,_,rfl,h0⟩:=h0
   obtain ⟨a,e0⟩:=acsq _ h0
   cases e0
   exact (a1qq a trivial).acall
theorem fnExactRead_holds:Rows.FnExactReadSaid :=
 OpenClaim.holds_of_wide 5 Tryz.f5 rfl rfl rfl rfl rfl rfl rfl ⟨rfl,rfl,rfl,rfl,rfl⟩ rfl rfl rfl rfl rfl (by kernel_rfl) Tryz.func5 (by kernel_rfl)
  (of_decide_eq_true (by kernel_rfl)) (by unfold Func.isWrapper; rw [if_neg (by decide +kernel)]; exact ⟨rfl,rfl⟩)
  (fun os started H enc _=>a2fq os started H enc)
end AM
end Go.Proofs.YtmgfoalfimpkjaaGreat
