/- FnExactLitApply, for every input; no conditions. -/
import Derived.Test.YtajcoogpmockiaaHk3
import Derived.Test.YtajcoogpmockiaaHr
import Derived.Test.YtajcoogpmockiaaRows
set_option linter.unusedSimpArgs false
set_option linter.unusedVariables false
namespace Go.Proofs.Ytajcoogpmockiaa
namespace AM
open Go Go.ChangeShapes Go.WideShapes Go.RowKit

set_option maxRecDepth 100000 in
theorem fnExactLitApply_lifted (os : Os) (started : os.Started) (H : Type) (enc : TypeId × Value → H) :
    ReturnsInHanded {} Try.checked os 5 .any (Rows.fnExactLitApplySpec.pre6 enc Try.prog Try.f5 Rows.fnExactLitApplyRow.domain false) (Rows.fnExactLitApplySpec.post enc Try.prog Try.f5 false true false false) := by
  refine law_lifted (C := Try.checked) [22, 93, 9, 3, 4, 55, 113, 25, 23, 57] own started (by kernel_rfl) Try.func5
    (ChangeSpec.witness6 (enc := enc) (C := Try.checked) false ⟨#[], #[.slice none 0 0, .slice none 0 0, .agg #[.bool true, .int .i64 0, .int .i64 0, .slice none 0 0, .int .i64 0, .int .i64 0, .slice none 0 0]], []⟩ 8 (by kernel_rfl) (by kernel_rfl) (by kernel_rfl) (by kernel_rfl))
    laidOut (by kernel_rfl) (by kernel_rfl) rfl rfl Try.underlying4 (fun ds hd => ?_) (fun xs hx => ?_)
  · match ds, hd with
    | [d0, d1, d2], _ => exact ⟨rfl, rfl, rfl⟩
  · have hx2 : argsOk Try.prog [22, 55, 57] xs := hx
    match xs, hx2 with
    | [x0, x1, x2], ⟨h0, h1, h2, _⟩ =>
      simp only [ArgOk, Try.underlying22] at h0
      obtain ⟨_, _, rfl, h0⟩ := h0
      obtain ⟨a, e0, k0⟩ := typed_symsD _ h0
      cases e0
      simp only [ArgOk, Try.underlying55] at h1
      obtain ⟨_, _, rfl, h1⟩ := h1
      obtain ⟨b, e1, k1⟩ := typed_binds _ h1
      cases e1
      simp only [ArgOk, Try.underlying57] at h2
      obtain ⟨_, _, rfl, h2⟩ := h2
      obtain ⟨c, e2, k2⟩ := typed_lit _ h2
      subst e2
      exact (laws_FnExactLitApply_law a k0 b k1 c k2).acall

theorem fnExactLitApply_holds : Rows.FnExactLitApplySaid :=
  OpenClaim.holds_of_wide 5 Try.f5 rfl rfl rfl rfl rfl rfl rfl ⟨rfl, rfl, rfl, rfl, rfl⟩ rfl rfl rfl rfl rfl (by kernel_rfl) Try.func5 (by kernel_rfl)
    (of_decide_eq_true (by kernel_rfl)) (by unfold Func.isWrapper; rw [if_neg (by decide +kernel)]; exact ⟨rfl, rfl⟩)
    (fun os started H enc _ => fnExactLitApply_lifted os started H enc)

#print axioms fnExactLitApply_holds

end AM
end Go.Proofs.Ytajcoogpmockiaa
