/- FnExactExtended, for every input; no conditions. -/
import Derived.Test.YtajcoogpmockiaaHe3
import Derived.Test.YtajcoogpmockiaaHr
import Derived.Test.YtajcoogpmockiaaRows
set_option linter.unusedSimpArgs false
set_option linter.unusedVariables false
namespace Go.Proofs.Ytajcoogpmockiaa
namespace AM
open Go Go.ChangeShapes Go.WideShapes Go.RowKit

set_option maxRecDepth 100000 in
theorem fnExactExtended_lifted (os : Os) (started : os.Started) (H : Type) (enc : TypeId × Value → H) :
    ReturnsInHanded {} Try.checked os 4 .any (Rows.fnExactExtendedSpec.pre6 enc Try.prog Try.f4 Rows.fnExactExtendedRow.domain false) (Rows.fnExactExtendedSpec.post enc Try.prog Try.f4 false true false false) := by
  refine law_lifted (C := Try.checked) [22, 93, 9, 3, 4, 45, 25, 23] own started (by kernel_rfl) Try.func4
    (ChangeSpec.witness6 (enc := enc) (C := Try.checked) false ⟨#[], #[.slice none 0 0, .agg #[.int .i64 0, .int .i64 0, .slice none 0 0, .int .i64 0, .int .i64 0, .slice none 0 0]], []⟩ 8 (by kernel_rfl) (by kernel_rfl) (by kernel_rfl) (by kernel_rfl))
    laidOut (by kernel_rfl) (by kernel_rfl) rfl rfl Try.underlying4 (fun ds hd => ?_) (fun xs hx => ?_)
  · match ds, hd with
    | [d0, d1], _ => exact ⟨rfl, rfl, rfl⟩
  · have hx2 : argsOk Try.prog [22, 45] xs := hx
    match xs, hx2 with
    | [x0, x1], ⟨h0, h1, _⟩ =>
      simp only [ArgOk, Try.underlying22] at h0
      obtain ⟨_, _, rfl, h0⟩ := h0
      obtain ⟨a, e0, k0⟩ := typed_symsD _ h0
      cases e0
      simp only [ArgOk, Try.underlying45] at h1
      obtain ⟨_, _, rfl, h1⟩ := h1
      obtain ⟨b, e1, k1⟩ := typed_rule _ h1
      subst e1
      exact (laws_FnExactExtended_law a k0 b k1).acall

theorem fnExactExtended_holds : Rows.FnExactExtendedSaid :=
  OpenClaim.holds_of_wide 4 Try.f4 rfl rfl rfl rfl rfl rfl rfl ⟨rfl, rfl, rfl, rfl, rfl⟩ rfl rfl rfl rfl rfl (by kernel_rfl) Try.func4 (by kernel_rfl)
    (of_decide_eq_true (by kernel_rfl)) (by unfold Func.isWrapper; rw [if_neg (by decide +kernel)]; exact ⟨rfl, rfl⟩)
    (fun os started H enc _ => fnExactExtended_lifted os started H enc)

#print axioms fnExactExtended_holds

end AM
end Go.Proofs.Ytajcoogpmockiaa
