/- FnExactRefuted, for every input; no conditions. -/
import Derived.Test.YtbgpofimflnabaaLa
import Derived.Test.YtbgpofimflnabaaRows
set_option linter.unusedSimpArgs false
set_option linter.unusedVariables false
namespace Go.Proofs.Ytbgpofimflnabaa
namespace AM
open Go Go.ChangeShapes Go.WideShapes Go.RowKit

set_option maxRecDepth 100000 in
theorem fnExactRefuted_lifted (os : Os) (started : os.Started) (H : Type) (enc : TypeId × Value → H) :
    ReturnsInHanded {} Try.checked os 6 .any (Rows.fnExactRefutedSpec.pre6 enc Try.prog Try.f6 Rows.fnExactRefutedRow.domain false) (Rows.fnExactRefutedSpec.post enc Try.prog Try.f6 false true false false) := by
  refine law_lifted (C := Try.checked) [61, 49, 3, 4, 43, 44, 153, 25, 23, 47, 45, 27] own started (by kernel_rfl) Try.func6
    (ChangeSpec.witness6 (enc := enc) (C := Try.checked) false ⟨#[], #[.slice none 0 0], []⟩ 8 (by kernel_rfl) (by kernel_rfl) (by kernel_rfl) (by kernel_rfl))
    laidOut (by kernel_rfl) (by kernel_rfl) rfl rfl Try.underlying4 (fun ds hd => ?_) (fun xs hx => ?_)
  · match ds, hd with
    | [d0], _ => exact ⟨rfl, rfl, rfl⟩
  · have hx2 : argsOk Try.prog [61] xs := hx
    match xs, hx2 with
    | [x0], ⟨h0, _⟩ =>
      simp only [ArgOk, Try.underlying61] at h0
      obtain ⟨_, _, rfl, h0⟩ := h0
      obtain ⟨a, e0, k0⟩ := typed_steps _ h0
      cases e0
      exact (laws_FnExactRefuted_law a k0).acall

theorem fnExactRefuted_holds : Rows.FnExactRefutedSaid :=
  OpenClaim.holds_of_wide 6 Try.f6 rfl rfl rfl rfl rfl rfl rfl ⟨rfl, rfl, rfl, rfl, rfl⟩ rfl rfl rfl rfl rfl (by kernel_rfl) Try.func6 (by kernel_rfl)
    (of_decide_eq_true (by kernel_rfl)) (by unfold Func.isWrapper; rw [if_neg (by decide +kernel)]; exact ⟨rfl, rfl⟩)
    (fun os started H enc _ => fnExactRefuted_lifted os started H enc)

#print axioms fnExactRefuted_holds

end AM
end Go.Proofs.Ytbgpofimflnabaa
