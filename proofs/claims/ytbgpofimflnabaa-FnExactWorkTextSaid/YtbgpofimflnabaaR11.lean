/- FnExactWorkText, for every input; no conditions. -/
import Derived.Test.YtbgpofimflnabaaLa
import Derived.Test.YtbgpofimflnabaaRows
set_option linter.unusedSimpArgs false
set_option linter.unusedVariables false
namespace Go.Proofs.Ytbgpofimflnabaa
namespace AM
open Go Go.ChangeShapes Go.WideShapes Go.RowKit

set_option maxRecDepth 100000 in
theorem fnExactWorkText_lifted (os : Os) (started : os.Started) (H : Type) (enc : TypeId × Value → H) :
    ReturnsInHanded {} Try.checked os 11 .any (Rows.fnExactWorkTextSpec.pre6 enc Try.prog Try.f11 Rows.fnExactWorkTextRow.domain false) (Rows.fnExactWorkTextSpec.post enc Try.prog Try.f11 false true false false) := by
  refine law_lifted (C := Try.checked) [82, 22, 110, 9, 74, 61, 49, 3, 4, 43, 44, 153, 25, 23, 47, 45, 27] own started (by kernel_rfl) Try.func11
    (ChangeSpec.witness6 (enc := enc) (C := Try.checked) false ⟨#[], #[.agg #[.slice none 0 0, .slice none 0 0, .slice none 0 0, .slice none 0 0, .slice none 0 0, .bool true]], []⟩ 8 (by kernel_rfl) (by kernel_rfl) (by kernel_rfl) (by kernel_rfl))
    laidOut (by kernel_rfl) (by kernel_rfl) rfl rfl Try.underlying4 (fun ds hd => ?_) (fun xs hx => ?_)
  · match ds, hd with
    | [d0], _ => exact ⟨rfl, rfl, rfl⟩
  · have hx2 : argsOk Try.prog [82] xs := hx
    match xs, hx2 with
    | [x0], ⟨h0, _⟩ =>
      simp only [ArgOk, Try.underlying82] at h0
      obtain ⟨_, _, rfl, h0⟩ := h0
      obtain ⟨a, e0, k0⟩ := typed_work _ h0
      subst e0
      exact (laws_FnExactWorkText_law a k0).acall

theorem fnExactWorkText_holds : Rows.FnExactWorkTextSaid :=
  OpenClaim.holds_of_wide 11 Try.f11 rfl rfl rfl rfl rfl rfl rfl ⟨rfl, rfl, rfl, rfl, rfl⟩ rfl rfl rfl rfl rfl (by kernel_rfl) Try.func11 (by kernel_rfl)
    (of_decide_eq_true (by kernel_rfl)) (by unfold Func.isWrapper; rw [if_neg (by decide +kernel)]; exact ⟨rfl, rfl⟩)
    (fun os started H enc _ => fnExactWorkText_lifted os started H enc)

#print axioms fnExactWorkText_holds

end AM
end Go.Proofs.Ytbgpofimflnabaa
