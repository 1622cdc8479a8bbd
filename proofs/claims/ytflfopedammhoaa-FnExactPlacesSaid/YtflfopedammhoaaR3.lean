/- FnExactPlaces, for every input; no conditions. -/
import Derived.Test.YtflfopedammhoaaHp
import Derived.Test.YtflfopedammhoaaHr
import Derived.Test.YtflfopedammhoaaRows
set_option linter.unusedSimpArgs false
set_option linter.unusedVariables false
namespace Go.Proofs.Ytflfopedammhoaa
namespace AM
open Go Go.ChangeShapes Go.WideShapes Go.RowKit

set_option maxRecDepth 100000 in
theorem fnExactPlaces_lifted (os : Os) (started : os.Started) (H : Type) (enc : TypeId × Value → H) :
    ReturnsInHanded {} Try.checked os 3 .any (Rows.fnExactPlacesSpec.pre6 enc Try.prog Try.f3 Rows.fnExactPlacesRow.domain false) (Rows.fnExactPlacesSpec.post enc Try.prog Try.f3 false true false false) := by
  refine law_lifted (C := Try.checked) [24, 22, 3] own started (by kernel_rfl) Try.func3
    (ChangeSpec.witness6 (enc := enc) (C := Try.checked) false ⟨#[], #[.agg #[.int .i64 0, .int .i64 0, .slice none 0 0]], []⟩ 8 (by kernel_rfl) (by kernel_rfl) (by kernel_rfl) (by kernel_rfl))
    laidOut (by kernel_rfl) (by kernel_rfl) rfl rfl Try.underlying4 (fun ds hd => ?_) (fun xs hx => ?_)
  · match ds, hd with
    | [d0], _ => exact ⟨rfl, rfl, rfl⟩
  · have hx2 : argsOk Try.prog [24] xs := hx
    match xs, hx2 with
    | [x0], ⟨h0, _⟩ =>
      simp only [ArgOk, Try.underlying24] at h0
      obtain ⟨_, _, rfl, h0⟩ := h0
      obtain ⟨a, e0, k0⟩ := typed_term _ h0
      subst e0
      exact (laws_FnExactPlaces_law a k0).acall

theorem fnExactPlaces_holds : Rows.FnExactPlacesSaid :=
  OpenClaim.holds_of_wide 3 Try.f3 rfl rfl rfl rfl rfl rfl rfl ⟨rfl, rfl, rfl, rfl, rfl⟩ rfl rfl rfl rfl rfl (by kernel_rfl) Try.func3 (by kernel_rfl)
    (of_decide_eq_true (by kernel_rfl)) (by unfold Func.isWrapper; rw [if_neg (by decide +kernel)]; exact ⟨rfl, rfl⟩)
    (fun os started H enc _ => fnExactPlaces_lifted os started H enc)

#print axioms fnExactPlaces_holds

end AM
end Go.Proofs.Ytflfopedammhoaa
