/- FnExactShift, for every input; no conditions. -/
import Derived.Test.YthbbibeilmfheaaHs
import Derived.Test.YthbbibeilmfheaaHr
import Derived.Test.YthbbibeilmfheaaRows
set_option linter.unusedSimpArgs false
set_option linter.unusedVariables false
namespace Go.Proofs.Ythbbibeilmfheaa
namespace AM
open Go Go.ChangeShapes Go.WideShapes Go.RowKit

set_option maxRecDepth 100000 in
theorem fnExactShift_lifted (os : Os) (started : os.Started) (H : Type) (enc : TypeId × Value → H) :
    ReturnsInHanded {} Try.checked os 10 .any (Rows.fnExactShiftSpec.pre6 enc Try.prog Try.f10 Rows.fnExactShiftRow.domain false) (Rows.fnExactShiftSpec.post enc Try.prog Try.f10 false true false false) := by
  refine law_lifted (C := Try.checked) [25, 23, 102, 42, 40, 3, 4] own started (by kernel_rfl) Try.func10
    (ChangeSpec.witness6 (enc := enc) (C := Try.checked) false ⟨#[], #[.agg #[.slice none 0 0], .int .i64 0], []⟩ 8 (by kernel_rfl) (by kernel_rfl) (by kernel_rfl) (by kernel_rfl))
    laidOut (by kernel_rfl) (by kernel_rfl) rfl rfl Try.underlying4 (fun ds hd => ?_) (fun xs hx => ?_)
  · match ds, hd with
    | [d0, d1], _ => exact ⟨rfl, rfl, rfl⟩
  · have hx2 : argsOk Try.prog [25, 3] xs := hx
    match xs, hx2 with
    | [x0, x1], ⟨h0, h1, _⟩ =>
      simp only [ArgOk, Try.underlying25] at h0
      obtain ⟨_, _, rfl, h0⟩ := h0
      obtain ⟨a, e0, k0⟩ := typed_clause _ h0
      subst e0
      simp only [ArgOk, Try.underlying3] at h1
      obtain ⟨_, _, rfl, h1⟩ := h1
      obtain ⟨b, e1, k1⟩ := typed_int _ h1
      cases e1
      exact (laws_FnExactShift_law a k0 b k1).acall

theorem fnExactShift_holds : Rows.FnExactShiftSaid :=
  OpenClaim.holds_of_wide 10 Try.f10 rfl rfl rfl rfl rfl rfl rfl ⟨rfl, rfl, rfl, rfl, rfl⟩ rfl rfl rfl rfl rfl (by kernel_rfl) Try.func10 (by kernel_rfl)
    (of_decide_eq_true (by kernel_rfl)) (by unfold Func.isWrapper; rw [if_neg (by decide +kernel)]; exact ⟨rfl, rfl⟩)
    (fun os started H enc _ => fnExactShift_lifted os started H enc)

#print axioms fnExactShift_holds

end AM
end Go.Proofs.Ythbbibeilmfheaa
