/- FnExactWords, for every input; no conditions. -/
import Derived.Test.YthbbibeilmfheaaHw
import Derived.Test.YthbbibeilmfheaaHr
import Derived.Test.YthbbibeilmfheaaRows
set_option linter.unusedSimpArgs false
set_option linter.unusedVariables false
namespace Go.Proofs.Ythbbibeilmfheaa
namespace AM
open Go Go.ChangeShapes Go.WideShapes Go.RowKit

set_option maxRecDepth 100000 in
theorem fnExactWords_lifted (os : Os) (started : os.Started) (H : Type) (enc : TypeId × Value → H) :
    ReturnsInHanded {} Try.checked os 7 .any (Rows.fnExactWordsSpec.pre6 enc Try.prog Try.f7 Rows.fnExactWordsRow.domain false) (Rows.fnExactWordsSpec.post enc Try.prog Try.f7 false true false false) := by
  refine law_lifted (C := Try.checked) [9] own started (by kernel_rfl) Try.func7
    (ChangeSpec.witness6 (enc := enc) (C := Try.checked) false ⟨#[], #[.string .empty], []⟩ 8 (by kernel_rfl) (by kernel_rfl) (by kernel_rfl) (by kernel_rfl))
    laidOut (by kernel_rfl) (by kernel_rfl) rfl rfl Try.underlying4 (fun ds hd => ?_) (fun xs hx => ?_)
  · match ds, hd with
    | [d0], _ => exact ⟨rfl, rfl, rfl⟩
  · have hx2 : argsOk Try.prog [9] xs := hx
    match xs, hx2 with
    | [x0], ⟨h0, _⟩ =>
      simp only [ArgOk, Try.underlying9] at h0
      obtain ⟨_, _, rfl, h0⟩ := h0
      obtain ⟨a, e0⟩ := typed_str _ h0
      cases e0
      exact (laws_FnExactWords_law a trivial).acall

theorem fnExactWords_holds : Rows.FnExactWordsSaid :=
  OpenClaim.holds_of_wide 7 Try.f7 rfl rfl rfl rfl rfl rfl rfl ⟨rfl, rfl, rfl, rfl, rfl⟩ rfl rfl rfl rfl rfl (by kernel_rfl) Try.func7 (by kernel_rfl)
    (of_decide_eq_true (by kernel_rfl)) (by unfold Func.isWrapper; rw [if_neg (by decide +kernel)]; exact ⟨rfl, rfl⟩)
    (fun os started H enc _ => fnExactWords_lifted os started H enc)

#print axioms fnExactWords_holds

end AM
end Go.Proofs.Ythbbibeilmfheaa
