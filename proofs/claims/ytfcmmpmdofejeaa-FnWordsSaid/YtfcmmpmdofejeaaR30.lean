/- FnWords, for every input; no conditions. -/
import Derived.Test.YtfcmmpmdofejeaaHfw
import Derived.Test.YtfcmmpmdofejeaaHr
import Derived.Test.YtfcmmpmdofejeaaRows
set_option linter.unusedSimpArgs false
set_option linter.unusedVariables false
namespace Go.Proofs.Ytfcmmpmdofejeaa
namespace AM
open Go Go.ChangeShapes Go.WideShapes Go.RowKit

set_option maxRecDepth 100000 in
theorem fnWords_lifted (os : Os) (started : os.Started) (H : Type) (enc : TypeId × Value → H) :
    ReturnsInHanded {} Try.checked os 3 .any (Rows.fnWordsSpec.pre6 enc Try.prog Try.f3 Rows.fnWordsRow.domain false) (Rows.fnWordsSpec.post enc Try.prog Try.f3 false true false false) := by
  refine law_lifted (C := Try.checked) [22, 5] own started (by kernel_rfl) Try.func3
    (ChangeSpec.witness6 (enc := enc) (C := Try.checked) false ⟨#[], #[.slice none 0 0], []⟩ 8 (by kernel_rfl) (by kernel_rfl) (by kernel_rfl) (by kernel_rfl))
    laidOut (by kernel_rfl) (by kernel_rfl) rfl rfl Try.underlying4 (fun ds hd => ?_) (fun xs hx => ?_)
  · match ds, hd with
    | [d0], _ => exact ⟨rfl, rfl, rfl⟩
  · have hx2 : argsOk Try.prog [22] xs := hx
    match xs, hx2 with
    | [x0], ⟨h0, _⟩ =>
      simp only [ArgOk, Try.underlying22] at h0
      obtain ⟨_, _, rfl, h0⟩ := h0
      obtain ⟨a, e0, k0⟩ := typed_bytes _ h0
      cases e0
      exact (laws_FnWords_law a k0).acall

theorem fnWords_holds : Rows.FnWordsSaid :=
  OpenClaim.holds_of_wide 3 Try.f3 rfl rfl rfl rfl rfl rfl rfl ⟨rfl, rfl, rfl, rfl, rfl⟩ rfl rfl rfl rfl rfl (by kernel_rfl) Try.func3 (by kernel_rfl)
    (of_decide_eq_true (by kernel_rfl)) (by unfold Func.isWrapper; rw [if_neg (by decide +kernel)]; exact ⟨rfl, rfl⟩)
    (fun os started H enc _ => fnWords_lifted os started H enc)

#print axioms fnWords_holds

end AM
end Go.Proofs.Ytfcmmpmdofejeaa
