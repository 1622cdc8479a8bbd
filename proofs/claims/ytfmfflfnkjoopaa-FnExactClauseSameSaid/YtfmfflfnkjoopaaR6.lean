/- FnExactClauseSame, for every input; no conditions. -/
import Derived.Test.YtfmfflfnkjoopaaT7
import Derived.Test.YtfmfflfnkjoopaaRd
import Derived.Test.YtfmfflfnkjoopaaRows
set_option linter.unusedSimpArgs false
set_option linter.unusedVariables false
namespace Go.Proofs.Ytfmfflfnkjoopaa
namespace AM
open Go Go.ChangeShapes Go.WideShapes Go.RowKit

set_option maxRecDepth 100000 in
theorem fnExactClauseSame_lifted (os : Os) (started : os.Started) (H : Type) (enc : TypeId × Value → H) :
    ReturnsInHanded {} Try.checked os 8 .any (Rows.fnExactClauseSameSpec.pre6 enc Try.prog Try.f8 Rows.fnExactClauseSameRow.domain false) (Rows.fnExactClauseSameSpec.post enc Try.prog Try.f8 false true false false) := by
  refine law_lifted (C := Try.checked) [63, 61, 47, 33, 31, 3, 4] own started (by kernel_rfl) Try.func8
    (ChangeSpec.witness6 (enc := enc) (C := Try.checked) false ⟨#[], #[.agg #[.slice none 0 0], .agg #[.slice none 0 0]], []⟩ 8 (by kernel_rfl) (by kernel_rfl) (by kernel_rfl) (by kernel_rfl))
    laidOut (by kernel_rfl) (by kernel_rfl) rfl rfl Try.underlying4 (fun ds hd => ?_) (fun xs hx => ?_)
  · match ds, hd with
    | [d0, d1], _ => exact ⟨rfl, rfl, rfl⟩
  · have hx2 : argsOk Try.prog [63, 63] xs := hx
    match xs, hx2 with
    | [x0, x1], ⟨h0, h1, _⟩ =>
      simp only [ArgOk, Try.underlying63] at h0
      obtain ⟨_, _, rfl, h0⟩ := h0
      obtain ⟨a, e0⟩ := typed_clause _ h0
      subst e0
      simp only [ArgOk, Try.underlying63] at h1
      obtain ⟨_, _, rfl, h1⟩ := h1
      obtain ⟨b, e1⟩ := typed_clause _ h1
      subst e1
      exact clauseSame_law a b

theorem fnExactClauseSame_holds : Rows.FnExactClauseSameSaid :=
  OpenClaim.holds_of_wide 8 Try.f8 rfl rfl rfl rfl rfl rfl rfl ⟨rfl, rfl, rfl, rfl, rfl⟩ rfl rfl rfl rfl rfl (by kernel_rfl) Try.func8 (by kernel_rfl)
    (of_decide_eq_true (by kernel_rfl)) (by unfold Func.isWrapper; rw [if_neg (by decide +kernel)]; exact ⟨rfl, rfl⟩)
    (fun os started H enc _ => fnExactClauseSame_lifted os started H enc)

#print axioms fnExactClauseSame_holds

end AM
end Go.Proofs.Ytfmfflfnkjoopaa
