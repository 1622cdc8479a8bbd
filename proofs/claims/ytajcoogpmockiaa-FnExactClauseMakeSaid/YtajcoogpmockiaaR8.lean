/- FnExactClauseMake, for every input; no conditions. -/
import Derived.Test.YtajcoogpmockiaaHc3
import Derived.Test.YtajcoogpmockiaaHr
import Derived.Test.YtajcoogpmockiaaRows
set_option linter.unusedSimpArgs false
set_option linter.unusedVariables false
namespace Go.Proofs.Ytajcoogpmockiaa
namespace AM
open Go Go.ChangeShapes Go.WideShapes Go.RowKit

set_option maxRecDepth 100000 in
theorem fnExactClauseMake_lifted (os : Os) (started : os.Started) (H : Type) (enc : TypeId × Value → H) :
    ReturnsInHanded {} Try.checked os 6 .any (Rows.fnExactClauseMakeSpec.pre6 enc Try.prog Try.f6 Rows.fnExactClauseMakeRow.domain false) (Rows.fnExactClauseMakeSpec.post enc Try.prog Try.f6 false true false false) := by
  refine law_lifted (C := Try.checked) [22, 93, 9, 3, 4, 71, 57, 25, 23] own started (by kernel_rfl) Try.func6
    (ChangeSpec.witness6 (enc := enc) (C := Try.checked) false ⟨#[], #[.slice none 0 0, .slice none 0 0], []⟩ 8 (by kernel_rfl) (by kernel_rfl) (by kernel_rfl) (by kernel_rfl))
    laidOut (by kernel_rfl) (by kernel_rfl) rfl rfl Try.underlying4 (fun ds hd => ?_) (fun xs hx => ?_)
  · match ds, hd with
    | [d0, d1], _ => exact ⟨rfl, rfl, rfl⟩
  · have hx2 : argsOk Try.prog [22, 71] xs := hx
    match xs, hx2 with
    | [x0, x1], ⟨h0, h1, _⟩ =>
      simp only [ArgOk, Try.underlying22] at h0
      obtain ⟨_, _, rfl, h0⟩ := h0
      obtain ⟨a, e0, k0⟩ := typed_symsD _ h0
      cases e0
      simp only [ArgOk, Try.underlying71] at h1
      obtain ⟨_, _, rfl, h1⟩ := h1
      obtain ⟨b, e1, k1⟩ := typed_lits _ h1
      cases e1
      exact (laws_FnExactClauseMake_law a k0 b k1).acall

theorem fnExactClauseMake_holds : Rows.FnExactClauseMakeSaid :=
  OpenClaim.holds_of_wide 6 Try.f6 rfl rfl rfl rfl rfl rfl rfl ⟨rfl, rfl, rfl, rfl, rfl⟩ rfl rfl rfl rfl rfl (by kernel_rfl) Try.func6 (by kernel_rfl)
    (of_decide_eq_true (by kernel_rfl)) (by unfold Func.isWrapper; rw [if_neg (by decide +kernel)]; exact ⟨rfl, rfl⟩)
    (fun os started H enc _ => fnExactClauseMake_lifted os started H enc)

#print axioms fnExactClauseMake_holds

end AM
end Go.Proofs.Ytajcoogpmockiaa
