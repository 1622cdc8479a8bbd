/- FnExactAt, for every input; no conditions. -/
import Derived.Test.YthbbibeilmfheaaHa
import Derived.Test.YthbbibeilmfheaaHr
import Derived.Test.YthbbibeilmfheaaRows
set_option linter.unusedSimpArgs false
set_option linter.unusedVariables false
namespace Go.Proofs.Ythbbibeilmfheaa
namespace AM
open Go Go.ChangeShapes Go.WideShapes Go.RowKit

set_option maxRecDepth 100000 in
theorem fnExactAt_lifted (os : Os) (started : os.Started) (H : Type) (enc : TypeId × Value → H) :
    ReturnsInHanded {} Try.checked os 9 .any (Rows.fnExactAtSpec.pre6 enc Try.prog Try.f9 Rows.fnExactAtRow.domain false) (Rows.fnExactAtSpec.post enc Try.prog Try.f9 false true false false) := by
  refine law_lifted (C := Try.checked) [42, 40, 3, 55] own started (by kernel_rfl) Try.func9
    (ChangeSpec.witness6 (enc := enc) (C := Try.checked) false ⟨#[], #[.agg #[.int .i64 0, .int .i64 0, .slice none 0 0], .slice none 0 0], []⟩ 8 (by kernel_rfl) (by kernel_rfl) (by kernel_rfl) (by kernel_rfl))
    laidOut (by kernel_rfl) (by kernel_rfl) rfl rfl Try.underlying4 (fun ds hd => ?_) (fun xs hx => ?_)
  · match ds, hd with
    | [d0, d1], _ => exact ⟨rfl, rfl, rfl⟩
  · have hx2 : argsOk Try.prog [42, 55] xs := hx
    match xs, hx2 with
    | [x0, x1], ⟨h0, h1, _⟩ =>
      simp only [ArgOk, Try.underlying42] at h0
      obtain ⟨_, _, rfl, h0⟩ := h0
      obtain ⟨a, e0, k0⟩ := typed_term _ h0
      subst e0
      simp only [ArgOk, Try.underlying55] at h1
      obtain ⟨_, _, rfl, h1⟩ := h1
      obtain ⟨b, e1, k1⟩ := typed_ints _ h1
      cases e1
      exact (laws_FnExactAt_law a k0 b k1).acall

theorem fnExactAt_holds : Rows.FnExactAtSaid :=
  OpenClaim.holds_of_wide 9 Try.f9 rfl rfl rfl rfl rfl rfl rfl ⟨rfl, rfl, rfl, rfl, rfl⟩ rfl rfl rfl rfl rfl (by kernel_rfl) Try.func9 (by kernel_rfl)
    (of_decide_eq_true (by kernel_rfl)) (by unfold Func.isWrapper; rw [if_neg (by decide +kernel)]; exact ⟨rfl, rfl⟩)
    (fun os started H enc _ => fnExactAt_lifted os started H enc)

#print axioms fnExactAt_holds

end AM
end Go.Proofs.Ythbbibeilmfheaa
