/- FnExactLitMake, for every input; no conditions. -/
import Derived.Test.YtflfopedammhoaaHh3
import Derived.Test.YtflfopedammhoaaHr
import Derived.Test.YtflfopedammhoaaRows
set_option linter.unusedSimpArgs false
set_option linter.unusedVariables false
namespace Go.Proofs.Ytflfopedammhoaa
namespace AM
open Go Go.ChangeShapes Go.WideShapes Go.RowKit

set_option maxRecDepth 100000 in
theorem fnExactLitMake_lifted (os : Os) (started : os.Started) (H : Type) (enc : TypeId × Value → H) :
    ReturnsInHanded {} Try.checked os 6 .any (Rows.fnExactLitMakeSpec.pre6 enc Try.prog Try.f6 Rows.fnExactLitMakeRow.domain false) (Rows.fnExactLitMakeSpec.post enc Try.prog Try.f6 false true false false) := by
  refine law_lifted (C := Try.checked) [37, 117, 9, 3, 4, 24, 22] own started (by kernel_rfl) Try.func6
    (ChangeSpec.witness6 (enc := enc) (C := Try.checked) false ⟨#[], #[.slice none 0 0, .bool true, .agg #[.int .i64 0, .int .i64 0, .slice none 0 0], .agg #[.int .i64 0, .int .i64 0, .slice none 0 0]], []⟩ 8 (by kernel_rfl) (by kernel_rfl) (by kernel_rfl) (by kernel_rfl))
    laidOut (by kernel_rfl) (by kernel_rfl) rfl rfl Try.underlying4 (fun ds hd => ?_) (fun xs hx => ?_)
  · match ds, hd with
    | [d0, d1, d2, d3], _ => exact ⟨rfl, rfl, rfl⟩
  · have hx2 : argsOk Try.prog [37, 4, 24, 24] xs := hx
    match xs, hx2 with
    | [x0, x1, x2, x3], ⟨h0, h1, h2, h3, _⟩ =>
      simp only [ArgOk, Try.underlying37] at h0
      obtain ⟨_, _, rfl, h0⟩ := h0
      obtain ⟨a, e0, k0⟩ := typed_symsD _ h0
      cases e0
      simp only [ArgOk, Try.underlying4] at h1
      obtain ⟨_, _, rfl, h1⟩ := h1
      obtain ⟨b, e1⟩ := typed_bool _ h1
      cases e1
      simp only [ArgOk, Try.underlying24] at h2
      obtain ⟨_, _, rfl, h2⟩ := h2
      obtain ⟨c, e2, k2⟩ := typed_term _ h2
      subst e2
      simp only [ArgOk, Try.underlying24] at h3
      obtain ⟨_, _, rfl, h3⟩ := h3
      obtain ⟨d, e3, k3⟩ := typed_term _ h3
      subst e3
      exact (laws_FnExactLitMake_law a k0 b trivial c k2 d k3).acall

theorem fnExactLitMake_holds : Rows.FnExactLitMakeSaid :=
  OpenClaim.holds_of_wide 6 Try.f6 rfl rfl rfl rfl rfl rfl rfl ⟨rfl, rfl, rfl, rfl, rfl⟩ rfl rfl rfl rfl rfl (by kernel_rfl) Try.func6 (by kernel_rfl)
    (of_decide_eq_true (by kernel_rfl)) (by unfold Func.isWrapper; rw [if_neg (by decide +kernel)]; exact ⟨rfl, rfl⟩)
    (fun os started H enc _ => fnExactLitMake_lifted os started H enc)

#print axioms fnExactLitMake_holds

end AM
end Go.Proofs.Ytflfopedammhoaa
