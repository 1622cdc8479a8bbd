/- FnExactPutAt, for every input; no conditions. -/
import Derived.Test.YtajcoogpmockiaaHe3
import Derived.Test.YtajcoogpmockiaaHr
import Derived.Test.YtajcoogpmockiaaRows
set_option linter.unusedSimpArgs false
set_option linter.unusedVariables false
namespace Go.Proofs.Ytajcoogpmockiaa
namespace AM
open Go Go.ChangeShapes Go.WideShapes Go.RowKit

set_option maxRecDepth 100000 in
theorem fnExactPutAt_lifted (os : Os) (started : os.Started) (H : Type) (enc : TypeId × Value → H) :
    ReturnsInHanded {} Try.checked os 3 .any (Rows.fnExactPutAtSpec.pre6 enc Try.prog Try.f3 Rows.fnExactPutAtRow.domain false) (Rows.fnExactPutAtSpec.post enc Try.prog Try.f3 false true false false) := by
  refine law_lifted (C := Try.checked) [22, 93, 9, 3, 4, 25, 23, 26] own started (by kernel_rfl) Try.func3
    (ChangeSpec.witness6 (enc := enc) (C := Try.checked) false ⟨#[], #[.slice none 0 0, .agg #[.int .i64 0, .int .i64 0, .slice none 0 0], .slice none 0 0, .agg #[.int .i64 0, .int .i64 0, .slice none 0 0]], []⟩ 8 (by kernel_rfl) (by kernel_rfl) (by kernel_rfl) (by kernel_rfl))
    laidOut (by kernel_rfl) (by kernel_rfl) rfl rfl Try.underlying4 (fun ds hd => ?_) (fun xs hx => ?_)
  · match ds, hd with
    | [d0, d1, d2, d3], _ => exact ⟨rfl, rfl, rfl⟩
  · have hx2 : argsOk Try.prog [22, 25, 26, 25] xs := hx
    match xs, hx2 with
    | [x0, x1, x2, x3], ⟨h0, h1, h2, h3, _⟩ =>
      simp only [ArgOk, Try.underlying22] at h0
      obtain ⟨_, _, rfl, h0⟩ := h0
      obtain ⟨a, e0, k0⟩ := typed_symsD _ h0
      cases e0
      simp only [ArgOk, Try.underlying25] at h1
      obtain ⟨_, _, rfl, h1⟩ := h1
      obtain ⟨b, e1, k1⟩ := typed_term _ h1
      subst e1
      simp only [ArgOk, Try.underlying26] at h2
      obtain ⟨_, _, rfl, h2⟩ := h2
      obtain ⟨c, e2, k2⟩ := typed_ints _ h2
      cases e2
      simp only [ArgOk, Try.underlying25] at h3
      obtain ⟨_, _, rfl, h3⟩ := h3
      obtain ⟨d, e3, k3⟩ := typed_term _ h3
      subst e3
      exact (laws_FnExactPutAt_law a k0 b k1 c k2 d k3).acall

theorem fnExactPutAt_holds : Rows.FnExactPutAtSaid :=
  OpenClaim.holds_of_wide 3 Try.f3 rfl rfl rfl rfl rfl rfl rfl ⟨rfl, rfl, rfl, rfl, rfl⟩ rfl rfl rfl rfl rfl (by kernel_rfl) Try.func3 (by kernel_rfl)
    (of_decide_eq_true (by kernel_rfl)) (by unfold Func.isWrapper; rw [if_neg (by decide +kernel)]; exact ⟨rfl, rfl⟩)
    (fun os started H enc _ => fnExactPutAt_lifted os started H enc)

#print axioms fnExactPutAt_holds

end AM
end Go.Proofs.Ytajcoogpmockiaa
