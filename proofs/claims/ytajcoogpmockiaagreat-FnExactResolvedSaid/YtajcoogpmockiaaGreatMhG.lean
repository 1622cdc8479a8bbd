/- A part of the proof of the law that the last of these texts states, for every input; no conditions. -/
import Derived.Test.YtajcoogpmockiaaGreatMhF
set_option linter.unusedVariables false
set_option linter.unusedSimpArgs false
namespace Go.Proofs.YtajcoogpmockiaaGreat
namespace AM
open Go Go.ChangeShapes Go.WideShapes Go.RowKit
open Go.Proofs.Tryz renaming prog → pg
set_option maxRecDepth 100000 in
theorem a0wq (os : Os) (started : os.Started) (H : Type) (enc : TypeId × Value → H) :
  ReturnsInHanded {} Tryz.checked os 6 .any (Rows.fnExactResolvedSpec.pre6 enc pg Tryz.f6 Rows.fnExactResolvedRow.domain false) (Rows.fnExactResolvedSpec.post enc pg Tryz.f6 false true false false) := by
 refine abVq (C := Tryz.checked) [22, 81, 9, 3, 4, 25, 23, 142, 107, 105, 50, 109] own started (by kernel_rfl) Tryz.func6
  (ChangeSpec.witness6 (enc := enc) (C := Tryz.checked) false ⟨#[], #[.slice none 0 0, .agg #[.slice none 0 0], .int .i64 0, .slice none 0 0], []⟩ 8 (by kernel_rfl) (by kernel_rfl) (by kernel_rfl) (by kernel_rfl))
  afCq (by kernel_rfl) (by kernel_rfl) rfl rfl Tryz.underlying4 (fun ds hd => ?_) (fun xs hx => ?_)
 ·match ds, hd with
  | [d0, d1, d2, d3], _ => exact ⟨rfl, rfl, rfl⟩
 ·have hx2 : a5Fq pg [22, 25, 3, 50] xs := hx
  match xs, hx2 with
  | [x0, x1, x2, x3], ⟨h0, h1, h2, h3, _⟩ =>
   simp only [a0aq, Tryz.underlying22] at h0
   obtain ⟨_, _, rfl, h0⟩ := h0
   obtain ⟨a, e0, k0⟩ := aaCq _ h0
   cases e0
   simp only [a0aq, Tryz.underlying25] at h1
   obtain ⟨_, _, rfl, h1⟩ := h1
   obtain ⟨b, e1, k1⟩ := a9wq _ h1
   subst e1
   simp only [a0aq, Tryz.underlying3] at h2
   obtain ⟨_, _, rfl, h2⟩ := h2
   obtain ⟨c, e2, k2⟩ := Q2q _ h2
   cases e2
   simp only [a0aq, Tryz.underlying50] at h3
   obtain ⟨_, _, rfl, h3⟩ := h3
   obtain ⟨d, e3, k3⟩ := ab6q _ h3
   cases e3
   exact (Y1q a k0 b k1 c k2 d k3).acall
theorem fnExactResolved_holds : Rows.FnExactResolvedSaid :=
 OpenClaim.holds_of_wide 6 Tryz.f6 rfl rfl rfl rfl rfl rfl rfl ⟨rfl, rfl, rfl, rfl, rfl⟩ rfl rfl rfl rfl rfl (by kernel_rfl) Tryz.func6 (by kernel_rfl)
  (of_decide_eq_true (by kernel_rfl)) (by unfold Func.isWrapper; rw [if_neg (by decide +kernel)]; exact ⟨rfl, rfl⟩)
  (fun os started H enc _ => a0wq os started H enc)
end AM
end Go.Proofs.YtajcoogpmockiaaGreat
