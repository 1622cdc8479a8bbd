/- A part of the proof of the law that the last of these texts states, for every input; no conditions. -/
import Derived.Test.YtajcoogpmockiaaGreatMiF
set_option linter.unusedVariables false
set_option linter.unusedSimpArgs false
namespace Go.Proofs.YtajcoogpmockiaaGreat
namespace AM
open Go Go.ChangeShapes Go.WideShapes Go.RowKit
open Go.Proofs.Tryz renaming prog → pg
set_option maxRecDepth 100000 in
theorem a0zq (os : Os) (started : os.Started) (H : Type) (enc : TypeId × Value → H) :
  ReturnsInHanded {} Tryz.checked os 5 .any (Rows.fnExactFactoredSpec.pre6 enc pg Tryz.f5 Rows.fnExactFactoredRow.domain false) (Rows.fnExactFactoredSpec.post enc pg Tryz.f5 false true false false) := by
 refine abIq (C := Tryz.checked) [22, 81, 9, 3, 4, 25, 23, 142, 107, 105, 50, 109] own started (by kernel_rfl) Tryz.func5
  (ChangeSpec.witness6 (enc := enc) (C := Tryz.checked) false ⟨#[], #[.slice none 0 0, .agg #[.slice none 0 0], .int .i64 0, .int .i64 0, .slice none 0 0], []⟩ 8 (by kernel_rfl) (by kernel_rfl) (by kernel_rfl) (by kernel_rfl))
  afBq (by kernel_rfl) (by kernel_rfl) rfl rfl Tryz.underlying4 (fun ds hd => ?_) (fun xs hx => ?_)
 ·match ds, hd with
  | [d0, d1, d2, d3, d4], _ => exact ⟨rfl, rfl, rfl⟩
 ·have hx2 : a5gq pg [22, 25, 3, 3, 50] xs := hx
  match xs, hx2 with
  | [x0, x1, x2, x3, x4], ⟨h0, h1, h2, h3, h4, _⟩ =>
   simp only [W1q, Tryz.underlying22] at h0
   obtain ⟨_, _, rfl, h0⟩ := h0
   obtain ⟨a, e0, k0⟩ := aaVq _ h0
   cases e0
   simp only [W1q, Tryz.underlying25] at h1
   obtain ⟨_, _, rfl, h1⟩ := h1
   obtain ⟨b, e1, k1⟩ := a95q _ h1
   subst e1
   simp only [W1q, Tryz.underlying3] at h2
   obtain ⟨_, _, rfl, h2⟩ := h2
   obtain ⟨c, e2, k2⟩ := I5q _ h2
   cases e2
   simp only [W1q, Tryz.underlying3] at h3
   obtain ⟨_, _, rfl, h3⟩ := h3
   obtain ⟨d, e3, k3⟩ := I5q _ h3
   cases e3
   simp only [W1q, Tryz.underlying50] at h4
   obtain ⟨_, _, rfl, h4⟩ := h4
   obtain ⟨e, e4, k4⟩ := aaCq _ h4
   cases e4
   exact (a01q a k0 b k1 c k2 d k3 e k4).acall
theorem fnExactFactored_holds : Rows.FnExactFactoredSaid :=
 OpenClaim.holds_of_wide 5 Tryz.f5 rfl rfl rfl rfl rfl rfl rfl ⟨rfl, rfl, rfl, rfl, rfl⟩ rfl rfl rfl rfl rfl (by kernel_rfl) Tryz.func5 (by kernel_rfl)
  (of_decide_eq_true (by kernel_rfl)) (by unfold Func.isWrapper; rw [if_neg (by decide +kernel)]; exact ⟨rfl, rfl⟩)
  (fun os started H enc _ => a0zq os started H enc)
end AM
end Go.Proofs.YtajcoogpmockiaaGreat
