/- The exact law of LitBefore, for every input; no conditions. -/
import Derived.Test.YtfmfflfnkjoopaaT5
import Derived.Test.YtfmfflfnkjoopaaAm13
import Derived.Test.YtfmfflfnkjoopaaRows
set_option linter.unusedSimpArgs false
set_option linter.unusedVariables false
namespace Go.Proofs.Ytfmfflfnkjoopaa
namespace AM
open Go Go.ChangeShapes Go.WideShapes Go.RowKit

theorem typed_int {n : Nat} {ds : List Da} (h : TypedN Try.prog n 3 ds) : ∃ m, ds = [.int .i64 m] ∧ (Lit.int .i64 m).wf = true := by
  cases n with
  | zero => simp only [TypedN] at h
  | succ n => simp only [TypedN, Try.underlying3] at h; exact h
theorem typed_bool {n : Nat} {ds : List Da} (h : TypedN Try.prog n 4 ds) : ∃ b, ds = [.bool b] := by
  cases n with
  | zero => simp only [TypedN] at h
  | succ n => simp only [TypedN, Try.underlying4] at h; exact h
theorem das_of {xs : List (List Da)} (h : ∀ x ∈ xs, ∃ t : Tm, x = t.da) : ∃ ks, xs = Tm.das ks := by
  induction xs with
  | nil => exact ⟨[], rfl⟩
  | cons x xs ih =>
    obtain ⟨t, rfl⟩ := h x (by simp)
    obtain ⟨ks, rfl⟩ := ih fun y hy => h y (by simp [hy])
    exact ⟨t :: ks, rfl⟩
theorem typed_term (n : Nat) {ds : List Da} (h : TypedN Try.prog n 33 ds) : ∃ t : Tm, ds = t.da := by
  induction n using Nat.strongRecOn generalizing ds with
  | ind n ih =>
  cases n with
  | zero => simp only [TypedN] at h
  | succ n =>
    simp only [TypedN, Try.underlying33, fieldsN] at h
    obtain ⟨d1, r1, rfl, h1, d2, r2, rfl, h2, d3, r3, rfl, h3, rfl⟩ := h
    obtain ⟨f, rfl, _⟩ := typed_int h1
    obtain ⟨v, rfl, _⟩ := typed_int h2
    have h4 : ∃ ks, d3 = [.sl (Tm.das ks)] := by
      cases n with
      | zero => simp only [TypedN] at h3
      | succ n =>
        simp only [TypedN, Try.underlying31] at h3
        obtain ⟨xs, rfl, hx⟩ := h3
        obtain ⟨ks, rfl⟩ := das_of fun x hx' => ih n (by omega) (hx x hx')
        exact ⟨ks, rfl⟩
    obtain ⟨ks, rfl⟩ := h4
    exact ⟨.mk f v ks, rfl⟩
theorem typed_lit {n : Nat} {ds : List Da} (h : TypedN Try.prog n 47 ds) : ∃ l : Li, ds = l.da := by
  cases n with
  | zero => simp only [TypedN] at h
  | succ n =>
    simp only [TypedN, Try.underlying47, fieldsN] at h
    obtain ⟨d1, r1, rfl, h1, d2, r2, rfl, h2, d3, r3, rfl, h3, rfl⟩ := h
    obtain ⟨p, rfl⟩ := typed_bool h1
    obtain ⟨a, rfl⟩ := typed_term _ h2
    obtain ⟨b, rfl⟩ := typed_term _ h3
    exact ⟨⟨p, a, b⟩, by simp [Li.da]⟩

theorem own : ownKnob Try.prog.godebug = none := by kernel_rfl
theorem laidOut : laidOutB Try.prog = true := by kernel_rfl

set_option maxRecDepth 100000 in
theorem litBefore_lifted (os : Os) (started : os.Started) (H : Type) (enc : TypeId × Value → H) :
    ReturnsInHanded {} Try.checked os 6 .any (Rows.fnExactLitBeforeSpec.pre6 enc Try.prog Try.f6 Rows.fnExactLitBeforeRow.domain false) (Rows.fnExactLitBeforeSpec.post enc Try.prog Try.f6 false true false false) := by
  refine law_lifted (C := Try.checked) [47, 33, 31, 3, 4] own started (by kernel_rfl) Try.func6
    (ChangeSpec.witness6 (enc := enc) (C := Try.checked) false ⟨#[], #[.agg #[.bool true, .int .i64 0, .int .i64 0, .slice none 0 0, .int .i64 0, .int .i64 0, .slice none 0 0], .agg #[.bool true, .int .i64 0, .int .i64 0, .slice none 0 0, .int .i64 0, .int .i64 0, .slice none 0 0]], []⟩ 8 (by kernel_rfl) (by kernel_rfl) (by kernel_rfl) (by kernel_rfl))
    laidOut (by kernel_rfl) (by kernel_rfl) rfl rfl Try.underlying4 (fun ds hd => ?_) (fun xs hx => ?_)
  · match ds, hd with
    | [d1, d2], _ => exact ⟨rfl, rfl, rfl⟩
  · have hx2 : argsOk Try.prog [47, 47] xs := hx
    match xs, hx2 with
    | [x, y], ⟨h1, h2, _⟩ =>
      simp only [ArgOk, Try.underlying47] at h1 h2
      obtain ⟨_, _, rfl, h1⟩ := h1
      obtain ⟨_, _, rfl, h2⟩ := h2
      obtain ⟨a, rfl⟩ := typed_lit h1
      obtain ⟨b, rfl⟩ := typed_lit h2
      exact law_call a b

theorem litBefore_holds : Rows.FnExactLitBeforeSaid :=
  OpenClaim.holds_of_wide 6 Try.f6 rfl rfl rfl rfl rfl rfl rfl ⟨rfl, rfl, rfl, rfl, rfl⟩ rfl rfl rfl rfl rfl (by kernel_rfl) Try.func6 (by kernel_rfl)
    (of_decide_eq_true (by kernel_rfl)) (by unfold Func.isWrapper; rw [if_neg (by decide +kernel)]; exact ⟨rfl, rfl⟩)
    (fun os started H enc _ => litBefore_lifted os started H enc)

#print axioms litBefore_holds

end AM
end Go.Proofs.Ytfmfflfnkjoopaa
