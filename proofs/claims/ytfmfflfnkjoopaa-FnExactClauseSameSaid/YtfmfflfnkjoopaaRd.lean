/- Arguments of the laws' own types, read as terms, literals, clauses and functions; no conditions. -/
import Derived.Test.YtfmfflfnkjoopaaT6
import Derived.Test.YtfmfflfnkjoopaaAm13
set_option linter.unusedSimpArgs false
set_option linter.unusedVariables false
namespace Go.Proofs.Ytfmfflfnkjoopaa
namespace AM
open Go Go.ChangeShapes Go.WideShapes Go.RowKit

theorem own : ownKnob Try.prog.godebug = none := by kernel_rfl
theorem laidOut : laidOutB Try.prog = true := by kernel_rfl
theorem typed_int (n : Nat) {ds : List Da} (h : TypedN Try.prog n 3 ds) : ∃ m, ds = [.int .i64 m] ∧ (Lit.int .i64 m).wf = true := by
  cases n with
  | zero => simp only [TypedN] at h
  | succ n => simp only [TypedN, Try.underlying3] at h; exact h
theorem typed_bool (n : Nat) {ds : List Da} (h : TypedN Try.prog n 4 ds) : ∃ b, ds = [.bool b] := by
  cases n with
  | zero => simp only [TypedN] at h
  | succ n => simp only [TypedN, Try.underlying4] at h; exact h
theorem typed_str (n : Nat) {ds : List Da} (h : TypedN Try.prog n 9 ds) : ∃ s, ds = [.str s] := by
  cases n with
  | zero => simp only [TypedN] at h
  | succ n => simp only [TypedN, Try.underlying9] at h; exact h
theorem das_of {xs : List (List Da)} (h : ∀ x ∈ xs, ∃ t : Tm, x = t.da) : ∃ ks, xs = Tm.das ks := by
  induction xs with
  | nil => exact ⟨[], rfl⟩
  | cons x xs ih =>
    obtain ⟨t, rfl⟩ := h x (by simp)
    obtain ⟨ks, rfl⟩ := ih fun y hy => h y (by simp [hy])
    exact ⟨t :: ks, rfl⟩
theorem map_of {α : Type} {da : α → List Da} {xs : List (List Da)} (h : ∀ x ∈ xs, ∃ t : α, x = da t) : ∃ ks : List α, xs = ks.map da := by
  induction xs with
  | nil => exact ⟨[], rfl⟩
  | cons x xs ih =>
    obtain ⟨t, rfl⟩ := h x (by simp)
    obtain ⟨ks, rfl⟩ := ih fun y hy => h y (by simp [hy])
    exact ⟨t :: ks, rfl⟩
theorem typed_term (n : Nat) {ds : List Da} (h : TypedN Try.prog n 33 ds) : ∃ t : Tm, ds = t.da := by
  induction n using Nat.strongRecOn generalizing ds with
  | ind n ih =>
  cases n with
  | zero => simp only [TypedN] at h
  | succ n =>
    simp only [TypedN, Try.underlying33, fieldsN] at h
    obtain ⟨d1, r1, rfl, h1, d2, r2, rfl, h2, d3, r3, rfl, h3, rfl⟩ := h
    obtain ⟨f, rfl, _⟩ := typed_int _ h1
    obtain ⟨v, rfl, _⟩ := typed_int _ h2
    have h4 : ∃ ks, d3 = [.sl (Tm.das ks)] := by
      cases n with
      | zero => simp only [TypedN] at h3
      | succ n =>
        simp only [TypedN, Try.underlying31] at h3
        obtain ⟨xs, rfl, hx⟩ := h3
        obtain ⟨ks, rfl⟩ := das_of fun x hx' => ih n (by omega) (hx x hx')
        exact ⟨ks, rfl⟩
    obtain ⟨ks, rfl⟩ := h4
    exact ⟨.mk f v ks, rfl⟩
theorem typed_lit (n : Nat) {ds : List Da} (h : TypedN Try.prog n 47 ds) : ∃ l : Li, ds = l.da := by
  cases n with
  | zero => simp only [TypedN] at h
  | succ n =>
    simp only [TypedN, Try.underlying47, fieldsN] at h
    obtain ⟨d1, r1, rfl, h1, d2, r2, rfl, h2, d3, r3, rfl, h3, rfl⟩ := h
    obtain ⟨p, rfl⟩ := typed_bool _ h1
    obtain ⟨a, rfl⟩ := typed_term _ h2
    obtain ⟨b, rfl⟩ := typed_term _ h3
    exact ⟨⟨p, a, b⟩, by simp [Li.da]⟩
theorem typed_lits (n : Nat) {ds : List Da} (h : TypedN Try.prog n 61 ds) : ∃ ls, ds = [.sl (Li.das ls)] := by
  cases n with
  | zero => simp only [TypedN] at h
  | succ n =>
    simp only [TypedN, Try.underlying61] at h
    obtain ⟨xs, rfl, hx⟩ := h
    obtain ⟨ks, rfl⟩ : ∃ ks, xs = Li.das ks := map_of fun x hx' => typed_lit _ (hx x hx')
    exact ⟨ks, rfl⟩
theorem typed_clause (n : Nat) {ds : List Da} (h : TypedN Try.prog n 63 ds) : ∃ c : Cl, ds = c.da := by
  cases n with
  | zero => simp only [TypedN] at h
  | succ n =>
    simp only [TypedN, Try.underlying63, fieldsN] at h
    obtain ⟨d1, r1, rfl, h1, rfl⟩ := h
    obtain ⟨ls, rfl⟩ := typed_lits _ h1
    exact ⟨⟨ls⟩, rfl⟩
theorem typed_sym (n : Nat) {ds : List Da} (h : TypedN Try.prog n 103 ds) : ∃ c : Sy, ds = c.da := by
  cases n with
  | zero => simp only [TypedN] at h
  | succ n =>
    simp only [TypedN, Try.underlying103, fieldsN] at h
    obtain ⟨d1, r1, rfl, h1, d2, r2, rfl, h2, d3, r3, rfl, h3, rfl⟩ := h
    obtain ⟨s, rfl⟩ := typed_str _ h1
    obtain ⟨m, rfl, _⟩ := typed_int _ h2
    obtain ⟨b, rfl⟩ := typed_bool _ h3
    exact ⟨⟨s, m, b⟩, rfl⟩
theorem typed_syms (n : Nat) {d : Da} (h : TypedN Try.prog n 71 [d]) : ∃ ls, d = .sl (Sy.das ls) := by
  cases n with
  | zero => simp only [TypedN] at h
  | succ n =>
    simp only [TypedN, Try.underlying71] at h
    obtain ⟨xs, he, hx⟩ := h
    obtain ⟨ks, rfl⟩ : ∃ ks, xs = Sy.das ks := map_of fun x hx' => typed_sym _ (hx x hx')
    exact ⟨ks, by simpa using he⟩

end AM
end Go.Proofs.Ytfmfflfnkjoopaa
