/- Contracts of functions of the program, out of what their texts ask; no conditions. -/
import Derived.Test.YtflfopedammhoaaTg
import Derived.Test.YtflfopedammhoaaDt
import Derived.Test.YtflfopedammhoaaPfB
set_option linter.unusedVariables false
set_option linter.unusedSimpArgs false
set_option maxRecDepth 100000
namespace Go.Proofs.Ytflfopedammhoaa
namespace AM
open Go Go.ChangeShapes Go.WideShapes Go.RowKit

theorem ints_flat (l : List Int) : flatRows (l.map In.da) := by
  intro x hx
  obtain ⟨n, _, rfl⟩ := List.mem_map.1 hx
  rfl
theorem ints_len (l : List Int) : ∀ y ∈ l.map In.da, y.length = 1 := by
  intro x hx
  obtain ⟨n, _, rfl⟩ := List.mem_map.1 hx
  rfl
theorem insInt_lst (P R : List (List Da)) (b : List Da) (hl : P.length + R.length ≤ 100000000) : XC Try.prog 162 [.one (.ol 2000), Z (P.length : Int), .one (.ol 2001)] [(2000, .lst 3 1 (P ++ R)), (2001, .lst 3 1 [b])] (.one (.ol 0)) [(2001, .lst 3 1 [b]), (0, .lst 3 1 (P ++ b :: R))] := by
  apply slices_Insert_int_of
  intro c hc1 hc2
  have hlen : (P ++ R).length = P.length + R.length := by simp
  have t1 : ∀ j, P.take (P.length + j) = P := fun j => List.take_of_length_le (by omega)
  have d1 : ∀ j, P.drop (P.length + j) = [] := fun j => List.drop_eq_nil_of_le (by omega)
  refine ⟨P.length, rfl, ⟨by rw [hlen]; omega, .inl (Nat.le_refl _)⟩, ifB_f (by simp) ?_⟩
  cases R with
  | nil =>
    refine ifB_t (by simp) ⟨⟨by omega, by simp at *; omega⟩, ?_⟩
    by_cases h : 0 + (P ++ []).length + [b].length ≤ c
    · exact ifB_t (decide_eq_true h) ⟨⟨by simp⟩, by simp [t1, d1, List.take_append]⟩
    · exact ifB_f (decide_eq_false h) (by simp)
  | cons x R =>
    refine ifB_f (by simp; omega) ?_
    have w1 : IntKind.wrap .i64 (((P ++ x :: R).length : Int) + (([b].length : Nat) : Int)) = ((P.length + R.length + 2 : Nat) : Int) := by
      rw [wrI (by simp; omega) (by simp at *; omega)]; simp; omega
    have w2 : IntKind.wrap .i64 (((P.length + R.length + 2 : Nat) : Int) - (P.length : Int)) = ((R.length + 2 : Nat) : Int) := by
      rw [wrI (by omega) (by simp at *; omega)]; omega
    have w3 : IntKind.wrap .i64 ((P.length : Int) + (([b].length : Nat) : Int)) = ((P.length + 1 : Nat) : Int) := by
      rw [wrI (by simp; omega) (by simp at *; omega)]; simp
    rw [w1, w2, w3]
    simp only [List.length_cons] at hl
    have hlen' : (P ++ x :: R).length = P.length + R.length + 1 := by simp; omega
    have m1 : min (R.length + 1) (P.length + (R.length + 1 + 1) - (P.length + 1)) = R.length + 1 := by omega
    by_cases h : (((c : Int) - 0)) < ((P.length + R.length + 2 : Nat) : Int)
    · refine ifB_t (decide_eq_true h) ⟨P.length, rfl, ⟨by omega, .inl (by omega)⟩, R.length + 2, rfl, ⟨by omega, by simp <;> omega⟩, ifB_f (decide_eq_false (by simp <;> omega)) ?_⟩
      refine ⟨P.length, rfl, ⟨by simp, Nat.le_refl _⟩, ⟨by simp <;> omega⟩, P.length + 1, rfl, ⟨by simp <;> omega, Nat.le_refl _⟩, P.length, rfl, ⟨by omega, .inl (Nat.le_refl _)⟩, ⟨by simp <;> omega⟩, ⟨by simp <;> omega⟩, rfl, ?_⟩
      simp [List.take_append, List.drop_append, List.replicate_succ, t1, d1, m1, Nat.add_assoc] <;> omega
    · have e1 : P.length + R.length + 2 - P.length = R.length + 2 := by omega
      have e2 : P.length + R.length + 2 - (P.length + 1) = R.length + 1 := by omega
      have e3 : P.length + R.length + 1 - P.length = R.length + 1 := by omega
      have e4 : min (R.length + 2) (R.length + 1) = R.length + 1 := by omega
      have e5 : min 1 (R.length + 2) = 1 := by omega
      have e7 : P.length + (R.length + 1 + 1) - P.length = R.length + 2 := by omega
      have e8 : P.length + (R.length + 1 + 1) - (P.length + 1) = R.length + 1 := by omega
      refine ifB_f (decide_eq_false h) ⟨P.length + R.length + 2, rfl, ⟨by omega, .inr (by omega)⟩, P.length + 1, rfl, ⟨by omega, .inl (Nat.le_refl _)⟩, P.length + 1, rfl, ⟨by omega, .inl (Nat.le_refl _)⟩, P.length, rfl, ⟨by omega, .inl (Nat.le_refl _)⟩, ⟨by simp <;> omega⟩, ⟨by simp, by simp <;> omega⟩, P.length, rfl, ⟨by omega, .inl (Nat.le_refl _)⟩, ⟨by simp; exact Nat.le_trans (Nat.le_succ _) (Nat.le_add_right _ _), by simp <;> omega⟩, ⟨by simp [e1, e2, e3, e4, e5, e7, e8] <;> omega⟩, rfl, ?_⟩
      simp only [Nat.sub_zero, Nat.zero_add, e1, e2, e4]
      simp [List.take_append, List.drop_append, t1, d1, m1, e1, e2, e3, e4, e5, e7, e8, Nat.add_assoc] <;> omega

end AM
end Go.Proofs.Ytflfopedammhoaa
