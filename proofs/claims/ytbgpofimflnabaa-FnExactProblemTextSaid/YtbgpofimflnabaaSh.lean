/- Contracts of functions of the program, out of what their texts ask; no conditions. -/
import Derived.Test.YtbgpofimflnabaaDt
import Derived.Test.YtbgpofimflnabaaDt
import Derived.Test.YtbgpofimflnabaaShp
import Derived.Test.YtbgpofimflnabaaAm14
set_option linter.unusedVariables false
set_option linter.unusedSimpArgs false
set_option maxRecDepth 100000
namespace Go.Proofs.Ytbgpofimflnabaa
namespace AM
open Go Go.ChangeShapes Go.WideShapes Go.RowKit

/-- The rest of a joined text. -/
def jnT (sep : ByteArray) : List ByteArray → ByteArray
  | [] => ⟨#[]⟩
  | y :: r => sep ++ y ++ jnT sep r
/-- Texts, joined. -/
def jn (sep : ByteArray) : List ByteArray → ByteArray
  | [] => ⟨#[]⟩
  | x :: r => x ++ jnT sep r
theorem ba_ext {a b : ByteArray} (h : a.data.toList = b.data.toList) : a = b := by
  apply ByteArray.ext; exact Array.toList_inj.1 h
theorem jnT_lib (sep : ByteArray) (r : List ByteArray) : (jnT sep r).data.toList = Lib.joinTail sep.data.toList (r.map (·.data.toList)) := by
  induction r with
  | nil => rfl
  | cons y r ih => simp [jnT, Lib.joinTail, ih] at ih ⊢
theorem jn_lib (sep : ByteArray) (xs : List ByteArray) : (⟨(Lib.join (xs.map (·.data.toList)) sep.data.toList).toArray⟩ : ByteArray) = jn sep xs := by
  apply ba_ext
  cases xs with
  | nil => rfl
  | cons x r => rw [List.map_cons, Lib.join_cons, ← jnT_lib]; simp [jn]
theorem strs_inv {w : World} {S : Nat → Prop} : ∀ (xs : List ByteArray) (us : List Value), RepDs w S (xs.map fun x => [Da.str x]).flatten us → us = xs.map Value.string
  | [], us, h => h.nil_inv
  | x :: r, us, h => by
    obtain ⟨v, vs', rfl, h1, h2⟩ := RepDs.cons_inv (x := .str x) (xs := (r.map fun x => [Da.str x]).flatten) h
    rw [(h1.str_inv).1, strs_inv r vs' h2]; rfl
theorem join_call (xs : List ByteArray) (sep : ByteArray) (hN : xs.length ≤ 140737488355328) (hlen : (jn sep xs).size ≤ 140737488355328) : XC Try.prog 93 [L (xs.map fun x => [Da.str x]), T sep] [] (T (jn sep xs)) [] := by
  refine ⟨XCall.of (I := []) ?_⟩
  intro w S β vs hlt hr
  have ht : RepV w S β (T (jn sep xs)) (.string (jn sep xs)) := RepVs.one (RepA.d (RepDs.str_ _ (by omega))) RepVs.nil
  cases hr with
  | one h1 hr =>
  cases hr with
  | one h2 hr =>
  cases hr
  cases h1 with
  | d h1 =>
  cases h2 with
  | d h2 =>
  obtain ⟨a, cap, rfl, hc, hl, hz⟩ := h1.sl_inv
  obtain ⟨rfl, _⟩ := h2.str_inv
  rw [List.length_map] at hc hl ⊢
  rcases hz with hz | ⟨b, off, us, es, rfl, hS, hb, hr, hes, hcell⟩
  · have : xs = [] := by
      cases xs with
      | nil => rfl
      | cons x r => simp at hz
    subst this
    refine (Try.strings_Join_none a cap sep w).mono ?_
    rintro e w' ⟨rfl, rfl⟩
    exact ⟨_, S, β, rfl, Grow.refl hlt, ht⟩
  · have hus := strs_inv xs us hr
    subst hus
    refine (Try.strings_Join b off cap xs sep w (fun j x hx => hcell j _ (by simp [hx])) hb hN hc ?_).mono ?_
    · have := congrArg ByteArray.size (jn_lib sep xs)
      exact Nat.le_trans (Nat.le_of_eq this) hlen
    · rintro e w' ⟨rfl, B⟩
      rw [jn_lib]
      exact ⟨_, S, β, rfl, ⟨B.os, B.tape, B.output, B.size, B.block, fun _ h => h, fun b hb => ⟨Nat.lt_of_lt_of_le (hlt b hb) B.size, .inl hb⟩, fun _ _ => rfl, by simp, by simp, by simp⟩, RepVs.one (RepA.d (RepDs.str_ _ (by omega))) RepVs.nil⟩

end AM
end Go.Proofs.Ytbgpofimflnabaa
