/- Contracts of functions of the program, out of what their texts ask; no conditions. -/
import Derived.Test.YtbgpofimflnabaaHu5
import Derived.Test.YtbgpofimflnabaaDt
import Derived.Test.YtbgpofimflnabaaHr
set_option linter.unusedVariables false
set_option linter.unusedSimpArgs false
set_option maxRecDepth 100000
namespace Go.Proofs.Ytbgpofimflnabaa
namespace AM
open Go Go.ChangeShapes Go.WideShapes Go.RowKit

theorem wrU8 {x : Int} (h1 : 0 ≤ x) (h2 : x ≤ 255) : IntKind.wrap .u8 x = x := by
  simp [IntKind.wrap, IntKind.bits, IntKind.signed]; omega
theorem wrI32 {x : Int} (h1 : 0 ≤ x) (h2 : x ≤ 2147483647) : IntKind.wrap .i32 x = x := by
  simp [IntKind.wrap, IntKind.bits, IntKind.signed]; omega
theorem eapp (x : ByteArray) : (⟨#[]⟩ : ByteArray) ++ x = x := by
  apply ByteArray.ext; simp
theorem appe (x : ByteArray) : x ++ (⟨#[]⟩ : ByteArray) = x := by
  apply ByteArray.ext; simp
def chD (d : Nat) : ByteArray := ⟨#[UInt8.ofNat (48 + d)]⟩
theorem chD_size (d : Nat) : (chD d).size = 1 := rfl
theorem str1 (d : Nat) : strOfNums [((48 + d : Nat) : Int)] = chD d := rfl
theorem encD {d : Nat} (h : d < 10) : Utf8.encode ((48 + d : Nat) : Int) = chD d := by
  have : ∀ d : Fin 10, Utf8.encode ((48 + (d : Nat) : Nat) : Int) = ⟨#[UInt8.ofNat (48 + d)]⟩ := by decide
  exact this ⟨d, h⟩
theorem td_pos (m : Nat) : Int.tdiv (m : Int) 10 = ((m / 10 : Nat) : Int) := rfl
theorem tm_pos (m : Nat) : Int.tmod (m : Int) 10 = ((m % 10 : Nat) : Int) := rfl
theorem td_neg (m : Nat) : Int.tdiv (-(m : Int)) 10 = -((m / 10 : Nat) : Int) := by rw [Int.neg_tdiv]; rfl
theorem tm_neg (m : Nat) : Int.tmod (-(m : Int)) 10 = -((m % 10 : Nat) : Int) := by rw [Int.neg_tmod]; rfl
/-- The digits of a number, none at zero. -/
def dgN (m : Nat) : ByteArray := if h : m = 0 then ⟨#[]⟩ else dgN (m / 10) ++ chD (m % 10)
termination_by m
decreasing_by omega
theorem dgN_zero : dgN 0 = ⟨#[]⟩ := by rw [dgN, dif_pos rfl]
theorem dgN_pos {m : Nat} (h : m ≠ 0) : dgN m = dgN (m / 10) ++ chD (m % 10) := by rw [dgN, dif_neg h]
theorem dgN_size (k : Nat) : ∀ m, m < 10 ^ k → (dgN m).size ≤ k := by
  induction k with
  | zero => intro m h; have : m = 0 := by simpa using h
            subst this; rw [dgN_zero]; exact Nat.le_refl _
  | succ k ih =>
    intro m h
    by_cases h0 : m = 0
    · subst h0; rw [dgN_zero]; exact Nat.zero_le _
    · rw [dgN_pos h0, ByteArray.size_append, chD_size]
      have := ih (m / 10) (by rw [Nat.pow_succ] at h; omega)
      omega
def dg (n : Int) : ByteArray := if n = 0 then ⟨#[48]⟩ else if n < 0 then ⟨#[45]⟩ ++ dgN n.natAbs else dgN n.natAbs
theorem dg_neg {m : Nat} (h : 0 < m) : dg (-(m : Int)) = ⟨#[45]⟩ ++ dgN m := by
  rw [dg, if_neg (by omega), if_pos (by omega), Int.natAbs_neg, Int.natAbs_natCast]
theorem dg_pos {m : Nat} (h : 0 < m) : dg (m : Int) = dgN m := by
  rw [dg, if_neg (by omega), if_neg (by omega), Int.natAbs_natCast]
theorem dg_dig {d : Nat} (h : d < 10) : dg (d : Int) = chD d := by
  by_cases h0 : d = 0
  · subst h0; rfl
  · rw [dg_pos (by omega), dgN_pos h0, Nat.div_eq_of_lt h, dgN_zero, eapp, Nat.mod_eq_of_lt h]
theorem abs19 {n : Int} (h : i64 n) : n.natAbs < 10 ^ 19 := by have := h.1; have := h.2; omega
theorem dg_size {n : Int} (h : i64 n) : (dg n).size ≤ 20 := by
  have h1 := dgN_size 19 _ (abs19 h)
  unfold dg
  split
  · exact (by decide : (1 : Nat) ≤ 20)
  · split
    · rw [ByteArray.size_append]; have : (⟨#[45]⟩ : ByteArray).size = 1 := rfl
      omega
    · omega
def fin (b : Bool) (x : ByteArray) : ByteArray := if b then ⟨#[45]⟩ ++ x else x
theorem specDigL (k : Nat) : ∀ (n : Int) (b : Bool) (out : ByteArray), i64 n → n.natAbs < 10 ^ k → out.size + k ≤ 30 → spec_Digits_L5 (T (fin b (dgN n.natAbs ++ out))) [] n b out := by
  have sfin : ∀ (b : Bool) (out : ByteArray), out.size ≤ 30 → spec_Digits_L5 (T (fin b (dgN 0 ++ out))) [] 0 b out := fun b out hs => by
    apply spec_Digits_L5_of
    refine ifB_f (by decide) (ifB_of (fun h => ⟨⟨?_⟩, ?_⟩) fun h => ⟨?_, rfl⟩)
    · rw [ByteArray.size_append]; have : (⟨#[45]⟩ : ByteArray).size = 1 := rfl
      omega
    · subst h; rw [dgN_zero, eapp]; exact ⟨rfl, rfl⟩
    · subst h; rw [dgN_zero, eapp]; rfl
  induction k with
  | zero =>
    intro n b out hn h hs
    have : n = 0 := by simp at h; omega
    subst this; exact sfin b out (by omega)
  | succ k ih =>
    intro n b out hn h hs
    by_cases h0 : n = 0
    · subst h0; exact sfin b out (by omega)
    apply spec_Digits_L5_of
    rw [Nat.pow_succ] at h
    have h1 := hn.1; have h2 := hn.2
    refine ifB_t (by simpa using h0) ⟨⟨by decide⟩, ?_⟩
    obtain ⟨m, rfl | rfl⟩ := n.eq_nat_or_neg
    · have hm : m ≠ 0 := by omega
      rw [tm_pos, td_pos, wrI (x := ((m / 10 : Nat) : Int)) (by omega) (by omega), Int.natAbs_natCast]
      rw [Int.natAbs_natCast] at h
      have hx : IntKind.wrap .u8 (IntKind.wrap .i64 (48 + ((m % 10 : Nat) : Int))) = ((48 + m % 10 : Nat) : Int) := by
        rw [wrI (by omega) (by omega), wrU8 (by omega) (by omega)]; omega
      have key := ih ((m / 10 : Nat) : Int) b (chD (m % 10) ++ out) ⟨by omega, by omega⟩ (by rw [Int.natAbs_natCast]; omega) (by rw [ByteArray.size_append, chD_size]; omega)
      rw [Int.natAbs_natCast] at key
      rw [dgN_pos hm, ByteArray.append_assoc]
      refine ifB_f (decide_eq_false (by omega)) ⟨[((48 + m % 10 : Nat) : Int)], by rw [hx]; rfl, ?_⟩
      rw [str1]
      exact ⟨⟨by rw [ByteArray.size_append, chD_size]; omega⟩, ⟨by decide⟩, key⟩
    · have hm : m ≠ 0 := by omega
      rw [tm_neg, td_neg, wrI (x := -((m / 10 : Nat) : Int)) (by omega) (by omega), Int.natAbs_neg, Int.natAbs_natCast]
      rw [Int.natAbs_neg, Int.natAbs_natCast] at h
      have key := ih (-((m / 10 : Nat) : Int)) b (chD (m % 10) ++ out) ⟨by omega, by omega⟩ (by rw [Int.natAbs_neg, Int.natAbs_natCast]; omega) (by rw [ByteArray.size_append, chD_size]; omega)
      rw [Int.natAbs_neg, Int.natAbs_natCast] at key
      have hx : ∀ x : Int, x = ((m % 10 : Nat) : Int) → IntKind.wrap .u8 (IntKind.wrap .i64 (48 + x)) = ((48 + m % 10 : Nat) : Int) := by
        rintro x rfl
        rw [wrI (by omega) (by omega), wrU8 (by omega) (by omega)]; omega
      have hw : IntKind.wrap .i64 (0 - -((m % 10 : Nat) : Int)) = ((m % 10 : Nat) : Int) := by rw [wrI (by omega) (by omega)]; omega
      rw [dgN_pos hm, ByteArray.append_assoc]
      refine ifB_of (fun _ => ⟨[((48 + m % 10 : Nat) : Int)], by rw [hx _ hw]; rfl, ?_⟩) fun hd => ⟨[((48 + m % 10 : Nat) : Int)], by rw [hx _ (by have := of_decide_eq_false hd; omega)]; rfl, ?_⟩
      all_goals
        rw [str1]
        exact ⟨⟨by rw [ByteArray.size_append, chD_size]; omega⟩, ⟨by decide⟩, key⟩
theorem specDigits_call {n : Int} (h : i64 n) : XC Try.prog 83 [Z n] [] (T (dg n)) [] := by
  apply spec_Digits_of
  refine ifB_d (fun h0 => ⟨by rw [dg, if_pos h0], rfl⟩) fun h0 => ?_
  have key := specDigL 19 n (decide (n < 0)) ⟨#[]⟩ h (abs19 h) (by decide)
  rw [appe] at key
  have e : fin (decide (n < 0)) (dgN n.natAbs) = dg n := by
    unfold fin dg
    rw [if_neg h0]
    by_cases hn : n < 0 <;> simp [hn]
  rw [e] at key
  exact key
theorem implDigits_call {n : Int} (h : i64 n) : XC Try.prog 87 [Z n] [] (T (dg n)) [] := by
  have main : ∀ (K : Nat) (n : Int), i64 n → 2 * n.natAbs + (if n < 0 then 1 else 0) < K → XC Try.prog 87 [Z n] [] (T (dg n)) [] := by
    intro K
    induction K with
    | zero => intro n _ h; omega
    | succ K ih =>
      intro n hn hK
      have h1 := hn.1; have h2 := hn.2
      apply impl_Digits_of
      obtain ⟨m, rfl | rfl⟩ := n.eq_nat_or_neg
      · have hK' : 2 * m < K + 1 := by rw [Int.natAbs_natCast, if_neg (by omega)] at hK; omega
        refine ifB_f (by simp) (ifB_f (by simp) (ifB_d (fun h10 => ?_) fun h10 => ?_))
        · have e : IntKind.wrap .i32 (IntKind.wrap .i64 (48 + (m : Int))) = ((48 + m : Nat) : Int) := by
            rw [wrI (by omega) (by omega), wrI32 (by omega) (by omega)]; omega
          rw [e, encD (by omega), dg_dig (by omega)]
          exact ⟨⟨by rw [chD_size]; omega⟩, rfl, rfl⟩
        · rw [td_pos, tm_pos, wrI (x := ((m / 10 : Nat) : Int)) (by omega) (by omega)]
          have e : IntKind.wrap .i32 (IntKind.wrap .i64 (48 + ((m % 10 : Nat) : Int))) = ((48 + m % 10 : Nat) : Int) := by
            rw [wrI (by omega) (by omega), wrI32 (by omega) (by omega)]; omega
          have hh : i64 ((m / 10 : Nat) : Int) := ⟨by omega, by omega⟩
          have hs := dg_size hh
          rw [e, encD (by omega)]
          refine ⟨⟨by decide⟩, _, ih _ hh (by rw [Int.natAbs_natCast, if_neg (by omega)]; omega), ⟨by decide⟩, ⟨by rw [chD_size]; omega⟩, ⟨by rw [ByteArray.size_append, chD_size]; omega⟩, ?_, rfl⟩
          rw [dg_pos (m := m) (by omega), dg_pos (by omega), ← dgN_pos (by omega)]
      · by_cases hm : m = 0
        · subst hm
          have e : IntKind.wrap .i32 (IntKind.wrap .i64 (48 + (-((0 : Nat) : Int)))) = ((48 + 0 : Nat) : Int) := by
            rw [wrI (by omega) (by omega), wrI32 (by omega) (by omega)]; omega
          refine ifB_f (by simp) (ifB_f (by simp) (ifB_t (by simp) ?_))
          rw [e, encD (by omega)]
          exact ⟨⟨by rw [chD_size]; omega⟩, rfl, rfl⟩
        have hK' : 2 * m < K := by rw [Int.natAbs_neg, Int.natAbs_natCast, if_pos (by omega)] at hK; omega
        refine ifB_t (decide_eq_true (by omega)) (ifB_d (fun h10 => ?_) fun h10 => ifB_t (decide_eq_true (by omega)) ?_)
        · have hw : IntKind.wrap .i64 (0 - -(m : Int)) = (m : Int) := by rw [wrI (by omega) (by omega)]; omega
          rw [hw]
          have hh : i64 (m : Int) := ⟨by omega, by omega⟩
          have hs := dg_size hh
          refine ⟨_, ih _ hh (by rw [Int.natAbs_natCast, if_neg (by omega)]; omega), ⟨?_⟩, ?_, rfl⟩
          · rw [ByteArray.size_append]; have : (⟨#[45]⟩ : ByteArray).size = 1 := rfl
            omega
          · rw [dg_neg (by omega), dg_pos (by omega)]
        · rw [td_neg, tm_neg, wrI (x := -((m / 10 : Nat) : Int)) (by omega) (by omega)]
          have hw : IntKind.wrap .i64 (0 - -((m % 10 : Nat) : Int)) = ((m % 10 : Nat) : Int) := by rw [wrI (by omega) (by omega)]; omega
          rw [hw]
          have hh : i64 (-((m / 10 : Nat) : Int)) := ⟨by omega, by omega⟩
          have hs := dg_size hh
          have hh2 : i64 ((m % 10 : Nat) : Int) := ⟨by omega, by omega⟩
          have hs2 := dg_size hh2
          refine ⟨⟨by decide⟩, _, ih _ hh (by rw [Int.natAbs_neg, Int.natAbs_natCast, if_pos (by omega)]; omega), ⟨by decide⟩, _, ih _ hh2 (by rw [Int.natAbs_natCast, if_neg (by omega)]; omega), ⟨by rw [ByteArray.size_append]; omega⟩, ?_, rfl⟩
          rw [dg_neg (by omega), dg_neg (m := m) (by omega), dg_dig (by omega), dgN_pos (m := m) (by omega), ByteArray.append_assoc]
  exact main _ n h (Nat.lt_succ_self _)

end AM
end Go.Proofs.Ytbgpofimflnabaa
