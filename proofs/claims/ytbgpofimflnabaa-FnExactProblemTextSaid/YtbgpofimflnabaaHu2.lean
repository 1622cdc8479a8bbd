/- Contracts of functions of the program, out of what their texts ask; no conditions. -/
import Derived.Test.YtbgpofimflnabaaHu1
import Derived.Test.YtbgpofimflnabaaDt
set_option linter.unusedVariables false
set_option linter.unusedSimpArgs false
set_option maxRecDepth 100000
namespace Go.Proofs.Ytbgpofimflnabaa
namespace AM
open Go

theorem drop_cons {α : Type} {l : List α} {i : Nat} {x : α} (h : l[i]? = some x) : l.drop i = x :: l.drop (i + 1) := by
  obtain ⟨hl, e⟩ := List.getElem?_eq_some_iff.1 h
  rw [List.drop_eq_getElem_cons hl, e]
theorem drop_end {α : Type} {l : List α} : l.drop l.length = [] := by simp
theorem bF {b : Bool} (h : ¬ b = true) : B false = B b ∧ ([] : List (Nat × Ob)) = [] := ⟨by rw [Bool.eq_false_iff.2 h], rfl⟩
theorem bE {a b : Bool} (h : a = b) : B a = B b ∧ ([] : List (Nat × Ob)) = [] := ⟨by rw [h], rfl⟩
theorem bT {b : Bool} (h : b = true) : B true = B b ∧ ([] : List (Nat × Ob)) = [] := ⟨by rw [h], rfl⟩
theorem ne_i {a b : Int} (h : ¬ a ≠ b) : a = b := by omega
theorem ne_n {a b : Nat} (h : ¬ (a : Int) ≠ (b : Int)) : a = b := by omega
theorem wrM {k : Nat} (h : 0 < k) (hk : k ≤ 281474976710656) : IntKind.wrap .i64 ((k : Int) - 1) = ((k - 1 : Nat) : Int) := by
  rw [wrI (by omega) (by omega)]; omega
/-- One pair of numbers behind another one. -/
def cmp3 (x y : Int) (r : Int) : Int := if x < y then -1 else if x > y then 1 else r
theorem cmp3_zero {x y r : Int} : cmp3 x y r = 0 ↔ x = y ∧ r = 0 := by
  unfold cmp3
  split
  · omega
  · split <;> omega
theorem cmp3_lt {x y r : Int} (h : x ≠ y) : decide (x < y) = decide (cmp3 x y r < 0) := by
  unfold cmp3
  split
  · simp [*]
  · split
    · simp; omega
    · omega
theorem cmp3_eq {x y r : Int} (h : x = y) : cmp3 x y r = r := by unfold cmp3; simp [h]
mutual
/-- The order of terms. -/
def Tm.cmp : Tm → Tm → Int
  | .mk f v ks, .mk g u ls => cmp3 f g (cmp3 v u (cmp3 ks.length ls.length (Tm.cmps ks ls)))
def Tm.cmps : List Tm → List Tm → Int
  | t :: r, u :: s => if Tm.cmp t u = 0 then Tm.cmps r s else Tm.cmp t u
  | _, _ => 0
end
theorem Tm.cmp_mk {f v g u : Int} {ks ls : List Tm} : Tm.cmp (.mk f v ks) (.mk g u ls) = cmp3 f g (cmp3 v u (cmp3 ks.length ls.length (Tm.cmps ks ls))) := rfl
theorem Tm.cmp0 {f v g u : Int} {ks ls : List Tm} : Tm.cmp (.mk f v ks) (.mk g u ls) = 0 ↔ f = g ∧ v = u ∧ ks.length = ls.length ∧ Tm.cmps ks ls = 0 := by
  rw [Tm.cmp_mk, cmp3_zero, cmp3_zero, cmp3_zero]; omega
theorem Tm.cmps_nil : Tm.cmps [] [] = 0 := by simp [Tm.cmps]
theorem Tm.cmps_cons {t u : Tm} {r s : List Tm} : Tm.cmps (t :: r) (u :: s) = if Tm.cmp t u = 0 then Tm.cmps r s else Tm.cmp t u := by simp [Tm.cmps]
theorem Tm.cmps_end {ks ls : List Tm} (h : ks.length = ls.length) : Tm.cmps (ks.drop ks.length) (ls.drop ks.length) = 0 := by
  rw [drop_end, h, drop_end, Tm.cmps_nil]
/-- The order of literals. -/
def Li.cmp (a b : Li) : Int := if a.p = b.p then (if Tm.cmp a.l b.l = 0 then Tm.cmp a.r b.r else Tm.cmp a.l b.l) else if b.p then -1 else 1
def inR (x lo hi : Int) : Bool := decide (lo ≤ x) && decide (x ≤ hi)
theorem l1In_call (x lo hi : Int) : XC Try.prog 82 [Z x, Z lo, Z hi] [] (B (inR x lo hi)) [] := by
  apply spec_l1In_of
  exact ifB_d (fun h => bE (by simp [inR, h])) fun h => bE (by simp [inR, h])
theorem from_call (x lo hi : Int) : XC Try.prog 86 [Z x, Z lo, Z hi] [] (B (inR x lo hi)) [] := by
  apply impl_from_of
  exact ifB_d (fun h => bE (by simp [inR, h])) fun h => bE (by simp [inR, h])
theorem isVar_call (t : Tm) : XC Try.prog 101 [.dat t.da] [] (B (decide (t.f = -1))) [] := by
  obtain ⟨f, v, ks⟩ := t
  apply impl_isVar_of
  exact ⟨rfl, rfl⟩
theorem termSame_call (a b : Tm) : XC Try.prog 121 [.dat a.da, .dat b.da] [] (B (decide (Tm.cmp a b = 0))) [] := by
  induction a using Tm.ind generalizing b with
  | h f v ks ih =>
  obtain ⟨g, u, ls⟩ := b
  refine xc_fit fun hfit => ?_
  have hlen : ks.length ≤ 281474976710656 := by have := hfit.dat.tail.tail.len; rwa [das_len] at this
  apply spec_TermSame_of
  rw [das_len, das_len]
  refine ifB_d (fun h => bF (by simp [Tm.cmp0]; omega)) fun h1 => ifB_d (fun h => bF (by simp [Tm.cmp0]; omega)) fun h2 => ifB_d (fun h => bF (by simp [Tm.cmp0]; omega)) fun h3 => ?_
  have h1 := ne_i h1; have h2 := ne_i h2; have h3 := ne_n h3
  have key := loopUp (p := fun i => spec_TermSame_L4 (B (decide (Tm.cmps (ks.drop i) (ls.drop i) = 0))) [] (i : Int) f v (Tm.das ks) g u (Tm.das ls)) ks.length ?_ (fun i hi ihl => ?_) 0 (Nat.zero_le _)
  · have e : decide (Tm.cmp (.mk f v ks) (.mk g u ls) = 0) = decide (Tm.cmps (ks.drop 0) (ls.drop 0) = 0) := by
      simp [Tm.cmp0, h1, h2, h3]
    rw [e]; exact key
  · apply spec_TermSame_L4_of
    exact ifB_f (lt_decF (by rw [das_len]; exact Nat.le_refl _)) (bT (by rw [Tm.cmps_end h3]; rfl))
  · obtain ⟨x, hx⟩ := get_ex hi
    obtain ⟨y, hy⟩ := get_ex (l := ls) (i := i) (by omega)
    have hx1 := get_das hx
    have hy1 := get_das hy
    have hxy := ih x (List.mem_of_getElem? hx) y
    rw [drop_cons hx, drop_cons hy, Tm.cmps_cons]
    obtain ⟨f', v', ks'⟩ := x
    obtain ⟨g', u', ls'⟩ := y
    apply spec_TermSame_L4_of
    refine ifB_t (lt_dec (by rwa [das_len])) ⟨i, rfl, _, _, _, hx1, i, rfl, _, _, _, hy1, _, hxy, ifB_of (fun h => bF ?_) fun h => ?_⟩
    · simp at h; simp [h]
    · simp at h
      rw [wr1 hi hlen, if_pos h]
      exact ihl
theorem before_call (a b : Tm) : XC Try.prog 77 [.dat a.da, .dat b.da] [] (B (decide (Tm.cmp a b < 0))) [] := by
  induction a using Tm.ind generalizing b with
  | h f v ks ih =>
  obtain ⟨g, u, ls⟩ := b
  refine xc_fit fun hfit => ?_
  have hlen : ks.length ≤ 281474976710656 := by have := hfit.dat.tail.tail.len; rwa [das_len] at this
  apply spec_Before_of
  rw [das_len, das_len, Tm.cmp_mk]
  refine ifB_d (fun h => bE (cmp3_lt h)) fun h1 => ?_
  rw [cmp3_eq (ne_i h1)]
  refine ifB_d (fun h => bE (cmp3_lt h)) fun h2 => ?_
  rw [cmp3_eq (ne_i h2)]
  refine ifB_d (fun h => bE (cmp3_lt h)) fun h3 => ?_
  rw [cmp3_eq (ne_i h3)]
  have h3 := ne_n h3
  have key := loopUp (p := fun i => spec_Before_L8 (B (decide (Tm.cmps (ks.drop i) (ls.drop i) < 0))) [] (i : Int) f v (Tm.das ks) g u (Tm.das ls)) ks.length ?_ (fun i hi ihl => ?_) 0 (Nat.zero_le _)
  · exact key
  · apply spec_Before_L8_of
    exact ifB_f (lt_decF (by rw [das_len]; exact Nat.le_refl _)) (bF (by rw [Tm.cmps_end h3]; simp))
  · obtain ⟨x, hx⟩ := get_ex hi
    obtain ⟨y, hy⟩ := get_ex (l := ls) (i := i) (by omega)
    have hx1 := get_das hx
    have hy1 := get_das hy
    have hxy := ih x (List.mem_of_getElem? hx) y
    have hs := termSame_call x y
    rw [drop_cons hx, drop_cons hy, Tm.cmps_cons]
    obtain ⟨f', v', ks'⟩ := x
    obtain ⟨g', u', ls'⟩ := y
    apply spec_Before_L8_of
    refine ifB_t (lt_dec (by rwa [das_len])) ⟨i, rfl, _, _, _, hx1, i, rfl, _, _, _, hy1, _, hs, ifB_of (fun h => ⟨i, rfl, _, _, _, hx1, i, rfl, _, _, _, hy1, _, hxy, bE ?_⟩) fun h => ?_⟩
    · simp at h; simp [h]
    · simp at h
      rw [wr1 hi hlen, if_pos h]
      exact ihl
theorem compare_call (a b : Tm) : XC Try.prog 125 [.dat a.da, .dat b.da] [] (Z (Tm.cmp a b)) [] := by
  induction a using Tm.ind generalizing b with
  | h f v ks ih =>
  obtain ⟨g, u, ls⟩ := b
  refine xc_fit fun hfit => ?_
  have hlen : ks.length ≤ 281474976710656 := by have := hfit.dat.tail.tail.len; rwa [das_len] at this
  apply impl_compare_of
  rw [das_len, das_len, Tm.cmp_mk]
  apply impl_compare_L2_of
  refine ifB_t rfl ⟨0, rfl, ⟨by simp⟩, 0, rfl, _, _, rfl, ?_⟩
  refine ifB_d (fun h => ⟨by simp [cmp3, h], rfl⟩) fun h1 => ifB_d (fun h => ⟨by unfold cmp3; rw [if_neg (by omega), if_pos (by omega)], rfl⟩) fun h2 => ?_
  rw [cmp3_eq (by omega)]
  apply impl_compare_L2_of
  refine ifB_t rfl ⟨1, rfl, ⟨by simp⟩, 1, rfl, _, _, rfl, ?_⟩
  refine ifB_d (fun h => ⟨by simp [cmp3, h], rfl⟩) fun h3 => ifB_d (fun h => ⟨by unfold cmp3; rw [if_neg (by omega), if_pos (by omega)], rfl⟩) fun h4 => ?_
  rw [cmp3_eq (by omega)]
  apply impl_compare_L2_of
  refine ifB_t rfl ⟨2, rfl, ⟨by simp⟩, 2, rfl, _, _, rfl, ?_⟩
  refine ifB_d (fun h => ⟨by simp only [cmp3, if_pos h], rfl⟩) fun h5 => ifB_d (fun h => ⟨by unfold cmp3; rw [if_neg (by omega), if_pos (by omega)], rfl⟩) fun h6 => ?_
  rw [cmp3_eq (by omega)]
  apply impl_compare_L2_of
  refine ifB_f rfl ?_
  have hl : ks.length = ls.length := by omega
  rw [das_len]
  have key := loopUp (p := fun i => impl_compare_L10 (Z (Tm.cmps (ks.drop i) (ls.drop i))) [] (ks.length : Int) (i : Int) f v (Tm.das ks) g u (Tm.das ls)) ks.length ?_ (fun i hi ihl => ?_) 0 (Nat.zero_le _)
  · exact key
  · apply impl_compare_L10_of
    exact ifB_f (lt_decF (Nat.le_refl _)) ⟨by rw [Tm.cmps_end hl], rfl⟩
  · obtain ⟨x, hx⟩ := get_ex hi
    obtain ⟨y, hy⟩ := get_ex (l := ls) (i := i) (by omega)
    have hx1 := get_das hx
    have hy1 := get_das hy
    have hxy := ih x (List.mem_of_getElem? hx) y
    rw [drop_cons hx, drop_cons hy, Tm.cmps_cons]
    obtain ⟨f', v', ks'⟩ := x
    obtain ⟨g', u', ls'⟩ := y
    apply impl_compare_L10_of
    refine ifB_t (lt_dec hi) ⟨i, rfl, _, _, _, hx1, i, rfl, _, _, _, hy1, _, hxy, ifB_d (fun h => ⟨by rw [if_neg h], rfl⟩) fun h => ?_⟩
    rw [wr1 hi hlen, if_pos (by omega)]
    exact ihl
theorem implBefore_call (a b : Tm) : XC Try.prog 79 [.dat a.da, .dat b.da] [] (B (decide (Tm.cmp a b < 0))) [] := by
  have h := compare_call a b
  obtain ⟨f, v, ks⟩ := a; obtain ⟨g, u, ls⟩ := b
  apply impl_Before_of
  exact ⟨_, h, rfl, rfl⟩
theorem compareLits_call (a b : Li) : XC Try.prog 132 [.dat a.da, .dat b.da] [] (Z (Li.cmp a b)) [] := by
  have h1 := compare_call a.l b.l
  have h2 := compare_call a.r b.r
  obtain ⟨p, ⟨f, v, ks⟩, ⟨g, u, ls⟩⟩ := a
  obtain ⟨p', ⟨f', v', ks'⟩, ⟨g', u', ls'⟩⟩ := b
  have hc : p = p' → ∃ n, XC Try.prog 125 [.dat (Tm.mk f v ks).da, .dat (Tm.mk f' v' ks').da] [] (Z n) [] ∧ ifB (decide (n ≠ 0)) (Z n = Z (Li.cmp ⟨p, .mk f v ks, .mk g u ls⟩ ⟨p', .mk f' v' ks', .mk g' u' ls'⟩) ∧ ([] : List (Nat × Ob)) = []) (∃ n1, XC Try.prog 125 [.dat (Tm.mk g u ls).da, .dat (Tm.mk g' u' ls').da] [] (Z n1) [] ∧ Z n1 = Z (Li.cmp ⟨p, .mk f v ks, .mk g u ls⟩ ⟨p', .mk f' v' ks', .mk g' u' ls'⟩) ∧ ([] : List (Nat × Ob)) = []) := by
    rintro rfl
    refine ⟨_, h1, ifB_d (fun h => ⟨by simp only [Li.cmp, if_true, if_neg h], rfl⟩) fun h => ⟨_, h2, by simp only [Li.cmp, if_true, if_pos (ne_i h)], rfl⟩⟩
  apply impl_compareLits_of
  cases p <;> cases p'
  · exact ifB_t rfl (ifB_f rfl (ifB_f rfl (hc rfl)))
  · exact ifB_t rfl (ifB_t rfl ⟨rfl, rfl⟩)
  · exact ifB_f rfl (ifB_t rfl (ifB_t rfl ⟨rfl, rfl⟩))
  · exact ifB_f rfl (ifB_t rfl (ifB_f rfl (hc rfl)))
theorem implLitBefore_call (a b : Li) : XC Try.prog 96 [.dat a.da, .dat b.da] [] (B (decide (Li.cmp a b < 0))) [] := by
  have h := compareLits_call a b
  obtain ⟨p, ⟨f, v, ks⟩, ⟨g, u, ls⟩⟩ := a
  obtain ⟨p', ⟨f', v', ks'⟩, ⟨g', u', ls'⟩⟩ := b
  apply impl_LitBefore_of
  exact ⟨_, h, rfl, rfl⟩
theorem litBefore_call (a b : Li) : XC Try.prog 95 [.dat a.da, .dat b.da] [] (B (decide (Li.cmp a b < 0))) [] := by
  have h1 := termSame_call a.l b.l
  have h2 := before_call a.l b.l
  have h3 := before_call a.r b.r
  obtain ⟨p, ⟨f, v, ks⟩, ⟨g, u, ls⟩⟩ := a
  obtain ⟨p', ⟨f', v', ks'⟩, ⟨g', u', ls'⟩⟩ := b
  apply spec_LitBefore_of
  refine ifB_d (fun h => bE ?_) fun h => ?_
  · cases p <;> cases p' <;> simp_all [Li.cmp]
  · have h : p = p' := by simpa using h
    subst h
    refine ⟨_, h1, ifB_of (fun h => ⟨_, h2, bE ?_⟩) fun h => ⟨_, h3, bE ?_⟩⟩
    · have h : ¬ Tm.cmp (.mk f v ks) (.mk f' v' ks') = 0 := by simpa using h
      simp only [Li.cmp, if_true, if_neg h]
    · have h : Tm.cmp (.mk f v ks) (.mk f' v' ks') = 0 := by simpa using h
      simp only [Li.cmp, if_true, if_pos h]

end AM
end Go.Proofs.Ytbgpofimflnabaa
