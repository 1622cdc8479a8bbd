/- The order of terms and literals; no conditions. -/
import Derived.Test.YtfmfflfnkjoopaaT3
set_option linter.unusedVariables false
namespace Go.Proofs.Ytfmfflfnkjoopaa
namespace AM
open Go
attribute [local irreducible] aOps awp W OpP OpS ACall RetOk

/-- One pair of numbers behind another one. -/
def cmp3 (x y : Int) (r : Int) : Int := if x < y then -1 else if x > y then 1 else r
theorem cmp3_zero {x y r : Int} : cmp3 x y r = 0 ↔ x = y ∧ r = 0 := by
  unfold cmp3
  split
  · omega
  · split <;> omega
theorem cmp3_lt {x y r : Int} (h : x ≠ y) : decide (x < y) = decide (cmp3 x y r < 0) := by
  unfold cmp3
  split
  · simp [*]
  · split
    · simp; omega
    · omega
theorem cmp3_eq {x y r : Int} (h : x = y) : cmp3 x y r = r := by unfold cmp3; simp [h]
mutual
/-- The order of terms. -/
def Tm.cmp : Tm → Tm → Int
  | .mk f v ks, .mk g u ls => cmp3 f g (cmp3 v u (cmp3 ks.length ls.length (Tm.cmps ks ls)))
def Tm.cmps : List Tm → List Tm → Int
  | t :: r, u :: s => if Tm.cmp t u = 0 then Tm.cmps r s else Tm.cmp t u
  | _, _ => 0
end
theorem Tm.cmp_mk {f v g u : Int} {ks ls : List Tm} : Tm.cmp (.mk f v ks) (.mk g u ls) = cmp3 f g (cmp3 v u (cmp3 ks.length ls.length (Tm.cmps ks ls))) := rfl
theorem Tm.cmps_all : ∀ {ks ls : List Tm}, (∀ (i : Nat) t u, i < ks.length → ks[i]? = some t → ls[i]? = some u → Tm.cmp t u = 0) → Tm.cmps ks ls = 0
  | [], _, _ => by simp [Tm.cmps]
  | _ :: _, [], _ => by simp [Tm.cmps]
  | t :: r, u :: s, h => by
    have h0 := h 0 t u (by simp) rfl rfl
    have := Tm.cmps_all (ks := r) (ls := s) fun i a b hi h1 h2 => h (i + 1) a b (by simpa using hi) (by simpa using h1) (by simpa using h2)
    simp [Tm.cmps, h0, this]
theorem Tm.cmps_at : ∀ {ks ls : List Tm} {k : Nat} {a b : Tm}, (∀ (i : Nat) t u, i < k → ks[i]? = some t → ls[i]? = some u → Tm.cmp t u = 0) → ks[k]? = some a → ls[k]? = some b → Tm.cmp a b ≠ 0 → Tm.cmps ks ls = Tm.cmp a b
  | [], _, _, _, _, _, h, _, _ => by simp at h
  | _ :: _, [], _, _, _, _, _, h, _ => by simp at h
  | t :: r, u :: s, 0, a, b, _, h1, h2, h3 => by simp at h1 h2; subst h1; subst h2; simp [Tm.cmps, h3]
  | t :: r, u :: s, k + 1, a, b, h, h1, h2, h3 => by
    have h0 := h 0 t u (by omega) rfl rfl
    have := Tm.cmps_at (ks := r) (ls := s) (k := k) (fun i a b hi h1 h2 => h (i + 1) a b (by omega) (by simpa using h1) (by simpa using h2)) (by simpa using h1) (by simpa using h2) h3
    simp [Tm.cmps, h0, this]
theorem Tm.same_cmp : ∀ (a b : Tm), Tm.same a b = decide (Tm.cmp a b = 0) := by
  intro a
  induction a using Tm.ind with
  | h f v ks ih =>
  rintro ⟨g, u, ls⟩
  have key : Tm.sames ks ls = (decide (ks.length = ls.length) && decide (Tm.cmps ks ls = 0)) := by
    induction ks generalizing ls with
    | nil => cases ls <;> simp [Tm.sames, Tm.cmps]
    | cons t r ih2 =>
      cases ls with
      | nil => simp [Tm.sames]
      | cons x s =>
        have h1 := ih t (by simp) x
        have h2 := ih2 (fun t ht => ih t (by simp [ht])) s
        simp only [Tm.sames, Tm.cmps, h1, h2, List.length_cons, Nat.add_right_cancel_iff]
        by_cases hc : Tm.cmp t x = 0 <;> simp [hc]
  rw [Tm.same, key, Tm.cmp_mk, Bool.eq_iff_iff]
  simp only [Bool.and_eq_true, beq_iff_eq, decide_eq_true_eq, cmp3_zero, Int.ofNat_inj]
def zerosBelow (ks ls : List Tm) (k : Nat) : Prop := ∀ (i : Nat) t u, i < k → ks[i]? = some t → ls[i]? = some u → Tm.cmp t u = 0
theorem zerosBelow.next {ks ls : List Tm} {k : Nat} {a b : Tm} (h : zerosBelow ks ls k) (ha : ks[k]? = some a) (hb : ls[k]? = some b) (hc : Tm.cmp a b = 0) : zerosBelow ks ls (k + 1) := by
  intro i t u hi h1 h2
  rcases Nat.lt_succ_iff_lt_or_eq.1 hi with hi | rfl
  · exact h i t u hi h1 h2
  · rw [ha] at h1; rw [hb] at h2; cases h1; cases h2; exact hc
theorem zerosBelow.zero {ks ls : List Tm} : zerosBelow ks ls 0 := fun i t u hi => by omega
theorem Tm.cmp_at {f v g u : Int} {ks ls : List Tm} {k : Nat} {a b : Tm} (hf : f = g) (hv : v = u) (hl : ks.length = ls.length) (h : zerosBelow ks ls k) (h1 : ks[k]? = some a) (h2 : ls[k]? = some b) (h3 : Tm.cmp a b ≠ 0) : Tm.cmp (.mk f v ks) (.mk g u ls) = Tm.cmp a b := by
  rw [Tm.cmp_mk, Tm.cmps_at h h1 h2 h3]; simp [cmp3, hf, hv, hl]
theorem Tm.cmp_all {f v g u : Int} {ks ls : List Tm} {k : Nat} (hf : f = g) (hv : v = u) (hl : ks.length = ls.length) (h : zerosBelow ks ls k) (hk : ks.length ≤ k) : Tm.cmp (.mk f v ks) (.mk g u ls) = 0 := by
  rw [Tm.cmp_mk, Tm.cmps_all fun i t u hi => h i t u (by omega)]; simp [cmp3, hf, hv, hl]

set_option maxHeartbeats 4000000 in
theorem specBefore_call (a b : Tm) : ACall Try.prog 65 [.dat a.da, .dat b.da] (B (decide (Tm.cmp a b < 0))) [] := by
  induction a using Tm.ind generalizing b with
  | h f v ks ih =>
  obtain ⟨g, u, ls⟩ := b
  refine acall_fit fun hfit => ?_
  have hlen : ks.length ≤ 281474976710656 := by have := hfit.dat.tail.tail.len; rwa [Tm.das_len] at this
  have hdl := Tm.das_len ks
  have hdl2 := Tm.das_len ls
  refine acall_W Try.func65 rfl _ Try.ntmps65 (Nat.le_of_ble_eq_true rfl) fun w0 S0 => ?_
  refine W_seq ?_
  refine W_region ?_
  refine st_op (os_box rfl rfl rfl rfl rfl) rfl rfl rfl ?_
  refine st_op (os_box rfl rfl rfl rfl rfl) rfl rfl rfl ?_
  refine st_op (opS_of (opP_assign rfl rfl)) rfl rfl rfl ?_
  refine aOps_nil ?_
  refine W_seq ?_
  refine W_seq ?_
  refine W_region ?_
  first
    | refine st_op (os_fieldAddrO tabOk rfl rfl rfl (by decide) rfl) rfl rfl rfl ?_
    | refine st_op (os_fieldAddrE tabOk rfl rfl rfl (by decide) rfl) rfl rfl rfl ?_
  first
    | refine st_op (os_loadO1 tabOk rfl rfl rfl rfl rfl rfl) rfl rfl rfl ?_
    | refine st_op (os_loadE1 tabOk rfl rfl rfl rfl rfl) rfl rfl rfl ?_
    | refine st_op (os_loadES tabOk rfl rfl rfl rfl rfl) rfl rfl rfl ?_
    | refine st_op (os_loadOS tabOk rfl rfl rfl rfl rfl (Nat.le_of_ble_eq_true rfl)) rfl rfl rfl ?_
    | refine st_op (os_loadES tabOk rfl rfl rfl rfl (by assumption)) rfl rfl rfl ?_
    | refine st_op (os_loadLS tabOk rfl rfl rfl rfl rfl (by assumption) rfl (by first | rfl | assumption)) rfl rfl rfl ?_
    | refine st_op (os_loadL1 (q := 0) tabOk rfl rfl rfl rfl rfl (by assumption) rfl rfl) rfl rfl rfl ?_
  first
    | refine st_op (os_fieldAddrO tabOk rfl rfl rfl (by decide) rfl) rfl rfl rfl ?_
    | refine st_op (os_fieldAddrE tabOk rfl rfl rfl (by decide) rfl) rfl rfl rfl ?_
  first
    | refine st_op (os_loadO1 tabOk rfl rfl rfl rfl rfl rfl) rfl rfl rfl ?_
    | refine st_op (os_loadE1 tabOk rfl rfl rfl rfl rfl) rfl rfl rfl ?_
    | refine st_op (os_loadES tabOk rfl rfl rfl rfl rfl) rfl rfl rfl ?_
    | refine st_op (os_loadOS tabOk rfl rfl rfl rfl rfl (Nat.le_of_ble_eq_true rfl)) rfl rfl rfl ?_
    | refine st_op (os_loadES tabOk rfl rfl rfl rfl (by assumption)) rfl rfl rfl ?_
    | refine st_op (os_loadLS tabOk rfl rfl rfl rfl rfl (by assumption) rfl (by first | rfl | assumption)) rfl rfl rfl ?_
    | refine st_op (os_loadL1 (q := 0) tabOk rfl rfl rfl rfl rfl (by assumption) rfl rfl) rfl rfl rfl ?_
  first
    | refine st_op (opS_of (opP_neq rfl rfl rfl)) rfl rfl rfl ?_
    | refine st_op (opS_of (opP_strNe rfl rfl rfl)) rfl rfl rfl ?_
    | refine st_op (os_boolNe tabOk rfl rfl rfl rfl rfl) rfl rfl rfl ?_
  refine aOps_nil ?_
  refine W_cond rfl (fun hc10 => ?_) (fun hc10 => ?_)
  · refine W_seq ?_
    refine W_region ?_
    first
      | refine st_op (os_fieldAddrO tabOk rfl rfl rfl (by decide) rfl) rfl rfl rfl ?_
      | refine st_op (os_fieldAddrE tabOk rfl rfl rfl (by decide) rfl) rfl rfl rfl ?_
    first
      | refine st_op (os_loadO1 tabOk rfl rfl rfl rfl rfl rfl) rfl rfl rfl ?_
      | refine st_op (os_loadE1 tabOk rfl rfl rfl rfl rfl) rfl rfl rfl ?_
      | refine st_op (os_loadES tabOk rfl rfl rfl rfl rfl) rfl rfl rfl ?_
      | refine st_op (os_loadOS tabOk rfl rfl rfl rfl rfl (Nat.le_of_ble_eq_true rfl)) rfl rfl rfl ?_
      | refine st_op (os_loadES tabOk rfl rfl rfl rfl (by assumption)) rfl rfl rfl ?_
      | refine st_op (os_loadLS tabOk rfl rfl rfl rfl rfl (by assumption) rfl (by first | rfl | assumption)) rfl rfl rfl ?_
      | refine st_op (os_loadL1 (q := 0) tabOk rfl rfl rfl rfl rfl (by assumption) rfl rfl) rfl rfl rfl ?_
    first
      | refine st_op (os_fieldAddrO tabOk rfl rfl rfl (by decide) rfl) rfl rfl rfl ?_
      | refine st_op (os_fieldAddrE tabOk rfl rfl rfl (by decide) rfl) rfl rfl rfl ?_
    first
      | refine st_op (os_loadO1 tabOk rfl rfl rfl rfl rfl rfl) rfl rfl rfl ?_
      | refine st_op (os_loadE1 tabOk rfl rfl rfl rfl rfl) rfl rfl rfl ?_
      | refine st_op (os_loadES tabOk rfl rfl rfl rfl rfl) rfl rfl rfl ?_
      | refine st_op (os_loadOS tabOk rfl rfl rfl rfl rfl (Nat.le_of_ble_eq_true rfl)) rfl rfl rfl ?_
      | refine st_op (os_loadES tabOk rfl rfl rfl rfl (by assumption)) rfl rfl rfl ?_
      | refine st_op (os_loadLS tabOk rfl rfl rfl rfl rfl (by assumption) rfl (by first | rfl | assumption)) rfl rfl rfl ?_
      | refine st_op (os_loadL1 (q := 0) tabOk rfl rfl rfl rfl rfl (by assumption) rfl rfl) rfl rfl rfl ?_
    refine st_op (opS_of (opP_lss rfl rfl rfl)) rfl rfl rfl ?_
    refine st_op (opS_of (opP_assign rfl rfl)) rfl rfl rfl ?_
    refine aOps_nil ?_
    refine W_ret ?_
    refine retE_ret ?_
    refine retOk_tmpE Try.results65 rfl (congrArg B ?_) rfl
    first | exact cmp3_lt (by simpa using hc10) | (rw [Tm.cmp_mk, cmp3_eq (by simpa using hc10)]; exact cmp3_lt (by simpa using hc20)) | (rw [Tm.cmp_mk, cmp3_eq (by simpa using hc10), cmp3_eq (by simpa using hc20), Tm.das_len, Tm.das_len]; exact cmp3_lt (by have := hc32; simp at this; omega)) | (rw [Tm.cmp_at (by simpa using hc10) (by simpa using hc20) hll hJ ht hu (by simpa [Tm.same_cmp] using hc58)]) | (rw [Tm.cmp_all (by simpa using hc10) (by simpa using hc20) hll hJ (by have := ofNat_ge hc44; omega)]; rfl)
  · refine W_skip ?_
    refine W_seq ?_
    refine W_seq ?_
    refine W_region ?_
    first
      | refine st_op (os_fieldAddrO tabOk rfl rfl rfl (by decide) rfl) rfl rfl rfl ?_
      | refine st_op (os_fieldAddrE tabOk rfl rfl rfl (by decide) rfl) rfl rfl rfl ?_
    first
      | refine st_op (os_loadO1 tabOk rfl rfl rfl rfl rfl rfl) rfl rfl rfl ?_
      | refine st_op (os_loadE1 tabOk rfl rfl rfl rfl rfl) rfl rfl rfl ?_
      | refine st_op (os_loadES tabOk rfl rfl rfl rfl rfl) rfl rfl rfl ?_
      | refine st_op (os_loadOS tabOk rfl rfl rfl rfl rfl (Nat.le_of_ble_eq_true rfl)) rfl rfl rfl ?_
      | refine st_op (os_loadES tabOk rfl rfl rfl rfl (by assumption)) rfl rfl rfl ?_
      | refine st_op (os_loadLS tabOk rfl rfl rfl rfl rfl (by assumption) rfl (by first | rfl | assumption)) rfl rfl rfl ?_
      | refine st_op (os_loadL1 (q := 0) tabOk rfl rfl rfl rfl rfl (by assumption) rfl rfl) rfl rfl rfl ?_
    first
      | refine st_op (os_fieldAddrO tabOk rfl rfl rfl (by decide) rfl) rfl rfl rfl ?_
      | refine st_op (os_fieldAddrE tabOk rfl rfl rfl (by decide) rfl) rfl rfl rfl ?_
    first
      | refine st_op (os_loadO1 tabOk rfl rfl rfl rfl rfl rfl) rfl rfl rfl ?_
      | refine st_op (os_loadE1 tabOk rfl rfl rfl rfl rfl) rfl rfl rfl ?_
      | refine st_op (os_loadES tabOk rfl rfl rfl rfl rfl) rfl rfl rfl ?_
      | refine st_op (os_loadOS tabOk rfl rfl rfl rfl rfl (Nat.le_of_ble_eq_true rfl)) rfl rfl rfl ?_
      | refine st_op (os_loadES tabOk rfl rfl rfl rfl (by assumption)) rfl rfl rfl ?_
      | refine st_op (os_loadLS tabOk rfl rfl rfl rfl rfl (by assumption) rfl (by first | rfl | assumption)) rfl rfl rfl ?_
      | refine st_op (os_loadL1 (q := 0) tabOk rfl rfl rfl rfl rfl (by assumption) rfl rfl) rfl rfl rfl ?_
    first
      | refine st_op (opS_of (opP_neq rfl rfl rfl)) rfl rfl rfl ?_
      | refine st_op (opS_of (opP_strNe rfl rfl rfl)) rfl rfl rfl ?_
      | refine st_op (os_boolNe tabOk rfl rfl rfl rfl rfl) rfl rfl rfl ?_
    refine aOps_nil ?_
    refine W_cond rfl (fun hc20 => ?_) (fun hc20 => ?_)
    · refine W_seq ?_
      refine W_region ?_
      first
        | refine st_op (os_fieldAddrO tabOk rfl rfl rfl (by decide) rfl) rfl rfl rfl ?_
        | refine st_op (os_fieldAddrE tabOk rfl rfl rfl (by decide) rfl) rfl rfl rfl ?_
      first
        | refine st_op (os_loadO1 tabOk rfl rfl rfl rfl rfl rfl) rfl rfl rfl ?_
        | refine st_op (os_loadE1 tabOk rfl rfl rfl rfl rfl) rfl rfl rfl ?_
        | refine st_op (os_loadES tabOk rfl rfl rfl rfl rfl) rfl rfl rfl ?_
        | refine st_op (os_loadOS tabOk rfl rfl rfl rfl rfl (Nat.le_of_ble_eq_true rfl)) rfl rfl rfl ?_
        | refine st_op (os_loadES tabOk rfl rfl rfl rfl (by assumption)) rfl rfl rfl ?_
        | refine st_op (os_loadLS tabOk rfl rfl rfl rfl rfl (by assumption) rfl (by first | rfl | assumption)) rfl rfl rfl ?_
        | refine st_op (os_loadL1 (q := 0) tabOk rfl rfl rfl rfl rfl (by assumption) rfl rfl) rfl rfl rfl ?_
      first
        | refine st_op (os_fieldAddrO tabOk rfl rfl rfl (by decide) rfl) rfl rfl rfl ?_
        | refine st_op (os_fieldAddrE tabOk rfl rfl rfl (by decide) rfl) rfl rfl rfl ?_
      first
        | refine st_op (os_loadO1 tabOk rfl rfl rfl rfl rfl rfl) rfl rfl rfl ?_
        | refine st_op (os_loadE1 tabOk rfl rfl rfl rfl rfl) rfl rfl rfl ?_
        | refine st_op (os_loadES tabOk rfl rfl rfl rfl rfl) rfl rfl rfl ?_
        | refine st_op (os_loadOS tabOk rfl rfl rfl rfl rfl (Nat.le_of_ble_eq_true rfl)) rfl rfl rfl ?_
        | refine st_op (os_loadES tabOk rfl rfl rfl rfl (by assumption)) rfl rfl rfl ?_
        | refine st_op (os_loadLS tabOk rfl rfl rfl rfl rfl (by assumption) rfl (by first | rfl | assumption)) rfl rfl rfl ?_
        | refine st_op (os_loadL1 (q := 0) tabOk rfl rfl rfl rfl rfl (by assumption) rfl rfl) rfl rfl rfl ?_
      refine st_op (opS_of (opP_lss rfl rfl rfl)) rfl rfl rfl ?_
      refine st_op (opS_of (opP_assign rfl rfl)) rfl rfl rfl ?_
      refine aOps_nil ?_
      refine W_ret ?_
      refine retE_ret ?_
      refine retOk_tmpE Try.results65 rfl (congrArg B ?_) rfl
      first | exact cmp3_lt (by simpa using hc10) | (rw [Tm.cmp_mk, cmp3_eq (by simpa using hc10)]; exact cmp3_lt (by simpa using hc20)) | (rw [Tm.cmp_mk, cmp3_eq (by simpa using hc10), cmp3_eq (by simpa using hc20), Tm.das_len, Tm.das_len]; exact cmp3_lt (by have := hc32; simp at this; omega)) | (rw [Tm.cmp_at (by simpa using hc10) (by simpa using hc20) hll hJ ht hu (by simpa [Tm.same_cmp] using hc58)]) | (rw [Tm.cmp_all (by simpa using hc10) (by simpa using hc20) hll hJ (by have := ofNat_ge hc44; omega)]; rfl)
    · refine W_skip ?_
      refine W_seq ?_
      refine W_seq ?_
      refine W_region ?_
      first
        | refine st_op (os_fieldAddrO tabOk rfl rfl rfl (by decide) rfl) rfl rfl rfl ?_
        | refine st_op (os_fieldAddrE tabOk rfl rfl rfl (by decide) rfl) rfl rfl rfl ?_
      first
        | refine st_op (os_loadO1 tabOk rfl rfl rfl rfl rfl rfl) rfl rfl rfl ?_
        | refine st_op (os_loadE1 tabOk rfl rfl rfl rfl rfl) rfl rfl rfl ?_
        | refine st_op (os_loadES tabOk rfl rfl rfl rfl rfl) rfl rfl rfl ?_
        | refine st_op (os_loadOS tabOk rfl rfl rfl rfl rfl (Nat.le_of_ble_eq_true rfl)) rfl rfl rfl ?_
        | refine st_op (os_loadES tabOk rfl rfl rfl rfl (by assumption)) rfl rfl rfl ?_
        | refine st_op (os_loadLS tabOk rfl rfl rfl rfl rfl (by assumption) rfl (by first | rfl | assumption)) rfl rfl rfl ?_
        | refine st_op (os_loadL1 (q := 0) tabOk rfl rfl rfl rfl rfl (by assumption) rfl rfl) rfl rfl rfl ?_
      first
        | refine st_op (os_lenD tabOk rfl rfl rfl rfl rfl) rfl rfl rfl ?_
        | refine st_op (os_lenO tabOk rfl rfl rfl rfl rfl rfl) rfl rfl rfl ?_
        | refine st_op (os_lenS tabOk rfl rfl rfl rfl) rfl rfl rfl ?_
        | refine st_op (os_len0 tabOk rfl rfl rfl rfl rfl) rfl rfl rfl ?_
      first
        | refine st_op (os_fieldAddrO tabOk rfl rfl rfl (by decide) rfl) rfl rfl rfl ?_
        | refine st_op (os_fieldAddrE tabOk rfl rfl rfl (by decide) rfl) rfl rfl rfl ?_
      first
        | refine st_op (os_loadO1 tabOk rfl rfl rfl rfl rfl rfl) rfl rfl rfl ?_
        | refine st_op (os_loadE1 tabOk rfl rfl rfl rfl rfl) rfl rfl rfl ?_
        | refine st_op (os_loadES tabOk rfl rfl rfl rfl rfl) rfl rfl rfl ?_
        | refine st_op (os_loadOS tabOk rfl rfl rfl rfl rfl (Nat.le_of_ble_eq_true rfl)) rfl rfl rfl ?_
        | refine st_op (os_loadES tabOk rfl rfl rfl rfl (by assumption)) rfl rfl rfl ?_
        | refine st_op (os_loadLS tabOk rfl rfl rfl rfl rfl (by assumption) rfl (by first | rfl | assumption)) rfl rfl rfl ?_
        | refine st_op (os_loadL1 (q := 0) tabOk rfl rfl rfl rfl rfl (by assumption) rfl rfl) rfl rfl rfl ?_
      first
        | refine st_op (os_lenD tabOk rfl rfl rfl rfl rfl) rfl rfl rfl ?_
        | refine st_op (os_lenO tabOk rfl rfl rfl rfl rfl rfl) rfl rfl rfl ?_
        | refine st_op (os_lenS tabOk rfl rfl rfl rfl) rfl rfl rfl ?_
        | refine st_op (os_len0 tabOk rfl rfl rfl rfl rfl) rfl rfl rfl ?_
      first
        | refine st_op (opS_of (opP_neq rfl rfl rfl)) rfl rfl rfl ?_
        | refine st_op (opS_of (opP_strNe rfl rfl rfl)) rfl rfl rfl ?_
        | refine st_op (os_boolNe tabOk rfl rfl rfl rfl rfl) rfl rfl rfl ?_
      refine aOps_nil ?_
      refine W_cond rfl (fun hc32 => ?_) (fun hc32 => ?_)
      · refine W_seq ?_
        refine W_region ?_
        first
          | refine st_op (os_fieldAddrO tabOk rfl rfl rfl (by decide) rfl) rfl rfl rfl ?_
          | refine st_op (os_fieldAddrE tabOk rfl rfl rfl (by decide) rfl) rfl rfl rfl ?_
        first
          | refine st_op (os_loadO1 tabOk rfl rfl rfl rfl rfl rfl) rfl rfl rfl ?_
          | refine st_op (os_loadE1 tabOk rfl rfl rfl rfl rfl) rfl rfl rfl ?_
          | refine st_op (os_loadES tabOk rfl rfl rfl rfl rfl) rfl rfl rfl ?_
          | refine st_op (os_loadOS tabOk rfl rfl rfl rfl rfl (Nat.le_of_ble_eq_true rfl)) rfl rfl rfl ?_
          | refine st_op (os_loadES tabOk rfl rfl rfl rfl (by assumption)) rfl rfl rfl ?_
          | refine st_op (os_loadLS tabOk rfl rfl rfl rfl rfl (by assumption) rfl (by first | rfl | assumption)) rfl rfl rfl ?_
          | refine st_op (os_loadL1 (q := 0) tabOk rfl rfl rfl rfl rfl (by assumption) rfl rfl) rfl rfl rfl ?_
        first
          | refine st_op (os_lenD tabOk rfl rfl rfl rfl rfl) rfl rfl rfl ?_
          | refine st_op (os_lenO tabOk rfl rfl rfl rfl rfl rfl) rfl rfl rfl ?_
          | refine st_op (os_lenS tabOk rfl rfl rfl rfl) rfl rfl rfl ?_
          | refine st_op (os_len0 tabOk rfl rfl rfl rfl rfl) rfl rfl rfl ?_
        first
          | refine st_op (os_fieldAddrO tabOk rfl rfl rfl (by decide) rfl) rfl rfl rfl ?_
          | refine st_op (os_fieldAddrE tabOk rfl rfl rfl (by decide) rfl) rfl rfl rfl ?_
        first
          | refine st_op (os_loadO1 tabOk rfl rfl rfl rfl rfl rfl) rfl rfl rfl ?_
          | refine st_op (os_loadE1 tabOk rfl rfl rfl rfl rfl) rfl rfl rfl ?_
          | refine st_op (os_loadES tabOk rfl rfl rfl rfl rfl) rfl rfl rfl ?_
          | refine st_op (os_loadOS tabOk rfl rfl rfl rfl rfl (Nat.le_of_ble_eq_true rfl)) rfl rfl rfl ?_
          | refine st_op (os_loadES tabOk rfl rfl rfl rfl (by assumption)) rfl rfl rfl ?_
          | refine st_op (os_loadLS tabOk rfl rfl rfl rfl rfl (by assumption) rfl (by first | rfl | assumption)) rfl rfl rfl ?_
          | refine st_op (os_loadL1 (q := 0) tabOk rfl rfl rfl rfl rfl (by assumption) rfl rfl) rfl rfl rfl ?_
        first
          | refine st_op (os_lenD tabOk rfl rfl rfl rfl rfl) rfl rfl rfl ?_
          | refine st_op (os_lenO tabOk rfl rfl rfl rfl rfl rfl) rfl rfl rfl ?_
          | refine st_op (os_lenS tabOk rfl rfl rfl rfl) rfl rfl rfl ?_
          | refine st_op (os_len0 tabOk rfl rfl rfl rfl rfl) rfl rfl rfl ?_
        refine st_op (opS_of (opP_lss rfl rfl rfl)) rfl rfl rfl ?_
        refine st_op (opS_of (opP_assign rfl rfl)) rfl rfl rfl ?_
        refine aOps_nil ?_
        refine W_ret ?_
        refine retE_ret ?_
        refine retOk_tmpE Try.results65 rfl (congrArg B ?_) rfl
        first | exact cmp3_lt (by simpa using hc10) | (rw [Tm.cmp_mk, cmp3_eq (by simpa using hc10)]; exact cmp3_lt (by simpa using hc20)) | (rw [Tm.cmp_mk, cmp3_eq (by simpa using hc10), cmp3_eq (by simpa using hc20), Tm.das_len, Tm.das_len]; exact cmp3_lt (by have := hc32; simp at this; omega)) | (rw [Tm.cmp_at (by simpa using hc10) (by simpa using hc20) hll hJ ht hu (by simpa [Tm.same_cmp] using hc58)]) | (rw [Tm.cmp_all (by simpa using hc10) (by simpa using hc20) hll hJ (by have := ofNat_ge hc44; omega)]; rfl)
      · refine W_skip ?_
        refine W_seq ?_
        refine W_seq ?_
        refine W_region ?_
        refine st_op (opS_of (opP_assign rfl rfl)) rfl rfl rfl ?_
        refine aOps_nil ?_
        refine W_block ?_
        have hll : ks.length = ls.length := by have := hc32; simp at this; omega
        refine W_countI (fun k => ⟨[(2, .one (.op 2 0)), (3, .one (.op 3 0)), (5, Z k)], [(2, .var [.d (.int .i64 f), .d (.int .i64 v), .d (.sl (Tm.das ks))]), (3, .var [.d (.int .i64 g), .d (.int .i64 u), .d (.sl (Tm.das ls))])]⟩) (zerosBelow ks ls) ks.length 0 (by (refine Ent.of ?_; repeat (first | (refine entOk_tm rfl ?_) | (refine entOk_ob rfl ?_) | exact entOk_nil | (refine entOk_Z rfl (by omega) ?_) | (refine entOk_Z rfl (by simp <;> omega) ?_) | (refine entOk_lst rfl (by assumption) ?_) | (refine entOk_lst rfl (fill_setE rfl (by assumption) (by assumption) rfl) ?_) | (refine entOk_lst rfl (by simp_all; done) ?_) | (refine entOk_var rfl (by simp_all; done) ?_)))) zerosBelow.zero (Nat.zero_le _) (fun k _ hk hJ => ?_)
        refine W_seq ?_
        refine W_seq ?_
        refine W_region ?_
        refine st_op (opS_of (opP_move rfl rfl)) rfl rfl rfl ?_
        first
          | refine st_op (os_fieldAddrO tabOk rfl rfl rfl (by decide) rfl) rfl rfl rfl ?_
          | refine st_op (os_fieldAddrE tabOk rfl rfl rfl (by decide) rfl) rfl rfl rfl ?_
        first
          | refine st_op (os_loadO1 tabOk rfl rfl rfl rfl rfl rfl) rfl rfl rfl ?_
          | refine st_op (os_loadE1 tabOk rfl rfl rfl rfl rfl) rfl rfl rfl ?_
          | refine st_op (os_loadES tabOk rfl rfl rfl rfl rfl) rfl rfl rfl ?_
          | refine st_op (os_loadOS tabOk rfl rfl rfl rfl rfl (Nat.le_of_ble_eq_true rfl)) rfl rfl rfl ?_
          | refine st_op (os_loadES tabOk rfl rfl rfl rfl (by assumption)) rfl rfl rfl ?_
          | refine st_op (os_loadLS tabOk rfl rfl rfl rfl rfl (by assumption) rfl (by first | rfl | assumption)) rfl rfl rfl ?_
          | refine st_op (os_loadL1 (q := 0) tabOk rfl rfl rfl rfl rfl (by assumption) rfl rfl) rfl rfl rfl ?_
        first
          | refine st_op (os_lenD tabOk rfl rfl rfl rfl rfl) rfl rfl rfl ?_
          | refine st_op (os_lenO tabOk rfl rfl rfl rfl rfl rfl) rfl rfl rfl ?_
          | refine st_op (os_lenS tabOk rfl rfl rfl rfl) rfl rfl rfl ?_
          | refine st_op (os_len0 tabOk rfl rfl rfl rfl rfl) rfl rfl rfl ?_
        refine st_op (opS_of (opP_lss rfl rfl rfl)) rfl rfl rfl ?_
        refine aOps_nil ?_
        refine W_cond rfl (fun hc44 => ?_) (fun hc44 => ?_)
        · refine W_skip ?_
          refine W_seq ?_
          refine W_block ?_
          refine W_seq ?_
          have hlk := ofNat_lt hc44
          rw [Tm.das_len] at hlk
          obtain ⟨t', ht⟩ : ∃ t', ks[k]? = some t' := ⟨ks[k], List.getElem?_eq_getElem hlk⟩
          obtain ⟨u', hu⟩ : ∃ u', ls[k]? = some u' := ⟨ls[k], List.getElem?_eq_getElem (by omega)⟩
          have ht' : t' ∈ ks := List.mem_of_getElem? ht
          have hx : (Tm.das ks)[k]? = some t'.da := by rw [Tm.das_get, ht]; rfl
          have hy : (Tm.das ls)[k]? = some u'.da := by rw [Tm.das_get, hu]; rfl
          have h3 := Tm.da_len t'
          have h4 := Tm.da_len u'
          refine W_drawK mixed (by kernel_rfl) ?_
          first
            | refine pq_op (os_fieldAddrO tabOk rfl rfl rfl (by decide) rfl) rfl rfl rfl rfl rfl ?_
            | refine pq_op (os_fieldAddrE tabOk rfl rfl rfl (by decide) rfl) rfl rfl rfl rfl rfl ?_
          first
            | refine pq_op (os_loadO1 tabOk rfl rfl rfl rfl rfl rfl) rfl rfl rfl rfl rfl ?_
            | refine pq_op (os_loadE1 tabOk rfl rfl rfl rfl rfl) rfl rfl rfl rfl rfl ?_
            | refine pq_op (os_loadES tabOk rfl rfl rfl rfl rfl) rfl rfl rfl rfl rfl ?_
            | refine pq_op (os_loadOS tabOk rfl rfl rfl rfl rfl (Nat.le_of_ble_eq_true rfl)) rfl rfl rfl rfl rfl ?_
            | refine pq_op (os_loadES tabOk rfl rfl rfl rfl (by assumption)) rfl rfl rfl rfl rfl ?_
            | refine pq_op (os_loadLS tabOk rfl rfl rfl rfl rfl (by assumption) rfl (by first | rfl | assumption)) rfl rfl rfl rfl rfl ?_
            | refine pq_op (os_loadL1 (q := 0) tabOk rfl rfl rfl rfl rfl (by assumption) rfl rfl) rfl rfl rfl rfl rfl ?_
          refine pq_op (opS_of (opP_move rfl rfl)) rfl rfl rfl rfl rfl ?_
          first
            | refine pq_op (os_indexD tabOk rfl rfl rfl rfl rfl (by decide) rfl rfl (by assumption) (by first | rfl | assumption)) rfl rfl rfl rfl rfl ?_
            | refine pq_op (os_indexO tabOk rfl rfl rfl rfl rfl rfl rfl rfl (by decide) rfl (by first | assumption | (simp; omega))) rfl rfl rfl rfl rfl ?_
          first
            | refine pq_op (os_loadO1 tabOk rfl rfl rfl rfl rfl rfl) rfl rfl rfl rfl rfl ?_
            | refine pq_op (os_loadE1 tabOk rfl rfl rfl rfl rfl) rfl rfl rfl rfl rfl ?_
            | refine pq_op (os_loadES tabOk rfl rfl rfl rfl rfl) rfl rfl rfl rfl rfl ?_
            | refine pq_op (os_loadOS tabOk rfl rfl rfl rfl rfl (Nat.le_of_ble_eq_true rfl)) rfl rfl rfl rfl rfl ?_
            | refine pq_op (os_loadES tabOk rfl rfl rfl rfl (by assumption)) rfl rfl rfl rfl rfl ?_
            | refine pq_op (os_loadLS tabOk rfl rfl rfl rfl rfl (by assumption) rfl (by first | rfl | assumption)) rfl rfl rfl rfl rfl ?_
            | refine pq_op (os_loadL1 (q := 0) tabOk rfl rfl rfl rfl rfl (by assumption) rfl rfl) rfl rfl rfl rfl rfl ?_
          first
            | refine pq_op (os_fieldAddrO tabOk rfl rfl rfl (by decide) rfl) rfl rfl rfl rfl rfl ?_
            | refine pq_op (os_fieldAddrE tabOk rfl rfl rfl (by decide) rfl) rfl rfl rfl rfl rfl ?_
          first
            | refine pq_op (os_loadO1 tabOk rfl rfl rfl rfl rfl rfl) rfl rfl rfl rfl rfl ?_
            | refine pq_op (os_loadE1 tabOk rfl rfl rfl rfl rfl) rfl rfl rfl rfl rfl ?_
            | refine pq_op (os_loadES tabOk rfl rfl rfl rfl rfl) rfl rfl rfl rfl rfl ?_
            | refine pq_op (os_loadOS tabOk rfl rfl rfl rfl rfl (Nat.le_of_ble_eq_true rfl)) rfl rfl rfl rfl rfl ?_
            | refine pq_op (os_loadES tabOk rfl rfl rfl rfl (by assumption)) rfl rfl rfl rfl rfl ?_
            | refine pq_op (os_loadLS tabOk rfl rfl rfl rfl rfl (by assumption) rfl (by first | rfl | assumption)) rfl rfl rfl rfl rfl ?_
            | refine pq_op (os_loadL1 (q := 0) tabOk rfl rfl rfl rfl rfl (by assumption) rfl rfl) rfl rfl rfl rfl rfl ?_
          refine pq_op (opS_of (opP_move rfl rfl)) rfl rfl rfl rfl rfl ?_
          first
            | refine pq_op (os_indexD tabOk rfl rfl rfl rfl rfl (by decide) rfl rfl (by assumption) (by first | rfl | assumption)) rfl rfl rfl rfl rfl ?_
            | refine pq_op (os_indexO tabOk rfl rfl rfl rfl rfl rfl rfl rfl (by decide) rfl (by first | assumption | (simp; omega))) rfl rfl rfl rfl rfl ?_
          first
            | refine pq_op (os_loadO1 tabOk rfl rfl rfl rfl rfl rfl) rfl rfl rfl rfl rfl ?_
            | refine pq_op (os_loadE1 tabOk rfl rfl rfl rfl rfl) rfl rfl rfl rfl rfl ?_
            | refine pq_op (os_loadES tabOk rfl rfl rfl rfl rfl) rfl rfl rfl rfl rfl ?_
            | refine pq_op (os_loadOS tabOk rfl rfl rfl rfl rfl (Nat.le_of_ble_eq_true rfl)) rfl rfl rfl rfl rfl ?_
            | refine pq_op (os_loadES tabOk rfl rfl rfl rfl (by assumption)) rfl rfl rfl rfl rfl ?_
            | refine pq_op (os_loadLS tabOk rfl rfl rfl rfl rfl (by assumption) rfl (by first | rfl | assumption)) rfl rfl rfl rfl rfl ?_
            | refine pq_op (os_loadL1 (q := 0) tabOk rfl rfl rfl rfl rfl (by assumption) rfl rfl) rfl rfl rfl rfl rfl ?_
          refine pq_op (os_call (ag := [(Operand.tmp 51), (Operand.tmp 56)]) (termSame_call t' u') Try.func64 rfl rfl rfl rfl) rfl rfl rfl rfl rfl ?_
          refine pq_op (opS_of (opP_not rfl rfl)) rfl rfl rfl rfl rfl ?_
          refine pq_nil ?_
          refine W_cond rfl (fun hc58 => ?_) (fun hc58 => ?_)
          · refine W_seq ?_
            refine W_drawK mixed (by kernel_rfl) ?_
            first
              | refine pq_op (os_fieldAddrO tabOk rfl rfl rfl (by decide) rfl) rfl rfl rfl rfl rfl ?_
              | refine pq_op (os_fieldAddrE tabOk rfl rfl rfl (by decide) rfl) rfl rfl rfl rfl rfl ?_
            first
              | refine pq_op (os_loadO1 tabOk rfl rfl rfl rfl rfl rfl) rfl rfl rfl rfl rfl ?_
              | refine pq_op (os_loadE1 tabOk rfl rfl rfl rfl rfl) rfl rfl rfl rfl rfl ?_
              | refine pq_op (os_loadES tabOk rfl rfl rfl rfl rfl) rfl rfl rfl rfl rfl ?_
              | refine pq_op (os_loadOS tabOk rfl rfl rfl rfl rfl (Nat.le_of_ble_eq_true rfl)) rfl rfl rfl rfl rfl ?_
              | refine pq_op (os_loadES tabOk rfl rfl rfl rfl (by assumption)) rfl rfl rfl rfl rfl ?_
              | refine pq_op (os_loadLS tabOk rfl rfl rfl rfl rfl (by assumption) rfl (by first | rfl | assumption)) rfl rfl rfl rfl rfl ?_
              | refine pq_op (os_loadL1 (q := 0) tabOk rfl rfl rfl rfl rfl (by assumption) rfl rfl) rfl rfl rfl rfl rfl ?_
            refine pq_op (opS_of (opP_move rfl rfl)) rfl rfl rfl rfl rfl ?_
            first
              | refine pq_op (os_indexD tabOk rfl rfl rfl rfl rfl (by decide) rfl rfl (by assumption) (by first | rfl | assumption)) rfl rfl rfl rfl rfl ?_
              | refine pq_op (os_indexO tabOk rfl rfl rfl rfl rfl rfl rfl rfl (by decide) rfl (by first | assumption | (simp; omega))) rfl rfl rfl rfl rfl ?_
            first
              | refine pq_op (os_loadO1 tabOk rfl rfl rfl rfl rfl rfl) rfl rfl rfl rfl rfl ?_
              | refine pq_op (os_loadE1 tabOk rfl rfl rfl rfl rfl) rfl rfl rfl rfl rfl ?_
              | refine pq_op (os_loadES tabOk rfl rfl rfl rfl rfl) rfl rfl rfl rfl rfl ?_
              | refine pq_op (os_loadOS tabOk rfl rfl rfl rfl rfl (Nat.le_of_ble_eq_true rfl)) rfl rfl rfl rfl rfl ?_
              | refine pq_op (os_loadES tabOk rfl rfl rfl rfl (by assumption)) rfl rfl rfl rfl rfl ?_
              | refine pq_op (os_loadLS tabOk rfl rfl rfl rfl rfl (by assumption) rfl (by first | rfl | assumption)) rfl rfl rfl rfl rfl ?_
              | refine pq_op (os_loadL1 (q := 0) tabOk rfl rfl rfl rfl rfl (by assumption) rfl rfl) rfl rfl rfl rfl rfl ?_
            first
              | refine pq_op (os_fieldAddrO tabOk rfl rfl rfl (by decide) rfl) rfl rfl rfl rfl rfl ?_
              | refine pq_op (os_fieldAddrE tabOk rfl rfl rfl (by decide) rfl) rfl rfl rfl rfl rfl ?_
            first
              | refine pq_op (os_loadO1 tabOk rfl rfl rfl rfl rfl rfl) rfl rfl rfl rfl rfl ?_
              | refine pq_op (os_loadE1 tabOk rfl rfl rfl rfl rfl) rfl rfl rfl rfl rfl ?_
              | refine pq_op (os_loadES tabOk rfl rfl rfl rfl rfl) rfl rfl rfl rfl rfl ?_
              | refine pq_op (os_loadOS tabOk rfl rfl rfl rfl rfl (Nat.le_of_ble_eq_true rfl)) rfl rfl rfl rfl rfl ?_
              | refine pq_op (os_loadES tabOk rfl rfl rfl rfl (by assumption)) rfl rfl rfl rfl rfl ?_
              | refine pq_op (os_loadLS tabOk rfl rfl rfl rfl rfl (by assumption) rfl (by first | rfl | assumption)) rfl rfl rfl rfl rfl ?_
              | refine pq_op (os_loadL1 (q := 0) tabOk rfl rfl rfl rfl rfl (by assumption) rfl rfl) rfl rfl rfl rfl rfl ?_
            refine pq_op (opS_of (opP_move rfl rfl)) rfl rfl rfl rfl rfl ?_
            first
              | refine pq_op (os_indexD tabOk rfl rfl rfl rfl rfl (by decide) rfl rfl (by assumption) (by first | rfl | assumption)) rfl rfl rfl rfl rfl ?_
              | refine pq_op (os_indexO tabOk rfl rfl rfl rfl rfl rfl rfl rfl (by decide) rfl (by first | assumption | (simp; omega))) rfl rfl rfl rfl rfl ?_
            first
              | refine pq_op (os_loadO1 tabOk rfl rfl rfl rfl rfl rfl) rfl rfl rfl rfl rfl ?_
              | refine pq_op (os_loadE1 tabOk rfl rfl rfl rfl rfl) rfl rfl rfl rfl rfl ?_
              | refine pq_op (os_loadES tabOk rfl rfl rfl rfl rfl) rfl rfl rfl rfl rfl ?_
              | refine pq_op (os_loadOS tabOk rfl rfl rfl rfl rfl (Nat.le_of_ble_eq_true rfl)) rfl rfl rfl rfl rfl ?_
              | refine pq_op (os_loadES tabOk rfl rfl rfl rfl (by assumption)) rfl rfl rfl rfl rfl ?_
              | refine pq_op (os_loadLS tabOk rfl rfl rfl rfl rfl (by assumption) rfl (by first | rfl | assumption)) rfl rfl rfl rfl rfl ?_
              | refine pq_op (os_loadL1 (q := 0) tabOk rfl rfl rfl rfl rfl (by assumption) rfl rfl) rfl rfl rfl rfl rfl ?_
            refine pq_op (os_call (ag := [(Operand.tmp 63), (Operand.tmp 68)]) (ih t' ht' u') Try.func65 rfl rfl rfl rfl) rfl rfl rfl rfl rfl ?_
            refine pq_op (opS_of (opP_assign rfl rfl)) rfl rfl rfl rfl rfl ?_
            refine pq_nil ?_
            refine W_ret ?_
            refine blockE_ret ?_
            refine blockE_ret ?_
            refine retE_ret ?_
            refine retOk_tmpE Try.results65 rfl (congrArg B ?_) rfl
            first | exact cmp3_lt (by simpa using hc10) | (rw [Tm.cmp_mk, cmp3_eq (by simpa using hc10)]; exact cmp3_lt (by simpa using hc20)) | (rw [Tm.cmp_mk, cmp3_eq (by simpa using hc10), cmp3_eq (by simpa using hc20), Tm.das_len, Tm.das_len]; exact cmp3_lt (by have := hc32; simp at this; omega)) | (rw [Tm.cmp_at (by simpa using hc10) (by simpa using hc20) hll hJ ht hu (by simpa [Tm.same_cmp] using hc58)]) | (rw [Tm.cmp_all (by simpa using hc10) (by simpa using hc20) hll hJ (by have := ofNat_ge hc44; omega)]; rfl)
          · refine W_skip ?_
            refine W_region ?_
            refine st_op (opS_of (opP_move rfl rfl)) rfl rfl rfl ?_
            first
              | refine st_op (opS_of (opP_add64 rfl rfl rfl (by omega))) rfl rfl rfl ?_
              | refine st_op (opS_of (opP_strAdd rfl rfl rfl (by assumption))) rfl rfl rfl ?_
              | refine st_op (opS_of (opP_add rfl rfl rfl)) rfl rfl rfl ?_
            refine st_op (opS_of (opP_assign rfl rfl)) rfl rfl rfl ?_
            refine aOps_nil ?_
            refine ⟨k + 1, by (refine Ent.of ?_; repeat (first | (refine entOk_tm rfl ?_) | (refine entOk_ob rfl ?_) | exact entOk_nil | (refine entOk_Z rfl (by omega) ?_) | (refine entOk_Z rfl (by simp <;> omega) ?_) | (refine entOk_lst rfl (by assumption) ?_) | (refine entOk_lst rfl (fill_setE rfl (by assumption) (by assumption) rfl) ?_) | (refine entOk_lst rfl (by simp_all; done) ?_) | (refine entOk_var rfl (by simp_all; done) ?_))), hJ.next ht hu (by simpa [Tm.same_cmp] using hc58), by omega, by omega⟩
        · refine W_exit ?_
          refine blockE_hit ?_
          refine W_seq ?_
          refine W_region ?_
          refine st_op (opS_of (opP_assign rfl rfl)) rfl rfl rfl ?_
          refine aOps_nil ?_
          refine W_ret ?_
          refine retE_ret ?_
          refine retOk_tmpE Try.results65 rfl (congrArg B ?_) rfl
          first | exact cmp3_lt (by simpa using hc10) | (rw [Tm.cmp_mk, cmp3_eq (by simpa using hc10)]; exact cmp3_lt (by simpa using hc20)) | (rw [Tm.cmp_mk, cmp3_eq (by simpa using hc10), cmp3_eq (by simpa using hc20), Tm.das_len, Tm.das_len]; exact cmp3_lt (by have := hc32; simp at this; omega)) | (rw [Tm.cmp_at (by simpa using hc10) (by simpa using hc20) hll hJ ht hu (by simpa [Tm.same_cmp] using hc58)]) | (rw [Tm.cmp_all (by simpa using hc10) (by simpa using hc20) hll hJ (by have := ofNat_ge hc44; omega)]; rfl)

def eqBelow (ps : List (Int × Int)) (k : Nat) : Prop := ∀ (i : Nat) p, i < k → ps[i]? = some p → p.1 = p.2
theorem eqBelow.next {ps : List (Int × Int)} {k : Nat} {p : Int × Int} (h : eqBelow ps k) (hp : ps[k]? = some p) (e : p.1 = p.2) : eqBelow ps (k + 1) := by
  intro i q hi hq
  rcases Nat.lt_succ_iff_lt_or_eq.1 hi with hi | rfl
  · exact h i q hi hq
  · rw [hp] at hq; cases hq; exact e
def rows (ps : List (Int × Int)) : List (List Da) := ps.map fun p => [.int .i64 p.1, .int .i64 p.2]
theorem rows_get {ps : List (Int × Int)} {k : Nat} {p : Int × Int} (h : ps[k]? = some p) : (rows ps)[k]? = some [.int .i64 p.1, .int .i64 p.2] := by simp [rows, h]
def three (f v g u : Int) (ks ls : List Tm) : List (Int × Int) := [(f, g), (v, u), (ks.length, ls.length)]

theorem eqBelow.all {f v g u : Int} {ks ls : List Tm} {k : Nat} (h : eqBelow (three f v g u ks ls) k) (hk : 3 ≤ k) : f = g ∧ v = u ∧ ks.length = ls.length := by
  have h0 := h 0 (f, g) (by omega) rfl
  have h1 := h 1 (v, u) (by omega) rfl
  have h2 := h 2 (↑ks.length, ↑ls.length) (by omega) rfl
  simp at h0 h1 h2
  exact ⟨h0, h1, by omega⟩
theorem three_cmp {f v g u : Int} {ks ls : List Tm} {k : Nat} {p : Int × Int} (h : eqBelow (three f v g u ks ls) k) (hp : (three f v g u ks ls)[k]? = some p) (hk : k < 3) (hne : p.1 ≠ p.2) : Tm.cmp (.mk f v ks) (.mk g u ls) = if p.1 < p.2 then -1 else 1 := by
  rw [Tm.cmp_mk]
  have key : ∀ x y r : Int, x ≠ y → cmp3 x y r = if x < y then -1 else 1 := by
    intro x y r hn
    unfold cmp3
    split
    · rfl
    · rw [if_pos (by omega)]
  obtain rfl | rfl | rfl : k = 0 ∨ k = 1 ∨ k = 2 := by omega
  · simp [three] at hp; subst hp; exact key _ _ _ hne
  · have h0 := h 0 (f, g) (by omega) rfl
    simp [three] at hp h0; subst hp; rw [cmp3_eq h0]; exact key _ _ _ hne
  · have h0 := h 0 (f, g) (by omega) rfl
    have h1 := h 1 (v, u) (by omega) rfl
    simp [three] at hp h0 h1; subst hp; rw [cmp3_eq h0, cmp3_eq h1]; exact key _ _ _ hne

set_option maxHeartbeats 4000000 in
theorem compare_call (a b : Tm) : ACall Try.prog 90 [.dat a.da, .dat b.da] (Z (Tm.cmp a b)) [] := by
  induction a using Tm.ind generalizing b with
  | h f v ks ih =>
  obtain ⟨g, u, ls⟩ := b
  refine acall_fit fun hfit => ?_
  have hlen : ks.length ≤ 281474976710656 := by have := hfit.dat.tail.tail.len; rwa [Tm.das_len] at this
  have hdl := Tm.das_len ks
  have hdl2 := Tm.das_len ls
  refine acall_W Try.func90 rfl _ Try.ntmps90 (Nat.le_of_ble_eq_true rfl) fun w0 S0 => ?_
  refine W_seq ?_
  refine W_region ?_
  refine st_op (os_box rfl rfl rfl rfl rfl) rfl rfl rfl ?_
  refine st_op (os_box rfl rfl rfl rfl rfl) rfl rfl rfl ?_
  refine st_op (opS_of (opP_assign rfl rfl)) rfl rfl rfl ?_
  refine aOps_nil ?_
  refine W_seq ?_
  refine W_seq ?_
  refine W_region ?_
  first
    | refine st_op (os_fieldAddrO tabOk rfl rfl rfl (by decide) rfl) rfl rfl rfl ?_
    | refine st_op (os_fieldAddrE tabOk rfl rfl rfl (by decide) rfl) rfl rfl rfl ?_
  first
    | refine st_op (os_loadO1 tabOk rfl rfl rfl rfl rfl rfl) rfl rfl rfl ?_
    | refine st_op (os_loadE1 tabOk rfl rfl rfl rfl rfl) rfl rfl rfl ?_
    | refine st_op (os_loadES tabOk rfl rfl rfl rfl rfl) rfl rfl rfl ?_
    | refine st_op (os_loadOS tabOk rfl rfl rfl rfl rfl (Nat.le_of_ble_eq_true rfl)) rfl rfl rfl ?_
    | refine st_op (os_loadES tabOk rfl rfl rfl rfl (by assumption)) rfl rfl rfl ?_
    | refine st_op (os_loadLS tabOk rfl rfl rfl rfl rfl (by assumption) rfl (by first | rfl | assumption)) rfl rfl rfl ?_
    | refine st_op (os_loadL1 (q := 0) tabOk rfl rfl rfl rfl rfl (by assumption) rfl rfl) rfl rfl rfl ?_
  first
    | refine st_op (os_fieldAddrO tabOk rfl rfl rfl (by decide) rfl) rfl rfl rfl ?_
    | refine st_op (os_fieldAddrE tabOk rfl rfl rfl (by decide) rfl) rfl rfl rfl ?_
  first
    | refine st_op (os_loadO1 tabOk rfl rfl rfl rfl rfl rfl) rfl rfl rfl ?_
    | refine st_op (os_loadE1 tabOk rfl rfl rfl rfl rfl) rfl rfl rfl ?_
    | refine st_op (os_loadES tabOk rfl rfl rfl rfl rfl) rfl rfl rfl ?_
    | refine st_op (os_loadOS tabOk rfl rfl rfl rfl rfl (Nat.le_of_ble_eq_true rfl)) rfl rfl rfl ?_
    | refine st_op (os_loadES tabOk rfl rfl rfl rfl (by assumption)) rfl rfl rfl ?_
    | refine st_op (os_loadLS tabOk rfl rfl rfl rfl rfl (by assumption) rfl (by first | rfl | assumption)) rfl rfl rfl ?_
    | refine st_op (os_loadL1 (q := 0) tabOk rfl rfl rfl rfl rfl (by assumption) rfl rfl) rfl rfl rfl ?_
  refine st_op (os_buildA (m := 2) (ps := [(0, (Operand.tmp 10)), (1, (Operand.tmp 12))]) tabOk z117 rfl rfl rfl rfl rfl rfl rfl) rfl rfl rfl ?_
  first
    | refine st_op (os_fieldAddrO tabOk rfl rfl rfl (by decide) rfl) rfl rfl rfl ?_
    | refine st_op (os_fieldAddrE tabOk rfl rfl rfl (by decide) rfl) rfl rfl rfl ?_
  first
    | refine st_op (os_loadO1 tabOk rfl rfl rfl rfl rfl rfl) rfl rfl rfl ?_
    | refine st_op (os_loadE1 tabOk rfl rfl rfl rfl rfl) rfl rfl rfl ?_
    | refine st_op (os_loadES tabOk rfl rfl rfl rfl rfl) rfl rfl rfl ?_
    | refine st_op (os_loadOS tabOk rfl rfl rfl rfl rfl (Nat.le_of_ble_eq_true rfl)) rfl rfl rfl ?_
    | refine st_op (os_loadES tabOk rfl rfl rfl rfl (by assumption)) rfl rfl rfl ?_
    | refine st_op (os_loadLS tabOk rfl rfl rfl rfl rfl (by assumption) rfl (by first | rfl | assumption)) rfl rfl rfl ?_
    | refine st_op (os_loadL1 (q := 0) tabOk rfl rfl rfl rfl rfl (by assumption) rfl rfl) rfl rfl rfl ?_
  first
    | refine st_op (os_fieldAddrO tabOk rfl rfl rfl (by decide) rfl) rfl rfl rfl ?_
    | refine st_op (os_fieldAddrE tabOk rfl rfl rfl (by decide) rfl) rfl rfl rfl ?_
  first
    | refine st_op (os_loadO1 tabOk rfl rfl rfl rfl rfl rfl) rfl rfl rfl ?_
    | refine st_op (os_loadE1 tabOk rfl rfl rfl rfl rfl) rfl rfl rfl ?_
    | refine st_op (os_loadES tabOk rfl rfl rfl rfl rfl) rfl rfl rfl ?_
    | refine st_op (os_loadOS tabOk rfl rfl rfl rfl rfl (Nat.le_of_ble_eq_true rfl)) rfl rfl rfl ?_
    | refine st_op (os_loadES tabOk rfl rfl rfl rfl (by assumption)) rfl rfl rfl ?_
    | refine st_op (os_loadLS tabOk rfl rfl rfl rfl rfl (by assumption) rfl (by first | rfl | assumption)) rfl rfl rfl ?_
    | refine st_op (os_loadL1 (q := 0) tabOk rfl rfl rfl rfl rfl (by assumption) rfl rfl) rfl rfl rfl ?_
  refine st_op (os_buildA (m := 2) (ps := [(0, (Operand.tmp 15)), (1, (Operand.tmp 17))]) tabOk z117 rfl rfl rfl rfl rfl rfl rfl) rfl rfl rfl ?_
  first
    | refine st_op (os_fieldAddrO tabOk rfl rfl rfl (by decide) rfl) rfl rfl rfl ?_
    | refine st_op (os_fieldAddrE tabOk rfl rfl rfl (by decide) rfl) rfl rfl rfl ?_
  first
    | refine st_op (os_loadO1 tabOk rfl rfl rfl rfl rfl rfl) rfl rfl rfl ?_
    | refine st_op (os_loadE1 tabOk rfl rfl rfl rfl rfl) rfl rfl rfl ?_
    | refine st_op (os_loadES tabOk rfl rfl rfl rfl rfl) rfl rfl rfl ?_
    | refine st_op (os_loadOS tabOk rfl rfl rfl rfl rfl (Nat.le_of_ble_eq_true rfl)) rfl rfl rfl ?_
    | refine st_op (os_loadES tabOk rfl rfl rfl rfl (by assumption)) rfl rfl rfl ?_
    | refine st_op (os_loadLS tabOk rfl rfl rfl rfl rfl (by assumption) rfl (by first | rfl | assumption)) rfl rfl rfl ?_
    | refine st_op (os_loadL1 (q := 0) tabOk rfl rfl rfl rfl rfl (by assumption) rfl rfl) rfl rfl rfl ?_
  first
    | refine st_op (os_lenD tabOk rfl rfl rfl rfl rfl) rfl rfl rfl ?_
    | refine st_op (os_lenO tabOk rfl rfl rfl rfl rfl rfl) rfl rfl rfl ?_
    | refine st_op (os_lenS tabOk rfl rfl rfl rfl) rfl rfl rfl ?_
    | refine st_op (os_len0 tabOk rfl rfl rfl rfl rfl) rfl rfl rfl ?_
  first
    | refine st_op (os_fieldAddrO tabOk rfl rfl rfl (by decide) rfl) rfl rfl rfl ?_
    | refine st_op (os_fieldAddrE tabOk rfl rfl rfl (by decide) rfl) rfl rfl rfl ?_
  first
    | refine st_op (os_loadO1 tabOk rfl rfl rfl rfl rfl rfl) rfl rfl rfl ?_
    | refine st_op (os_loadE1 tabOk rfl rfl rfl rfl rfl) rfl rfl rfl ?_
    | refine st_op (os_loadES tabOk rfl rfl rfl rfl rfl) rfl rfl rfl ?_
    | refine st_op (os_loadOS tabOk rfl rfl rfl rfl rfl (Nat.le_of_ble_eq_true rfl)) rfl rfl rfl ?_
    | refine st_op (os_loadES tabOk rfl rfl rfl rfl (by assumption)) rfl rfl rfl ?_
    | refine st_op (os_loadLS tabOk rfl rfl rfl rfl rfl (by assumption) rfl (by first | rfl | assumption)) rfl rfl rfl ?_
    | refine st_op (os_loadL1 (q := 0) tabOk rfl rfl rfl rfl rfl (by assumption) rfl rfl) rfl rfl rfl ?_
  first
    | refine st_op (os_lenD tabOk rfl rfl rfl rfl rfl) rfl rfl rfl ?_
    | refine st_op (os_lenO tabOk rfl rfl rfl rfl rfl rfl) rfl rfl rfl ?_
    | refine st_op (os_lenS tabOk rfl rfl rfl rfl) rfl rfl rfl ?_
    | refine st_op (os_len0 tabOk rfl rfl rfl rfl rfl) rfl rfl rfl ?_
  refine st_op (os_buildA (m := 2) (ps := [(0, (Operand.tmp 21)), (1, (Operand.tmp 24))]) tabOk z117 rfl rfl rfl rfl rfl rfl rfl) rfl rfl rfl ?_
  refine st_op (os_buildSlice (ps := [(0, (Operand.tmp 13)), (1, (Operand.tmp 18)), (2, (Operand.tmp 25))]) tabOk z117 rfl rfl rfl rfl rfl (by decide) (by decide) rfl rfl rfl) rfl rfl rfl ?_
  first
    | refine st_op (os_lenD tabOk rfl rfl rfl rfl rfl) rfl rfl rfl ?_
    | refine st_op (os_lenO tabOk rfl rfl rfl rfl rfl rfl) rfl rfl rfl ?_
    | refine st_op (os_lenS tabOk rfl rfl rfl rfl) rfl rfl rfl ?_
    | refine st_op (os_len0 tabOk rfl rfl rfl rfl rfl) rfl rfl rfl ?_
  refine st_op (opS_of (opP_move rfl rfl)) rfl rfl rfl ?_
  refine aOps_nil ?_
  refine W_block ?_
  have hrows : chunk 2 3 [.int .i64 f, .int .i64 g, .int .i64 v, .int .i64 u, .int .i64 (Tm.das ks).length, .int .i64 (Tm.das ls).length] = rows (three f v g u ks ls) := by rw [hdl, hdl2]; rfl
  refine W_countI (fun k => ⟨[(2, .one (.op 2 0)), (3, .one (.op 3 0)), (26, .one (.ol 26)), (27, Z 3), (28, Z k)], [(2, .var [.d (.int .i64 f), .d (.int .i64 v), .d (.sl (Tm.das ks))]), (3, .var [.d (.int .i64 g), .d (.int .i64 u), .d (.sl (Tm.das ls))]), (26, .lst 117 2 (rows (three f v g u ks ls)))]⟩) (eqBelow (three f v g u ks ls)) 3 0 (by (refine Ent.of ?_; repeat (first | (refine entOk_tm rfl ?_) | (refine entOk_ob rfl ?_) | exact entOk_nil | (refine entOk_Z rfl (by omega) ?_) | (refine entOk_Z rfl (by simp <;> omega) ?_) | (refine entOk_lst rfl (by assumption) ?_) | (refine entOk_lst rfl (fill_setE rfl (by assumption) (by assumption) rfl) ?_) | (refine entOk_lst rfl (by simp_all; done) ?_) | (refine entOk_var rfl (by simp_all; done) ?_)))) (fun i p hi => by omega) (by omega) (fun k _ hk hJ => ?_)
  refine W_seq ?_
  refine W_region ?_
  refine st_op (opS_of (opP_lss rfl rfl rfl)) rfl rfl rfl ?_
  refine aOps_nil ?_
  refine W_seq ?_
  refine W_cond rfl (fun hc29 => ?_) (fun hc29 => ?_)
  · refine W_skip ?_
    refine W_seq ?_
    refine W_block ?_
    refine W_seq ?_
    have hlk : k < 3 := ofNat_lt hc29
    obtain ⟨p, hp⟩ : ∃ p, (three f v g u ks ls)[k]? = some p := ⟨(three f v g u ks ls)[k]'hlk, List.getElem?_eq_getElem hlk⟩
    have hx := rows_get hp
    refine W_region ?_
    first
      | refine st_op (os_indexD tabOk rfl rfl rfl rfl rfl (by decide) rfl rfl (by assumption) (by first | rfl | assumption)) rfl rfl rfl ?_
      | refine st_op (os_indexO tabOk rfl rfl rfl rfl rfl rfl rfl rfl (by decide) rfl (by first | assumption | (simp; omega))) rfl rfl rfl ?_
    first
      | refine st_op (os_loadO1 tabOk rfl rfl rfl rfl rfl rfl) rfl rfl rfl ?_
      | refine st_op (os_loadE1 tabOk rfl rfl rfl rfl rfl) rfl rfl rfl ?_
      | refine st_op (os_loadES tabOk rfl rfl rfl rfl rfl) rfl rfl rfl ?_
      | refine st_op (os_loadOS tabOk rfl rfl rfl rfl rfl (Nat.le_of_ble_eq_true rfl)) rfl rfl rfl ?_
      | refine st_op (os_loadES tabOk rfl rfl rfl rfl (by assumption)) rfl rfl rfl ?_
      | refine st_op (os_loadLS tabOk rfl rfl rfl rfl rfl (by assumption) rfl (by first | rfl | assumption)) rfl rfl rfl ?_
      | refine st_op (os_loadL1 (q := 0) tabOk rfl rfl rfl rfl rfl (by assumption) rfl rfl) rfl rfl rfl ?_
    refine st_op (os_alloc z117 rfl rfl) rfl rfl rfl ?_
    refine st_store tabOk rfl rfl rfl rfl rfl rfl rfl rfl rfl (Nat.le_of_ble_eq_true rfl) rfl ?_
    refine aOps_nil ?_
    refine W_block ?_
    refine W_seq ?_
    refine W_region ?_
    refine st_op (os_indexA (m := 2) tabOk rfl rfl rfl rfl rfl rfl (by first | rfl | exact ev_c0 | exact ev_c1) (by first | decide | omega)) rfl rfl rfl ?_
    first
      | refine st_op (os_loadO1 tabOk rfl rfl rfl rfl rfl rfl) rfl rfl rfl ?_
      | refine st_op (os_loadE1 tabOk rfl rfl rfl rfl rfl) rfl rfl rfl ?_
      | refine st_op (os_loadES tabOk rfl rfl rfl rfl rfl) rfl rfl rfl ?_
      | refine st_op (os_loadOS tabOk rfl rfl rfl rfl rfl (Nat.le_of_ble_eq_true rfl)) rfl rfl rfl ?_
      | refine st_op (os_loadES tabOk rfl rfl rfl rfl (by assumption)) rfl rfl rfl ?_
      | refine st_op (os_loadLS tabOk rfl rfl rfl rfl rfl (by assumption) rfl (by first | rfl | assumption)) rfl rfl rfl ?_
      | refine st_op (os_loadL1 (q := 0) tabOk rfl rfl rfl rfl rfl (by assumption) rfl rfl) rfl rfl rfl ?_
    refine st_op (os_indexA (m := 2) tabOk rfl rfl rfl rfl rfl rfl (by first | rfl | exact ev_c0 | exact ev_c1) (by first | decide | omega)) rfl rfl rfl ?_
    first
      | refine st_op (os_loadO1 tabOk rfl rfl rfl rfl rfl rfl) rfl rfl rfl ?_
      | refine st_op (os_loadE1 tabOk rfl rfl rfl rfl rfl) rfl rfl rfl ?_
      | refine st_op (os_loadES tabOk rfl rfl rfl rfl rfl) rfl rfl rfl ?_
      | refine st_op (os_loadOS tabOk rfl rfl rfl rfl rfl (Nat.le_of_ble_eq_true rfl)) rfl rfl rfl ?_
      | refine st_op (os_loadES tabOk rfl rfl rfl rfl (by assumption)) rfl rfl rfl ?_
      | refine st_op (os_loadLS tabOk rfl rfl rfl rfl rfl (by assumption) rfl (by first | rfl | assumption)) rfl rfl rfl ?_
      | refine st_op (os_loadL1 (q := 0) tabOk rfl rfl rfl rfl rfl (by assumption) rfl rfl) rfl rfl rfl ?_
    refine st_op (opS_of (opP_lss rfl rfl rfl)) rfl rfl rfl ?_
    refine st_op (opS_of (opP_assign rfl rfl)) rfl rfl rfl ?_
    refine aOps_nil ?_
    refine W_cond rfl (fun hc32 => ?_) (fun hc32 => ?_)
    · refine W_seq ?_
      refine W_region ?_
      refine st_op (opS_of (opP_assign rfl rfl)) rfl rfl rfl ?_
      refine aOps_nil ?_
      refine W_ret ?_
      refine blockE_ret ?_
      refine blockE_ret ?_
      refine blockE_ret ?_
      refine retE_ret ?_
      refine retOk_tmpE Try.results90 rfl (congrArg Z ?_) rfl
      first | (rw [three_cmp hJ hp hlk (by have := of_decide_eq_true hc32; omega), if_pos (of_decide_eq_true hc32)]) | (rw [three_cmp hJ hp hlk (by have := of_decide_eq_true hc38; omega), if_neg (by have := of_decide_eq_true hc38; omega)]) | (rw [Tm.cmp_at hfg hvu hll hJ ht hu (by simpa using hc63)]) | (rw [Tm.cmp_all hfg hvu hll hJ (by have := ofNat_ge hc49; omega)])
    · refine W_seq ?_
      refine W_region ?_
      refine st_op (os_indexA (m := 2) tabOk rfl rfl rfl rfl rfl rfl (by first | rfl | exact ev_c0 | exact ev_c1) (by first | decide | omega)) rfl rfl rfl ?_
      first
        | refine st_op (os_loadO1 tabOk rfl rfl rfl rfl rfl rfl) rfl rfl rfl ?_
        | refine st_op (os_loadE1 tabOk rfl rfl rfl rfl rfl) rfl rfl rfl ?_
        | refine st_op (os_loadES tabOk rfl rfl rfl rfl rfl) rfl rfl rfl ?_
        | refine st_op (os_loadOS tabOk rfl rfl rfl rfl rfl (Nat.le_of_ble_eq_true rfl)) rfl rfl rfl ?_
        | refine st_op (os_loadES tabOk rfl rfl rfl rfl (by assumption)) rfl rfl rfl ?_
        | refine st_op (os_loadLS tabOk rfl rfl rfl rfl rfl (by assumption) rfl (by first | rfl | assumption)) rfl rfl rfl ?_
        | refine st_op (os_loadL1 (q := 0) tabOk rfl rfl rfl rfl rfl (by assumption) rfl rfl) rfl rfl rfl ?_
      refine st_op (os_indexA (m := 2) tabOk rfl rfl rfl rfl rfl rfl (by first | rfl | exact ev_c0 | exact ev_c1) (by first | decide | omega)) rfl rfl rfl ?_
      first
        | refine st_op (os_loadO1 tabOk rfl rfl rfl rfl rfl rfl) rfl rfl rfl ?_
        | refine st_op (os_loadE1 tabOk rfl rfl rfl rfl rfl) rfl rfl rfl ?_
        | refine st_op (os_loadES tabOk rfl rfl rfl rfl rfl) rfl rfl rfl ?_
        | refine st_op (os_loadOS tabOk rfl rfl rfl rfl rfl (Nat.le_of_ble_eq_true rfl)) rfl rfl rfl ?_
        | refine st_op (os_loadES tabOk rfl rfl rfl rfl (by assumption)) rfl rfl rfl ?_
        | refine st_op (os_loadLS tabOk rfl rfl rfl rfl rfl (by assumption) rfl (by first | rfl | assumption)) rfl rfl rfl ?_
        | refine st_op (os_loadL1 (q := 0) tabOk rfl rfl rfl rfl rfl (by assumption) rfl rfl) rfl rfl rfl ?_
      refine st_op (opS_of (opP_gtr rfl rfl rfl)) rfl rfl rfl ?_
      refine st_op (opS_of (opP_assign rfl rfl)) rfl rfl rfl ?_
      refine aOps_nil ?_
      refine W_cond rfl (fun hc38 => ?_) (fun hc38 => ?_)
      · refine W_seq ?_
        refine W_region ?_
        refine st_op (opS_of (opP_assign rfl rfl)) rfl rfl rfl ?_
        refine aOps_nil ?_
        refine W_ret ?_
        refine blockE_ret ?_
        refine blockE_ret ?_
        refine blockE_ret ?_
        refine retE_ret ?_
        refine retOk_tmpE Try.results90 rfl (congrArg Z ?_) rfl
        first | (rw [three_cmp hJ hp hlk (by have := of_decide_eq_true hc32; omega), if_pos (of_decide_eq_true hc32)]) | (rw [three_cmp hJ hp hlk (by have := of_decide_eq_true hc38; omega), if_neg (by have := of_decide_eq_true hc38; omega)]) | (rw [Tm.cmp_at hfg hvu hll hJ ht hu (by simpa using hc63)]) | (rw [Tm.cmp_all hfg hvu hll hJ (by have := ofNat_ge hc49; omega)])
      · refine W_skip ?_
        refine W_region ?_
        first
          | refine st_op (opS_of (opP_add64 rfl rfl rfl (by omega))) rfl rfl rfl ?_
          | refine st_op (opS_of (opP_strAdd rfl rfl rfl (by assumption))) rfl rfl rfl ?_
          | refine st_op (opS_of (opP_add rfl rfl rfl)) rfl rfl rfl ?_
        refine st_op (opS_of (opP_move rfl rfl)) rfl rfl rfl ?_
        refine aOps_nil ?_
        refine ⟨k + 1, by (refine Ent.of ?_; repeat (first | (refine entOk_tm rfl ?_) | (refine entOk_ob rfl ?_) | exact entOk_nil | (refine entOk_Z rfl (by omega) ?_) | (refine entOk_Z rfl (by simp <;> omega) ?_) | (refine entOk_lst rfl (by assumption) ?_) | (refine entOk_lst rfl (fill_setE rfl (by assumption) (by assumption) rfl) ?_) | (refine entOk_lst rfl (by simp_all; done) ?_) | (refine entOk_var rfl (by simp_all; done) ?_))), hJ.next hp (by simp at hc32 hc38; omega), by omega, by omega⟩
  · refine W_exit ?_
    refine blockE_hit ?_
    refine W_seq ?_
    refine W_seq ?_
    refine W_region ?_
    first
      | refine st_op (os_fieldAddrO tabOk rfl rfl rfl (by decide) rfl) rfl rfl rfl ?_
      | refine st_op (os_fieldAddrE tabOk rfl rfl rfl (by decide) rfl) rfl rfl rfl ?_
    first
      | refine st_op (os_loadO1 tabOk rfl rfl rfl rfl rfl rfl) rfl rfl rfl ?_
      | refine st_op (os_loadE1 tabOk rfl rfl rfl rfl rfl) rfl rfl rfl ?_
      | refine st_op (os_loadES tabOk rfl rfl rfl rfl rfl) rfl rfl rfl ?_
      | refine st_op (os_loadOS tabOk rfl rfl rfl rfl rfl (Nat.le_of_ble_eq_true rfl)) rfl rfl rfl ?_
      | refine st_op (os_loadES tabOk rfl rfl rfl rfl (by assumption)) rfl rfl rfl ?_
      | refine st_op (os_loadLS tabOk rfl rfl rfl rfl rfl (by assumption) rfl (by first | rfl | assumption)) rfl rfl rfl ?_
      | refine st_op (os_loadL1 (q := 0) tabOk rfl rfl rfl rfl rfl (by assumption) rfl rfl) rfl rfl rfl ?_
    first
      | refine st_op (os_lenD tabOk rfl rfl rfl rfl rfl) rfl rfl rfl ?_
      | refine st_op (os_lenO tabOk rfl rfl rfl rfl rfl rfl) rfl rfl rfl ?_
      | refine st_op (os_lenS tabOk rfl rfl rfl rfl) rfl rfl rfl ?_
      | refine st_op (os_len0 tabOk rfl rfl rfl rfl rfl) rfl rfl rfl ?_
    refine st_op (opS_of (opP_move rfl rfl)) rfl rfl rfl ?_
    refine aOps_nil ?_
    refine W_block ?_
    obtain ⟨hfg, hvu, hll⟩ := hJ.all (by have := hc29; simp at this; omega)
    refine W_countI (fun k => ⟨[(2, .one (.op 2 0)), (3, .one (.op 3 0)), (47, Z ks.length), (48, Z k)], [(2, .var [.d (.int .i64 f), .d (.int .i64 v), .d (.sl (Tm.das ks))]), (3, .var [.d (.int .i64 g), .d (.int .i64 u), .d (.sl (Tm.das ls))])]⟩) (zerosBelow ks ls) ks.length 0 (by (refine Ent.of ?_; repeat (first | (refine entOk_tm rfl ?_) | (refine entOk_ob rfl ?_) | exact entOk_nil | (refine entOk_Z rfl (by omega) ?_) | (refine entOk_Z rfl (by simp <;> omega) ?_) | (refine entOk_lst rfl (by assumption) ?_) | (refine entOk_lst rfl (fill_setE rfl (by assumption) (by assumption) rfl) ?_) | (refine entOk_lst rfl (by simp_all; done) ?_) | (refine entOk_var rfl (by simp_all; done) ?_)))) zerosBelow.zero (Nat.zero_le _) (fun k _ hk hJ => ?_)
    refine W_seq ?_
    refine W_region ?_
    refine st_op (opS_of (opP_lss rfl rfl rfl)) rfl rfl rfl ?_
    refine aOps_nil ?_
    refine W_seq ?_
    refine W_cond rfl (fun hc49 => ?_) (fun hc49 => ?_)
    · refine W_skip ?_
      refine W_seq ?_
      refine W_block ?_
      refine W_seq ?_
      have hlk := ofNat_lt hc49
      obtain ⟨t', ht⟩ : ∃ t', ks[k]? = some t' := ⟨ks[k], List.getElem?_eq_getElem hlk⟩
      obtain ⟨u', hu⟩ : ∃ u', ls[k]? = some u' := ⟨ls[k], List.getElem?_eq_getElem (by omega)⟩
      have ht' : t' ∈ ks := List.mem_of_getElem? ht
      have hx : (Tm.das ks)[k]? = some t'.da := by rw [Tm.das_get, ht]; rfl
      have hy : (Tm.das ls)[k]? = some u'.da := by rw [Tm.das_get, hu]; rfl
      have h3 := Tm.da_len t'
      have h4 := Tm.da_len u'
      refine W_region ?_
      refine st_op (opS_of (opP_move rfl rfl)) rfl rfl rfl ?_
      refine st_op (opS_of (opP_assign rfl rfl)) rfl rfl rfl ?_
      refine aOps_nil ?_
      refine W_seq ?_
      refine W_drawK mixed (by kernel_rfl) ?_
      first
        | refine pq_op (os_fieldAddrO tabOk rfl rfl rfl (by decide) rfl) rfl rfl rfl rfl rfl ?_
        | refine pq_op (os_fieldAddrE tabOk rfl rfl rfl (by decide) rfl) rfl rfl rfl rfl rfl ?_
      first
        | refine pq_op (os_loadO1 tabOk rfl rfl rfl rfl rfl rfl) rfl rfl rfl rfl rfl ?_
        | refine pq_op (os_loadE1 tabOk rfl rfl rfl rfl rfl) rfl rfl rfl rfl rfl ?_
        | refine pq_op (os_loadES tabOk rfl rfl rfl rfl rfl) rfl rfl rfl rfl rfl ?_
        | refine pq_op (os_loadOS tabOk rfl rfl rfl rfl rfl (Nat.le_of_ble_eq_true rfl)) rfl rfl rfl rfl rfl ?_
        | refine pq_op (os_loadES tabOk rfl rfl rfl rfl (by assumption)) rfl rfl rfl rfl rfl ?_
        | refine pq_op (os_loadLS tabOk rfl rfl rfl rfl rfl (by assumption) rfl (by first | rfl | assumption)) rfl rfl rfl rfl rfl ?_
        | refine pq_op (os_loadL1 (q := 0) tabOk rfl rfl rfl rfl rfl (by assumption) rfl rfl) rfl rfl rfl rfl rfl ?_
      refine pq_op (opS_of (opP_move rfl rfl)) rfl rfl rfl rfl rfl ?_
      first
        | refine pq_op (os_indexD tabOk rfl rfl rfl rfl rfl (by decide) rfl rfl (by assumption) (by first | rfl | assumption)) rfl rfl rfl rfl rfl ?_
        | refine pq_op (os_indexO tabOk rfl rfl rfl rfl rfl rfl rfl rfl (by decide) rfl (by first | assumption | (simp; omega))) rfl rfl rfl rfl rfl ?_
      first
        | refine pq_op (os_loadO1 tabOk rfl rfl rfl rfl rfl rfl) rfl rfl rfl rfl rfl ?_
        | refine pq_op (os_loadE1 tabOk rfl rfl rfl rfl rfl) rfl rfl rfl rfl rfl ?_
        | refine pq_op (os_loadES tabOk rfl rfl rfl rfl rfl) rfl rfl rfl rfl rfl ?_
        | refine pq_op (os_loadOS tabOk rfl rfl rfl rfl rfl (Nat.le_of_ble_eq_true rfl)) rfl rfl rfl rfl rfl ?_
        | refine pq_op (os_loadES tabOk rfl rfl rfl rfl (by assumption)) rfl rfl rfl rfl rfl ?_
        | refine pq_op (os_loadLS tabOk rfl rfl rfl rfl rfl (by assumption) rfl (by first | rfl | assumption)) rfl rfl rfl rfl rfl ?_
        | refine pq_op (os_loadL1 (q := 0) tabOk rfl rfl rfl rfl rfl (by assumption) rfl rfl) rfl rfl rfl rfl rfl ?_
      first
        | refine pq_op (os_fieldAddrO tabOk rfl rfl rfl (by decide) rfl) rfl rfl rfl rfl rfl ?_
        | refine pq_op (os_fieldAddrE tabOk rfl rfl rfl (by decide) rfl) rfl rfl rfl rfl rfl ?_
      first
        | refine pq_op (os_loadO1 tabOk rfl rfl rfl rfl rfl rfl) rfl rfl rfl rfl rfl ?_
        | refine pq_op (os_loadE1 tabOk rfl rfl rfl rfl rfl) rfl rfl rfl rfl rfl ?_
        | refine pq_op (os_loadES tabOk rfl rfl rfl rfl rfl) rfl rfl rfl rfl rfl ?_
        | refine pq_op (os_loadOS tabOk rfl rfl rfl rfl rfl (Nat.le_of_ble_eq_true rfl)) rfl rfl rfl rfl rfl ?_
        | refine pq_op (os_loadES tabOk rfl rfl rfl rfl (by assumption)) rfl rfl rfl rfl rfl ?_
        | refine pq_op (os_loadLS tabOk rfl rfl rfl rfl rfl (by assumption) rfl (by first | rfl | assumption)) rfl rfl rfl rfl rfl ?_
        | refine pq_op (os_loadL1 (q := 0) tabOk rfl rfl rfl rfl rfl (by assumption) rfl rfl) rfl rfl rfl rfl rfl ?_
      refine pq_op (opS_of (opP_move rfl rfl)) rfl rfl rfl rfl rfl ?_
      first
        | refine pq_op (os_indexD tabOk rfl rfl rfl rfl rfl (by decide) rfl rfl (by assumption) (by first | rfl | assumption)) rfl rfl rfl rfl rfl ?_
        | refine pq_op (os_indexO tabOk rfl rfl rfl rfl rfl rfl rfl rfl (by decide) rfl (by first | assumption | (simp; omega))) rfl rfl rfl rfl rfl ?_
      first
        | refine pq_op (os_loadO1 tabOk rfl rfl rfl rfl rfl rfl) rfl rfl rfl rfl rfl ?_
        | refine pq_op (os_loadE1 tabOk rfl rfl rfl rfl rfl) rfl rfl rfl rfl rfl ?_
        | refine pq_op (os_loadES tabOk rfl rfl rfl rfl rfl) rfl rfl rfl rfl rfl ?_
        | refine pq_op (os_loadOS tabOk rfl rfl rfl rfl rfl (Nat.le_of_ble_eq_true rfl)) rfl rfl rfl rfl rfl ?_
        | refine pq_op (os_loadES tabOk rfl rfl rfl rfl (by assumption)) rfl rfl rfl rfl rfl ?_
        | refine pq_op (os_loadLS tabOk rfl rfl rfl rfl rfl (by assumption) rfl (by first | rfl | assumption)) rfl rfl rfl rfl rfl ?_
        | refine pq_op (os_loadL1 (q := 0) tabOk rfl rfl rfl rfl rfl (by assumption) rfl rfl) rfl rfl rfl rfl rfl ?_
      refine pq_op (os_call (ag := [(Operand.tmp 55), (Operand.tmp 60)]) (ih t' ht' u') Try.func90 rfl rfl rfl rfl) rfl rfl rfl rfl rfl ?_
      refine pq_op (opS_of (opP_assign rfl rfl)) rfl rfl rfl rfl rfl ?_
      refine pq_nil ?_
      refine W_seq ?_
      refine W_region ?_
      refine st_op (opS_of (opP_move rfl rfl)) rfl rfl rfl ?_
      first
        | refine st_op (opS_of (opP_neq rfl rfl rfl)) rfl rfl rfl ?_
        | refine st_op (opS_of (opP_strNe rfl rfl rfl)) rfl rfl rfl ?_
        | refine st_op (os_boolNe tabOk rfl rfl rfl rfl rfl) rfl rfl rfl ?_
      refine aOps_nil ?_
      refine W_cond rfl (fun hc63 => ?_) (fun hc63 => ?_)
      · refine W_seq ?_
        refine W_region ?_
        refine st_op (opS_of (opP_move rfl rfl)) rfl rfl rfl ?_
        refine st_op (opS_of (opP_assign rfl rfl)) rfl rfl rfl ?_
        refine aOps_nil ?_
        refine W_ret ?_
        refine blockE_ret ?_
        refine blockE_ret ?_
        refine retE_ret ?_
        refine retOk_tmpE Try.results90 rfl (congrArg Z ?_) rfl
        first | (rw [three_cmp hJ hp hlk (by have := of_decide_eq_true hc32; omega), if_pos (of_decide_eq_true hc32)]) | (rw [three_cmp hJ hp hlk (by have := of_decide_eq_true hc38; omega), if_neg (by have := of_decide_eq_true hc38; omega)]) | (rw [Tm.cmp_at hfg hvu hll hJ ht hu (by simpa using hc63)]) | (rw [Tm.cmp_all hfg hvu hll hJ (by have := ofNat_ge hc49; omega)])
      · refine W_skip ?_
        refine W_region ?_
        first
          | refine st_op (opS_of (opP_add64 rfl rfl rfl (by omega))) rfl rfl rfl ?_
          | refine st_op (opS_of (opP_strAdd rfl rfl rfl (by assumption))) rfl rfl rfl ?_
          | refine st_op (opS_of (opP_add rfl rfl rfl)) rfl rfl rfl ?_
        refine st_op (opS_of (opP_move rfl rfl)) rfl rfl rfl ?_
        refine aOps_nil ?_
        refine ⟨k + 1, by (refine Ent.of ?_; repeat (first | (refine entOk_tm rfl ?_) | (refine entOk_ob rfl ?_) | exact entOk_nil | (refine entOk_Z rfl (by omega) ?_) | (refine entOk_Z rfl (by simp <;> omega) ?_) | (refine entOk_lst rfl (by assumption) ?_) | (refine entOk_lst rfl (fill_setE rfl (by assumption) (by assumption) rfl) ?_) | (refine entOk_lst rfl (by simp_all; done) ?_) | (refine entOk_var rfl (by simp_all; done) ?_))), hJ.next ht hu (by simpa using hc63), by omega, by omega⟩
    · refine W_exit ?_
      refine blockE_hit ?_
      refine W_seq ?_
      refine W_region ?_
      refine st_op (opS_of (opP_assign rfl rfl)) rfl rfl rfl ?_
      refine aOps_nil ?_
      refine W_ret ?_
      refine retE_ret ?_
      refine retOk_tmpE Try.results90 rfl (congrArg Z ?_) rfl
      first | (rw [three_cmp hJ hp hlk (by have := of_decide_eq_true hc32; omega), if_pos (of_decide_eq_true hc32)]) | (rw [three_cmp hJ hp hlk (by have := of_decide_eq_true hc38; omega), if_neg (by have := of_decide_eq_true hc38; omega)]) | (rw [Tm.cmp_at hfg hvu hll hJ ht hu (by simpa using hc63)]) | (rw [Tm.cmp_all hfg hvu hll hJ (by have := ofNat_ge hc49; omega)])

end AM
end Go.Proofs.Ytfmfflfnkjoopaa
