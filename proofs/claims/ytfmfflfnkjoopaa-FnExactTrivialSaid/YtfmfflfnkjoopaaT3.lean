/- Comparisons of terms and literals; no conditions. -/
import Derived.Test.YtfmfflfnkjoopaaT2
import Derived.Test.YtfmfflfnkjoopaaAm11
set_option linter.unusedVariables false
namespace Go.Proofs.Ytfmfflfnkjoopaa
namespace AM
open Go
attribute [local irreducible] aOps awp W OpP OpS ACall RetOk

/-- A literal. -/
structure Li where
  p : Bool
  l : Tm
  r : Tm
def Li.da (x : Li) : List Da := .bool x.p :: (x.l.da ++ x.r.da)
def Li.cn (x : Li) : Nat := x.l.cn + x.r.cn
theorem Li.da_len (x : Li) : x.da.length = 7 := by simp [Li.da, Tm.da_len]
theorem lft_lft {a b : Nat} {l : Int} (hl : -1 ≤ l) (h : 0 ≤ lft a l) : lft b (lft a l) = lft (a + b) l := by
  unfold lft at h ⊢; split at h
  · omega
  · rename_i h2; rw [if_neg h2]; split <;> split <;> omega
theorem lft_neg {a b : Nat} {l : Int} (h : lft a l < 0) (hl : -1 ≤ l) : -1 = lft (a + b) l := by
  unfold lft at h ⊢; split at h
  · rw [if_pos (by omega)]
  · omega

theorem szLit_call (x : Li) (l : Int) (hl : -1 ≤ l ∧ l ≤ 1048576) : ACall Try.prog 26 [.dat x.da, Z l] (Z (lft x.cn l)) [] := by
  obtain ⟨p, ⟨f, v, ks⟩, ⟨g, u, ls⟩⟩ := x
  have h1 := lft_le (n := (Tm.mk f v ks).cn) (l := l) (by omega)
  refine acall_W Try.func26 rfl _ Try.ntmps26 (Nat.le_of_ble_eq_true rfl) fun w0 S0 => ?_
  refine W_seq ?_
  refine W_region ?_
  refine st_op (os_box rfl rfl rfl rfl rfl) rfl rfl rfl ?_
  refine st_op (opS_of (opP_assign rfl rfl)) rfl rfl rfl ?_
  refine aOps_nil ?_
  refine W_seq ?_
  refine W_region ?_
  first
    | refine st_op (os_fieldAddrO tabOk rfl rfl rfl (by decide) rfl) rfl rfl rfl ?_
    | refine st_op (os_fieldAddrE tabOk rfl rfl rfl (by decide) rfl) rfl rfl rfl ?_
  first
    | refine st_op (os_loadO1 tabOk rfl rfl rfl rfl rfl rfl) rfl rfl rfl ?_
    | refine st_op (os_loadE1 tabOk rfl rfl rfl rfl rfl) rfl rfl rfl ?_
    | refine st_op (os_loadES tabOk rfl rfl rfl rfl rfl) rfl rfl rfl ?_
    | refine st_op (os_loadOS tabOk rfl rfl rfl rfl rfl (Nat.le_of_ble_eq_true rfl)) rfl rfl rfl ?_
    | refine st_op (os_loadES tabOk rfl rfl rfl rfl (by assumption)) rfl rfl rfl ?_
    | refine st_op (os_loadLS tabOk rfl rfl rfl rfl rfl (by assumption) rfl (by first | rfl | assumption)) rfl rfl rfl ?_
    | refine st_op (os_loadL1 (q := 0) tabOk rfl rfl rfl rfl rfl (by assumption) rfl rfl) rfl rfl rfl ?_
  refine st_op (opS_of (opP_move rfl rfl)) rfl rfl rfl ?_
  first
    | refine st_op (os_call (ag := [(Operand.tmp 6), (Operand.tmp 7)]) (szTerm_call (.mk f v ks) l (by omega)) Try.func17 rfl rfl rfl rfl) rfl rfl rfl ?_
    | refine st_op (os_call (ag := [(Operand.tmp 6), (Operand.tmp 7)]) (szTerm_call (.mk g u ls) (lft (Tm.mk f v ks).cn l) (by omega)) Try.func17 rfl rfl rfl rfl) rfl rfl rfl ?_
  refine st_op (opS_of (opP_assign rfl rfl)) rfl rfl rfl ?_
  refine aOps_nil ?_
  refine W_seq ?_
  refine W_seq ?_
  refine W_region ?_
  refine st_op (opS_of (opP_move rfl rfl)) rfl rfl rfl ?_
  refine st_op (opS_of (opP_lss rfl rfl rfl)) rfl rfl rfl ?_
  refine aOps_nil ?_
  refine W_cond rfl (fun hc10 => ?_) (fun hc10 => ?_)
  · refine W_seq ?_
    refine W_region ?_
    refine st_op (opS_of (opP_assign rfl rfl)) rfl rfl rfl ?_
    refine aOps_nil ?_
    refine W_ret ?_
    refine retE_ret ?_
    refine retOk_tmpE Try.results26 rfl (congrArg Z ?_) rfl
    first | exact lft_lft (by omega) (by simpa using hc10) | exact lft_neg (of_decide_eq_true hc10) (by omega) | (rw [show Li.cn ⟨p, .mk f v ks, .mk g u ls⟩ = (Tm.mk f v ks).cn + (Tm.mk g u ls).cn from rfl, ← lft_lft (by omega) (by simpa using hc10)]; have h2 := of_decide_eq_true hc16; have := lft_le (n := (Tm.mk g u ls).cn) (l := lft (Tm.mk f v ks).cn l) (by omega); omega)
  · refine W_skip ?_
    refine W_seq ?_
    refine W_region ?_
    first
      | refine st_op (os_fieldAddrO tabOk rfl rfl rfl (by decide) rfl) rfl rfl rfl ?_
      | refine st_op (os_fieldAddrE tabOk rfl rfl rfl (by decide) rfl) rfl rfl rfl ?_
    first
      | refine st_op (os_loadO1 tabOk rfl rfl rfl rfl rfl rfl) rfl rfl rfl ?_
      | refine st_op (os_loadE1 tabOk rfl rfl rfl rfl rfl) rfl rfl rfl ?_
      | refine st_op (os_loadES tabOk rfl rfl rfl rfl rfl) rfl rfl rfl ?_
      | refine st_op (os_loadOS tabOk rfl rfl rfl rfl rfl (Nat.le_of_ble_eq_true rfl)) rfl rfl rfl ?_
      | refine st_op (os_loadES tabOk rfl rfl rfl rfl (by assumption)) rfl rfl rfl ?_
      | refine st_op (os_loadLS tabOk rfl rfl rfl rfl rfl (by assumption) rfl (by first | rfl | assumption)) rfl rfl rfl ?_
      | refine st_op (os_loadL1 (q := 0) tabOk rfl rfl rfl rfl rfl (by assumption) rfl rfl) rfl rfl rfl ?_
    refine st_op (opS_of (opP_move rfl rfl)) rfl rfl rfl ?_
    first
      | refine st_op (os_call (ag := [(Operand.tmp 12), (Operand.tmp 13)]) (szTerm_call (.mk f v ks) l (by omega)) Try.func17 rfl rfl rfl rfl) rfl rfl rfl ?_
      | refine st_op (os_call (ag := [(Operand.tmp 12), (Operand.tmp 13)]) (szTerm_call (.mk g u ls) (lft (Tm.mk f v ks).cn l) (by omega)) Try.func17 rfl rfl rfl rfl) rfl rfl rfl ?_
    refine st_op (opS_of (opP_assign rfl rfl)) rfl rfl rfl ?_
    refine aOps_nil ?_
    refine W_seq ?_
    refine W_seq ?_
    refine W_region ?_
    refine st_op (opS_of (opP_move rfl rfl)) rfl rfl rfl ?_
    refine st_op (opS_of (opP_lss rfl rfl rfl)) rfl rfl rfl ?_
    refine aOps_nil ?_
    refine W_cond rfl (fun hc16 => ?_) (fun hc16 => ?_)
    · refine W_seq ?_
      refine W_region ?_
      refine st_op (opS_of (opP_assign rfl rfl)) rfl rfl rfl ?_
      refine aOps_nil ?_
      refine W_ret ?_
      refine retE_ret ?_
      refine retOk_tmpE Try.results26 rfl (congrArg Z ?_) rfl
      first | exact lft_lft (by omega) (by simpa using hc10) | exact lft_neg (of_decide_eq_true hc10) (by omega) | (rw [show Li.cn ⟨p, .mk f v ks, .mk g u ls⟩ = (Tm.mk f v ks).cn + (Tm.mk g u ls).cn from rfl, ← lft_lft (by omega) (by simpa using hc10)]; have h2 := of_decide_eq_true hc16; have := lft_le (n := (Tm.mk g u ls).cn) (l := lft (Tm.mk f v ks).cn l) (by omega); omega)
    · refine W_skip ?_
      refine W_seq ?_
      refine W_region ?_
      refine st_op (opS_of (opP_move rfl rfl)) rfl rfl rfl ?_
      refine st_op (opS_of (opP_assign rfl rfl)) rfl rfl rfl ?_
      refine aOps_nil ?_
      refine W_ret ?_
      refine retE_ret ?_
      refine retOk_tmpE Try.results26 rfl (congrArg Z ?_) rfl
      first | exact lft_lft (by omega) (by simpa using hc10) | exact lft_neg (of_decide_eq_true hc10) (by omega) | (rw [show Li.cn ⟨p, .mk f v ks, .mk g u ls⟩ = (Tm.mk f v ks).cn + (Tm.mk g u ls).cn from rfl, ← lft_lft (by omega) (by simpa using hc10)]; have h2 := of_decide_eq_true hc16; have := lft_le (n := (Tm.mk g u ls).cn) (l := lft (Tm.mk f v ks).cn l) (by omega); omega)

theorem toLit_call (x : Li) (hc : x.cn ≤ 1048576) : ACall Try.prog 28 [.dat x.da] (.dat x.da) [] := by
  obtain ⟨p, ⟨f, v, ks⟩, ⟨g, u, ls⟩⟩ := x
  have h1 : (Tm.mk f v ks).cn ≤ 1048576 := Nat.le_trans (Nat.le_add_right ..) hc
  have h2 : (Tm.mk g u ls).cn ≤ 1048576 := Nat.le_trans (Nat.le_add_left ..) hc
  refine acall_W Try.func28 rfl _ Try.ntmps28 (Nat.le_of_ble_eq_true rfl) fun w0 S0 => ?_
  refine W_seq ?_
  refine W_region ?_
  refine st_op (os_box rfl rfl rfl rfl rfl) rfl rfl rfl ?_
  refine st_op (os_alloc z51 rfl rfl) rfl rfl rfl ?_
  refine aOps_nil ?_
  refine W_seq ?_
  refine W_region ?_
  refine st_op (os_alloc z51 rfl rfl) rfl rfl rfl ?_
  refine aOps_nil ?_
  refine W_seq ?_
  refine W_region ?_
  first
    | refine st_op (os_fieldAddrO tabOk rfl rfl rfl (by decide) rfl) rfl rfl rfl ?_
    | refine st_op (os_fieldAddrE tabOk rfl rfl rfl (by decide) rfl) rfl rfl rfl ?_
  first
    | refine st_op (os_loadO1 tabOk rfl rfl rfl rfl rfl rfl) rfl rfl rfl ?_
    | refine st_op (os_loadE1 tabOk rfl rfl rfl rfl rfl) rfl rfl rfl ?_
    | refine st_op (os_loadES tabOk rfl rfl rfl rfl rfl) rfl rfl rfl ?_
    | refine st_op (os_loadOS tabOk rfl rfl rfl rfl rfl (Nat.le_of_ble_eq_true rfl)) rfl rfl rfl ?_
    | refine st_op (os_loadES tabOk rfl rfl rfl rfl (by assumption)) rfl rfl rfl ?_
    | refine st_op (os_loadLS tabOk rfl rfl rfl rfl rfl (by assumption) rfl (by first | rfl | assumption)) rfl rfl rfl ?_
    | refine st_op (os_loadL1 (q := 0) tabOk rfl rfl rfl rfl rfl (by assumption) rfl rfl) rfl rfl rfl ?_
  first
    | refine st_op (os_fieldAddrO tabOk rfl rfl rfl (by decide) rfl) rfl rfl rfl ?_
    | refine st_op (os_fieldAddrE tabOk rfl rfl rfl (by decide) rfl) rfl rfl rfl ?_
  refine st_store tabOk rfl rfl rfl rfl rfl rfl rfl rfl rfl (Nat.le_of_ble_eq_true rfl) rfl ?_
  refine aOps_nil ?_
  refine W_seq ?_
  refine W_region ?_
  first
    | refine st_op (os_fieldAddrO tabOk rfl rfl rfl (by decide) rfl) rfl rfl rfl ?_
    | refine st_op (os_fieldAddrE tabOk rfl rfl rfl (by decide) rfl) rfl rfl rfl ?_
  first
    | refine st_op (os_loadO1 tabOk rfl rfl rfl rfl rfl rfl) rfl rfl rfl ?_
    | refine st_op (os_loadE1 tabOk rfl rfl rfl rfl rfl) rfl rfl rfl ?_
    | refine st_op (os_loadES tabOk rfl rfl rfl rfl rfl) rfl rfl rfl ?_
    | refine st_op (os_loadOS tabOk rfl rfl rfl rfl rfl (Nat.le_of_ble_eq_true rfl)) rfl rfl rfl ?_
    | refine st_op (os_loadES tabOk rfl rfl rfl rfl (by assumption)) rfl rfl rfl ?_
    | refine st_op (os_loadLS tabOk rfl rfl rfl rfl rfl (by assumption) rfl (by first | rfl | assumption)) rfl rfl rfl ?_
    | refine st_op (os_loadL1 (q := 0) tabOk rfl rfl rfl rfl rfl (by assumption) rfl rfl) rfl rfl rfl ?_
  first
    | refine st_op (os_call (ag := [(Operand.tmp 8)]) (toTerm_call (.mk f v ks) h1) Try.func19 rfl rfl rfl rfl) rfl rfl rfl ?_
    | refine st_op (os_call (ag := [(Operand.tmp 8)]) (toTerm_call (.mk g u ls) h2) Try.func19 rfl rfl rfl rfl) rfl rfl rfl ?_
  first
    | refine st_op (os_fieldAddrO tabOk rfl rfl rfl (by decide) rfl) rfl rfl rfl ?_
    | refine st_op (os_fieldAddrE tabOk rfl rfl rfl (by decide) rfl) rfl rfl rfl ?_
  refine st_store tabOk rfl rfl rfl rfl rfl rfl rfl rfl rfl (Nat.le_of_ble_eq_true rfl) rfl ?_
  refine aOps_nil ?_
  refine W_seq ?_
  refine W_region ?_
  first
    | refine st_op (os_fieldAddrO tabOk rfl rfl rfl (by decide) rfl) rfl rfl rfl ?_
    | refine st_op (os_fieldAddrE tabOk rfl rfl rfl (by decide) rfl) rfl rfl rfl ?_
  first
    | refine st_op (os_loadO1 tabOk rfl rfl rfl rfl rfl rfl) rfl rfl rfl ?_
    | refine st_op (os_loadE1 tabOk rfl rfl rfl rfl rfl) rfl rfl rfl ?_
    | refine st_op (os_loadES tabOk rfl rfl rfl rfl rfl) rfl rfl rfl ?_
    | refine st_op (os_loadOS tabOk rfl rfl rfl rfl rfl (Nat.le_of_ble_eq_true rfl)) rfl rfl rfl ?_
    | refine st_op (os_loadES tabOk rfl rfl rfl rfl (by assumption)) rfl rfl rfl ?_
    | refine st_op (os_loadLS tabOk rfl rfl rfl rfl rfl (by assumption) rfl (by first | rfl | assumption)) rfl rfl rfl ?_
    | refine st_op (os_loadL1 (q := 0) tabOk rfl rfl rfl rfl rfl (by assumption) rfl rfl) rfl rfl rfl ?_
  first
    | refine st_op (os_call (ag := [(Operand.tmp 12)]) (toTerm_call (.mk f v ks) h1) Try.func19 rfl rfl rfl rfl) rfl rfl rfl ?_
    | refine st_op (os_call (ag := [(Operand.tmp 12)]) (toTerm_call (.mk g u ls) h2) Try.func19 rfl rfl rfl rfl) rfl rfl rfl ?_
  first
    | refine st_op (os_fieldAddrO tabOk rfl rfl rfl (by decide) rfl) rfl rfl rfl ?_
    | refine st_op (os_fieldAddrE tabOk rfl rfl rfl (by decide) rfl) rfl rfl rfl ?_
  refine st_store tabOk rfl rfl rfl rfl rfl rfl rfl rfl rfl (Nat.le_of_ble_eq_true rfl) rfl ?_
  refine aOps_nil ?_
  refine W_seq ?_
  refine W_region ?_
  first
    | refine st_op (os_loadO1 tabOk rfl rfl rfl rfl rfl rfl) rfl rfl rfl ?_
    | refine st_op (os_loadE1 tabOk rfl rfl rfl rfl rfl) rfl rfl rfl ?_
    | refine st_op (os_loadES tabOk rfl rfl rfl rfl rfl) rfl rfl rfl ?_
    | refine st_op (os_loadOS tabOk rfl rfl rfl rfl rfl (Nat.le_of_ble_eq_true rfl)) rfl rfl rfl ?_
    | refine st_op (os_loadES tabOk rfl rfl rfl rfl (by assumption)) rfl rfl rfl ?_
    | refine st_op (os_loadLS tabOk rfl rfl rfl rfl rfl (by assumption) rfl (by first | rfl | assumption)) rfl rfl rfl ?_
    | refine st_op (os_loadL1 (q := 0) tabOk rfl rfl rfl rfl rfl (by assumption) rfl rfl) rfl rfl rfl ?_
  refine st_store tabOk rfl rfl rfl rfl rfl rfl rfl rfl rfl (Nat.le_of_ble_eq_true rfl) rfl ?_
  refine aOps_nil ?_
  refine W_ret ?_
  refine retE_ret ?_
  exact ret_cell tabOk Try.results28 rfl rfl rfl rfl rfl rfl rfl

theorem eqLit_call (x : Li) : ACall Try.prog 30 [.dat x.da, .dat x.da] (B true) [] := by
  obtain ⟨p, ⟨f, v, ks⟩, ⟨g, u, ls⟩⟩ := x
  refine acall_W Try.func30 rfl _ Try.ntmps30 (Nat.le_of_ble_eq_true rfl) fun w0 S0 => ?_
  refine W_seq ?_
  refine W_region ?_
  refine st_op (os_box rfl rfl rfl rfl rfl) rfl rfl rfl ?_
  refine st_op (os_box rfl rfl rfl rfl rfl) rfl rfl rfl ?_
  refine st_op (opS_of (opP_assign rfl rfl)) rfl rfl rfl ?_
  refine aOps_nil ?_
  refine W_seq ?_
  refine W_seq ?_
  refine W_region ?_
  first
    | refine st_op (os_fieldAddrO tabOk rfl rfl rfl (by decide) rfl) rfl rfl rfl ?_
    | refine st_op (os_fieldAddrE tabOk rfl rfl rfl (by decide) rfl) rfl rfl rfl ?_
  first
    | refine st_op (os_loadO1 tabOk rfl rfl rfl rfl rfl rfl) rfl rfl rfl ?_
    | refine st_op (os_loadE1 tabOk rfl rfl rfl rfl rfl) rfl rfl rfl ?_
    | refine st_op (os_loadES tabOk rfl rfl rfl rfl rfl) rfl rfl rfl ?_
    | refine st_op (os_loadOS tabOk rfl rfl rfl rfl rfl (Nat.le_of_ble_eq_true rfl)) rfl rfl rfl ?_
    | refine st_op (os_loadES tabOk rfl rfl rfl rfl (by assumption)) rfl rfl rfl ?_
    | refine st_op (os_loadLS tabOk rfl rfl rfl rfl rfl (by assumption) rfl (by first | rfl | assumption)) rfl rfl rfl ?_
    | refine st_op (os_loadL1 (q := 0) tabOk rfl rfl rfl rfl rfl (by assumption) rfl rfl) rfl rfl rfl ?_
  first
    | refine st_op (os_fieldAddrO tabOk rfl rfl rfl (by decide) rfl) rfl rfl rfl ?_
    | refine st_op (os_fieldAddrE tabOk rfl rfl rfl (by decide) rfl) rfl rfl rfl ?_
  first
    | refine st_op (os_loadO1 tabOk rfl rfl rfl rfl rfl rfl) rfl rfl rfl ?_
    | refine st_op (os_loadE1 tabOk rfl rfl rfl rfl rfl) rfl rfl rfl ?_
    | refine st_op (os_loadES tabOk rfl rfl rfl rfl rfl) rfl rfl rfl ?_
    | refine st_op (os_loadOS tabOk rfl rfl rfl rfl rfl (Nat.le_of_ble_eq_true rfl)) rfl rfl rfl ?_
    | refine st_op (os_loadES tabOk rfl rfl rfl rfl (by assumption)) rfl rfl rfl ?_
    | refine st_op (os_loadLS tabOk rfl rfl rfl rfl rfl (by assumption) rfl (by first | rfl | assumption)) rfl rfl rfl ?_
    | refine st_op (os_loadL1 (q := 0) tabOk rfl rfl rfl rfl rfl (by assumption) rfl rfl) rfl rfl rfl ?_
  first
    | refine st_op (opS_of (opP_neq rfl rfl rfl)) rfl rfl rfl ?_
    | refine st_op (opS_of (opP_strNe rfl rfl rfl)) rfl rfl rfl ?_
    | refine st_op (os_boolNe tabOk rfl rfl rfl rfl rfl) rfl rfl rfl ?_
  refine aOps_nil ?_
  refine W_cond rfl (fun hc9 => ?_) (fun hc9 => ?_)
  · simp at hc9
  · refine W_skip ?_
    refine W_seq ?_
    refine W_seq ?_
    refine W_region ?_
    first
      | refine st_op (os_fieldAddrO tabOk rfl rfl rfl (by decide) rfl) rfl rfl rfl ?_
      | refine st_op (os_fieldAddrE tabOk rfl rfl rfl (by decide) rfl) rfl rfl rfl ?_
    first
      | refine st_op (os_loadO1 tabOk rfl rfl rfl rfl rfl rfl) rfl rfl rfl ?_
      | refine st_op (os_loadE1 tabOk rfl rfl rfl rfl rfl) rfl rfl rfl ?_
      | refine st_op (os_loadES tabOk rfl rfl rfl rfl rfl) rfl rfl rfl ?_
      | refine st_op (os_loadOS tabOk rfl rfl rfl rfl rfl (Nat.le_of_ble_eq_true rfl)) rfl rfl rfl ?_
      | refine st_op (os_loadES tabOk rfl rfl rfl rfl (by assumption)) rfl rfl rfl ?_
      | refine st_op (os_loadLS tabOk rfl rfl rfl rfl rfl (by assumption) rfl (by first | rfl | assumption)) rfl rfl rfl ?_
      | refine st_op (os_loadL1 (q := 0) tabOk rfl rfl rfl rfl rfl (by assumption) rfl rfl) rfl rfl rfl ?_
    first
      | refine st_op (os_fieldAddrO tabOk rfl rfl rfl (by decide) rfl) rfl rfl rfl ?_
      | refine st_op (os_fieldAddrE tabOk rfl rfl rfl (by decide) rfl) rfl rfl rfl ?_
    first
      | refine st_op (os_loadO1 tabOk rfl rfl rfl rfl rfl rfl) rfl rfl rfl ?_
      | refine st_op (os_loadE1 tabOk rfl rfl rfl rfl rfl) rfl rfl rfl ?_
      | refine st_op (os_loadES tabOk rfl rfl rfl rfl rfl) rfl rfl rfl ?_
      | refine st_op (os_loadOS tabOk rfl rfl rfl rfl rfl (Nat.le_of_ble_eq_true rfl)) rfl rfl rfl ?_
      | refine st_op (os_loadES tabOk rfl rfl rfl rfl (by assumption)) rfl rfl rfl ?_
      | refine st_op (os_loadLS tabOk rfl rfl rfl rfl rfl (by assumption) rfl (by first | rfl | assumption)) rfl rfl rfl ?_
      | refine st_op (os_loadL1 (q := 0) tabOk rfl rfl rfl rfl rfl (by assumption) rfl rfl) rfl rfl rfl ?_
    first
      | refine st_op (os_call (ag := [(Operand.tmp 11), (Operand.tmp 13)]) (eqTerm_call (.mk f v ks)) Try.func22 rfl rfl rfl rfl) rfl rfl rfl ?_
      | refine st_op (os_call (ag := [(Operand.tmp 11), (Operand.tmp 13)]) (eqTerm_call (.mk g u ls)) Try.func22 rfl rfl rfl rfl) rfl rfl rfl ?_
    refine st_op (opS_of (opP_not rfl rfl)) rfl rfl rfl ?_
    refine aOps_nil ?_
    refine W_cond rfl (fun hc15 => ?_) (fun hc15 => ?_)
    · simp at hc15
    · refine W_skip ?_
      refine W_seq ?_
      refine W_seq ?_
      refine W_region ?_
      first
        | refine st_op (os_fieldAddrO tabOk rfl rfl rfl (by decide) rfl) rfl rfl rfl ?_
        | refine st_op (os_fieldAddrE tabOk rfl rfl rfl (by decide) rfl) rfl rfl rfl ?_
      first
        | refine st_op (os_loadO1 tabOk rfl rfl rfl rfl rfl rfl) rfl rfl rfl ?_
        | refine st_op (os_loadE1 tabOk rfl rfl rfl rfl rfl) rfl rfl rfl ?_
        | refine st_op (os_loadES tabOk rfl rfl rfl rfl rfl) rfl rfl rfl ?_
        | refine st_op (os_loadOS tabOk rfl rfl rfl rfl rfl (Nat.le_of_ble_eq_true rfl)) rfl rfl rfl ?_
        | refine st_op (os_loadES tabOk rfl rfl rfl rfl (by assumption)) rfl rfl rfl ?_
        | refine st_op (os_loadLS tabOk rfl rfl rfl rfl rfl (by assumption) rfl (by first | rfl | assumption)) rfl rfl rfl ?_
        | refine st_op (os_loadL1 (q := 0) tabOk rfl rfl rfl rfl rfl (by assumption) rfl rfl) rfl rfl rfl ?_
      first
        | refine st_op (os_fieldAddrO tabOk rfl rfl rfl (by decide) rfl) rfl rfl rfl ?_
        | refine st_op (os_fieldAddrE tabOk rfl rfl rfl (by decide) rfl) rfl rfl rfl ?_
      first
        | refine st_op (os_loadO1 tabOk rfl rfl rfl rfl rfl rfl) rfl rfl rfl ?_
        | refine st_op (os_loadE1 tabOk rfl rfl rfl rfl rfl) rfl rfl rfl ?_
        | refine st_op (os_loadES tabOk rfl rfl rfl rfl rfl) rfl rfl rfl ?_
        | refine st_op (os_loadOS tabOk rfl rfl rfl rfl rfl (Nat.le_of_ble_eq_true rfl)) rfl rfl rfl ?_
        | refine st_op (os_loadES tabOk rfl rfl rfl rfl (by assumption)) rfl rfl rfl ?_
        | refine st_op (os_loadLS tabOk rfl rfl rfl rfl rfl (by assumption) rfl (by first | rfl | assumption)) rfl rfl rfl ?_
        | refine st_op (os_loadL1 (q := 0) tabOk rfl rfl rfl rfl rfl (by assumption) rfl rfl) rfl rfl rfl ?_
      first
        | refine st_op (os_call (ag := [(Operand.tmp 17), (Operand.tmp 19)]) (eqTerm_call (.mk f v ks)) Try.func22 rfl rfl rfl rfl) rfl rfl rfl ?_
        | refine st_op (os_call (ag := [(Operand.tmp 17), (Operand.tmp 19)]) (eqTerm_call (.mk g u ls)) Try.func22 rfl rfl rfl rfl) rfl rfl rfl ?_
      refine st_op (opS_of (opP_not rfl rfl)) rfl rfl rfl ?_
      refine aOps_nil ?_
      refine W_cond rfl (fun hc21 => ?_) (fun hc21 => ?_)
      · simp at hc21
      · refine W_skip ?_
        refine W_seq ?_
        refine W_region ?_
        refine st_op (opS_of (opP_assign rfl rfl)) rfl rfl rfl ?_
        refine aOps_nil ?_
        refine W_ret ?_
        refine retE_ret ?_
        exact retOk_tmpE Try.results30 rfl rfl rfl

end AM
end Go.Proofs.Ytfmfflfnkjoopaa
