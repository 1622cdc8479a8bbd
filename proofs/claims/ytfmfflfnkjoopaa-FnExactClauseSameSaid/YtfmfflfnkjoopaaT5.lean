/- The order of literals and its exact law; no conditions. -/
import Derived.Test.YtfmfflfnkjoopaaT4
set_option linter.unusedVariables false
namespace Go.Proofs.Ytfmfflfnkjoopaa
namespace AM
open Go
attribute [local irreducible] aOps awp W OpP OpS ACall RetOk

/-- The order of literals. -/
def Li.cmp (a b : Li) : Int := if a.p = b.p then (if Tm.cmp a.l b.l = 0 then Tm.cmp a.r b.r else Tm.cmp a.l b.l) else if b.p then -1 else 1

set_option maxHeartbeats 4000000 in
theorem compareLits_call (a b : Li) : ACall Try.prog 66 [.dat a.da, .dat b.da] (Z (Li.cmp a b)) [] := by
  obtain ⟨p, ⟨f, v, ks⟩, ⟨g, u, ls⟩⟩ := a
  obtain ⟨p', ⟨f', v', ks'⟩, ⟨g', u', ls'⟩⟩ := b
  refine acall_W Try.func66 rfl _ Try.ntmps66 (Nat.le_of_ble_eq_true rfl) fun w0 S0 => ?_
  refine W_seq ?_
  refine W_region ?_
  refine st_op (os_box rfl rfl rfl rfl rfl) rfl rfl rfl ?_
  refine st_op (os_box rfl rfl rfl rfl rfl) rfl rfl rfl ?_
  refine st_op (opS_of (opP_assign rfl rfl)) rfl rfl rfl ?_
  refine aOps_nil ?_
  refine W_seq ?_
  refine W_block ?_
  refine W_seq ?_
  refine W_region ?_
  first
    | refine st_op (os_fieldAddrO tabOk rfl rfl rfl (by decide) rfl) rfl rfl rfl ?_
    | refine st_op (os_fieldAddrE tabOk rfl rfl rfl (by decide) rfl) rfl rfl rfl ?_
  first
    | refine st_op (os_loadO1 tabOk rfl rfl rfl rfl rfl rfl) rfl rfl rfl ?_
    | refine st_op (os_loadE1 tabOk rfl rfl rfl rfl rfl) rfl rfl rfl ?_
    | refine st_op (os_loadES tabOk rfl rfl rfl rfl rfl) rfl rfl rfl ?_
    | refine st_op (os_loadOS tabOk rfl rfl rfl rfl rfl (Nat.le_of_ble_eq_true rfl)) rfl rfl rfl ?_
    | refine st_op (os_loadES tabOk rfl rfl rfl rfl (by assumption)) rfl rfl rfl ?_
    | refine st_op (os_loadLS tabOk rfl rfl rfl rfl rfl (by assumption) rfl (by first | rfl | assumption)) rfl rfl rfl ?_
    | refine st_op (os_loadL1 (q := 0) tabOk rfl rfl rfl rfl rfl (by assumption) rfl rfl) rfl rfl rfl ?_
  refine st_op (opS_of (opP_not rfl rfl)) rfl rfl rfl ?_
  refine st_op (opS_of (opP_move rfl rfl)) rfl rfl rfl ?_
  refine st_gsplit rfl rfl rfl (fun hb10 => ?_) (fun hb10 => ?_)
  · first
      | refine st_run (os_fieldAddrO tabOk rfl rfl rfl (by decide) rfl) rfl rfl rfl rfl rfl ?_
      | refine st_run (os_fieldAddrE tabOk rfl rfl rfl (by decide) rfl) rfl rfl rfl rfl rfl ?_
    first
      | refine st_run (os_loadO1 tabOk rfl rfl rfl rfl rfl rfl) rfl rfl rfl rfl rfl ?_
      | refine st_run (os_loadE1 tabOk rfl rfl rfl rfl rfl) rfl rfl rfl rfl rfl ?_
      | refine st_run (os_loadES tabOk rfl rfl rfl rfl rfl) rfl rfl rfl rfl rfl ?_
      | refine st_run (os_loadOS tabOk rfl rfl rfl rfl rfl (Nat.le_of_ble_eq_true rfl)) rfl rfl rfl rfl rfl ?_
      | refine st_run (os_loadES tabOk rfl rfl rfl rfl (by assumption)) rfl rfl rfl rfl rfl ?_
      | refine st_run (os_loadLS tabOk rfl rfl rfl rfl rfl (by assumption) rfl (by first | rfl | assumption)) rfl rfl rfl rfl rfl ?_
      | refine st_run (os_loadL1 (q := 0) tabOk rfl rfl rfl rfl rfl (by assumption) rfl rfl) rfl rfl rfl rfl rfl ?_
    first
      | refine st_op (opS_of (opP_pickA rfl rfl rfl rfl)) rfl rfl rfl ?_
      | refine st_op (opS_of (opP_pickF rfl rfl rfl rfl)) rfl rfl rfl ?_
      | refine st_op (opS_of (opP_pickA rfl rfl (by assumption) rfl)) rfl rfl rfl ?_
      | refine st_op (opS_of (opP_pickF rfl rfl (by assumption) rfl)) rfl rfl rfl ?_
    refine st_op (opS_of (opP_assign rfl rfl)) rfl rfl rfl ?_
    refine aOps_nil ?_
    refine W_cond rfl (fun hc6 => ?_) (fun hc6 => ?_)
    · refine W_seq ?_
      refine W_region ?_
      refine st_op (opS_of (opP_assign rfl rfl)) rfl rfl rfl ?_
      refine aOps_nil ?_
      refine W_ret ?_
      refine blockE_ret ?_
      refine retE_ret ?_
      refine retOk_tmpE Try.results66 rfl (congrArg Z ?_) rfl
      cases p <;> cases p' <;> simp_all [Li.cmp]
    · refine W_seq ?_
      refine W_region ?_
      first
        | refine st_op (os_fieldAddrO tabOk rfl rfl rfl (by decide) rfl) rfl rfl rfl ?_
        | refine st_op (os_fieldAddrE tabOk rfl rfl rfl (by decide) rfl) rfl rfl rfl ?_
      first
        | refine st_op (os_loadO1 tabOk rfl rfl rfl rfl rfl rfl) rfl rfl rfl ?_
        | refine st_op (os_loadE1 tabOk rfl rfl rfl rfl rfl) rfl rfl rfl ?_
        | refine st_op (os_loadES tabOk rfl rfl rfl rfl rfl) rfl rfl rfl ?_
        | refine st_op (os_loadOS tabOk rfl rfl rfl rfl rfl (Nat.le_of_ble_eq_true rfl)) rfl rfl rfl ?_
        | refine st_op (os_loadES tabOk rfl rfl rfl rfl (by assumption)) rfl rfl rfl ?_
        | refine st_op (os_loadLS tabOk rfl rfl rfl rfl rfl (by assumption) rfl (by first | rfl | assumption)) rfl rfl rfl ?_
        | refine st_op (os_loadL1 (q := 0) tabOk rfl rfl rfl rfl rfl (by assumption) rfl rfl) rfl rfl rfl ?_
      refine st_op (opS_of (opP_move rfl rfl)) rfl rfl rfl ?_
      refine st_gsplit rfl rfl rfl (fun hb17 => ?_) (fun hb17 => ?_)
      · first
          | refine st_run (os_fieldAddrO tabOk rfl rfl rfl (by decide) rfl) rfl rfl rfl rfl rfl ?_
          | refine st_run (os_fieldAddrE tabOk rfl rfl rfl (by decide) rfl) rfl rfl rfl rfl rfl ?_
        first
          | refine st_run (os_loadO1 tabOk rfl rfl rfl rfl rfl rfl) rfl rfl rfl rfl rfl ?_
          | refine st_run (os_loadE1 tabOk rfl rfl rfl rfl rfl) rfl rfl rfl rfl rfl ?_
          | refine st_run (os_loadES tabOk rfl rfl rfl rfl rfl) rfl rfl rfl rfl rfl ?_
          | refine st_run (os_loadOS tabOk rfl rfl rfl rfl rfl (Nat.le_of_ble_eq_true rfl)) rfl rfl rfl rfl rfl ?_
          | refine st_run (os_loadES tabOk rfl rfl rfl rfl (by assumption)) rfl rfl rfl rfl rfl ?_
          | refine st_run (os_loadLS tabOk rfl rfl rfl rfl rfl (by assumption) rfl (by first | rfl | assumption)) rfl rfl rfl rfl rfl ?_
          | refine st_run (os_loadL1 (q := 0) tabOk rfl rfl rfl rfl rfl (by assumption) rfl rfl) rfl rfl rfl rfl rfl ?_
        refine st_run (opS_of (opP_not rfl rfl)) rfl rfl rfl rfl rfl ?_
        first
          | refine st_op (opS_of (opP_pickA rfl rfl rfl rfl)) rfl rfl rfl ?_
          | refine st_op (opS_of (opP_pickF rfl rfl rfl rfl)) rfl rfl rfl ?_
          | refine st_op (opS_of (opP_pickA rfl rfl (by assumption) rfl)) rfl rfl rfl ?_
          | refine st_op (opS_of (opP_pickF rfl rfl (by assumption) rfl)) rfl rfl rfl ?_
        refine st_op (opS_of (opP_assign rfl rfl)) rfl rfl rfl ?_
        refine aOps_nil ?_
        refine W_cond rfl (fun hc14 => ?_) (fun hc14 => ?_)
        · refine W_seq ?_
          refine W_region ?_
          refine st_op (opS_of (opP_assign rfl rfl)) rfl rfl rfl ?_
          refine aOps_nil ?_
          refine W_ret ?_
          refine blockE_ret ?_
          refine retE_ret ?_
          refine retOk_tmpE Try.results66 rfl (congrArg Z ?_) rfl
          cases p <;> cases p' <;> simp_all [Li.cmp]
        · refine W_skip ?_
          refine W_seq ?_
          refine W_seq ?_
          refine W_region ?_
          first
            | refine st_op (os_fieldAddrO tabOk rfl rfl rfl (by decide) rfl) rfl rfl rfl ?_
            | refine st_op (os_fieldAddrE tabOk rfl rfl rfl (by decide) rfl) rfl rfl rfl ?_
          first
            | refine st_op (os_loadO1 tabOk rfl rfl rfl rfl rfl rfl) rfl rfl rfl ?_
            | refine st_op (os_loadE1 tabOk rfl rfl rfl rfl rfl) rfl rfl rfl ?_
            | refine st_op (os_loadES tabOk rfl rfl rfl rfl rfl) rfl rfl rfl ?_
            | refine st_op (os_loadOS tabOk rfl rfl rfl rfl rfl (Nat.le_of_ble_eq_true rfl)) rfl rfl rfl ?_
            | refine st_op (os_loadES tabOk rfl rfl rfl rfl (by assumption)) rfl rfl rfl ?_
            | refine st_op (os_loadLS tabOk rfl rfl rfl rfl rfl (by assumption) rfl (by first | rfl | assumption)) rfl rfl rfl ?_
            | refine st_op (os_loadL1 (q := 0) tabOk rfl rfl rfl rfl rfl (by assumption) rfl rfl) rfl rfl rfl ?_
          first
            | refine st_op (os_fieldAddrO tabOk rfl rfl rfl (by decide) rfl) rfl rfl rfl ?_
            | refine st_op (os_fieldAddrE tabOk rfl rfl rfl (by decide) rfl) rfl rfl rfl ?_
          first
            | refine st_op (os_loadO1 tabOk rfl rfl rfl rfl rfl rfl) rfl rfl rfl ?_
            | refine st_op (os_loadE1 tabOk rfl rfl rfl rfl rfl) rfl rfl rfl ?_
            | refine st_op (os_loadES tabOk rfl rfl rfl rfl rfl) rfl rfl rfl ?_
            | refine st_op (os_loadOS tabOk rfl rfl rfl rfl rfl (Nat.le_of_ble_eq_true rfl)) rfl rfl rfl ?_
            | refine st_op (os_loadES tabOk rfl rfl rfl rfl (by assumption)) rfl rfl rfl ?_
            | refine st_op (os_loadLS tabOk rfl rfl rfl rfl rfl (by assumption) rfl (by first | rfl | assumption)) rfl rfl rfl ?_
            | refine st_op (os_loadL1 (q := 0) tabOk rfl rfl rfl rfl rfl (by assumption) rfl rfl) rfl rfl rfl ?_
          first
            | refine st_op (os_call (ag := [(Operand.tmp 23), (Operand.tmp 25)]) (compare_call (.mk f v ks) (.mk f' v' ks')) Try.func90 rfl rfl rfl rfl) rfl rfl rfl ?_
            | refine st_op (os_call (ag := [(Operand.tmp 23), (Operand.tmp 25)]) (compare_call (.mk g u ls) (.mk g' u' ls')) Try.func90 rfl rfl rfl rfl) rfl rfl rfl ?_
          refine st_op (opS_of (opP_assign rfl rfl)) rfl rfl rfl ?_
          refine aOps_nil ?_
          refine W_seq ?_
          refine W_region ?_
          refine st_op (opS_of (opP_move rfl rfl)) rfl rfl rfl ?_
          first
            | refine st_op (opS_of (opP_neq rfl rfl rfl)) rfl rfl rfl ?_
            | refine st_op (opS_of (opP_strNe rfl rfl rfl)) rfl rfl rfl ?_
            | refine st_op (os_boolNe tabOk rfl rfl rfl rfl rfl) rfl rfl rfl ?_
          refine aOps_nil ?_
          refine W_cond rfl (fun hc28 => ?_) (fun hc28 => ?_)
          · refine W_seq ?_
            refine W_region ?_
            refine st_op (opS_of (opP_move rfl rfl)) rfl rfl rfl ?_
            refine st_op (opS_of (opP_assign rfl rfl)) rfl rfl rfl ?_
            refine aOps_nil ?_
            refine W_ret ?_
            refine retE_ret ?_
            refine retOk_tmpE Try.results66 rfl (congrArg Z ?_) rfl
            cases p <;> cases p' <;> simp_all [Li.cmp]
          · refine W_skip ?_
            refine W_seq ?_
            refine W_region ?_
            first
              | refine st_op (os_fieldAddrO tabOk rfl rfl rfl (by decide) rfl) rfl rfl rfl ?_
              | refine st_op (os_fieldAddrE tabOk rfl rfl rfl (by decide) rfl) rfl rfl rfl ?_
            first
              | refine st_op (os_loadO1 tabOk rfl rfl rfl rfl rfl rfl) rfl rfl rfl ?_
              | refine st_op (os_loadE1 tabOk rfl rfl rfl rfl rfl) rfl rfl rfl ?_
              | refine st_op (os_loadES tabOk rfl rfl rfl rfl rfl) rfl rfl rfl ?_
              | refine st_op (os_loadOS tabOk rfl rfl rfl rfl rfl (Nat.le_of_ble_eq_true rfl)) rfl rfl rfl ?_
              | refine st_op (os_loadES tabOk rfl rfl rfl rfl (by assumption)) rfl rfl rfl ?_
              | refine st_op (os_loadLS tabOk rfl rfl rfl rfl rfl (by assumption) rfl (by first | rfl | assumption)) rfl rfl rfl ?_
              | refine st_op (os_loadL1 (q := 0) tabOk rfl rfl rfl rfl rfl (by assumption) rfl rfl) rfl rfl rfl ?_
            first
              | refine st_op (os_fieldAddrO tabOk rfl rfl rfl (by decide) rfl) rfl rfl rfl ?_
              | refine st_op (os_fieldAddrE tabOk rfl rfl rfl (by decide) rfl) rfl rfl rfl ?_
            first
              | refine st_op (os_loadO1 tabOk rfl rfl rfl rfl rfl rfl) rfl rfl rfl ?_
              | refine st_op (os_loadE1 tabOk rfl rfl rfl rfl rfl) rfl rfl rfl ?_
              | refine st_op (os_loadES tabOk rfl rfl rfl rfl rfl) rfl rfl rfl ?_
              | refine st_op (os_loadOS tabOk rfl rfl rfl rfl rfl (Nat.le_of_ble_eq_true rfl)) rfl rfl rfl ?_
              | refine st_op (os_loadES tabOk rfl rfl rfl rfl (by assumption)) rfl rfl rfl ?_
              | refine st_op (os_loadLS tabOk rfl rfl rfl rfl rfl (by assumption) rfl (by first | rfl | assumption)) rfl rfl rfl ?_
              | refine st_op (os_loadL1 (q := 0) tabOk rfl rfl rfl rfl rfl (by assumption) rfl rfl) rfl rfl rfl ?_
            first
              | refine st_op (os_call (ag := [(Operand.tmp 31), (Operand.tmp 33)]) (compare_call (.mk f v ks) (.mk f' v' ks')) Try.func90 rfl rfl rfl rfl) rfl rfl rfl ?_
              | refine st_op (os_call (ag := [(Operand.tmp 31), (Operand.tmp 33)]) (compare_call (.mk g u ls) (.mk g' u' ls')) Try.func90 rfl rfl rfl rfl) rfl rfl rfl ?_
            refine st_op (opS_of (opP_assign rfl rfl)) rfl rfl rfl ?_
            refine aOps_nil ?_
            refine W_ret ?_
            refine retE_ret ?_
            refine retOk_tmpE Try.results66 rfl (congrArg Z ?_) rfl
            cases p <;> cases p' <;> simp_all [Li.cmp]
      · refine st_skip rfl rfl rfl rfl ?_
        refine st_skip rfl rfl rfl rfl ?_
        refine st_skip rfl rfl rfl rfl ?_
        first
          | refine st_op (opS_of (opP_pickA rfl rfl rfl rfl)) rfl rfl rfl ?_
          | refine st_op (opS_of (opP_pickF rfl rfl rfl rfl)) rfl rfl rfl ?_
          | refine st_op (opS_of (opP_pickA rfl rfl (by assumption) rfl)) rfl rfl rfl ?_
          | refine st_op (opS_of (opP_pickF rfl rfl (by assumption) rfl)) rfl rfl rfl ?_
        refine st_op (opS_of (opP_assign rfl rfl)) rfl rfl rfl ?_
        refine aOps_nil ?_
        refine W_cond rfl (fun hc14 => ?_) (fun hc14 => ?_)
        · refine W_seq ?_
          refine W_region ?_
          refine st_op (opS_of (opP_assign rfl rfl)) rfl rfl rfl ?_
          refine aOps_nil ?_
          refine W_ret ?_
          refine blockE_ret ?_
          refine retE_ret ?_
          refine retOk_tmpE Try.results66 rfl (congrArg Z ?_) rfl
          cases p <;> cases p' <;> simp_all [Li.cmp]
        · refine W_skip ?_
          refine W_seq ?_
          refine W_seq ?_
          refine W_region ?_
          first
            | refine st_op (os_fieldAddrO tabOk rfl rfl rfl (by decide) rfl) rfl rfl rfl ?_
            | refine st_op (os_fieldAddrE tabOk rfl rfl rfl (by decide) rfl) rfl rfl rfl ?_
          first
            | refine st_op (os_loadO1 tabOk rfl rfl rfl rfl rfl rfl) rfl rfl rfl ?_
            | refine st_op (os_loadE1 tabOk rfl rfl rfl rfl rfl) rfl rfl rfl ?_
            | refine st_op (os_loadES tabOk rfl rfl rfl rfl rfl) rfl rfl rfl ?_
            | refine st_op (os_loadOS tabOk rfl rfl rfl rfl rfl (Nat.le_of_ble_eq_true rfl)) rfl rfl rfl ?_
            | refine st_op (os_loadES tabOk rfl rfl rfl rfl (by assumption)) rfl rfl rfl ?_
            | refine st_op (os_loadLS tabOk rfl rfl rfl rfl rfl (by assumption) rfl (by first | rfl | assumption)) rfl rfl rfl ?_
            | refine st_op (os_loadL1 (q := 0) tabOk rfl rfl rfl rfl rfl (by assumption) rfl rfl) rfl rfl rfl ?_
          first
            | refine st_op (os_fieldAddrO tabOk rfl rfl rfl (by decide) rfl) rfl rfl rfl ?_
            | refine st_op (os_fieldAddrE tabOk rfl rfl rfl (by decide) rfl) rfl rfl rfl ?_
          first
            | refine st_op (os_loadO1 tabOk rfl rfl rfl rfl rfl rfl) rfl rfl rfl ?_
            | refine st_op (os_loadE1 tabOk rfl rfl rfl rfl rfl) rfl rfl rfl ?_
            | refine st_op (os_loadES tabOk rfl rfl rfl rfl rfl) rfl rfl rfl ?_
            | refine st_op (os_loadOS tabOk rfl rfl rfl rfl rfl (Nat.le_of_ble_eq_true rfl)) rfl rfl rfl ?_
            | refine st_op (os_loadES tabOk rfl rfl rfl rfl (by assumption)) rfl rfl rfl ?_
            | refine st_op (os_loadLS tabOk rfl rfl rfl rfl rfl (by assumption) rfl (by first | rfl | assumption)) rfl rfl rfl ?_
            | refine st_op (os_loadL1 (q := 0) tabOk rfl rfl rfl rfl rfl (by assumption) rfl rfl) rfl rfl rfl ?_
          first
            | refine st_op (os_call (ag := [(Operand.tmp 23), (Operand.tmp 25)]) (compare_call (.mk f v ks) (.mk f' v' ks')) Try.func90 rfl rfl rfl rfl) rfl rfl rfl ?_
            | refine st_op (os_call (ag := [(Operand.tmp 23), (Operand.tmp 25)]) (compare_call (.mk g u ls) (.mk g' u' ls')) Try.func90 rfl rfl rfl rfl) rfl rfl rfl ?_
          refine st_op (opS_of (opP_assign rfl rfl)) rfl rfl rfl ?_
          refine aOps_nil ?_
          refine W_seq ?_
          refine W_region ?_
          refine st_op (opS_of (opP_move rfl rfl)) rfl rfl rfl ?_
          first
            | refine st_op (opS_of (opP_neq rfl rfl rfl)) rfl rfl rfl ?_
            | refine st_op (opS_of (opP_strNe rfl rfl rfl)) rfl rfl rfl ?_
            | refine st_op (os_boolNe tabOk rfl rfl rfl rfl rfl) rfl rfl rfl ?_
          refine aOps_nil ?_
          refine W_cond rfl (fun hc28 => ?_) (fun hc28 => ?_)
          · refine W_seq ?_
            refine W_region ?_
            refine st_op (opS_of (opP_move rfl rfl)) rfl rfl rfl ?_
            refine st_op (opS_of (opP_assign rfl rfl)) rfl rfl rfl ?_
            refine aOps_nil ?_
            refine W_ret ?_
            refine retE_ret ?_
            refine retOk_tmpE Try.results66 rfl (congrArg Z ?_) rfl
            cases p <;> cases p' <;> simp_all [Li.cmp]
          · refine W_skip ?_
            refine W_seq ?_
            refine W_region ?_
            first
              | refine st_op (os_fieldAddrO tabOk rfl rfl rfl (by decide) rfl) rfl rfl rfl ?_
              | refine st_op (os_fieldAddrE tabOk rfl rfl rfl (by decide) rfl) rfl rfl rfl ?_
            first
              | refine st_op (os_loadO1 tabOk rfl rfl rfl rfl rfl rfl) rfl rfl rfl ?_
              | refine st_op (os_loadE1 tabOk rfl rfl rfl rfl rfl) rfl rfl rfl ?_
              | refine st_op (os_loadES tabOk rfl rfl rfl rfl rfl) rfl rfl rfl ?_
              | refine st_op (os_loadOS tabOk rfl rfl rfl rfl rfl (Nat.le_of_ble_eq_true rfl)) rfl rfl rfl ?_
              | refine st_op (os_loadES tabOk rfl rfl rfl rfl (by assumption)) rfl rfl rfl ?_
              | refine st_op (os_loadLS tabOk rfl rfl rfl rfl rfl (by assumption) rfl (by first | rfl | assumption)) rfl rfl rfl ?_
              | refine st_op (os_loadL1 (q := 0) tabOk rfl rfl rfl rfl rfl (by assumption) rfl rfl) rfl rfl rfl ?_
            first
              | refine st_op (os_fieldAddrO tabOk rfl rfl rfl (by decide) rfl) rfl rfl rfl ?_
              | refine st_op (os_fieldAddrE tabOk rfl rfl rfl (by decide) rfl) rfl rfl rfl ?_
            first
              | refine st_op (os_loadO1 tabOk rfl rfl rfl rfl rfl rfl) rfl rfl rfl ?_
              | refine st_op (os_loadE1 tabOk rfl rfl rfl rfl rfl) rfl rfl rfl ?_
              | refine st_op (os_loadES tabOk rfl rfl rfl rfl rfl) rfl rfl rfl ?_
              | refine st_op (os_loadOS tabOk rfl rfl rfl rfl rfl (Nat.le_of_ble_eq_true rfl)) rfl rfl rfl ?_
              | refine st_op (os_loadES tabOk rfl rfl rfl rfl (by assumption)) rfl rfl rfl ?_
              | refine st_op (os_loadLS tabOk rfl rfl rfl rfl rfl (by assumption) rfl (by first | rfl | assumption)) rfl rfl rfl ?_
              | refine st_op (os_loadL1 (q := 0) tabOk rfl rfl rfl rfl rfl (by assumption) rfl rfl) rfl rfl rfl ?_
            first
              | refine st_op (os_call (ag := [(Operand.tmp 31), (Operand.tmp 33)]) (compare_call (.mk f v ks) (.mk f' v' ks')) Try.func90 rfl rfl rfl rfl) rfl rfl rfl ?_
              | refine st_op (os_call (ag := [(Operand.tmp 31), (Operand.tmp 33)]) (compare_call (.mk g u ls) (.mk g' u' ls')) Try.func90 rfl rfl rfl rfl) rfl rfl rfl ?_
            refine st_op (opS_of (opP_assign rfl rfl)) rfl rfl rfl ?_
            refine aOps_nil ?_
            refine W_ret ?_
            refine retE_ret ?_
            refine retOk_tmpE Try.results66 rfl (congrArg Z ?_) rfl
            cases p <;> cases p' <;> simp_all [Li.cmp]
  · refine st_skip rfl rfl rfl rfl ?_
    refine st_skip rfl rfl rfl rfl ?_
    first
      | refine st_op (opS_of (opP_pickA rfl rfl rfl rfl)) rfl rfl rfl ?_
      | refine st_op (opS_of (opP_pickF rfl rfl rfl rfl)) rfl rfl rfl ?_
      | refine st_op (opS_of (opP_pickA rfl rfl (by assumption) rfl)) rfl rfl rfl ?_
      | refine st_op (opS_of (opP_pickF rfl rfl (by assumption) rfl)) rfl rfl rfl ?_
    refine st_op (opS_of (opP_assign rfl rfl)) rfl rfl rfl ?_
    refine aOps_nil ?_
    refine W_cond rfl (fun hc6 => ?_) (fun hc6 => ?_)
    · refine W_seq ?_
      refine W_region ?_
      refine st_op (opS_of (opP_assign rfl rfl)) rfl rfl rfl ?_
      refine aOps_nil ?_
      refine W_ret ?_
      refine blockE_ret ?_
      refine retE_ret ?_
      refine retOk_tmpE Try.results66 rfl (congrArg Z ?_) rfl
      cases p <;> cases p' <;> simp_all [Li.cmp]
    · refine W_seq ?_
      refine W_region ?_
      first
        | refine st_op (os_fieldAddrO tabOk rfl rfl rfl (by decide) rfl) rfl rfl rfl ?_
        | refine st_op (os_fieldAddrE tabOk rfl rfl rfl (by decide) rfl) rfl rfl rfl ?_
      first
        | refine st_op (os_loadO1 tabOk rfl rfl rfl rfl rfl rfl) rfl rfl rfl ?_
        | refine st_op (os_loadE1 tabOk rfl rfl rfl rfl rfl) rfl rfl rfl ?_
        | refine st_op (os_loadES tabOk rfl rfl rfl rfl rfl) rfl rfl rfl ?_
        | refine st_op (os_loadOS tabOk rfl rfl rfl rfl rfl (Nat.le_of_ble_eq_true rfl)) rfl rfl rfl ?_
        | refine st_op (os_loadES tabOk rfl rfl rfl rfl (by assumption)) rfl rfl rfl ?_
        | refine st_op (os_loadLS tabOk rfl rfl rfl rfl rfl (by assumption) rfl (by first | rfl | assumption)) rfl rfl rfl ?_
        | refine st_op (os_loadL1 (q := 0) tabOk rfl rfl rfl rfl rfl (by assumption) rfl rfl) rfl rfl rfl ?_
      refine st_op (opS_of (opP_move rfl rfl)) rfl rfl rfl ?_
      refine st_gsplit rfl rfl rfl (fun hb17 => ?_) (fun hb17 => ?_)
      · first
          | refine st_run (os_fieldAddrO tabOk rfl rfl rfl (by decide) rfl) rfl rfl rfl rfl rfl ?_
          | refine st_run (os_fieldAddrE tabOk rfl rfl rfl (by decide) rfl) rfl rfl rfl rfl rfl ?_
        first
          | refine st_run (os_loadO1 tabOk rfl rfl rfl rfl rfl rfl) rfl rfl rfl rfl rfl ?_
          | refine st_run (os_loadE1 tabOk rfl rfl rfl rfl rfl) rfl rfl rfl rfl rfl ?_
          | refine st_run (os_loadES tabOk rfl rfl rfl rfl rfl) rfl rfl rfl rfl rfl ?_
          | refine st_run (os_loadOS tabOk rfl rfl rfl rfl rfl (Nat.le_of_ble_eq_true rfl)) rfl rfl rfl rfl rfl ?_
          | refine st_run (os_loadES tabOk rfl rfl rfl rfl (by assumption)) rfl rfl rfl rfl rfl ?_
          | refine st_run (os_loadLS tabOk rfl rfl rfl rfl rfl (by assumption) rfl (by first | rfl | assumption)) rfl rfl rfl rfl rfl ?_
          | refine st_run (os_loadL1 (q := 0) tabOk rfl rfl rfl rfl rfl (by assumption) rfl rfl) rfl rfl rfl rfl rfl ?_
        refine st_run (opS_of (opP_not rfl rfl)) rfl rfl rfl rfl rfl ?_
        first
          | refine st_op (opS_of (opP_pickA rfl rfl rfl rfl)) rfl rfl rfl ?_
          | refine st_op (opS_of (opP_pickF rfl rfl rfl rfl)) rfl rfl rfl ?_
          | refine st_op (opS_of (opP_pickA rfl rfl (by assumption) rfl)) rfl rfl rfl ?_
          | refine st_op (opS_of (opP_pickF rfl rfl (by assumption) rfl)) rfl rfl rfl ?_
        refine st_op (opS_of (opP_assign rfl rfl)) rfl rfl rfl ?_
        refine aOps_nil ?_
        refine W_cond rfl (fun hc14 => ?_) (fun hc14 => ?_)
        · refine W_seq ?_
          refine W_region ?_
          refine st_op (opS_of (opP_assign rfl rfl)) rfl rfl rfl ?_
          refine aOps_nil ?_
          refine W_ret ?_
          refine blockE_ret ?_
          refine retE_ret ?_
          refine retOk_tmpE Try.results66 rfl (congrArg Z ?_) rfl
          cases p <;> cases p' <;> simp_all [Li.cmp]
        · refine W_skip ?_
          refine W_seq ?_
          refine W_seq ?_
          refine W_region ?_
          first
            | refine st_op (os_fieldAddrO tabOk rfl rfl rfl (by decide) rfl) rfl rfl rfl ?_
            | refine st_op (os_fieldAddrE tabOk rfl rfl rfl (by decide) rfl) rfl rfl rfl ?_
          first
            | refine st_op (os_loadO1 tabOk rfl rfl rfl rfl rfl rfl) rfl rfl rfl ?_
            | refine st_op (os_loadE1 tabOk rfl rfl rfl rfl rfl) rfl rfl rfl ?_
            | refine st_op (os_loadES tabOk rfl rfl rfl rfl rfl) rfl rfl rfl ?_
            | refine st_op (os_loadOS tabOk rfl rfl rfl rfl rfl (Nat.le_of_ble_eq_true rfl)) rfl rfl rfl ?_
            | refine st_op (os_loadES tabOk rfl rfl rfl rfl (by assumption)) rfl rfl rfl ?_
            | refine st_op (os_loadLS tabOk rfl rfl rfl rfl rfl (by assumption) rfl (by first | rfl | assumption)) rfl rfl rfl ?_
            | refine st_op (os_loadL1 (q := 0) tabOk rfl rfl rfl rfl rfl (by assumption) rfl rfl) rfl rfl rfl ?_
          first
            | refine st_op (os_fieldAddrO tabOk rfl rfl rfl (by decide) rfl) rfl rfl rfl ?_
            | refine st_op (os_fieldAddrE tabOk rfl rfl rfl (by decide) rfl) rfl rfl rfl ?_
          first
            | refine st_op (os_loadO1 tabOk rfl rfl rfl rfl rfl rfl) rfl rfl rfl ?_
            | refine st_op (os_loadE1 tabOk rfl rfl rfl rfl rfl) rfl rfl rfl ?_
            | refine st_op (os_loadES tabOk rfl rfl rfl rfl rfl) rfl rfl rfl ?_
            | refine st_op (os_loadOS tabOk rfl rfl rfl rfl rfl (Nat.le_of_ble_eq_true rfl)) rfl rfl rfl ?_
            | refine st_op (os_loadES tabOk rfl rfl rfl rfl (by assumption)) rfl rfl rfl ?_
            | refine st_op (os_loadLS tabOk rfl rfl rfl rfl rfl (by assumption) rfl (by first | rfl | assumption)) rfl rfl rfl ?_
            | refine st_op (os_loadL1 (q := 0) tabOk rfl rfl rfl rfl rfl (by assumption) rfl rfl) rfl rfl rfl ?_
          first
            | refine st_op (os_call (ag := [(Operand.tmp 23), (Operand.tmp 25)]) (compare_call (.mk f v ks) (.mk f' v' ks')) Try.func90 rfl rfl rfl rfl) rfl rfl rfl ?_
            | refine st_op (os_call (ag := [(Operand.tmp 23), (Operand.tmp 25)]) (compare_call (.mk g u ls) (.mk g' u' ls')) Try.func90 rfl rfl rfl rfl) rfl rfl rfl ?_
          refine st_op (opS_of (opP_assign rfl rfl)) rfl rfl rfl ?_
          refine aOps_nil ?_
          refine W_seq ?_
          refine W_region ?_
          refine st_op (opS_of (opP_move rfl rfl)) rfl rfl rfl ?_
          first
            | refine st_op (opS_of (opP_neq rfl rfl rfl)) rfl rfl rfl ?_
            | refine st_op (opS_of (opP_strNe rfl rfl rfl)) rfl rfl rfl ?_
            | refine st_op (os_boolNe tabOk rfl rfl rfl rfl rfl) rfl rfl rfl ?_
          refine aOps_nil ?_
          refine W_cond rfl (fun hc28 => ?_) (fun hc28 => ?_)
          · refine W_seq ?_
            refine W_region ?_
            refine st_op (opS_of (opP_move rfl rfl)) rfl rfl rfl ?_
            refine st_op (opS_of (opP_assign rfl rfl)) rfl rfl rfl ?_
            refine aOps_nil ?_
            refine W_ret ?_
            refine retE_ret ?_
            refine retOk_tmpE Try.results66 rfl (congrArg Z ?_) rfl
            cases p <;> cases p' <;> simp_all [Li.cmp]
          · refine W_skip ?_
            refine W_seq ?_
            refine W_region ?_
            first
              | refine st_op (os_fieldAddrO tabOk rfl rfl rfl (by decide) rfl) rfl rfl rfl ?_
              | refine st_op (os_fieldAddrE tabOk rfl rfl rfl (by decide) rfl) rfl rfl rfl ?_
            first
              | refine st_op (os_loadO1 tabOk rfl rfl rfl rfl rfl rfl) rfl rfl rfl ?_
              | refine st_op (os_loadE1 tabOk rfl rfl rfl rfl rfl) rfl rfl rfl ?_
              | refine st_op (os_loadES tabOk rfl rfl rfl rfl rfl) rfl rfl rfl ?_
              | refine st_op (os_loadOS tabOk rfl rfl rfl rfl rfl (Nat.le_of_ble_eq_true rfl)) rfl rfl rfl ?_
              | refine st_op (os_loadES tabOk rfl rfl rfl rfl (by assumption)) rfl rfl rfl ?_
              | refine st_op (os_loadLS tabOk rfl rfl rfl rfl rfl (by assumption) rfl (by first | rfl | assumption)) rfl rfl rfl ?_
              | refine st_op (os_loadL1 (q := 0) tabOk rfl rfl rfl rfl rfl (by assumption) rfl rfl) rfl rfl rfl ?_
            first
              | refine st_op (os_fieldAddrO tabOk rfl rfl rfl (by decide) rfl) rfl rfl rfl ?_
              | refine st_op (os_fieldAddrE tabOk rfl rfl rfl (by decide) rfl) rfl rfl rfl ?_
            first
              | refine st_op (os_loadO1 tabOk rfl rfl rfl rfl rfl rfl) rfl rfl rfl ?_
              | refine st_op (os_loadE1 tabOk rfl rfl rfl rfl rfl) rfl rfl rfl ?_
              | refine st_op (os_loadES tabOk rfl rfl rfl rfl rfl) rfl rfl rfl ?_
              | refine st_op (os_loadOS tabOk rfl rfl rfl rfl rfl (Nat.le_of_ble_eq_true rfl)) rfl rfl rfl ?_
              | refine st_op (os_loadES tabOk rfl rfl rfl rfl (by assumption)) rfl rfl rfl ?_
              | refine st_op (os_loadLS tabOk rfl rfl rfl rfl rfl (by assumption) rfl (by first | rfl | assumption)) rfl rfl rfl ?_
              | refine st_op (os_loadL1 (q := 0) tabOk rfl rfl rfl rfl rfl (by assumption) rfl rfl) rfl rfl rfl ?_
            first
              | refine st_op (os_call (ag := [(Operand.tmp 31), (Operand.tmp 33)]) (compare_call (.mk f v ks) (.mk f' v' ks')) Try.func90 rfl rfl rfl rfl) rfl rfl rfl ?_
              | refine st_op (os_call (ag := [(Operand.tmp 31), (Operand.tmp 33)]) (compare_call (.mk g u ls) (.mk g' u' ls')) Try.func90 rfl rfl rfl rfl) rfl rfl rfl ?_
            refine st_op (opS_of (opP_assign rfl rfl)) rfl rfl rfl ?_
            refine aOps_nil ?_
            refine W_ret ?_
            refine retE_ret ?_
            refine retOk_tmpE Try.results66 rfl (congrArg Z ?_) rfl
            cases p <;> cases p' <;> simp_all [Li.cmp]
      · refine st_skip rfl rfl rfl rfl ?_
        refine st_skip rfl rfl rfl rfl ?_
        refine st_skip rfl rfl rfl rfl ?_
        first
          | refine st_op (opS_of (opP_pickA rfl rfl rfl rfl)) rfl rfl rfl ?_
          | refine st_op (opS_of (opP_pickF rfl rfl rfl rfl)) rfl rfl rfl ?_
          | refine st_op (opS_of (opP_pickA rfl rfl (by assumption) rfl)) rfl rfl rfl ?_
          | refine st_op (opS_of (opP_pickF rfl rfl (by assumption) rfl)) rfl rfl rfl ?_
        refine st_op (opS_of (opP_assign rfl rfl)) rfl rfl rfl ?_
        refine aOps_nil ?_
        refine W_cond rfl (fun hc14 => ?_) (fun hc14 => ?_)
        · refine W_seq ?_
          refine W_region ?_
          refine st_op (opS_of (opP_assign rfl rfl)) rfl rfl rfl ?_
          refine aOps_nil ?_
          refine W_ret ?_
          refine blockE_ret ?_
          refine retE_ret ?_
          refine retOk_tmpE Try.results66 rfl (congrArg Z ?_) rfl
          cases p <;> cases p' <;> simp_all [Li.cmp]
        · refine W_skip ?_
          refine W_seq ?_
          refine W_seq ?_
          refine W_region ?_
          first
            | refine st_op (os_fieldAddrO tabOk rfl rfl rfl (by decide) rfl) rfl rfl rfl ?_
            | refine st_op (os_fieldAddrE tabOk rfl rfl rfl (by decide) rfl) rfl rfl rfl ?_
          first
            | refine st_op (os_loadO1 tabOk rfl rfl rfl rfl rfl rfl) rfl rfl rfl ?_
            | refine st_op (os_loadE1 tabOk rfl rfl rfl rfl rfl) rfl rfl rfl ?_
            | refine st_op (os_loadES tabOk rfl rfl rfl rfl rfl) rfl rfl rfl ?_
            | refine st_op (os_loadOS tabOk rfl rfl rfl rfl rfl (Nat.le_of_ble_eq_true rfl)) rfl rfl rfl ?_
            | refine st_op (os_loadES tabOk rfl rfl rfl rfl (by assumption)) rfl rfl rfl ?_
            | refine st_op (os_loadLS tabOk rfl rfl rfl rfl rfl (by assumption) rfl (by first | rfl | assumption)) rfl rfl rfl ?_
            | refine st_op (os_loadL1 (q := 0) tabOk rfl rfl rfl rfl rfl (by assumption) rfl rfl) rfl rfl rfl ?_
          first
            | refine st_op (os_fieldAddrO tabOk rfl rfl rfl (by decide) rfl) rfl rfl rfl ?_
            | refine st_op (os_fieldAddrE tabOk rfl rfl rfl (by decide) rfl) rfl rfl rfl ?_
          first
            | refine st_op (os_loadO1 tabOk rfl rfl rfl rfl rfl rfl) rfl rfl rfl ?_
            | refine st_op (os_loadE1 tabOk rfl rfl rfl rfl rfl) rfl rfl rfl ?_
            | refine st_op (os_loadES tabOk rfl rfl rfl rfl rfl) rfl rfl rfl ?_
            | refine st_op (os_loadOS tabOk rfl rfl rfl rfl rfl (Nat.le_of_ble_eq_true rfl)) rfl rfl rfl ?_
            | refine st_op (os_loadES tabOk rfl rfl rfl rfl (by assumption)) rfl rfl rfl ?_
            | refine st_op (os_loadLS tabOk rfl rfl rfl rfl rfl (by assumption) rfl (by first | rfl | assumption)) rfl rfl rfl ?_
            | refine st_op (os_loadL1 (q := 0) tabOk rfl rfl rfl rfl rfl (by assumption) rfl rfl) rfl rfl rfl ?_
          first
            | refine st_op (os_call (ag := [(Operand.tmp 23), (Operand.tmp 25)]) (compare_call (.mk f v ks) (.mk f' v' ks')) Try.func90 rfl rfl rfl rfl) rfl rfl rfl ?_
            | refine st_op (os_call (ag := [(Operand.tmp 23), (Operand.tmp 25)]) (compare_call (.mk g u ls) (.mk g' u' ls')) Try.func90 rfl rfl rfl rfl) rfl rfl rfl ?_
          refine st_op (opS_of (opP_assign rfl rfl)) rfl rfl rfl ?_
          refine aOps_nil ?_
          refine W_seq ?_
          refine W_region ?_
          refine st_op (opS_of (opP_move rfl rfl)) rfl rfl rfl ?_
          first
            | refine st_op (opS_of (opP_neq rfl rfl rfl)) rfl rfl rfl ?_
            | refine st_op (opS_of (opP_strNe rfl rfl rfl)) rfl rfl rfl ?_
            | refine st_op (os_boolNe tabOk rfl rfl rfl rfl rfl) rfl rfl rfl ?_
          refine aOps_nil ?_
          refine W_cond rfl (fun hc28 => ?_) (fun hc28 => ?_)
          · refine W_seq ?_
            refine W_region ?_
            refine st_op (opS_of (opP_move rfl rfl)) rfl rfl rfl ?_
            refine st_op (opS_of (opP_assign rfl rfl)) rfl rfl rfl ?_
            refine aOps_nil ?_
            refine W_ret ?_
            refine retE_ret ?_
            refine retOk_tmpE Try.results66 rfl (congrArg Z ?_) rfl
            cases p <;> cases p' <;> simp_all [Li.cmp]
          · refine W_skip ?_
            refine W_seq ?_
            refine W_region ?_
            first
              | refine st_op (os_fieldAddrO tabOk rfl rfl rfl (by decide) rfl) rfl rfl rfl ?_
              | refine st_op (os_fieldAddrE tabOk rfl rfl rfl (by decide) rfl) rfl rfl rfl ?_
            first
              | refine st_op (os_loadO1 tabOk rfl rfl rfl rfl rfl rfl) rfl rfl rfl ?_
              | refine st_op (os_loadE1 tabOk rfl rfl rfl rfl rfl) rfl rfl rfl ?_
              | refine st_op (os_loadES tabOk rfl rfl rfl rfl rfl) rfl rfl rfl ?_
              | refine st_op (os_loadOS tabOk rfl rfl rfl rfl rfl (Nat.le_of_ble_eq_true rfl)) rfl rfl rfl ?_
              | refine st_op (os_loadES tabOk rfl rfl rfl rfl (by assumption)) rfl rfl rfl ?_
              | refine st_op (os_loadLS tabOk rfl rfl rfl rfl rfl (by assumption) rfl (by first | rfl | assumption)) rfl rfl rfl ?_
              | refine st_op (os_loadL1 (q := 0) tabOk rfl rfl rfl rfl rfl (by assumption) rfl rfl) rfl rfl rfl ?_
            first
              | refine st_op (os_fieldAddrO tabOk rfl rfl rfl (by decide) rfl) rfl rfl rfl ?_
              | refine st_op (os_fieldAddrE tabOk rfl rfl rfl (by decide) rfl) rfl rfl rfl ?_
            first
              | refine st_op (os_loadO1 tabOk rfl rfl rfl rfl rfl rfl) rfl rfl rfl ?_
              | refine st_op (os_loadE1 tabOk rfl rfl rfl rfl rfl) rfl rfl rfl ?_
              | refine st_op (os_loadES tabOk rfl rfl rfl rfl rfl) rfl rfl rfl ?_
              | refine st_op (os_loadOS tabOk rfl rfl rfl rfl rfl (Nat.le_of_ble_eq_true rfl)) rfl rfl rfl ?_
              | refine st_op (os_loadES tabOk rfl rfl rfl rfl (by assumption)) rfl rfl rfl ?_
              | refine st_op (os_loadLS tabOk rfl rfl rfl rfl rfl (by assumption) rfl (by first | rfl | assumption)) rfl rfl rfl ?_
              | refine st_op (os_loadL1 (q := 0) tabOk rfl rfl rfl rfl rfl (by assumption) rfl rfl) rfl rfl rfl ?_
            first
              | refine st_op (os_call (ag := [(Operand.tmp 31), (Operand.tmp 33)]) (compare_call (.mk f v ks) (.mk f' v' ks')) Try.func90 rfl rfl rfl rfl) rfl rfl rfl ?_
              | refine st_op (os_call (ag := [(Operand.tmp 31), (Operand.tmp 33)]) (compare_call (.mk g u ls) (.mk g' u' ls')) Try.func90 rfl rfl rfl rfl) rfl rfl rfl ?_
            refine st_op (opS_of (opP_assign rfl rfl)) rfl rfl rfl ?_
            refine aOps_nil ?_
            refine W_ret ?_
            refine retE_ret ?_
            refine retOk_tmpE Try.results66 rfl (congrArg Z ?_) rfl
            cases p <;> cases p' <;> simp_all [Li.cmp]

theorem implLitBefore_call (a b : Li) : ACall Try.prog 29 [.dat a.da, .dat b.da] (B (decide (Li.cmp a b < 0))) [] := by
  have hab := compareLits_call a b
  obtain ⟨p, ⟨f, v, ks⟩, ⟨g, u, ls⟩⟩ := a
  obtain ⟨p', ⟨f', v', ks'⟩, ⟨g', u', ls'⟩⟩ := b
  refine acall_W Try.func29 rfl _ Try.ntmps29 (Nat.le_of_ble_eq_true rfl) fun w0 S0 => ?_
  refine W_seq ?_
  refine W_region ?_
  refine st_op (os_box rfl rfl rfl rfl rfl) rfl rfl rfl ?_
  refine st_op (os_box rfl rfl rfl rfl rfl) rfl rfl rfl ?_
  refine st_op (opS_of (opP_assign rfl rfl)) rfl rfl rfl ?_
  refine aOps_nil ?_
  refine W_seq ?_
  refine W_region ?_
  first
    | refine st_op (os_loadO1 tabOk rfl rfl rfl rfl rfl rfl) rfl rfl rfl ?_
    | refine st_op (os_loadE1 tabOk rfl rfl rfl rfl rfl) rfl rfl rfl ?_
    | refine st_op (os_loadES tabOk rfl rfl rfl rfl rfl) rfl rfl rfl ?_
    | refine st_op (os_loadOS tabOk rfl rfl rfl rfl rfl (Nat.le_of_ble_eq_true rfl)) rfl rfl rfl ?_
    | refine st_op (os_loadES tabOk rfl rfl rfl rfl (by assumption)) rfl rfl rfl ?_
    | refine st_op (os_loadLS tabOk rfl rfl rfl rfl rfl (by assumption) rfl (by first | rfl | assumption)) rfl rfl rfl ?_
    | refine st_op (os_loadL1 (q := 0) tabOk rfl rfl rfl rfl rfl (by assumption) rfl rfl) rfl rfl rfl ?_
  first
    | refine st_op (os_loadO1 tabOk rfl rfl rfl rfl rfl rfl) rfl rfl rfl ?_
    | refine st_op (os_loadE1 tabOk rfl rfl rfl rfl rfl) rfl rfl rfl ?_
    | refine st_op (os_loadES tabOk rfl rfl rfl rfl rfl) rfl rfl rfl ?_
    | refine st_op (os_loadOS tabOk rfl rfl rfl rfl rfl (Nat.le_of_ble_eq_true rfl)) rfl rfl rfl ?_
    | refine st_op (os_loadES tabOk rfl rfl rfl rfl (by assumption)) rfl rfl rfl ?_
    | refine st_op (os_loadLS tabOk rfl rfl rfl rfl rfl (by assumption) rfl (by first | rfl | assumption)) rfl rfl rfl ?_
    | refine st_op (os_loadL1 (q := 0) tabOk rfl rfl rfl rfl rfl (by assumption) rfl rfl) rfl rfl rfl ?_
  refine st_op (os_call (ag := [(Operand.tmp 5), (Operand.tmp 6)]) (hab) Try.func66 rfl rfl rfl rfl) rfl rfl rfl ?_
  refine st_op (opS_of (opP_lss rfl rfl rfl)) rfl rfl rfl ?_
  refine st_op (opS_of (opP_assign rfl rfl)) rfl rfl rfl ?_
  refine aOps_nil ?_
  refine W_ret ?_
  refine retE_ret ?_
  exact retOk_tmpE Try.results29 rfl rfl rfl

theorem specLitBefore_call (a b : Li) : ACall Try.prog 27 [.dat a.da, .dat b.da] (B (decide (Li.cmp a b < 0))) [] := by
  obtain ⟨p, ⟨f, v, ks⟩, ⟨g, u, ls⟩⟩ := a
  obtain ⟨p', ⟨f', v', ks'⟩, ⟨g', u', ls'⟩⟩ := b
  refine acall_W Try.func27 rfl _ Try.ntmps27 (Nat.le_of_ble_eq_true rfl) fun w0 S0 => ?_
  refine W_seq ?_
  refine W_region ?_
  refine st_op (os_box rfl rfl rfl rfl rfl) rfl rfl rfl ?_
  refine st_op (os_box rfl rfl rfl rfl rfl) rfl rfl rfl ?_
  refine st_op (opS_of (opP_assign rfl rfl)) rfl rfl rfl ?_
  refine aOps_nil ?_
  refine W_seq ?_
  refine W_seq ?_
  refine W_region ?_
  first
    | refine st_op (os_fieldAddrO tabOk rfl rfl rfl (by decide) rfl) rfl rfl rfl ?_
    | refine st_op (os_fieldAddrE tabOk rfl rfl rfl (by decide) rfl) rfl rfl rfl ?_
  first
    | refine st_op (os_loadO1 tabOk rfl rfl rfl rfl rfl rfl) rfl rfl rfl ?_
    | refine st_op (os_loadE1 tabOk rfl rfl rfl rfl rfl) rfl rfl rfl ?_
    | refine st_op (os_loadES tabOk rfl rfl rfl rfl rfl) rfl rfl rfl ?_
    | refine st_op (os_loadOS tabOk rfl rfl rfl rfl rfl (Nat.le_of_ble_eq_true rfl)) rfl rfl rfl ?_
    | refine st_op (os_loadES tabOk rfl rfl rfl rfl (by assumption)) rfl rfl rfl ?_
    | refine st_op (os_loadLS tabOk rfl rfl rfl rfl rfl (by assumption) rfl (by first | rfl | assumption)) rfl rfl rfl ?_
    | refine st_op (os_loadL1 (q := 0) tabOk rfl rfl rfl rfl rfl (by assumption) rfl rfl) rfl rfl rfl ?_
  first
    | refine st_op (os_fieldAddrO tabOk rfl rfl rfl (by decide) rfl) rfl rfl rfl ?_
    | refine st_op (os_fieldAddrE tabOk rfl rfl rfl (by decide) rfl) rfl rfl rfl ?_
  first
    | refine st_op (os_loadO1 tabOk rfl rfl rfl rfl rfl rfl) rfl rfl rfl ?_
    | refine st_op (os_loadE1 tabOk rfl rfl rfl rfl rfl) rfl rfl rfl ?_
    | refine st_op (os_loadES tabOk rfl rfl rfl rfl rfl) rfl rfl rfl ?_
    | refine st_op (os_loadOS tabOk rfl rfl rfl rfl rfl (Nat.le_of_ble_eq_true rfl)) rfl rfl rfl ?_
    | refine st_op (os_loadES tabOk rfl rfl rfl rfl (by assumption)) rfl rfl rfl ?_
    | refine st_op (os_loadLS tabOk rfl rfl rfl rfl rfl (by assumption) rfl (by first | rfl | assumption)) rfl rfl rfl ?_
    | refine st_op (os_loadL1 (q := 0) tabOk rfl rfl rfl rfl rfl (by assumption) rfl rfl) rfl rfl rfl ?_
  first
    | refine st_op (opS_of (opP_neq rfl rfl rfl)) rfl rfl rfl ?_
    | refine st_op (opS_of (opP_strNe rfl rfl rfl)) rfl rfl rfl ?_
    | refine st_op (os_boolNe tabOk rfl rfl rfl rfl rfl) rfl rfl rfl ?_
  refine aOps_nil ?_
  refine W_cond rfl (fun hc9 => ?_) (fun hc9 => ?_)
  · refine W_seq ?_
    refine W_region ?_
    first
      | refine st_op (os_fieldAddrO tabOk rfl rfl rfl (by decide) rfl) rfl rfl rfl ?_
      | refine st_op (os_fieldAddrE tabOk rfl rfl rfl (by decide) rfl) rfl rfl rfl ?_
    first
      | refine st_op (os_loadO1 tabOk rfl rfl rfl rfl rfl rfl) rfl rfl rfl ?_
      | refine st_op (os_loadE1 tabOk rfl rfl rfl rfl rfl) rfl rfl rfl ?_
      | refine st_op (os_loadES tabOk rfl rfl rfl rfl rfl) rfl rfl rfl ?_
      | refine st_op (os_loadOS tabOk rfl rfl rfl rfl rfl (Nat.le_of_ble_eq_true rfl)) rfl rfl rfl ?_
      | refine st_op (os_loadES tabOk rfl rfl rfl rfl (by assumption)) rfl rfl rfl ?_
      | refine st_op (os_loadLS tabOk rfl rfl rfl rfl rfl (by assumption) rfl (by first | rfl | assumption)) rfl rfl rfl ?_
      | refine st_op (os_loadL1 (q := 0) tabOk rfl rfl rfl rfl rfl (by assumption) rfl rfl) rfl rfl rfl ?_
    refine st_op (opS_of (opP_assign rfl rfl)) rfl rfl rfl ?_
    refine aOps_nil ?_
    refine W_ret ?_
    refine retE_ret ?_
    refine retOk_tmpE Try.results27 rfl (congrArg B ?_) rfl
    cases p <;> cases p' <;> simp_all [Li.cmp, Tm.same_cmp]
  · refine W_skip ?_
    refine W_seq ?_
    refine W_seq ?_
    refine W_region ?_
    first
      | refine st_op (os_fieldAddrO tabOk rfl rfl rfl (by decide) rfl) rfl rfl rfl ?_
      | refine st_op (os_fieldAddrE tabOk rfl rfl rfl (by decide) rfl) rfl rfl rfl ?_
    first
      | refine st_op (os_loadO1 tabOk rfl rfl rfl rfl rfl rfl) rfl rfl rfl ?_
      | refine st_op (os_loadE1 tabOk rfl rfl rfl rfl rfl) rfl rfl rfl ?_
      | refine st_op (os_loadES tabOk rfl rfl rfl rfl rfl) rfl rfl rfl ?_
      | refine st_op (os_loadOS tabOk rfl rfl rfl rfl rfl (Nat.le_of_ble_eq_true rfl)) rfl rfl rfl ?_
      | refine st_op (os_loadES tabOk rfl rfl rfl rfl (by assumption)) rfl rfl rfl ?_
      | refine st_op (os_loadLS tabOk rfl rfl rfl rfl rfl (by assumption) rfl (by first | rfl | assumption)) rfl rfl rfl ?_
      | refine st_op (os_loadL1 (q := 0) tabOk rfl rfl rfl rfl rfl (by assumption) rfl rfl) rfl rfl rfl ?_
    first
      | refine st_op (os_fieldAddrO tabOk rfl rfl rfl (by decide) rfl) rfl rfl rfl ?_
      | refine st_op (os_fieldAddrE tabOk rfl rfl rfl (by decide) rfl) rfl rfl rfl ?_
    first
      | refine st_op (os_loadO1 tabOk rfl rfl rfl rfl rfl rfl) rfl rfl rfl ?_
      | refine st_op (os_loadE1 tabOk rfl rfl rfl rfl rfl) rfl rfl rfl ?_
      | refine st_op (os_loadES tabOk rfl rfl rfl rfl rfl) rfl rfl rfl ?_
      | refine st_op (os_loadOS tabOk rfl rfl rfl rfl rfl (Nat.le_of_ble_eq_true rfl)) rfl rfl rfl ?_
      | refine st_op (os_loadES tabOk rfl rfl rfl rfl (by assumption)) rfl rfl rfl ?_
      | refine st_op (os_loadLS tabOk rfl rfl rfl rfl rfl (by assumption) rfl (by first | rfl | assumption)) rfl rfl rfl ?_
      | refine st_op (os_loadL1 (q := 0) tabOk rfl rfl rfl rfl rfl (by assumption) rfl rfl) rfl rfl rfl ?_
    refine st_op (os_call (ag := [(Operand.tmp 13), (Operand.tmp 15)]) (termSame_call (.mk f v ks) (.mk f' v' ks')) Try.func64 rfl rfl rfl rfl) rfl rfl rfl ?_
    refine st_op (opS_of (opP_not rfl rfl)) rfl rfl rfl ?_
    refine aOps_nil ?_
    refine W_cond rfl (fun hc17 => ?_) (fun hc17 => ?_)
    · refine W_seq ?_
      refine W_region ?_
      first
        | refine st_op (os_fieldAddrO tabOk rfl rfl rfl (by decide) rfl) rfl rfl rfl ?_
        | refine st_op (os_fieldAddrE tabOk rfl rfl rfl (by decide) rfl) rfl rfl rfl ?_
      first
        | refine st_op (os_loadO1 tabOk rfl rfl rfl rfl rfl rfl) rfl rfl rfl ?_
        | refine st_op (os_loadE1 tabOk rfl rfl rfl rfl rfl) rfl rfl rfl ?_
        | refine st_op (os_loadES tabOk rfl rfl rfl rfl rfl) rfl rfl rfl ?_
        | refine st_op (os_loadOS tabOk rfl rfl rfl rfl rfl (Nat.le_of_ble_eq_true rfl)) rfl rfl rfl ?_
        | refine st_op (os_loadES tabOk rfl rfl rfl rfl (by assumption)) rfl rfl rfl ?_
        | refine st_op (os_loadLS tabOk rfl rfl rfl rfl rfl (by assumption) rfl (by first | rfl | assumption)) rfl rfl rfl ?_
        | refine st_op (os_loadL1 (q := 0) tabOk rfl rfl rfl rfl rfl (by assumption) rfl rfl) rfl rfl rfl ?_
      first
        | refine st_op (os_fieldAddrO tabOk rfl rfl rfl (by decide) rfl) rfl rfl rfl ?_
        | refine st_op (os_fieldAddrE tabOk rfl rfl rfl (by decide) rfl) rfl rfl rfl ?_
      first
        | refine st_op (os_loadO1 tabOk rfl rfl rfl rfl rfl rfl) rfl rfl rfl ?_
        | refine st_op (os_loadE1 tabOk rfl rfl rfl rfl rfl) rfl rfl rfl ?_
        | refine st_op (os_loadES tabOk rfl rfl rfl rfl rfl) rfl rfl rfl ?_
        | refine st_op (os_loadOS tabOk rfl rfl rfl rfl rfl (Nat.le_of_ble_eq_true rfl)) rfl rfl rfl ?_
        | refine st_op (os_loadES tabOk rfl rfl rfl rfl (by assumption)) rfl rfl rfl ?_
        | refine st_op (os_loadLS tabOk rfl rfl rfl rfl rfl (by assumption) rfl (by first | rfl | assumption)) rfl rfl rfl ?_
        | refine st_op (os_loadL1 (q := 0) tabOk rfl rfl rfl rfl rfl (by assumption) rfl rfl) rfl rfl rfl ?_
      first
        | refine st_op (os_call (ag := [(Operand.tmp 19), (Operand.tmp 21)]) (specBefore_call (.mk f v ks) (.mk f' v' ks')) Try.func65 rfl rfl rfl rfl) rfl rfl rfl ?_
        | refine st_op (os_call (ag := [(Operand.tmp 19), (Operand.tmp 21)]) (specBefore_call (.mk g u ls) (.mk g' u' ls')) Try.func65 rfl rfl rfl rfl) rfl rfl rfl ?_
      refine st_op (opS_of (opP_assign rfl rfl)) rfl rfl rfl ?_
      refine aOps_nil ?_
      refine W_ret ?_
      refine retE_ret ?_
      refine retOk_tmpE Try.results27 rfl (congrArg B ?_) rfl
      cases p <;> cases p' <;> simp_all [Li.cmp, Tm.same_cmp]
    · refine W_skip ?_
      refine W_seq ?_
      refine W_region ?_
      first
        | refine st_op (os_fieldAddrO tabOk rfl rfl rfl (by decide) rfl) rfl rfl rfl ?_
        | refine st_op (os_fieldAddrE tabOk rfl rfl rfl (by decide) rfl) rfl rfl rfl ?_
      first
        | refine st_op (os_loadO1 tabOk rfl rfl rfl rfl rfl rfl) rfl rfl rfl ?_
        | refine st_op (os_loadE1 tabOk rfl rfl rfl rfl rfl) rfl rfl rfl ?_
        | refine st_op (os_loadES tabOk rfl rfl rfl rfl rfl) rfl rfl rfl ?_
        | refine st_op (os_loadOS tabOk rfl rfl rfl rfl rfl (Nat.le_of_ble_eq_true rfl)) rfl rfl rfl ?_
        | refine st_op (os_loadES tabOk rfl rfl rfl rfl (by assumption)) rfl rfl rfl ?_
        | refine st_op (os_loadLS tabOk rfl rfl rfl rfl rfl (by assumption) rfl (by first | rfl | assumption)) rfl rfl rfl ?_
        | refine st_op (os_loadL1 (q := 0) tabOk rfl rfl rfl rfl rfl (by assumption) rfl rfl) rfl rfl rfl ?_
      first
        | refine st_op (os_fieldAddrO tabOk rfl rfl rfl (by decide) rfl) rfl rfl rfl ?_
        | refine st_op (os_fieldAddrE tabOk rfl rfl rfl (by decide) rfl) rfl rfl rfl ?_
      first
        | refine st_op (os_loadO1 tabOk rfl rfl rfl rfl rfl rfl) rfl rfl rfl ?_
        | refine st_op (os_loadE1 tabOk rfl rfl rfl rfl rfl) rfl rfl rfl ?_
        | refine st_op (os_loadES tabOk rfl rfl rfl rfl rfl) rfl rfl rfl ?_
        | refine st_op (os_loadOS tabOk rfl rfl rfl rfl rfl (Nat.le_of_ble_eq_true rfl)) rfl rfl rfl ?_
        | refine st_op (os_loadES tabOk rfl rfl rfl rfl (by assumption)) rfl rfl rfl ?_
        | refine st_op (os_loadLS tabOk rfl rfl rfl rfl rfl (by assumption) rfl (by first | rfl | assumption)) rfl rfl rfl ?_
        | refine st_op (os_loadL1 (q := 0) tabOk rfl rfl rfl rfl rfl (by assumption) rfl rfl) rfl rfl rfl ?_
      first
        | refine st_op (os_call (ag := [(Operand.tmp 24), (Operand.tmp 26)]) (specBefore_call (.mk f v ks) (.mk f' v' ks')) Try.func65 rfl rfl rfl rfl) rfl rfl rfl ?_
        | refine st_op (os_call (ag := [(Operand.tmp 24), (Operand.tmp 26)]) (specBefore_call (.mk g u ls) (.mk g' u' ls')) Try.func65 rfl rfl rfl rfl) rfl rfl rfl ?_
      refine st_op (opS_of (opP_assign rfl rfl)) rfl rfl rfl ?_
      refine aOps_nil ?_
      refine W_ret ?_
      refine retE_ret ?_
      refine retOk_tmpE Try.results27 rfl (congrArg B ?_) rfl
      cases p <;> cases p' <;> simp_all [Li.cmp, Tm.same_cmp]

theorem law_call (a b : Li) : ACall Try.prog 6 [.dat a.da, .dat b.da] (B true) [] := by
  have h1 := szLit_call a 1048576 (by omega)
  have h2 := fun hc => szLit_call b (lft a.cn 1048576) hc
  have ha := toLit_call a
  have hb := toLit_call b
  have hg := implLitBefore_call a b
  have hw := specLitBefore_call a b
  have hea := eqLit_call a
  have heb := eqLit_call b
  have l1 := lft_le (n := a.cn) (l := 1048576) (by omega)
  have c1 : 0 ≤ lft a.cn 1048576 → a.cn ≤ 1048576 := by unfold lft; split <;> omega
  have c2 : 0 ≤ lft b.cn (lft a.cn 1048576) → b.cn ≤ 1048576 := by unfold lft; split <;> omega
  generalize a.cn = na at *
  generalize b.cn = nb at *
  generalize Li.cmp a b = cab at *
  obtain ⟨p, ⟨f, v, ks⟩, ⟨g, u, ls⟩⟩ := a
  obtain ⟨p', ⟨f', v', ks'⟩, ⟨g', u', ls'⟩⟩ := b
  refine acall_W Try.func6 rfl _ Try.ntmps6 (Nat.le_of_ble_eq_true rfl) fun w0 S0 => ?_
  refine W_seq ?_
  refine W_region ?_
  refine st_op (os_box rfl rfl rfl rfl rfl) rfl rfl rfl ?_
  refine st_op (os_box rfl rfl rfl rfl rfl) rfl rfl rfl ?_
  refine st_op (opS_of (opP_assign rfl rfl)) rfl rfl rfl ?_
  refine aOps_nil ?_
  refine W_seq ?_
  refine W_region ?_
  refine st_op (opS_of (opP_assign rfl rfl)) rfl rfl rfl ?_
  refine aOps_nil ?_
  refine W_seq ?_
  refine W_region ?_
  first
    | refine st_op (os_loadO1 tabOk rfl rfl rfl rfl rfl rfl) rfl rfl rfl ?_
    | refine st_op (os_loadE1 tabOk rfl rfl rfl rfl rfl) rfl rfl rfl ?_
    | refine st_op (os_loadES tabOk rfl rfl rfl rfl rfl) rfl rfl rfl ?_
    | refine st_op (os_loadOS tabOk rfl rfl rfl rfl rfl (Nat.le_of_ble_eq_true rfl)) rfl rfl rfl ?_
    | refine st_op (os_loadES tabOk rfl rfl rfl rfl (by assumption)) rfl rfl rfl ?_
    | refine st_op (os_loadLS tabOk rfl rfl rfl rfl rfl (by assumption) rfl (by first | rfl | assumption)) rfl rfl rfl ?_
    | refine st_op (os_loadL1 (q := 0) tabOk rfl rfl rfl rfl rfl (by assumption) rfl rfl) rfl rfl rfl ?_
  refine st_op (opS_of (opP_move rfl rfl)) rfl rfl rfl ?_
  first
    | refine st_op (os_call (ag := [(Operand.tmp 10), (Operand.tmp 11)]) (h1) Try.func26 rfl rfl rfl rfl) rfl rfl rfl ?_
    | refine st_op (os_call (ag := [(Operand.tmp 10), (Operand.tmp 11)]) (h2 (by omega)) Try.func26 rfl rfl rfl rfl) rfl rfl rfl ?_
  refine st_op (opS_of (opP_assign rfl rfl)) rfl rfl rfl ?_
  refine aOps_nil ?_
  refine W_seq ?_
  refine W_seq ?_
  refine W_region ?_
  refine st_op (opS_of (opP_move rfl rfl)) rfl rfl rfl ?_
  refine st_op (opS_of (opP_lss rfl rfl rfl)) rfl rfl rfl ?_
  refine aOps_nil ?_
  refine W_cond rfl (fun hc14 => ?_) (fun hc14 => ?_)
  · refine W_seq ?_
    refine W_region ?_
    refine st_op (opS_of (opP_assign rfl rfl)) rfl rfl rfl ?_
    refine aOps_nil ?_
    refine W_ret ?_
    refine retE_ret ?_
    exact retOk_tmpE Try.results6 rfl rfl rfl
  · refine W_skip ?_
    refine W_seq ?_
    refine W_region ?_
    first
      | refine st_op (os_loadO1 tabOk rfl rfl rfl rfl rfl rfl) rfl rfl rfl ?_
      | refine st_op (os_loadE1 tabOk rfl rfl rfl rfl rfl) rfl rfl rfl ?_
      | refine st_op (os_loadES tabOk rfl rfl rfl rfl rfl) rfl rfl rfl ?_
      | refine st_op (os_loadOS tabOk rfl rfl rfl rfl rfl (Nat.le_of_ble_eq_true rfl)) rfl rfl rfl ?_
      | refine st_op (os_loadES tabOk rfl rfl rfl rfl (by assumption)) rfl rfl rfl ?_
      | refine st_op (os_loadLS tabOk rfl rfl rfl rfl rfl (by assumption) rfl (by first | rfl | assumption)) rfl rfl rfl ?_
      | refine st_op (os_loadL1 (q := 0) tabOk rfl rfl rfl rfl rfl (by assumption) rfl rfl) rfl rfl rfl ?_
    refine st_op (opS_of (opP_move rfl rfl)) rfl rfl rfl ?_
    first
      | refine st_op (os_call (ag := [(Operand.tmp 15), (Operand.tmp 16)]) (h1) Try.func26 rfl rfl rfl rfl) rfl rfl rfl ?_
      | refine st_op (os_call (ag := [(Operand.tmp 15), (Operand.tmp 16)]) (h2 (by omega)) Try.func26 rfl rfl rfl rfl) rfl rfl rfl ?_
    refine st_op (opS_of (opP_assign rfl rfl)) rfl rfl rfl ?_
    refine aOps_nil ?_
    refine W_seq ?_
    refine W_seq ?_
    refine W_region ?_
    refine st_op (opS_of (opP_move rfl rfl)) rfl rfl rfl ?_
    refine st_op (opS_of (opP_lss rfl rfl rfl)) rfl rfl rfl ?_
    refine aOps_nil ?_
    refine W_cond rfl (fun hc19 => ?_) (fun hc19 => ?_)
    · refine W_seq ?_
      refine W_region ?_
      refine st_op (opS_of (opP_assign rfl rfl)) rfl rfl rfl ?_
      refine aOps_nil ?_
      refine W_ret ?_
      refine retE_ret ?_
      exact retOk_tmpE Try.results6 rfl rfl rfl
    · refine W_skip ?_
      refine W_seq ?_
      refine W_drawK mixed (by kernel_rfl) ?_
      first
        | refine pq_op (os_loadO1 tabOk rfl rfl rfl rfl rfl rfl) rfl rfl rfl rfl rfl ?_
        | refine pq_op (os_loadE1 tabOk rfl rfl rfl rfl rfl) rfl rfl rfl rfl rfl ?_
        | refine pq_op (os_loadES tabOk rfl rfl rfl rfl rfl) rfl rfl rfl rfl rfl ?_
        | refine pq_op (os_loadOS tabOk rfl rfl rfl rfl rfl (Nat.le_of_ble_eq_true rfl)) rfl rfl rfl rfl rfl ?_
        | refine pq_op (os_loadES tabOk rfl rfl rfl rfl (by assumption)) rfl rfl rfl rfl rfl ?_
        | refine pq_op (os_loadLS tabOk rfl rfl rfl rfl rfl (by assumption) rfl (by first | rfl | assumption)) rfl rfl rfl rfl rfl ?_
        | refine pq_op (os_loadL1 (q := 0) tabOk rfl rfl rfl rfl rfl (by assumption) rfl rfl) rfl rfl rfl rfl rfl ?_
      first
        | refine pq_op (os_call (ag := [(Operand.tmp 20)]) (ha (c1 (by simpa using hc14))) Try.func28 rfl rfl rfl rfl) rfl rfl rfl rfl rfl ?_
        | refine pq_op (os_call (ag := [(Operand.tmp 20)]) (hb (c2 (by simpa using hc19))) Try.func28 rfl rfl rfl rfl) rfl rfl rfl rfl rfl ?_
      first
        | refine pq_op (os_loadO1 tabOk rfl rfl rfl rfl rfl rfl) rfl rfl rfl rfl rfl ?_
        | refine pq_op (os_loadE1 tabOk rfl rfl rfl rfl rfl) rfl rfl rfl rfl rfl ?_
        | refine pq_op (os_loadES tabOk rfl rfl rfl rfl rfl) rfl rfl rfl rfl rfl ?_
        | refine pq_op (os_loadOS tabOk rfl rfl rfl rfl rfl (Nat.le_of_ble_eq_true rfl)) rfl rfl rfl rfl rfl ?_
        | refine pq_op (os_loadES tabOk rfl rfl rfl rfl (by assumption)) rfl rfl rfl rfl rfl ?_
        | refine pq_op (os_loadLS tabOk rfl rfl rfl rfl rfl (by assumption) rfl (by first | rfl | assumption)) rfl rfl rfl rfl rfl ?_
        | refine pq_op (os_loadL1 (q := 0) tabOk rfl rfl rfl rfl rfl (by assumption) rfl rfl) rfl rfl rfl rfl rfl ?_
      first
        | refine pq_op (os_call (ag := [(Operand.tmp 22)]) (ha (c1 (by simpa using hc14))) Try.func28 rfl rfl rfl rfl) rfl rfl rfl rfl rfl ?_
        | refine pq_op (os_call (ag := [(Operand.tmp 22)]) (hb (c2 (by simpa using hc19))) Try.func28 rfl rfl rfl rfl) rfl rfl rfl rfl rfl ?_
      refine pq_op (os_call (ag := [(Operand.tmp 21), (Operand.tmp 23)]) (hw) Try.func27 rfl rfl rfl rfl) rfl rfl rfl rfl rfl ?_
      refine pq_op (opS_of (opP_assign rfl rfl)) rfl rfl rfl rfl rfl ?_
      refine pq_nil ?_
      refine W_seq ?_
      refine W_region ?_
      first
        | refine st_op (os_loadO1 tabOk rfl rfl rfl rfl rfl rfl) rfl rfl rfl ?_
        | refine st_op (os_loadE1 tabOk rfl rfl rfl rfl rfl) rfl rfl rfl ?_
        | refine st_op (os_loadES tabOk rfl rfl rfl rfl rfl) rfl rfl rfl ?_
        | refine st_op (os_loadOS tabOk rfl rfl rfl rfl rfl (Nat.le_of_ble_eq_true rfl)) rfl rfl rfl ?_
        | refine st_op (os_loadES tabOk rfl rfl rfl rfl (by assumption)) rfl rfl rfl ?_
        | refine st_op (os_loadLS tabOk rfl rfl rfl rfl rfl (by assumption) rfl (by first | rfl | assumption)) rfl rfl rfl ?_
        | refine st_op (os_loadL1 (q := 0) tabOk rfl rfl rfl rfl rfl (by assumption) rfl rfl) rfl rfl rfl ?_
      first
        | refine st_op (os_call (ag := [(Operand.tmp 25)]) (ha (c1 (by simpa using hc14))) Try.func28 rfl rfl rfl rfl) rfl rfl rfl ?_
        | refine st_op (os_call (ag := [(Operand.tmp 25)]) (hb (c2 (by simpa using hc19))) Try.func28 rfl rfl rfl rfl) rfl rfl rfl ?_
      refine st_op (os_alloc z51 rfl rfl) rfl rfl rfl ?_
      refine st_store tabOk rfl rfl rfl rfl rfl rfl rfl rfl rfl (Nat.le_of_ble_eq_true rfl) rfl ?_
      refine aOps_nil ?_
      refine W_seq ?_
      refine W_region ?_
      first
        | refine st_op (os_loadO1 tabOk rfl rfl rfl rfl rfl rfl) rfl rfl rfl ?_
        | refine st_op (os_loadE1 tabOk rfl rfl rfl rfl rfl) rfl rfl rfl ?_
        | refine st_op (os_loadES tabOk rfl rfl rfl rfl rfl) rfl rfl rfl ?_
        | refine st_op (os_loadOS tabOk rfl rfl rfl rfl rfl (Nat.le_of_ble_eq_true rfl)) rfl rfl rfl ?_
        | refine st_op (os_loadES tabOk rfl rfl rfl rfl (by assumption)) rfl rfl rfl ?_
        | refine st_op (os_loadLS tabOk rfl rfl rfl rfl rfl (by assumption) rfl (by first | rfl | assumption)) rfl rfl rfl ?_
        | refine st_op (os_loadL1 (q := 0) tabOk rfl rfl rfl rfl rfl (by assumption) rfl rfl) rfl rfl rfl ?_
      first
        | refine st_op (os_call (ag := [(Operand.tmp 27)]) (ha (c1 (by simpa using hc14))) Try.func28 rfl rfl rfl rfl) rfl rfl rfl ?_
        | refine st_op (os_call (ag := [(Operand.tmp 27)]) (hb (c2 (by simpa using hc19))) Try.func28 rfl rfl rfl rfl) rfl rfl rfl ?_
      refine st_op (os_alloc z51 rfl rfl) rfl rfl rfl ?_
      refine st_store tabOk rfl rfl rfl rfl rfl rfl rfl rfl rfl (Nat.le_of_ble_eq_true rfl) rfl ?_
      refine aOps_nil ?_
      refine W_seq ?_
      refine W_region ?_
      first
        | refine st_op (os_loadO1 tabOk rfl rfl rfl rfl rfl rfl) rfl rfl rfl ?_
        | refine st_op (os_loadE1 tabOk rfl rfl rfl rfl rfl) rfl rfl rfl ?_
        | refine st_op (os_loadES tabOk rfl rfl rfl rfl rfl) rfl rfl rfl ?_
        | refine st_op (os_loadOS tabOk rfl rfl rfl rfl rfl (Nat.le_of_ble_eq_true rfl)) rfl rfl rfl ?_
        | refine st_op (os_loadES tabOk rfl rfl rfl rfl (by assumption)) rfl rfl rfl ?_
        | refine st_op (os_loadLS tabOk rfl rfl rfl rfl rfl (by assumption) rfl (by first | rfl | assumption)) rfl rfl rfl ?_
        | refine st_op (os_loadL1 (q := 0) tabOk rfl rfl rfl rfl rfl (by assumption) rfl rfl) rfl rfl rfl ?_
      first
        | refine st_op (os_loadO1 tabOk rfl rfl rfl rfl rfl rfl) rfl rfl rfl ?_
        | refine st_op (os_loadE1 tabOk rfl rfl rfl rfl rfl) rfl rfl rfl ?_
        | refine st_op (os_loadES tabOk rfl rfl rfl rfl rfl) rfl rfl rfl ?_
        | refine st_op (os_loadOS tabOk rfl rfl rfl rfl rfl (Nat.le_of_ble_eq_true rfl)) rfl rfl rfl ?_
        | refine st_op (os_loadES tabOk rfl rfl rfl rfl (by assumption)) rfl rfl rfl ?_
        | refine st_op (os_loadLS tabOk rfl rfl rfl rfl rfl (by assumption) rfl (by first | rfl | assumption)) rfl rfl rfl ?_
        | refine st_op (os_loadL1 (q := 0) tabOk rfl rfl rfl rfl rfl (by assumption) rfl rfl) rfl rfl rfl ?_
      refine st_op (os_call (ag := [(Operand.tmp 29), (Operand.tmp 30)]) (hg) Try.func29 rfl rfl rfl rfl) rfl rfl rfl ?_
      refine st_op (opS_of (opP_assign rfl rfl)) rfl rfl rfl ?_
      refine aOps_nil ?_
      refine W_seq ?_
      refine W_seq ?_
      refine W_region ?_
      refine st_op (opS_of (opP_move rfl rfl)) rfl rfl rfl ?_
      refine st_op (opS_of (opP_move rfl rfl)) rfl rfl rfl ?_
      first
        | refine st_op (opS_of (opP_neq rfl rfl rfl)) rfl rfl rfl ?_
        | refine st_op (opS_of (opP_strNe rfl rfl rfl)) rfl rfl rfl ?_
        | refine st_op (os_boolNe tabOk rfl rfl rfl rfl rfl) rfl rfl rfl ?_
      refine aOps_nil ?_
      refine W_cond rfl (fun hc34 => ?_) (fun hc34 => ?_)
      · simp at hc34
      · refine W_skip ?_
        refine W_seq ?_
        refine W_seq ?_
        refine W_drawK mixed (by kernel_rfl) ?_
        first
          | refine pq_op (os_loadO1 tabOk rfl rfl rfl rfl rfl rfl) rfl rfl rfl rfl rfl ?_
          | refine pq_op (os_loadE1 tabOk rfl rfl rfl rfl rfl) rfl rfl rfl rfl rfl ?_
          | refine pq_op (os_loadES tabOk rfl rfl rfl rfl rfl) rfl rfl rfl rfl rfl ?_
          | refine pq_op (os_loadOS tabOk rfl rfl rfl rfl rfl (Nat.le_of_ble_eq_true rfl)) rfl rfl rfl rfl rfl ?_
          | refine pq_op (os_loadES tabOk rfl rfl rfl rfl (by assumption)) rfl rfl rfl rfl rfl ?_
          | refine pq_op (os_loadLS tabOk rfl rfl rfl rfl rfl (by assumption) rfl (by first | rfl | assumption)) rfl rfl rfl rfl rfl ?_
          | refine pq_op (os_loadL1 (q := 0) tabOk rfl rfl rfl rfl rfl (by assumption) rfl rfl) rfl rfl rfl rfl rfl ?_
        first
          | refine pq_op (os_loadO1 tabOk rfl rfl rfl rfl rfl rfl) rfl rfl rfl rfl rfl ?_
          | refine pq_op (os_loadE1 tabOk rfl rfl rfl rfl rfl) rfl rfl rfl rfl rfl ?_
          | refine pq_op (os_loadES tabOk rfl rfl rfl rfl rfl) rfl rfl rfl rfl rfl ?_
          | refine pq_op (os_loadOS tabOk rfl rfl rfl rfl rfl (Nat.le_of_ble_eq_true rfl)) rfl rfl rfl rfl rfl ?_
          | refine pq_op (os_loadES tabOk rfl rfl rfl rfl (by assumption)) rfl rfl rfl rfl rfl ?_
          | refine pq_op (os_loadLS tabOk rfl rfl rfl rfl rfl (by assumption) rfl (by first | rfl | assumption)) rfl rfl rfl rfl rfl ?_
          | refine pq_op (os_loadL1 (q := 0) tabOk rfl rfl rfl rfl rfl (by assumption) rfl rfl) rfl rfl rfl rfl rfl ?_
        first
          | refine pq_op (os_call (ag := [(Operand.tmp 36)]) (ha (c1 (by simpa using hc14))) Try.func28 rfl rfl rfl rfl) rfl rfl rfl rfl rfl ?_
          | refine pq_op (os_call (ag := [(Operand.tmp 36)]) (hb (c2 (by simpa using hc19))) Try.func28 rfl rfl rfl rfl) rfl rfl rfl rfl rfl ?_
        first
          | refine pq_op (os_call (ag := [(Operand.tmp 35), (Operand.tmp 37)]) (hea) Try.func30 rfl rfl rfl rfl) rfl rfl rfl rfl rfl ?_
          | refine pq_op (os_call (ag := [(Operand.tmp 35), (Operand.tmp 37)]) (heb) Try.func30 rfl rfl rfl rfl) rfl rfl rfl rfl rfl ?_
        refine pq_op (opS_of (opP_not rfl rfl)) rfl rfl rfl rfl rfl ?_
        refine pq_nil ?_
        refine W_cond rfl (fun hc39 => ?_) (fun hc39 => ?_)
        · simp at hc39
        · refine W_skip ?_
          refine W_seq ?_
          refine W_seq ?_
          refine W_drawK mixed (by kernel_rfl) ?_
          first
            | refine pq_op (os_loadO1 tabOk rfl rfl rfl rfl rfl rfl) rfl rfl rfl rfl rfl ?_
            | refine pq_op (os_loadE1 tabOk rfl rfl rfl rfl rfl) rfl rfl rfl rfl rfl ?_
            | refine pq_op (os_loadES tabOk rfl rfl rfl rfl rfl) rfl rfl rfl rfl rfl ?_
            | refine pq_op (os_loadOS tabOk rfl rfl rfl rfl rfl (Nat.le_of_ble_eq_true rfl)) rfl rfl rfl rfl rfl ?_
            | refine pq_op (os_loadES tabOk rfl rfl rfl rfl (by assumption)) rfl rfl rfl rfl rfl ?_
            | refine pq_op (os_loadLS tabOk rfl rfl rfl rfl rfl (by assumption) rfl (by first | rfl | assumption)) rfl rfl rfl rfl rfl ?_
            | refine pq_op (os_loadL1 (q := 0) tabOk rfl rfl rfl rfl rfl (by assumption) rfl rfl) rfl rfl rfl rfl rfl ?_
          first
            | refine pq_op (os_loadO1 tabOk rfl rfl rfl rfl rfl rfl) rfl rfl rfl rfl rfl ?_
            | refine pq_op (os_loadE1 tabOk rfl rfl rfl rfl rfl) rfl rfl rfl rfl rfl ?_
            | refine pq_op (os_loadES tabOk rfl rfl rfl rfl rfl) rfl rfl rfl rfl rfl ?_
            | refine pq_op (os_loadOS tabOk rfl rfl rfl rfl rfl (Nat.le_of_ble_eq_true rfl)) rfl rfl rfl rfl rfl ?_
            | refine pq_op (os_loadES tabOk rfl rfl rfl rfl (by assumption)) rfl rfl rfl rfl rfl ?_
            | refine pq_op (os_loadLS tabOk rfl rfl rfl rfl rfl (by assumption) rfl (by first | rfl | assumption)) rfl rfl rfl rfl rfl ?_
            | refine pq_op (os_loadL1 (q := 0) tabOk rfl rfl rfl rfl rfl (by assumption) rfl rfl) rfl rfl rfl rfl rfl ?_
          first
            | refine pq_op (os_call (ag := [(Operand.tmp 41)]) (ha (c1 (by simpa using hc14))) Try.func28 rfl rfl rfl rfl) rfl rfl rfl rfl rfl ?_
            | refine pq_op (os_call (ag := [(Operand.tmp 41)]) (hb (c2 (by simpa using hc19))) Try.func28 rfl rfl rfl rfl) rfl rfl rfl rfl rfl ?_
          first
            | refine pq_op (os_call (ag := [(Operand.tmp 40), (Operand.tmp 42)]) (hea) Try.func30 rfl rfl rfl rfl) rfl rfl rfl rfl rfl ?_
            | refine pq_op (os_call (ag := [(Operand.tmp 40), (Operand.tmp 42)]) (heb) Try.func30 rfl rfl rfl rfl) rfl rfl rfl rfl rfl ?_
          refine pq_op (opS_of (opP_not rfl rfl)) rfl rfl rfl rfl rfl ?_
          refine pq_nil ?_
          refine W_cond rfl (fun hc44 => ?_) (fun hc44 => ?_)
          · simp at hc44
          · refine W_skip ?_
            refine W_seq ?_
            refine W_region ?_
            refine st_op (opS_of (opP_assign rfl rfl)) rfl rfl rfl ?_
            refine aOps_nil ?_
            refine W_ret ?_
            refine retE_ret ?_
            exact retOk_tmpE Try.results6 rfl rfl rfl

end AM
end Go.Proofs.Ytfmfflfnkjoopaa
