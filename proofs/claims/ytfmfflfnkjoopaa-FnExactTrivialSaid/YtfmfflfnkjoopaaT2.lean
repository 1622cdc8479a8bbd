/- The copies, sizes and comparisons of terms and literals; no conditions. -/
import Derived.Test.YtfmfflfnkjoopaaT1
set_option linter.unusedVariables false
namespace Go.Proofs.Ytfmfflfnkjoopaa
namespace AM
open Go
attribute [local irreducible] aOps awp W OpP OpS ACall RetOk

mutual
/-- How many elements a term's lists hold, all in all. -/
def Tm.cn : Tm → Nat
  | .mk _ _ ks => Tm.cns ks
def Tm.cns : List Tm → Nat
  | [] => 0
  | t :: r => 1 + t.cn + Tm.cns r
end
theorem Tm.cns_len (l : List Tm) : l.length ≤ Tm.cns l := by
  induction l with
  | nil => simp [Tm.cns]
  | cons t r ih => simp [Tm.cns]; omega
theorem Tm.cns_mem {l : List Tm} {t : Tm} (h : t ∈ l) : t.cn + l.length ≤ Tm.cns l := by
  induction l with
  | nil => simp at h
  | cons u r ih =>
    rcases List.mem_cons.1 h with rfl | h
    · have := Tm.cns_len r; simp [Tm.cns]; omega
    · have := ih h; simp [Tm.cns]; omega

/-- The elements below a list's own. -/
def Tm.cns' : List Tm → Nat
  | [] => 0
  | t :: r => t.cn + Tm.cns' r
theorem Tm.cns_eq (l : List Tm) : Tm.cns l = l.length + Tm.cns' l := by
  induction l with
  | nil => rfl
  | cons t r ih => simp [Tm.cns, Tm.cns', ih]; omega
theorem Tm.cns'_take {l : List Tm} {k : Nat} {t : Tm} (h : l[k]? = some t) : Tm.cns' (l.take (k + 1)) = Tm.cns' (l.take k) + t.cn := by
  induction l generalizing k with
  | nil => simp at h
  | cons u r ih =>
    cases k with
    | zero => simp at h; subst h; simp [Tm.cns']
    | succ k => have := ih (k := k) (by simpa using h); simp [Tm.cns', this]; omega
theorem Tm.cns'_le (l : List Tm) (k : Nat) : Tm.cns' (l.take k) ≤ Tm.cns' l := by
  induction l generalizing k with
  | nil => simp
  | cons u r ih =>
    cases k with
    | zero => simp [Tm.cns']
    | succ k => have := ih k; simp [Tm.cns']; omega

theorem toTermS_call (ks : List Tm) (hc : Tm.cns ks ≤ 1048576) (ih : ∀ t ∈ ks, t.cn ≤ 1048576 → ACall Try.prog 19 [.dat t.da] (.dat t.da) []) : ACall Try.prog 59 [L (Tm.das ks)] (L (Tm.das ks)) [] := by
  have hkl := Tm.cns_len ks
  have hdl := Tm.das_len ks
  refine acall_W Try.func59 rfl _ Try.ntmps59 (Nat.le_of_ble_eq_true rfl) fun w0 S0 => ?_
  refine W_seq ?_
  refine W_region ?_
  refine st_op (opS_of (opP_assign rfl rfl)) rfl rfl rfl ?_
  refine aOps_nil ?_
  refine W_seq ?_
  refine W_region ?_
  refine st_op (opS_of (opP_move rfl rfl)) rfl rfl rfl ?_
  first
    | refine st_op (os_lenD tabOk rfl rfl rfl rfl rfl) rfl rfl rfl ?_
    | refine st_op (os_lenO tabOk rfl rfl rfl rfl rfl rfl) rfl rfl rfl ?_
    | refine st_op (os_lenS tabOk rfl rfl rfl rfl) rfl rfl rfl ?_
    | refine st_op (os_len0 tabOk rfl rfl rfl rfl rfl) rfl rfl rfl ?_
  refine st_op (os_make tabOk z39 rfl rfl rfl rfl rfl (by decide) rfl rfl rfl (Nat.le_refl _) (by omega) (by omega)) rfl rfl rfl ?_
  refine st_op (opS_of (opP_assign rfl rfl)) rfl rfl rfl ?_
  refine aOps_nil ?_
  refine W_seq ?_
  refine W_seq ?_
  refine W_region ?_
  refine st_op (opS_of (opP_assign rfl rfl)) rfl rfl rfl ?_
  refine aOps_nil ?_
  refine W_block ?_
  refine W_countI (fun k => ⟨[(0, L (Tm.das ks)), (3, .one (.ol 7)), (4, Z k)], [(7, .lst 39 3 ((Tm.das ks).take k ++ List.replicate ((Tm.das ks).length - k) [.int .i64 0, .int .i64 0, .sl []]))]⟩) (fun _ => True) ks.length 0 (by (refine Ent.of ?_; repeat (first | (refine entOk_tm rfl ?_) | (refine entOk_ob rfl ?_) | exact entOk_nil | (refine entOk_Z rfl (by omega) ?_) | (refine entOk_Z rfl (by simp <;> omega) ?_) | (refine entOk_lst rfl (by assumption) ?_) | (refine entOk_lst rfl (fill_setE rfl (by assumption) (by assumption) rfl) ?_) | (refine entOk_lst rfl (by simp_all; done) ?_) | (refine entOk_var rfl (by simp_all; done) ?_)))) trivial (Nat.zero_le _) (fun k _ hk _ => ?_)
  refine W_seq ?_
  refine W_seq ?_
  refine W_region ?_
  refine st_op (opS_of (opP_move rfl rfl)) rfl rfl rfl ?_
  refine st_op (opS_of (opP_move rfl rfl)) rfl rfl rfl ?_
  first
    | refine st_op (os_lenD tabOk rfl rfl rfl rfl rfl) rfl rfl rfl ?_
    | refine st_op (os_lenO tabOk rfl rfl rfl rfl rfl rfl) rfl rfl rfl ?_
    | refine st_op (os_lenS tabOk rfl rfl rfl rfl) rfl rfl rfl ?_
    | refine st_op (os_len0 tabOk rfl rfl rfl rfl rfl) rfl rfl rfl ?_
  refine st_op (opS_of (opP_lss rfl rfl rfl)) rfl rfl rfl ?_
  refine aOps_nil ?_
  refine W_cond rfl (fun hc11 => ?_) (fun hc11 => ?_)
  · refine W_skip ?_
    refine W_seq ?_
    refine W_block ?_
    have hlk := ofNat_lt hc11
    rw [Tm.das_len] at hlk
    obtain ⟨t', ht⟩ : ∃ t', ks[k]? = some t' := ⟨ks[k], List.getElem?_eq_getElem hlk⟩
    have ht' : t' ∈ ks := List.mem_of_getElem? ht
    have hx : (Tm.das ks)[k]? = some t'.da := by rw [Tm.das_get, ht]; rfl
    have h3 := Tm.da_len t'
    refine W_region ?_
    refine st_op (opS_of (opP_move rfl rfl)) rfl rfl rfl ?_
    refine st_op (opS_of (opP_move rfl rfl)) rfl rfl rfl ?_
    refine st_op (opS_of (opP_move rfl rfl)) rfl rfl rfl ?_
    refine st_op (opS_of (opP_move rfl rfl)) rfl rfl rfl ?_
    first
      | refine st_op (os_indexD tabOk rfl rfl rfl rfl rfl (by decide) rfl rfl (by assumption) (by first | rfl | assumption)) rfl rfl rfl ?_
      | refine st_op (os_indexO tabOk rfl rfl rfl rfl rfl rfl rfl rfl (by decide) rfl (by first | assumption | (simp; omega))) rfl rfl rfl ?_
    first
      | refine st_op (os_loadO1 tabOk rfl rfl rfl rfl rfl rfl) rfl rfl rfl ?_
      | refine st_op (os_loadE1 tabOk rfl rfl rfl rfl rfl) rfl rfl rfl ?_
      | refine st_op (os_loadES tabOk rfl rfl rfl rfl rfl) rfl rfl rfl ?_
      | refine st_op (os_loadOS tabOk rfl rfl rfl rfl rfl (Nat.le_of_ble_eq_true rfl)) rfl rfl rfl ?_
      | refine st_op (os_loadES tabOk rfl rfl rfl rfl (by assumption)) rfl rfl rfl ?_
      | refine st_op (os_loadLS tabOk rfl rfl rfl rfl rfl (by assumption) rfl (by first | rfl | assumption)) rfl rfl rfl ?_
      | refine st_op (os_loadL1 (q := 0) tabOk rfl rfl rfl rfl rfl (by assumption) rfl rfl) rfl rfl rfl ?_
    refine st_op (os_call (ag := [(Operand.tmp 19)]) (ih t' ht' (by have := Tm.cns_mem ht'; omega)) Try.func19 rfl rfl rfl rfl) rfl rfl rfl ?_
    first
      | refine st_op (os_indexD tabOk rfl rfl rfl rfl rfl (by decide) rfl rfl (by assumption) (by first | rfl | assumption)) rfl rfl rfl ?_
      | refine st_op (os_indexO tabOk rfl rfl rfl rfl rfl rfl rfl rfl (by decide) rfl (by first | assumption | (simp; omega))) rfl rfl rfl ?_
    refine st_storeL (n := k) (q := 0) (ds := t'.da) tabOk rfl rfl rfl rfl rfl rfl (toDs_map _) rfl rfl h3.symm (fill_get rfl (by omega)) rfl (by simp [h3]) (by omega) ?_
    refine aOps_nil ?_
    refine W_region ?_
    refine st_op (opS_of (opP_move rfl rfl)) rfl rfl rfl ?_
    first
      | refine st_op (opS_of (opP_add64 rfl rfl rfl (by omega))) rfl rfl rfl ?_
      | refine st_op (opS_of (opP_strAdd rfl rfl rfl (by assumption))) rfl rfl rfl ?_
      | refine st_op (opS_of (opP_add rfl rfl rfl)) rfl rfl rfl ?_
    refine st_op (opS_of (opP_assign rfl rfl)) rfl rfl rfl ?_
    refine aOps_nil ?_
    refine ⟨k + 1, ?_, trivial, by omega, by omega⟩
    (refine Ent.of ?_; repeat (first | (refine entOk_tm rfl ?_) | (refine entOk_ob rfl ?_) | exact entOk_nil | (refine entOk_Z rfl (by omega) ?_) | (refine entOk_Z rfl (by simp <;> omega) ?_) | (refine entOk_lst rfl (by assumption) ?_) | (refine entOk_lst rfl (fill_setE rfl (by assumption) (by assumption) rfl) ?_) | (refine entOk_lst rfl (by simp_all; done) ?_) | (refine entOk_var rfl (by simp_all; done) ?_)))
  · refine W_exit ?_
    refine blockE_hit ?_
    refine W_seq ?_
    refine W_region ?_
    refine st_op (opS_of (opP_move rfl rfl)) rfl rfl rfl ?_
    refine st_op (opS_of (opP_assign rfl rfl)) rfl rfl rfl ?_
    refine aOps_nil ?_
    refine W_ret ?_
    refine retE_ret ?_
    rw [fill_all (by omega) (by have := ofNat_ge hc11; rw [Tm.das_len] at this; rwa [Tm.das_len])]
    exact retOk_frz (k := 7) rfl (by decide) (retOk_tmpE Try.results59 rfl rfl rfl)

theorem toTerm_call (t : Tm) (hc : t.cn ≤ 1048576) : ACall Try.prog 19 [.dat t.da] (.dat t.da) [] := by
  induction t using Tm.ind with
  | h f v ks ih =>
  refine acall_W Try.func19 rfl _ Try.ntmps19 (Nat.le_of_ble_eq_true rfl) fun w0 S0 => ?_
  refine W_seq ?_
  refine W_region ?_
  refine st_op (os_box rfl rfl rfl rfl rfl) rfl rfl rfl ?_
  refine st_op (os_alloc z39 rfl rfl) rfl rfl rfl ?_
  refine aOps_nil ?_
  refine W_seq ?_
  refine W_region ?_
  refine st_op (os_alloc z39 rfl rfl) rfl rfl rfl ?_
  refine aOps_nil ?_
  refine W_seq ?_
  refine W_region ?_
  first
    | refine st_op (os_fieldAddrO tabOk rfl rfl rfl (by decide) rfl) rfl rfl rfl ?_
    | refine st_op (os_fieldAddrE tabOk rfl rfl rfl (by decide) rfl) rfl rfl rfl ?_
  first
    | refine st_op (os_loadO1 tabOk rfl rfl rfl rfl rfl rfl) rfl rfl rfl ?_
    | refine st_op (os_loadE1 tabOk rfl rfl rfl rfl rfl) rfl rfl rfl ?_
    | refine st_op (os_loadES tabOk rfl rfl rfl rfl rfl) rfl rfl rfl ?_
    | refine st_op (os_loadOS tabOk rfl rfl rfl rfl rfl (Nat.le_of_ble_eq_true rfl)) rfl rfl rfl ?_
    | refine st_op (os_loadES tabOk rfl rfl rfl rfl (by assumption)) rfl rfl rfl ?_
    | refine st_op (os_loadLS tabOk rfl rfl rfl rfl rfl (by assumption) rfl (by first | rfl | assumption)) rfl rfl rfl ?_
    | refine st_op (os_loadL1 (q := 0) tabOk rfl rfl rfl rfl rfl (by assumption) rfl rfl) rfl rfl rfl ?_
  first
    | refine st_op (os_fieldAddrO tabOk rfl rfl rfl (by decide) rfl) rfl rfl rfl ?_
    | refine st_op (os_fieldAddrE tabOk rfl rfl rfl (by decide) rfl) rfl rfl rfl ?_
  refine st_store tabOk rfl rfl rfl rfl rfl rfl rfl rfl rfl (Nat.le_of_ble_eq_true rfl) rfl ?_
  refine aOps_nil ?_
  refine W_seq ?_
  refine W_region ?_
  first
    | refine st_op (os_fieldAddrO tabOk rfl rfl rfl (by decide) rfl) rfl rfl rfl ?_
    | refine st_op (os_fieldAddrE tabOk rfl rfl rfl (by decide) rfl) rfl rfl rfl ?_
  first
    | refine st_op (os_loadO1 tabOk rfl rfl rfl rfl rfl rfl) rfl rfl rfl ?_
    | refine st_op (os_loadE1 tabOk rfl rfl rfl rfl rfl) rfl rfl rfl ?_
    | refine st_op (os_loadES tabOk rfl rfl rfl rfl rfl) rfl rfl rfl ?_
    | refine st_op (os_loadOS tabOk rfl rfl rfl rfl rfl (Nat.le_of_ble_eq_true rfl)) rfl rfl rfl ?_
    | refine st_op (os_loadES tabOk rfl rfl rfl rfl (by assumption)) rfl rfl rfl ?_
    | refine st_op (os_loadLS tabOk rfl rfl rfl rfl rfl (by assumption) rfl (by first | rfl | assumption)) rfl rfl rfl ?_
    | refine st_op (os_loadL1 (q := 0) tabOk rfl rfl rfl rfl rfl (by assumption) rfl rfl) rfl rfl rfl ?_
  first
    | refine st_op (os_fieldAddrO tabOk rfl rfl rfl (by decide) rfl) rfl rfl rfl ?_
    | refine st_op (os_fieldAddrE tabOk rfl rfl rfl (by decide) rfl) rfl rfl rfl ?_
  refine st_store tabOk rfl rfl rfl rfl rfl rfl rfl rfl rfl (Nat.le_of_ble_eq_true rfl) rfl ?_
  refine aOps_nil ?_
  refine W_seq ?_
  refine W_region ?_
  first
    | refine st_op (os_fieldAddrO tabOk rfl rfl rfl (by decide) rfl) rfl rfl rfl ?_
    | refine st_op (os_fieldAddrE tabOk rfl rfl rfl (by decide) rfl) rfl rfl rfl ?_
  first
    | refine st_op (os_loadO1 tabOk rfl rfl rfl rfl rfl rfl) rfl rfl rfl ?_
    | refine st_op (os_loadE1 tabOk rfl rfl rfl rfl rfl) rfl rfl rfl ?_
    | refine st_op (os_loadES tabOk rfl rfl rfl rfl rfl) rfl rfl rfl ?_
    | refine st_op (os_loadOS tabOk rfl rfl rfl rfl rfl (Nat.le_of_ble_eq_true rfl)) rfl rfl rfl ?_
    | refine st_op (os_loadES tabOk rfl rfl rfl rfl (by assumption)) rfl rfl rfl ?_
    | refine st_op (os_loadLS tabOk rfl rfl rfl rfl rfl (by assumption) rfl (by first | rfl | assumption)) rfl rfl rfl ?_
    | refine st_op (os_loadL1 (q := 0) tabOk rfl rfl rfl rfl rfl (by assumption) rfl rfl) rfl rfl rfl ?_
  refine st_op (os_call (ag := [(Operand.tmp 11)]) (toTermS_call ks hc ih) Try.func59 rfl rfl rfl rfl) rfl rfl rfl ?_
  first
    | refine st_op (os_fieldAddrO tabOk rfl rfl rfl (by decide) rfl) rfl rfl rfl ?_
    | refine st_op (os_fieldAddrE tabOk rfl rfl rfl (by decide) rfl) rfl rfl rfl ?_
  refine st_store tabOk rfl rfl rfl rfl rfl rfl rfl rfl rfl (Nat.le_of_ble_eq_true rfl) rfl ?_
  refine aOps_nil ?_
  refine W_seq ?_
  refine W_region ?_
  first
    | refine st_op (os_loadO1 tabOk rfl rfl rfl rfl rfl rfl) rfl rfl rfl ?_
    | refine st_op (os_loadE1 tabOk rfl rfl rfl rfl rfl) rfl rfl rfl ?_
    | refine st_op (os_loadES tabOk rfl rfl rfl rfl rfl) rfl rfl rfl ?_
    | refine st_op (os_loadOS tabOk rfl rfl rfl rfl rfl (Nat.le_of_ble_eq_true rfl)) rfl rfl rfl ?_
    | refine st_op (os_loadES tabOk rfl rfl rfl rfl (by assumption)) rfl rfl rfl ?_
    | refine st_op (os_loadLS tabOk rfl rfl rfl rfl rfl (by assumption) rfl (by first | rfl | assumption)) rfl rfl rfl ?_
    | refine st_op (os_loadL1 (q := 0) tabOk rfl rfl rfl rfl rfl (by assumption) rfl rfl) rfl rfl rfl ?_
  refine st_store tabOk rfl rfl rfl rfl rfl rfl rfl rfl rfl (Nat.le_of_ble_eq_true rfl) rfl ?_
  refine aOps_nil ?_
  refine W_ret ?_
  refine retE_ret ?_
  exact ret_cell tabOk Try.results19 rfl rfl rfl rfl rfl rfl rfl

/-- What is left of a size. -/
def lft (n : Nat) (l : Int) : Int := if l < n then -1 else l - n
theorem lft_le {n : Nat} {l : Int} (h : -1 ≤ l) : -1 ≤ lft n l ∧ lft n l ≤ l := by unfold lft; split <;> omega

theorem szTermS_call (ks : List Tm) (l : Int) (hl : -1 ≤ l ∧ l ≤ 1048576) (ih : ∀ t ∈ ks, ∀ l : Int, -1 ≤ l ∧ l ≤ 1048576 → ACall Try.prog 17 [.dat t.da, Z l] (Z (lft t.cn l)) []) : ACall Try.prog 57 [L (Tm.das ks), Z l] (Z (lft (Tm.cns ks) l)) [] := by
  refine acall_fit fun hfit => ?_
  have hkl : ks.length ≤ 281474976710656 := by have := hfit.one.len; rwa [Tm.das_len] at this
  have hdl := Tm.das_len ks
  have hce := Tm.cns_eq ks
  have hc0 : Tm.cns' (ks.take 0) = 0 := rfl
  refine acall_W Try.func57 rfl _ Try.ntmps57 (Nat.le_of_ble_eq_true rfl) fun w0 S0 => ?_
  refine W_seq ?_
  refine W_region ?_
  refine st_op (opS_of (opP_assign rfl rfl)) rfl rfl rfl ?_
  refine aOps_nil ?_
  refine W_seq ?_
  refine W_region ?_
  refine st_op (opS_of (opP_move rfl rfl)) rfl rfl rfl ?_
  refine st_op (opS_of (opP_move rfl rfl)) rfl rfl rfl ?_
  first
    | refine st_op (os_lenD tabOk rfl rfl rfl rfl rfl) rfl rfl rfl ?_
    | refine st_op (os_lenO tabOk rfl rfl rfl rfl rfl rfl) rfl rfl rfl ?_
    | refine st_op (os_lenS tabOk rfl rfl rfl rfl) rfl rfl rfl ?_
    | refine st_op (os_len0 tabOk rfl rfl rfl rfl rfl) rfl rfl rfl ?_
  first
    | refine st_op (opS_of (opP_sub64 rfl rfl rfl (by omega))) rfl rfl rfl ?_
    | refine st_op (opS_of (opP_sub rfl rfl rfl)) rfl rfl rfl ?_
  refine st_op (opS_of (opP_assign rfl rfl)) rfl rfl rfl ?_
  refine aOps_nil ?_
  refine W_seq ?_
  refine W_seq ?_
  refine W_region ?_
  refine st_op (opS_of (opP_move rfl rfl)) rfl rfl rfl ?_
  refine st_op (opS_of (opP_lss rfl rfl rfl)) rfl rfl rfl ?_
  refine aOps_nil ?_
  refine W_cond rfl (fun hc11 => ?_) (fun hc11 => ?_)
  · refine W_seq ?_
    refine W_region ?_
    refine st_op (opS_of (opP_assign rfl rfl)) rfl rfl rfl ?_
    refine aOps_nil ?_
    refine W_ret ?_
    refine retE_ret ?_
    refine retOk_tmpE Try.results57 rfl (congrArg Z ?_) rfl
    have hfin := Tm.cns'_le ks
    first | (have hk2 : k = ks.length := by simp at hc15; omega); subst hk2; rw [List.take_length] at hJ ⊢; unfold lft; split <;> omega | have hle2 := hfin (k + 1); have hlt := of_decide_eq_true hc25; unfold lft at hlt ⊢; split at hlt <;> split <;> omega | (have hlt := of_decide_eq_true hc11); unfold lft; split <;> omega
  · refine W_skip ?_
    refine W_seq ?_
    refine W_seq ?_
    refine W_region ?_
    refine st_op (opS_of (opP_assign rfl rfl)) rfl rfl rfl ?_
    refine aOps_nil ?_
    refine W_block ?_
    refine W_countI (fun k => ⟨[(0, L (Tm.das ks)), (1, Z (l - ks.length - Tm.cns' (ks.take k))), (5, Z k)], []⟩) (fun k => 0 ≤ l - ks.length - Tm.cns' (ks.take k)) ks.length 0 (by (refine Ent.of ?_; repeat (first | (refine entOk_tm rfl ?_) | (refine entOk_ob rfl ?_) | exact entOk_nil | (refine entOk_Z rfl (by omega) ?_) | (refine entOk_Z rfl (by simp <;> omega) ?_) | (refine entOk_lst rfl (by assumption) ?_) | (refine entOk_lst rfl (fill_setE rfl (by assumption) (by assumption) rfl) ?_) | (refine entOk_lst rfl (by simp_all; done) ?_) | (refine entOk_var rfl (by simp_all; done) ?_)))) (by simp at hc11; omega) (Nat.zero_le _) (fun k _ hk hJ => ?_)
    refine W_seq ?_
    refine W_seq ?_
    refine W_region ?_
    refine st_op (opS_of (opP_move rfl rfl)) rfl rfl rfl ?_
    refine st_op (opS_of (opP_move rfl rfl)) rfl rfl rfl ?_
    first
      | refine st_op (os_lenD tabOk rfl rfl rfl rfl rfl) rfl rfl rfl ?_
      | refine st_op (os_lenO tabOk rfl rfl rfl rfl rfl rfl) rfl rfl rfl ?_
      | refine st_op (os_lenS tabOk rfl rfl rfl rfl) rfl rfl rfl ?_
      | refine st_op (os_len0 tabOk rfl rfl rfl rfl rfl) rfl rfl rfl ?_
    refine st_op (opS_of (opP_lss rfl rfl rfl)) rfl rfl rfl ?_
    refine aOps_nil ?_
    refine W_cond rfl (fun hc15 => ?_) (fun hc15 => ?_)
    · refine W_skip ?_
      refine W_seq ?_
      refine W_block ?_
      refine W_seq ?_
      have hlk := ofNat_lt hc15
      rw [Tm.das_len] at hlk
      obtain ⟨t', ht⟩ : ∃ t', ks[k]? = some t' := ⟨ks[k], List.getElem?_eq_getElem hlk⟩
      have ht' : t' ∈ ks := List.mem_of_getElem? ht
      have hx : (Tm.das ks)[k]? = some t'.da := by rw [Tm.das_get, ht]; rfl
      have h3 := Tm.da_len t'
      have htk := Tm.cns'_take ht
      have hle := lft_le (n := t'.cn) (l := l - ks.length - Tm.cns' (ks.take k)) (by omega)
      refine W_region ?_
      refine st_op (opS_of (opP_move rfl rfl)) rfl rfl rfl ?_
      refine st_op (opS_of (opP_move rfl rfl)) rfl rfl rfl ?_
      first
        | refine st_op (os_indexD tabOk rfl rfl rfl rfl rfl (by decide) rfl rfl (by assumption) (by first | rfl | assumption)) rfl rfl rfl ?_
        | refine st_op (os_indexO tabOk rfl rfl rfl rfl rfl rfl rfl rfl (by decide) rfl (by first | assumption | (simp; omega))) rfl rfl rfl ?_
      first
        | refine st_op (os_loadO1 tabOk rfl rfl rfl rfl rfl rfl) rfl rfl rfl ?_
        | refine st_op (os_loadE1 tabOk rfl rfl rfl rfl rfl) rfl rfl rfl ?_
        | refine st_op (os_loadES tabOk rfl rfl rfl rfl rfl) rfl rfl rfl ?_
        | refine st_op (os_loadOS tabOk rfl rfl rfl rfl rfl (Nat.le_of_ble_eq_true rfl)) rfl rfl rfl ?_
        | refine st_op (os_loadES tabOk rfl rfl rfl rfl (by assumption)) rfl rfl rfl ?_
        | refine st_op (os_loadLS tabOk rfl rfl rfl rfl rfl (by assumption) rfl (by first | rfl | assumption)) rfl rfl rfl ?_
        | refine st_op (os_loadL1 (q := 0) tabOk rfl rfl rfl rfl rfl (by assumption) rfl rfl) rfl rfl rfl ?_
      refine st_op (opS_of (opP_move rfl rfl)) rfl rfl rfl ?_
      refine st_op (os_call (ag := [(Operand.tmp 21), (Operand.tmp 22)]) (ih t' ht' _ (by omega)) Try.func17 rfl rfl rfl rfl) rfl rfl rfl ?_
      refine st_op (opS_of (opP_assign rfl rfl)) rfl rfl rfl ?_
      refine aOps_nil ?_
      refine W_seq ?_
      refine W_region ?_
      refine st_op (opS_of (opP_move rfl rfl)) rfl rfl rfl ?_
      refine st_op (opS_of (opP_lss rfl rfl rfl)) rfl rfl rfl ?_
      refine aOps_nil ?_
      refine W_cond rfl (fun hc25 => ?_) (fun hc25 => ?_)
      · refine W_seq ?_
        refine W_region ?_
        refine st_op (opS_of (opP_assign rfl rfl)) rfl rfl rfl ?_
        refine aOps_nil ?_
        refine W_ret ?_
        refine blockE_ret ?_
        refine blockE_ret ?_
        refine retE_ret ?_
        refine retOk_tmpE Try.results57 rfl (congrArg Z ?_) rfl
        have hfin := Tm.cns'_le ks
        first | (have hk2 : k = ks.length := by simp at hc15; omega); subst hk2; rw [List.take_length] at hJ ⊢; unfold lft; split <;> omega | have hle2 := hfin (k + 1); have hlt := of_decide_eq_true hc25; unfold lft at hlt ⊢; split at hlt <;> split <;> omega | (have hlt := of_decide_eq_true hc11); unfold lft; split <;> omega
      · refine W_skip ?_
        refine W_region ?_
        refine st_op (opS_of (opP_move rfl rfl)) rfl rfl rfl ?_
        first
          | refine st_op (opS_of (opP_add64 rfl rfl rfl (by omega))) rfl rfl rfl ?_
          | refine st_op (opS_of (opP_strAdd rfl rfl rfl (by assumption))) rfl rfl rfl ?_
          | refine st_op (opS_of (opP_add rfl rfl rfl)) rfl rfl rfl ?_
        refine st_op (opS_of (opP_assign rfl rfl)) rfl rfl rfl ?_
        refine aOps_nil ?_
        have hc25' : 0 ≤ lft t'.cn (l - ks.length - Tm.cns' (ks.take k)) := by simpa using hc25
        have hlf : lft t'.cn (l - ks.length - Tm.cns' (ks.take k)) = l - ks.length - Tm.cns' (ks.take (k + 1)) := by unfold lft at hc25' ⊢; split <;> omega
        refine ⟨k + 1, ?_, by omega, by omega, by omega⟩
        (refine Ent.of ?_; repeat (first | (refine entOk_tm rfl ?_) | (refine entOk_ob rfl ?_) | exact entOk_nil | (refine entOk_Z rfl (by omega) ?_) | (refine entOk_Z rfl (by simp <;> omega) ?_) | (refine entOk_lst rfl (by assumption) ?_) | (refine entOk_lst rfl (fill_setE rfl (by assumption) (by assumption) rfl) ?_) | (refine entOk_lst rfl (by simp_all; done) ?_) | (refine entOk_var rfl (by simp_all; done) ?_)))
    · refine W_exit ?_
      refine blockE_hit ?_
      refine W_seq ?_
      refine W_region ?_
      refine st_op (opS_of (opP_move rfl rfl)) rfl rfl rfl ?_
      refine st_op (opS_of (opP_assign rfl rfl)) rfl rfl rfl ?_
      refine aOps_nil ?_
      refine W_ret ?_
      refine retE_ret ?_
      refine retOk_tmpE Try.results57 rfl (congrArg Z ?_) rfl
      have hfin := Tm.cns'_le ks
      first | (have hk2 : k = ks.length := by simp at hc15; omega); subst hk2; rw [List.take_length] at hJ ⊢; unfold lft; split <;> omega | have hle2 := hfin (k + 1); have hlt := of_decide_eq_true hc25; unfold lft at hlt ⊢; split at hlt <;> split <;> omega | (have hlt := of_decide_eq_true hc11); unfold lft; split <;> omega

theorem szTerm_call (t : Tm) (l : Int) (hl : -1 ≤ l ∧ l ≤ 1048576) : ACall Try.prog 17 [.dat t.da, Z l] (Z (lft t.cn l)) [] := by
  induction t using Tm.ind generalizing l with
  | h f v ks ih =>
  have hle := lft_le (n := Tm.cns ks) (l := l) (by omega)
  refine acall_W Try.func17 rfl _ Try.ntmps17 (Nat.le_of_ble_eq_true rfl) fun w0 S0 => ?_
  refine W_seq ?_
  refine W_region ?_
  refine st_op (os_box rfl rfl rfl rfl rfl) rfl rfl rfl ?_
  refine st_op (opS_of (opP_assign rfl rfl)) rfl rfl rfl ?_
  refine aOps_nil ?_
  refine W_seq ?_
  refine W_region ?_
  first
    | refine st_op (os_fieldAddrO tabOk rfl rfl rfl (by decide) rfl) rfl rfl rfl ?_
    | refine st_op (os_fieldAddrE tabOk rfl rfl rfl (by decide) rfl) rfl rfl rfl ?_
  first
    | refine st_op (os_loadO1 tabOk rfl rfl rfl rfl rfl rfl) rfl rfl rfl ?_
    | refine st_op (os_loadE1 tabOk rfl rfl rfl rfl rfl) rfl rfl rfl ?_
    | refine st_op (os_loadES tabOk rfl rfl rfl rfl rfl) rfl rfl rfl ?_
    | refine st_op (os_loadOS tabOk rfl rfl rfl rfl rfl (Nat.le_of_ble_eq_true rfl)) rfl rfl rfl ?_
    | refine st_op (os_loadES tabOk rfl rfl rfl rfl (by assumption)) rfl rfl rfl ?_
    | refine st_op (os_loadLS tabOk rfl rfl rfl rfl rfl (by assumption) rfl (by first | rfl | assumption)) rfl rfl rfl ?_
    | refine st_op (os_loadL1 (q := 0) tabOk rfl rfl rfl rfl rfl (by assumption) rfl rfl) rfl rfl rfl ?_
  refine st_op (opS_of (opP_move rfl rfl)) rfl rfl rfl ?_
  refine st_op (os_call (ag := [(Operand.tmp 6), (Operand.tmp 7)]) (szTermS_call ks l (by omega) ih) Try.func57 rfl rfl rfl rfl) rfl rfl rfl ?_
  refine st_op (opS_of (opP_assign rfl rfl)) rfl rfl rfl ?_
  refine aOps_nil ?_
  refine W_seq ?_
  refine W_seq ?_
  refine W_region ?_
  refine st_op (opS_of (opP_move rfl rfl)) rfl rfl rfl ?_
  refine st_op (opS_of (opP_lss rfl rfl rfl)) rfl rfl rfl ?_
  refine aOps_nil ?_
  refine W_cond rfl (fun hc10 => ?_) (fun hc10 => ?_)
  · refine W_seq ?_
    refine W_region ?_
    refine st_op (opS_of (opP_assign rfl rfl)) rfl rfl rfl ?_
    refine aOps_nil ?_
    refine W_ret ?_
    refine retE_ret ?_
    refine retOk_tmpE Try.results17 rfl (congrArg Z ?_) rfl
    first | (unfold Tm.cn; rfl) | (have hlt := of_decide_eq_true hc10); unfold Tm.cn; omega
  · refine W_skip ?_
    refine W_seq ?_
    refine W_region ?_
    refine st_op (opS_of (opP_move rfl rfl)) rfl rfl rfl ?_
    refine st_op (opS_of (opP_assign rfl rfl)) rfl rfl rfl ?_
    refine aOps_nil ?_
    refine W_ret ?_
    refine retE_ret ?_
    refine retOk_tmpE Try.results17 rfl (congrArg Z ?_) rfl
    first | (unfold Tm.cn; rfl) | (have hlt := of_decide_eq_true hc10); unfold Tm.cn; omega

theorem eqTermS_call (ks : List Tm) (ih : ∀ t ∈ ks, ACall Try.prog 22 [.dat t.da, .dat t.da] (B true) []) : ACall Try.prog 61 [L (Tm.das ks), L (Tm.das ks)] (B true) [] := by
  refine acall_fit fun hfit => ?_
  have hkl : ks.length ≤ 281474976710656 := by have := hfit.one.len; rwa [Tm.das_len] at this
  refine acall_W Try.func61 rfl _ Try.ntmps61 (Nat.le_of_ble_eq_true rfl) fun w0 S0 => ?_
  refine W_seq ?_
  refine W_region ?_
  refine st_op (opS_of (opP_assign rfl rfl)) rfl rfl rfl ?_
  refine aOps_nil ?_
  refine W_seq ?_
  refine W_seq ?_
  refine W_region ?_
  refine st_op (opS_of (opP_move rfl rfl)) rfl rfl rfl ?_
  first
    | refine st_op (os_lenD tabOk rfl rfl rfl rfl rfl) rfl rfl rfl ?_
    | refine st_op (os_lenO tabOk rfl rfl rfl rfl rfl rfl) rfl rfl rfl ?_
    | refine st_op (os_lenS tabOk rfl rfl rfl rfl) rfl rfl rfl ?_
    | refine st_op (os_len0 tabOk rfl rfl rfl rfl rfl) rfl rfl rfl ?_
  refine st_op (opS_of (opP_move rfl rfl)) rfl rfl rfl ?_
  first
    | refine st_op (os_lenD tabOk rfl rfl rfl rfl rfl) rfl rfl rfl ?_
    | refine st_op (os_lenO tabOk rfl rfl rfl rfl rfl rfl) rfl rfl rfl ?_
    | refine st_op (os_lenS tabOk rfl rfl rfl rfl) rfl rfl rfl ?_
    | refine st_op (os_len0 tabOk rfl rfl rfl rfl rfl) rfl rfl rfl ?_
  first
    | refine st_op (opS_of (opP_neq rfl rfl rfl)) rfl rfl rfl ?_
    | refine st_op (opS_of (opP_strNe rfl rfl rfl)) rfl rfl rfl ?_
    | refine st_op (os_boolNe tabOk rfl rfl rfl rfl rfl) rfl rfl rfl ?_
  refine aOps_nil ?_
  refine W_cond rfl (fun hc10 => ?_) (fun hc10 => ?_)
  · simp at hc10
  · refine W_skip ?_
    refine W_seq ?_
    refine W_seq ?_
    refine W_region ?_
    refine st_op (opS_of (opP_assign rfl rfl)) rfl rfl rfl ?_
    refine aOps_nil ?_
    refine W_block ?_
    refine W_countI (fun k => ⟨[(0, L (Tm.das ks)), (1, L (Tm.das ks)), (5, Z k)], []⟩) (fun k => True) ks.length 0 (by (refine Ent.of ?_; repeat (first | (refine entOk_tm rfl ?_) | (refine entOk_ob rfl ?_) | exact entOk_nil | (refine entOk_Z rfl (by omega) ?_) | (refine entOk_Z rfl (by simp <;> omega) ?_) | (refine entOk_lst rfl (by assumption) ?_) | (refine entOk_lst rfl (fill_setE rfl (by assumption) (by assumption) rfl) ?_) | (refine entOk_lst rfl (by simp_all; done) ?_) | (refine entOk_var rfl (by simp_all; done) ?_)))) trivial (Nat.zero_le _) (fun k _ hk hJ => ?_)
    refine W_seq ?_
    refine W_seq ?_
    refine W_region ?_
    refine st_op (opS_of (opP_move rfl rfl)) rfl rfl rfl ?_
    refine st_op (opS_of (opP_move rfl rfl)) rfl rfl rfl ?_
    first
      | refine st_op (os_lenD tabOk rfl rfl rfl rfl rfl) rfl rfl rfl ?_
      | refine st_op (os_lenO tabOk rfl rfl rfl rfl rfl rfl) rfl rfl rfl ?_
      | refine st_op (os_lenS tabOk rfl rfl rfl rfl) rfl rfl rfl ?_
      | refine st_op (os_len0 tabOk rfl rfl rfl rfl rfl) rfl rfl rfl ?_
    refine st_op (opS_of (opP_lss rfl rfl rfl)) rfl rfl rfl ?_
    refine aOps_nil ?_
    refine W_cond rfl (fun hc14 => ?_) (fun hc14 => ?_)
    · refine W_skip ?_
      refine W_seq ?_
      refine W_block ?_
      refine W_seq ?_
      have hlk := ofNat_lt hc14
      rw [Tm.das_len] at hlk
      obtain ⟨t', ht⟩ : ∃ t', ks[k]? = some t' := ⟨ks[k], List.getElem?_eq_getElem hlk⟩
      have ht' : t' ∈ ks := List.mem_of_getElem? ht
      have hx : (Tm.das ks)[k]? = some t'.da := by rw [Tm.das_get, ht]; rfl
      have h3 := Tm.da_len t'
      refine W_drawK mixed (by kernel_rfl) ?_
      refine pq_op (opS_of (opP_move rfl rfl)) rfl rfl rfl rfl rfl ?_
      refine pq_op (opS_of (opP_move rfl rfl)) rfl rfl rfl rfl rfl ?_
      first
        | refine pq_op (os_indexD tabOk rfl rfl rfl rfl rfl (by decide) rfl rfl (by assumption) (by first | rfl | assumption)) rfl rfl rfl rfl rfl ?_
        | refine pq_op (os_indexO tabOk rfl rfl rfl rfl rfl rfl rfl rfl (by decide) rfl (by first | assumption | (simp; omega))) rfl rfl rfl rfl rfl ?_
      first
        | refine pq_op (os_loadO1 tabOk rfl rfl rfl rfl rfl rfl) rfl rfl rfl rfl rfl ?_
        | refine pq_op (os_loadE1 tabOk rfl rfl rfl rfl rfl) rfl rfl rfl rfl rfl ?_
        | refine pq_op (os_loadES tabOk rfl rfl rfl rfl rfl) rfl rfl rfl rfl rfl ?_
        | refine pq_op (os_loadOS tabOk rfl rfl rfl rfl rfl (Nat.le_of_ble_eq_true rfl)) rfl rfl rfl rfl rfl ?_
        | refine pq_op (os_loadES tabOk rfl rfl rfl rfl (by assumption)) rfl rfl rfl rfl rfl ?_
        | refine pq_op (os_loadLS tabOk rfl rfl rfl rfl rfl (by assumption) rfl (by first | rfl | assumption)) rfl rfl rfl rfl rfl ?_
        | refine pq_op (os_loadL1 (q := 0) tabOk rfl rfl rfl rfl rfl (by assumption) rfl rfl) rfl rfl rfl rfl rfl ?_
      refine pq_op (opS_of (opP_move rfl rfl)) rfl rfl rfl rfl rfl ?_
      refine pq_op (opS_of (opP_move rfl rfl)) rfl rfl rfl rfl rfl ?_
      first
        | refine pq_op (os_indexD tabOk rfl rfl rfl rfl rfl (by decide) rfl rfl (by assumption) (by first | rfl | assumption)) rfl rfl rfl rfl rfl ?_
        | refine pq_op (os_indexO tabOk rfl rfl rfl rfl rfl rfl rfl rfl (by decide) rfl (by first | assumption | (simp; omega))) rfl rfl rfl rfl rfl ?_
      first
        | refine pq_op (os_loadO1 tabOk rfl rfl rfl rfl rfl rfl) rfl rfl rfl rfl rfl ?_
        | refine pq_op (os_loadE1 tabOk rfl rfl rfl rfl rfl) rfl rfl rfl rfl rfl ?_
        | refine pq_op (os_loadES tabOk rfl rfl rfl rfl rfl) rfl rfl rfl rfl rfl ?_
        | refine pq_op (os_loadOS tabOk rfl rfl rfl rfl rfl (Nat.le_of_ble_eq_true rfl)) rfl rfl rfl rfl rfl ?_
        | refine pq_op (os_loadES tabOk rfl rfl rfl rfl (by assumption)) rfl rfl rfl rfl rfl ?_
        | refine pq_op (os_loadLS tabOk rfl rfl rfl rfl rfl (by assumption) rfl (by first | rfl | assumption)) rfl rfl rfl rfl rfl ?_
        | refine pq_op (os_loadL1 (q := 0) tabOk rfl rfl rfl rfl rfl (by assumption) rfl rfl) rfl rfl rfl rfl rfl ?_
      refine pq_op (os_call (ag := [(Operand.tmp 20), (Operand.tmp 24)]) (ih t' ht') Try.func22 rfl rfl rfl rfl) rfl rfl rfl rfl rfl ?_
      refine pq_op (opS_of (opP_not rfl rfl)) rfl rfl rfl rfl rfl ?_
      refine pq_nil ?_
      refine W_cond rfl (fun hc26 => ?_) (fun hc26 => ?_)
      · simp at hc26
      · refine W_skip ?_
        refine W_region ?_
        refine st_op (opS_of (opP_move rfl rfl)) rfl rfl rfl ?_
        first
          | refine st_op (opS_of (opP_add64 rfl rfl rfl (by omega))) rfl rfl rfl ?_
          | refine st_op (opS_of (opP_strAdd rfl rfl rfl (by assumption))) rfl rfl rfl ?_
          | refine st_op (opS_of (opP_add rfl rfl rfl)) rfl rfl rfl ?_
        refine st_op (opS_of (opP_assign rfl rfl)) rfl rfl rfl ?_
        refine aOps_nil ?_
        refine ⟨k + 1, ?_, trivial, by omega, by omega⟩
        (refine Ent.of ?_; repeat (first | (refine entOk_tm rfl ?_) | (refine entOk_ob rfl ?_) | exact entOk_nil | (refine entOk_Z rfl (by omega) ?_) | (refine entOk_Z rfl (by simp <;> omega) ?_) | (refine entOk_lst rfl (by assumption) ?_) | (refine entOk_lst rfl (fill_setE rfl (by assumption) (by assumption) rfl) ?_) | (refine entOk_lst rfl (by simp_all; done) ?_) | (refine entOk_var rfl (by simp_all; done) ?_)))
    · refine W_exit ?_
      refine blockE_hit ?_
      refine W_seq ?_
      refine W_region ?_
      refine st_op (opS_of (opP_assign rfl rfl)) rfl rfl rfl ?_
      refine aOps_nil ?_
      refine W_ret ?_
      refine retE_ret ?_
      exact retOk_tmpE Try.results61 rfl rfl rfl

theorem eqTerm_call (t : Tm) : ACall Try.prog 22 [.dat t.da, .dat t.da] (B true) [] := by
  induction t using Tm.ind with
  | h f v ks ih =>
  refine acall_W Try.func22 rfl _ Try.ntmps22 (Nat.le_of_ble_eq_true rfl) fun w0 S0 => ?_
  refine W_seq ?_
  refine W_region ?_
  refine st_op (os_box rfl rfl rfl rfl rfl) rfl rfl rfl ?_
  refine st_op (os_box rfl rfl rfl rfl rfl) rfl rfl rfl ?_
  refine st_op (opS_of (opP_assign rfl rfl)) rfl rfl rfl ?_
  refine aOps_nil ?_
  refine W_seq ?_
  refine W_seq ?_
  refine W_region ?_
  first
    | refine st_op (os_fieldAddrO tabOk rfl rfl rfl (by decide) rfl) rfl rfl rfl ?_
    | refine st_op (os_fieldAddrE tabOk rfl rfl rfl (by decide) rfl) rfl rfl rfl ?_
  first
    | refine st_op (os_loadO1 tabOk rfl rfl rfl rfl rfl rfl) rfl rfl rfl ?_
    | refine st_op (os_loadE1 tabOk rfl rfl rfl rfl rfl) rfl rfl rfl ?_
    | refine st_op (os_loadES tabOk rfl rfl rfl rfl rfl) rfl rfl rfl ?_
    | refine st_op (os_loadOS tabOk rfl rfl rfl rfl rfl (Nat.le_of_ble_eq_true rfl)) rfl rfl rfl ?_
    | refine st_op (os_loadES tabOk rfl rfl rfl rfl (by assumption)) rfl rfl rfl ?_
    | refine st_op (os_loadLS tabOk rfl rfl rfl rfl rfl (by assumption) rfl (by first | rfl | assumption)) rfl rfl rfl ?_
    | refine st_op (os_loadL1 (q := 0) tabOk rfl rfl rfl rfl rfl (by assumption) rfl rfl) rfl rfl rfl ?_
  first
    | refine st_op (os_fieldAddrO tabOk rfl rfl rfl (by decide) rfl) rfl rfl rfl ?_
    | refine st_op (os_fieldAddrE tabOk rfl rfl rfl (by decide) rfl) rfl rfl rfl ?_
  first
    | refine st_op (os_loadO1 tabOk rfl rfl rfl rfl rfl rfl) rfl rfl rfl ?_
    | refine st_op (os_loadE1 tabOk rfl rfl rfl rfl rfl) rfl rfl rfl ?_
    | refine st_op (os_loadES tabOk rfl rfl rfl rfl rfl) rfl rfl rfl ?_
    | refine st_op (os_loadOS tabOk rfl rfl rfl rfl rfl (Nat.le_of_ble_eq_true rfl)) rfl rfl rfl ?_
    | refine st_op (os_loadES tabOk rfl rfl rfl rfl (by assumption)) rfl rfl rfl ?_
    | refine st_op (os_loadLS tabOk rfl rfl rfl rfl rfl (by assumption) rfl (by first | rfl | assumption)) rfl rfl rfl ?_
    | refine st_op (os_loadL1 (q := 0) tabOk rfl rfl rfl rfl rfl (by assumption) rfl rfl) rfl rfl rfl ?_
  first
    | refine st_op (opS_of (opP_neq rfl rfl rfl)) rfl rfl rfl ?_
    | refine st_op (opS_of (opP_strNe rfl rfl rfl)) rfl rfl rfl ?_
    | refine st_op (os_boolNe tabOk rfl rfl rfl rfl rfl) rfl rfl rfl ?_
  refine aOps_nil ?_
  refine W_cond rfl (fun hc9 => ?_) (fun hc9 => ?_)
  · simp at hc9
  · refine W_skip ?_
    refine W_seq ?_
    refine W_seq ?_
    refine W_region ?_
    first
      | refine st_op (os_fieldAddrO tabOk rfl rfl rfl (by decide) rfl) rfl rfl rfl ?_
      | refine st_op (os_fieldAddrE tabOk rfl rfl rfl (by decide) rfl) rfl rfl rfl ?_
    first
      | refine st_op (os_loadO1 tabOk rfl rfl rfl rfl rfl rfl) rfl rfl rfl ?_
      | refine st_op (os_loadE1 tabOk rfl rfl rfl rfl rfl) rfl rfl rfl ?_
      | refine st_op (os_loadES tabOk rfl rfl rfl rfl rfl) rfl rfl rfl ?_
      | refine st_op (os_loadOS tabOk rfl rfl rfl rfl rfl (Nat.le_of_ble_eq_true rfl)) rfl rfl rfl ?_
      | refine st_op (os_loadES tabOk rfl rfl rfl rfl (by assumption)) rfl rfl rfl ?_
      | refine st_op (os_loadLS tabOk rfl rfl rfl rfl rfl (by assumption) rfl (by first | rfl | assumption)) rfl rfl rfl ?_
      | refine st_op (os_loadL1 (q := 0) tabOk rfl rfl rfl rfl rfl (by assumption) rfl rfl) rfl rfl rfl ?_
    first
      | refine st_op (os_fieldAddrO tabOk rfl rfl rfl (by decide) rfl) rfl rfl rfl ?_
      | refine st_op (os_fieldAddrE tabOk rfl rfl rfl (by decide) rfl) rfl rfl rfl ?_
    first
      | refine st_op (os_loadO1 tabOk rfl rfl rfl rfl rfl rfl) rfl rfl rfl ?_
      | refine st_op (os_loadE1 tabOk rfl rfl rfl rfl rfl) rfl rfl rfl ?_
      | refine st_op (os_loadES tabOk rfl rfl rfl rfl rfl) rfl rfl rfl ?_
      | refine st_op (os_loadOS tabOk rfl rfl rfl rfl rfl (Nat.le_of_ble_eq_true rfl)) rfl rfl rfl ?_
      | refine st_op (os_loadES tabOk rfl rfl rfl rfl (by assumption)) rfl rfl rfl ?_
      | refine st_op (os_loadLS tabOk rfl rfl rfl rfl rfl (by assumption) rfl (by first | rfl | assumption)) rfl rfl rfl ?_
      | refine st_op (os_loadL1 (q := 0) tabOk rfl rfl rfl rfl rfl (by assumption) rfl rfl) rfl rfl rfl ?_
    first
      | refine st_op (opS_of (opP_neq rfl rfl rfl)) rfl rfl rfl ?_
      | refine st_op (opS_of (opP_strNe rfl rfl rfl)) rfl rfl rfl ?_
      | refine st_op (os_boolNe tabOk rfl rfl rfl rfl rfl) rfl rfl rfl ?_
    refine aOps_nil ?_
    refine W_cond rfl (fun hc14 => ?_) (fun hc14 => ?_)
    · simp at hc14
    · refine W_skip ?_
      refine W_seq ?_
      refine W_seq ?_
      refine W_region ?_
      first
        | refine st_op (os_fieldAddrO tabOk rfl rfl rfl (by decide) rfl) rfl rfl rfl ?_
        | refine st_op (os_fieldAddrE tabOk rfl rfl rfl (by decide) rfl) rfl rfl rfl ?_
      first
        | refine st_op (os_loadO1 tabOk rfl rfl rfl rfl rfl rfl) rfl rfl rfl ?_
        | refine st_op (os_loadE1 tabOk rfl rfl rfl rfl rfl) rfl rfl rfl ?_
        | refine st_op (os_loadES tabOk rfl rfl rfl rfl rfl) rfl rfl rfl ?_
        | refine st_op (os_loadOS tabOk rfl rfl rfl rfl rfl (Nat.le_of_ble_eq_true rfl)) rfl rfl rfl ?_
        | refine st_op (os_loadES tabOk rfl rfl rfl rfl (by assumption)) rfl rfl rfl ?_
        | refine st_op (os_loadLS tabOk rfl rfl rfl rfl rfl (by assumption) rfl (by first | rfl | assumption)) rfl rfl rfl ?_
        | refine st_op (os_loadL1 (q := 0) tabOk rfl rfl rfl rfl rfl (by assumption) rfl rfl) rfl rfl rfl ?_
      first
        | refine st_op (os_fieldAddrO tabOk rfl rfl rfl (by decide) rfl) rfl rfl rfl ?_
        | refine st_op (os_fieldAddrE tabOk rfl rfl rfl (by decide) rfl) rfl rfl rfl ?_
      first
        | refine st_op (os_loadO1 tabOk rfl rfl rfl rfl rfl rfl) rfl rfl rfl ?_
        | refine st_op (os_loadE1 tabOk rfl rfl rfl rfl rfl) rfl rfl rfl ?_
        | refine st_op (os_loadES tabOk rfl rfl rfl rfl rfl) rfl rfl rfl ?_
        | refine st_op (os_loadOS tabOk rfl rfl rfl rfl rfl (Nat.le_of_ble_eq_true rfl)) rfl rfl rfl ?_
        | refine st_op (os_loadES tabOk rfl rfl rfl rfl (by assumption)) rfl rfl rfl ?_
        | refine st_op (os_loadLS tabOk rfl rfl rfl rfl rfl (by assumption) rfl (by first | rfl | assumption)) rfl rfl rfl ?_
        | refine st_op (os_loadL1 (q := 0) tabOk rfl rfl rfl rfl rfl (by assumption) rfl rfl) rfl rfl rfl ?_
      refine st_op (os_call (ag := [(Operand.tmp 16), (Operand.tmp 18)]) (eqTermS_call ks ih) Try.func61 rfl rfl rfl rfl) rfl rfl rfl ?_
      refine st_op (opS_of (opP_not rfl rfl)) rfl rfl rfl ?_
      refine aOps_nil ?_
      refine W_cond rfl (fun hc20 => ?_) (fun hc20 => ?_)
      · simp at hc20
      · refine W_skip ?_
        refine W_seq ?_
        refine W_region ?_
        refine st_op (opS_of (opP_assign rfl rfl)) rfl rfl rfl ?_
        refine aOps_nil ?_
        refine W_ret ?_
        refine retE_ret ?_
        exact retOk_tmpE Try.results22 rfl rfl rfl

end AM
end Go.Proofs.Ytfmfflfnkjoopaa
