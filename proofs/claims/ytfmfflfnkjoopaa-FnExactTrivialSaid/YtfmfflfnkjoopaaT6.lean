/- Copies, sizes and comparisons of functions (Sym), literals' lists and clauses; no conditions. -/
import Derived.Test.YtfmfflfnkjoopaaT3
import Derived.Test.YtfmfflfnkjoopaaAm15
set_option linter.unusedVariables false
set_option linter.unusedSimpArgs false
namespace Go.Proofs.Ytfmfflfnkjoopaa
namespace AM
open Go
attribute [local irreducible] aOps awp W OpP OpS ACall RetOk

/-- Lists of Lit, as data. -/
def Li.das (l : List Li) : List (List Da) := l.map Li.da
theorem Li.das_len (l : List Li) : (Li.das l).length = l.length := by simp [Li.das]
theorem Li.das_get (l : List Li) (i : Nat) : (Li.das l)[i]? = (l[i]?).map Li.da := by simp [Li.das]
def Li.cns' : List Li → Nat
  | [] => 0
  | t :: r => t.cn + Li.cns' r
def Li.cns (l : List Li) : Nat := l.length + Li.cns' l
theorem Li.cns_mem {l : List Li} {t : Li} (h : t ∈ l) : t.cn + l.length ≤ Li.cns l := by
  unfold Li.cns
  induction l with
  | nil => simp at h
  | cons u r ih =>
    rcases List.mem_cons.1 h with rfl | h
    · simp [Li.cns']; omega
    · have := ih h; simp [Li.cns']; omega
theorem Li.cns'_take {l : List Li} {k : Nat} {t : Li} (h : l[k]? = some t) : Li.cns' (l.take (k + 1)) = Li.cns' (l.take k) + t.cn := by
  induction l generalizing k with
  | nil => simp at h
  | cons u r ih =>
    cases k with
    | zero => simp at h; subst h; simp [Li.cns']
    | succ k => have := ih (k := k) (by simpa using h); simp [Li.cns', this]; omega
theorem Li.cns'_le (l : List Li) (k : Nat) : Li.cns' (l.take k) ≤ Li.cns' l := by
  induction l generalizing k with
  | nil => simp
  | cons u r ih =>
    cases k with
    | zero => simp [Li.cns']
    | succ k => have := ih k; simp [Li.cns']; omega

theorem toLitS_call (ks : List Li) (hc : Li.cns ks ≤ 1048576) : ACall Try.prog 74 [L (Li.das ks)] (L (Li.das ks)) [] := by
  have hkl : ks.length ≤ Li.cns ks := Nat.le_add_right _ _
  have hdl := Li.das_len ks
  refine acall_W Try.func74 rfl _ Try.ntmps74 (Nat.le_of_ble_eq_true rfl) fun w0 S0 => ?_
  refine W_seq ?_
  refine W_region ?_
  refine st_op (opS_of (opP_assign rfl rfl)) rfl rfl rfl ?_
  refine aOps_nil ?_
  refine W_seq ?_
  refine W_region ?_
  refine st_op (opS_of (opP_move rfl rfl)) rfl rfl rfl ?_
  first
    | refine st_op (os_lenD tabOk rfl rfl rfl rfl rfl) rfl rfl rfl ?_
    | refine st_op (os_lenO tabOk rfl rfl rfl rfl rfl rfl) rfl rfl rfl ?_
    | refine st_op (os_lenS tabOk rfl rfl rfl rfl) rfl rfl rfl ?_
    | refine st_op (os_len0 tabOk rfl rfl rfl rfl rfl) rfl rfl rfl ?_
  refine st_op (os_make tabOk z51 rfl rfl rfl rfl rfl (by decide) rfl rfl rfl (Nat.le_refl _) (by omega) (by omega)) rfl rfl rfl ?_
  refine st_op (opS_of (opP_assign rfl rfl)) rfl rfl rfl ?_
  refine aOps_nil ?_
  refine W_seq ?_
  refine W_seq ?_
  refine W_region ?_
  refine st_op (opS_of (opP_assign rfl rfl)) rfl rfl rfl ?_
  refine aOps_nil ?_
  refine W_block ?_
  refine W_countI (fun k => ⟨[(0, L (Li.das ks)), (3, .one (.ol 7)), (4, Z k)], [(7, .lst 51 7 ((Li.das ks).take k ++ List.replicate ((Li.das ks).length - k) [.bool false, .int .i64 0, .int .i64 0, .sl [], .int .i64 0, .int .i64 0, .sl []]))]⟩) (fun _ => True) ks.length 0 (by (refine Ent.of ?_; repeat (first | (refine entOk_tm rfl ?_) | (refine entOk_ob rfl ?_) | exact entOk_nil | (refine entOk_Z rfl (by omega) ?_) | (refine entOk_Z rfl (by simp <;> omega) ?_) | (refine entOk_lst rfl (by assumption) ?_) | (refine entOk_lst rfl (fill_setE rfl (by assumption) (by assumption) rfl) ?_) | (refine entOk_lst rfl (by simp_all; done) ?_) | (refine entOk_var rfl (by simp_all; done) ?_)))) trivial (Nat.zero_le _) (fun k _ hk _ => ?_)
  refine W_seq ?_
  refine W_seq ?_
  refine W_region ?_
  refine st_op (opS_of (opP_move rfl rfl)) rfl rfl rfl ?_
  refine st_op (opS_of (opP_move rfl rfl)) rfl rfl rfl ?_
  first
    | refine st_op (os_lenD tabOk rfl rfl rfl rfl rfl) rfl rfl rfl ?_
    | refine st_op (os_lenO tabOk rfl rfl rfl rfl rfl rfl) rfl rfl rfl ?_
    | refine st_op (os_lenS tabOk rfl rfl rfl rfl) rfl rfl rfl ?_
    | refine st_op (os_len0 tabOk rfl rfl rfl rfl rfl) rfl rfl rfl ?_
  refine st_op (opS_of (opP_lss rfl rfl rfl)) rfl rfl rfl ?_
  refine aOps_nil ?_
  refine W_cond rfl (fun hc11 => ?_) (fun hc11 => ?_)
  · refine W_skip ?_
    refine W_seq ?_
    refine W_block ?_
    have hlk := ofNat_lt hc11
    rw [Li.das_len] at hlk
    obtain ⟨t', ht⟩ : ∃ t', ks[k]? = some t' := ⟨ks[k], List.getElem?_eq_getElem hlk⟩
    have ht' : t' ∈ ks := List.mem_of_getElem? ht
    have hx : (Li.das ks)[k]? = some t'.da := by rw [Li.das_get, ht]; rfl
    have h3 := Li.da_len t'
    refine W_region ?_
    refine st_op (opS_of (opP_move rfl rfl)) rfl rfl rfl ?_
    refine st_op (opS_of (opP_move rfl rfl)) rfl rfl rfl ?_
    refine st_op (opS_of (opP_move rfl rfl)) rfl rfl rfl ?_
    refine st_op (opS_of (opP_move rfl rfl)) rfl rfl rfl ?_
    first
      | refine st_op (os_indexD tabOk rfl rfl rfl rfl rfl (by decide) rfl rfl (by assumption) (by first | rfl | assumption)) rfl rfl rfl ?_
      | refine st_op (os_indexO tabOk rfl rfl rfl rfl rfl rfl rfl rfl (by decide) rfl (by first | assumption | (simp; omega))) rfl rfl rfl ?_
    first
      | refine st_op (os_loadO1 tabOk rfl rfl rfl rfl rfl rfl) rfl rfl rfl ?_
      | refine st_op (os_loadE1 tabOk rfl rfl rfl rfl rfl) rfl rfl rfl ?_
      | refine st_op (os_loadES tabOk rfl rfl rfl rfl rfl) rfl rfl rfl ?_
      | refine st_op (os_loadOS tabOk rfl rfl rfl rfl rfl (Nat.le_of_ble_eq_true rfl)) rfl rfl rfl ?_
      | refine st_op (os_loadES tabOk rfl rfl rfl rfl (by assumption)) rfl rfl rfl ?_
      | refine st_op (os_loadLS tabOk rfl rfl rfl rfl rfl (by assumption) rfl (by first | rfl | assumption)) rfl rfl rfl ?_
      | refine st_op (os_loadL1 (q := 0) tabOk rfl rfl rfl rfl rfl (by assumption) rfl rfl) rfl rfl rfl ?_
    refine st_op (os_call (ag := [(Operand.tmp 19)]) (toLit_call t' (by have := Li.cns_mem ht'; omega)) Try.func28 rfl rfl rfl rfl) rfl rfl rfl ?_
    first
      | refine st_op (os_indexD tabOk rfl rfl rfl rfl rfl (by decide) rfl rfl (by assumption) (by first | rfl | assumption)) rfl rfl rfl ?_
      | refine st_op (os_indexO tabOk rfl rfl rfl rfl rfl rfl rfl rfl (by decide) rfl (by first | assumption | (simp; omega))) rfl rfl rfl ?_
    refine st_storeL (n := k) (q := 0) (ds := t'.da) tabOk rfl rfl rfl rfl rfl rfl (toDs_map _) rfl rfl h3.symm (fill_get rfl (by omega)) rfl (by simp [h3]) (by omega) ?_
    refine aOps_nil ?_
    refine W_region ?_
    refine st_op (opS_of (opP_move rfl rfl)) rfl rfl rfl ?_
    first
      | refine st_op (opS_of (opP_add64 rfl rfl rfl (by omega))) rfl rfl rfl ?_
      | refine st_op (opS_of (opP_strAdd rfl rfl rfl (by assumption))) rfl rfl rfl ?_
      | refine st_op (opS_of (opP_add rfl rfl rfl)) rfl rfl rfl ?_
    refine st_op (opS_of (opP_assign rfl rfl)) rfl rfl rfl ?_
    refine aOps_nil ?_
    refine ⟨k + 1, ?_, trivial, by omega, by omega⟩
    (refine Ent.of ?_; repeat (first | (refine entOk_tm rfl ?_) | (refine entOk_ob rfl ?_) | exact entOk_nil | (refine entOk_Z rfl (by omega) ?_) | (refine entOk_Z rfl (by simp <;> omega) ?_) | (refine entOk_lst rfl (by assumption) ?_) | (refine entOk_lst rfl (fill_setE rfl (by assumption) (by assumption) rfl) ?_) | (refine entOk_lst rfl (by simp_all; done) ?_) | (refine entOk_var rfl (by simp_all; done) ?_)))
  · refine W_exit ?_
    refine blockE_hit ?_
    refine W_seq ?_
    refine W_region ?_
    refine st_op (opS_of (opP_move rfl rfl)) rfl rfl rfl ?_
    refine st_op (opS_of (opP_assign rfl rfl)) rfl rfl rfl ?_
    refine aOps_nil ?_
    refine W_ret ?_
    refine retE_ret ?_
    rw [fill_all (by omega) (by have := ofNat_ge hc11; rw [Li.das_len] at this; rwa [Li.das_len])]
    exact retOk_frz (k := 7) rfl (by decide) (retOk_tmpE Try.results74 rfl rfl rfl)

theorem szLitS_call (ks : List Li) (l : Int) (hl : -1 ≤ l ∧ l ≤ 1048576) : ACall Try.prog 72 [L (Li.das ks), Z l] (Z (lft (Li.cns ks) l)) [] := by
  refine acall_fit fun hfit => ?_
  have hkl : ks.length ≤ 281474976710656 := by have := hfit.one.len; rwa [Li.das_len] at this
  have hdl := Li.das_len ks
  have hce : Li.cns ks = ks.length + Li.cns' ks := rfl
  have hc0 : Li.cns' (ks.take 0) = 0 := rfl
  refine acall_W Try.func72 rfl _ Try.ntmps72 (Nat.le_of_ble_eq_true rfl) fun w0 S0 => ?_
  refine W_seq ?_
  refine W_region ?_
  refine st_op (opS_of (opP_assign rfl rfl)) rfl rfl rfl ?_
  refine aOps_nil ?_
  refine W_seq ?_
  refine W_region ?_
  refine st_op (opS_of (opP_move rfl rfl)) rfl rfl rfl ?_
  refine st_op (opS_of (opP_move rfl rfl)) rfl rfl rfl ?_
  first
    | refine st_op (os_lenD tabOk rfl rfl rfl rfl rfl) rfl rfl rfl ?_
    | refine st_op (os_lenO tabOk rfl rfl rfl rfl rfl rfl) rfl rfl rfl ?_
    | refine st_op (os_lenS tabOk rfl rfl rfl rfl) rfl rfl rfl ?_
    | refine st_op (os_len0 tabOk rfl rfl rfl rfl rfl) rfl rfl rfl ?_
  first
    | refine st_op (opS_of (opP_sub64 rfl rfl rfl (by omega))) rfl rfl rfl ?_
    | refine st_op (opS_of (opP_sub rfl rfl rfl)) rfl rfl rfl ?_
  refine st_op (opS_of (opP_assign rfl rfl)) rfl rfl rfl ?_
  refine aOps_nil ?_
  refine W_seq ?_
  refine W_seq ?_
  refine W_region ?_
  refine st_op (opS_of (opP_move rfl rfl)) rfl rfl rfl ?_
  refine st_op (opS_of (opP_lss rfl rfl rfl)) rfl rfl rfl ?_
  refine aOps_nil ?_
  refine W_cond rfl (fun hc11 => ?_) (fun hc11 => ?_)
  · refine W_seq ?_
    refine W_region ?_
    refine st_op (opS_of (opP_assign rfl rfl)) rfl rfl rfl ?_
    refine aOps_nil ?_
    refine W_ret ?_
    refine retE_ret ?_
    refine retOk_tmpE Try.results72 rfl (congrArg Z ?_) rfl
    have hfin := Li.cns'_le ks
    first | (have hk2 : k = ks.length := by simp at hc15; omega); subst hk2; rw [List.take_length] at hJ ⊢; unfold lft; split <;> omega | have hle2 := hfin (k + 1); have hlt := of_decide_eq_true hc25; unfold lft at hlt ⊢; split at hlt <;> split <;> omega | (have hlt := of_decide_eq_true hc11); unfold lft; split <;> omega
  · refine W_skip ?_
    refine W_seq ?_
    refine W_seq ?_
    refine W_region ?_
    refine st_op (opS_of (opP_assign rfl rfl)) rfl rfl rfl ?_
    refine aOps_nil ?_
    refine W_block ?_
    refine W_countI (fun k => ⟨[(0, L (Li.das ks)), (1, Z (l - ks.length - Li.cns' (ks.take k))), (5, Z k)], []⟩) (fun k => 0 ≤ l - ks.length - Li.cns' (ks.take k)) ks.length 0 (by (refine Ent.of ?_; repeat (first | (refine entOk_tm rfl ?_) | (refine entOk_ob rfl ?_) | exact entOk_nil | (refine entOk_Z rfl (by omega) ?_) | (refine entOk_Z rfl (by simp <;> omega) ?_) | (refine entOk_lst rfl (by assumption) ?_) | (refine entOk_lst rfl (fill_setE rfl (by assumption) (by assumption) rfl) ?_) | (refine entOk_lst rfl (by simp_all; done) ?_) | (refine entOk_var rfl (by simp_all; done) ?_)))) (by simp at hc11; omega) (Nat.zero_le _) (fun k _ hk hJ => ?_)
    refine W_seq ?_
    refine W_seq ?_
    refine W_region ?_
    refine st_op (opS_of (opP_move rfl rfl)) rfl rfl rfl ?_
    refine st_op (opS_of (opP_move rfl rfl)) rfl rfl rfl ?_
    first
      | refine st_op (os_lenD tabOk rfl rfl rfl rfl rfl) rfl rfl rfl ?_
      | refine st_op (os_lenO tabOk rfl rfl rfl rfl rfl rfl) rfl rfl rfl ?_
      | refine st_op (os_lenS tabOk rfl rfl rfl rfl) rfl rfl rfl ?_
      | refine st_op (os_len0 tabOk rfl rfl rfl rfl rfl) rfl rfl rfl ?_
    refine st_op (opS_of (opP_lss rfl rfl rfl)) rfl rfl rfl ?_
    refine aOps_nil ?_
    refine W_cond rfl (fun hc15 => ?_) (fun hc15 => ?_)
    · refine W_skip ?_
      refine W_seq ?_
      refine W_block ?_
      refine W_seq ?_
      have hlk := ofNat_lt hc15
      rw [Li.das_len] at hlk
      obtain ⟨t', ht⟩ : ∃ t', ks[k]? = some t' := ⟨ks[k], List.getElem?_eq_getElem hlk⟩
      have ht' : t' ∈ ks := List.mem_of_getElem? ht
      have hx : (Li.das ks)[k]? = some t'.da := by rw [Li.das_get, ht]; rfl
      have h3 := Li.da_len t'
      have htk := Li.cns'_take ht
      have hle := lft_le (n := t'.cn) (l := l - ks.length - Li.cns' (ks.take k)) (by omega)
      refine W_region ?_
      refine st_op (opS_of (opP_move rfl rfl)) rfl rfl rfl ?_
      refine st_op (opS_of (opP_move rfl rfl)) rfl rfl rfl ?_
      first
        | refine st_op (os_indexD tabOk rfl rfl rfl rfl rfl (by decide) rfl rfl (by assumption) (by first | rfl | assumption)) rfl rfl rfl ?_
        | refine st_op (os_indexO tabOk rfl rfl rfl rfl rfl rfl rfl rfl (by decide) rfl (by first | assumption | (simp; omega))) rfl rfl rfl ?_
      first
        | refine st_op (os_loadO1 tabOk rfl rfl rfl rfl rfl rfl) rfl rfl rfl ?_
        | refine st_op (os_loadE1 tabOk rfl rfl rfl rfl rfl) rfl rfl rfl ?_
        | refine st_op (os_loadES tabOk rfl rfl rfl rfl rfl) rfl rfl rfl ?_
        | refine st_op (os_loadOS tabOk rfl rfl rfl rfl rfl (Nat.le_of_ble_eq_true rfl)) rfl rfl rfl ?_
        | refine st_op (os_loadES tabOk rfl rfl rfl rfl (by assumption)) rfl rfl rfl ?_
        | refine st_op (os_loadLS tabOk rfl rfl rfl rfl rfl (by assumption) rfl (by first | rfl | assumption)) rfl rfl rfl ?_
        | refine st_op (os_loadL1 (q := 0) tabOk rfl rfl rfl rfl rfl (by assumption) rfl rfl) rfl rfl rfl ?_
      refine st_op (opS_of (opP_move rfl rfl)) rfl rfl rfl ?_
      refine st_op (os_call (ag := [(Operand.tmp 21), (Operand.tmp 22)]) (szLit_call t' _ (by omega)) Try.func26 rfl rfl rfl rfl) rfl rfl rfl ?_
      refine st_op (opS_of (opP_assign rfl rfl)) rfl rfl rfl ?_
      refine aOps_nil ?_
      refine W_seq ?_
      refine W_region ?_
      refine st_op (opS_of (opP_move rfl rfl)) rfl rfl rfl ?_
      refine st_op (opS_of (opP_lss rfl rfl rfl)) rfl rfl rfl ?_
      refine aOps_nil ?_
      refine W_cond rfl (fun hc25 => ?_) (fun hc25 => ?_)
      · refine W_seq ?_
        refine W_region ?_
        refine st_op (opS_of (opP_assign rfl rfl)) rfl rfl rfl ?_
        refine aOps_nil ?_
        refine W_ret ?_
        refine blockE_ret ?_
        refine blockE_ret ?_
        refine retE_ret ?_
        refine retOk_tmpE Try.results72 rfl (congrArg Z ?_) rfl
        have hfin := Li.cns'_le ks
        first | (have hk2 : k = ks.length := by simp at hc15; omega); subst hk2; rw [List.take_length] at hJ ⊢; unfold lft; split <;> omega | have hle2 := hfin (k + 1); have hlt := of_decide_eq_true hc25; unfold lft at hlt ⊢; split at hlt <;> split <;> omega | (have hlt := of_decide_eq_true hc11); unfold lft; split <;> omega
      · refine W_skip ?_
        refine W_region ?_
        refine st_op (opS_of (opP_move rfl rfl)) rfl rfl rfl ?_
        first
          | refine st_op (opS_of (opP_add64 rfl rfl rfl (by omega))) rfl rfl rfl ?_
          | refine st_op (opS_of (opP_strAdd rfl rfl rfl (by assumption))) rfl rfl rfl ?_
          | refine st_op (opS_of (opP_add rfl rfl rfl)) rfl rfl rfl ?_
        refine st_op (opS_of (opP_assign rfl rfl)) rfl rfl rfl ?_
        refine aOps_nil ?_
        have hc25' : 0 ≤ lft t'.cn (l - ks.length - Li.cns' (ks.take k)) := by simpa using hc25
        have hlf : lft t'.cn (l - ks.length - Li.cns' (ks.take k)) = l - ks.length - Li.cns' (ks.take (k + 1)) := by unfold lft at hc25' ⊢; split <;> omega
        refine ⟨k + 1, ?_, by omega, by omega, by omega⟩
        (refine Ent.of ?_; repeat (first | (refine entOk_tm rfl ?_) | (refine entOk_ob rfl ?_) | exact entOk_nil | (refine entOk_Z rfl (by omega) ?_) | (refine entOk_Z rfl (by simp <;> omega) ?_) | (refine entOk_lst rfl (by assumption) ?_) | (refine entOk_lst rfl (fill_setE rfl (by assumption) (by assumption) rfl) ?_) | (refine entOk_lst rfl (by simp_all; done) ?_) | (refine entOk_var rfl (by simp_all; done) ?_)))
    · refine W_exit ?_
      refine blockE_hit ?_
      refine W_seq ?_
      refine W_region ?_
      refine st_op (opS_of (opP_move rfl rfl)) rfl rfl rfl ?_
      refine st_op (opS_of (opP_assign rfl rfl)) rfl rfl rfl ?_
      refine aOps_nil ?_
      refine W_ret ?_
      refine retE_ret ?_
      refine retOk_tmpE Try.results72 rfl (congrArg Z ?_) rfl
      have hfin := Li.cns'_le ks
      first | (have hk2 : k = ks.length := by simp at hc15; omega); subst hk2; rw [List.take_length] at hJ ⊢; unfold lft; split <;> omega | have hle2 := hfin (k + 1); have hlt := of_decide_eq_true hc25; unfold lft at hlt ⊢; split at hlt <;> split <;> omega | (have hlt := of_decide_eq_true hc11); unfold lft; split <;> omega

theorem eqLitS_call (ks : List Li) : ACall Try.prog 77 [L (Li.das ks), L (Li.das ks)] (B true) [] := by
  refine acall_fit fun hfit => ?_
  have hkl : ks.length ≤ 281474976710656 := by have := hfit.one.len; rwa [Li.das_len] at this
  refine acall_W Try.func77 rfl _ Try.ntmps77 (Nat.le_of_ble_eq_true rfl) fun w0 S0 => ?_
  refine W_seq ?_
  refine W_region ?_
  refine st_op (opS_of (opP_assign rfl rfl)) rfl rfl rfl ?_
  refine aOps_nil ?_
  refine W_seq ?_
  refine W_seq ?_
  refine W_region ?_
  refine st_op (opS_of (opP_move rfl rfl)) rfl rfl rfl ?_
  first
    | refine st_op (os_lenD tabOk rfl rfl rfl rfl rfl) rfl rfl rfl ?_
    | refine st_op (os_lenO tabOk rfl rfl rfl rfl rfl rfl) rfl rfl rfl ?_
    | refine st_op (os_lenS tabOk rfl rfl rfl rfl) rfl rfl rfl ?_
    | refine st_op (os_len0 tabOk rfl rfl rfl rfl rfl) rfl rfl rfl ?_
  refine st_op (opS_of (opP_move rfl rfl)) rfl rfl rfl ?_
  first
    | refine st_op (os_lenD tabOk rfl rfl rfl rfl rfl) rfl rfl rfl ?_
    | refine st_op (os_lenO tabOk rfl rfl rfl rfl rfl rfl) rfl rfl rfl ?_
    | refine st_op (os_lenS tabOk rfl rfl rfl rfl) rfl rfl rfl ?_
    | refine st_op (os_len0 tabOk rfl rfl rfl rfl rfl) rfl rfl rfl ?_
  first
    | refine st_op (opS_of (opP_neq rfl rfl rfl)) rfl rfl rfl ?_
    | refine st_op (opS_of (opP_strNe rfl rfl rfl)) rfl rfl rfl ?_
    | refine st_op (os_boolNe tabOk rfl rfl rfl rfl rfl) rfl rfl rfl ?_
  refine aOps_nil ?_
  refine W_cond rfl (fun hc10 => ?_) (fun hc10 => ?_)
  · simp at hc10
  · refine W_skip ?_
    refine W_seq ?_
    refine W_seq ?_
    refine W_region ?_
    refine st_op (opS_of (opP_assign rfl rfl)) rfl rfl rfl ?_
    refine aOps_nil ?_
    refine W_block ?_
    refine W_countI (fun k => ⟨[(0, L (Li.das ks)), (1, L (Li.das ks)), (5, Z k)], []⟩) (fun k => True) ks.length 0 (by (refine Ent.of ?_; repeat (first | (refine entOk_tm rfl ?_) | (refine entOk_ob rfl ?_) | exact entOk_nil | (refine entOk_Z rfl (by omega) ?_) | (refine entOk_Z rfl (by simp <;> omega) ?_) | (refine entOk_lst rfl (by assumption) ?_) | (refine entOk_lst rfl (fill_setE rfl (by assumption) (by assumption) rfl) ?_) | (refine entOk_lst rfl (by simp_all; done) ?_) | (refine entOk_var rfl (by simp_all; done) ?_)))) trivial (Nat.zero_le _) (fun k _ hk hJ => ?_)
    refine W_seq ?_
    refine W_seq ?_
    refine W_region ?_
    refine st_op (opS_of (opP_move rfl rfl)) rfl rfl rfl ?_
    refine st_op (opS_of (opP_move rfl rfl)) rfl rfl rfl ?_
    first
      | refine st_op (os_lenD tabOk rfl rfl rfl rfl rfl) rfl rfl rfl ?_
      | refine st_op (os_lenO tabOk rfl rfl rfl rfl rfl rfl) rfl rfl rfl ?_
      | refine st_op (os_lenS tabOk rfl rfl rfl rfl) rfl rfl rfl ?_
      | refine st_op (os_len0 tabOk rfl rfl rfl rfl rfl) rfl rfl rfl ?_
    refine st_op (opS_of (opP_lss rfl rfl rfl)) rfl rfl rfl ?_
    refine aOps_nil ?_
    refine W_cond rfl (fun hc14 => ?_) (fun hc14 => ?_)
    · refine W_skip ?_
      refine W_seq ?_
      refine W_block ?_
      refine W_seq ?_
      have hlk := ofNat_lt hc14
      rw [Li.das_len] at hlk
      obtain ⟨t', ht⟩ : ∃ t', ks[k]? = some t' := ⟨ks[k], List.getElem?_eq_getElem hlk⟩
      have ht' : t' ∈ ks := List.mem_of_getElem? ht
      have hx : (Li.das ks)[k]? = some t'.da := by rw [Li.das_get, ht]; rfl
      have h3 := Li.da_len t'
      refine W_drawK mixed (by kernel_rfl) ?_
      refine pq_op (opS_of (opP_move rfl rfl)) rfl rfl rfl rfl rfl ?_
      refine pq_op (opS_of (opP_move rfl rfl)) rfl rfl rfl rfl rfl ?_
      first
        | refine pq_op (os_indexD tabOk rfl rfl rfl rfl rfl (by decide) rfl rfl (by assumption) (by first | rfl | assumption)) rfl rfl rfl rfl rfl ?_
        | refine pq_op (os_indexO tabOk rfl rfl rfl rfl rfl rfl rfl rfl (by decide) rfl (by first | assumption | (simp; omega))) rfl rfl rfl rfl rfl ?_
      first
        | refine pq_op (os_loadO1 tabOk rfl rfl rfl rfl rfl rfl) rfl rfl rfl rfl rfl ?_
        | refine pq_op (os_loadE1 tabOk rfl rfl rfl rfl rfl) rfl rfl rfl rfl rfl ?_
        | refine pq_op (os_loadES tabOk rfl rfl rfl rfl rfl) rfl rfl rfl rfl rfl ?_
        | refine pq_op (os_loadOS tabOk rfl rfl rfl rfl rfl (Nat.le_of_ble_eq_true rfl)) rfl rfl rfl rfl rfl ?_
        | refine pq_op (os_loadES tabOk rfl rfl rfl rfl (by assumption)) rfl rfl rfl rfl rfl ?_
        | refine pq_op (os_loadLS tabOk rfl rfl rfl rfl rfl (by assumption) rfl (by first | rfl | assumption)) rfl rfl rfl rfl rfl ?_
        | refine pq_op (os_loadL1 (q := 0) tabOk rfl rfl rfl rfl rfl (by assumption) rfl rfl) rfl rfl rfl rfl rfl ?_
      refine pq_op (opS_of (opP_move rfl rfl)) rfl rfl rfl rfl rfl ?_
      refine pq_op (opS_of (opP_move rfl rfl)) rfl rfl rfl rfl rfl ?_
      first
        | refine pq_op (os_indexD tabOk rfl rfl rfl rfl rfl (by decide) rfl rfl (by assumption) (by first | rfl | assumption)) rfl rfl rfl rfl rfl ?_
        | refine pq_op (os_indexO tabOk rfl rfl rfl rfl rfl rfl rfl rfl (by decide) rfl (by first | assumption | (simp; omega))) rfl rfl rfl rfl rfl ?_
      first
        | refine pq_op (os_loadO1 tabOk rfl rfl rfl rfl rfl rfl) rfl rfl rfl rfl rfl ?_
        | refine pq_op (os_loadE1 tabOk rfl rfl rfl rfl rfl) rfl rfl rfl rfl rfl ?_
        | refine pq_op (os_loadES tabOk rfl rfl rfl rfl rfl) rfl rfl rfl rfl rfl ?_
        | refine pq_op (os_loadOS tabOk rfl rfl rfl rfl rfl (Nat.le_of_ble_eq_true rfl)) rfl rfl rfl rfl rfl ?_
        | refine pq_op (os_loadES tabOk rfl rfl rfl rfl (by assumption)) rfl rfl rfl rfl rfl ?_
        | refine pq_op (os_loadLS tabOk rfl rfl rfl rfl rfl (by assumption) rfl (by first | rfl | assumption)) rfl rfl rfl rfl rfl ?_
        | refine pq_op (os_loadL1 (q := 0) tabOk rfl rfl rfl rfl rfl (by assumption) rfl rfl) rfl rfl rfl rfl rfl ?_
      refine pq_op (os_call (ag := [(Operand.tmp 20), (Operand.tmp 24)]) (eqLit_call t') Try.func30 rfl rfl rfl rfl) rfl rfl rfl rfl rfl ?_
      refine pq_op (opS_of (opP_not rfl rfl)) rfl rfl rfl rfl rfl ?_
      refine pq_nil ?_
      refine W_cond rfl (fun hc26 => ?_) (fun hc26 => ?_)
      · simp at hc26
      · refine W_skip ?_
        refine W_region ?_
        refine st_op (opS_of (opP_move rfl rfl)) rfl rfl rfl ?_
        first
          | refine st_op (opS_of (opP_add64 rfl rfl rfl (by omega))) rfl rfl rfl ?_
          | refine st_op (opS_of (opP_strAdd rfl rfl rfl (by assumption))) rfl rfl rfl ?_
          | refine st_op (opS_of (opP_add rfl rfl rfl)) rfl rfl rfl ?_
        refine st_op (opS_of (opP_assign rfl rfl)) rfl rfl rfl ?_
        refine aOps_nil ?_
        refine ⟨k + 1, ?_, trivial, by omega, by omega⟩
        (refine Ent.of ?_; repeat (first | (refine entOk_tm rfl ?_) | (refine entOk_ob rfl ?_) | exact entOk_nil | (refine entOk_Z rfl (by omega) ?_) | (refine entOk_Z rfl (by simp <;> omega) ?_) | (refine entOk_lst rfl (by assumption) ?_) | (refine entOk_lst rfl (fill_setE rfl (by assumption) (by assumption) rfl) ?_) | (refine entOk_lst rfl (by simp_all; done) ?_) | (refine entOk_var rfl (by simp_all; done) ?_)))
    · refine W_exit ?_
      refine blockE_hit ?_
      refine W_seq ?_
      refine W_region ?_
      refine st_op (opS_of (opP_assign rfl rfl)) rfl rfl rfl ?_
      refine aOps_nil ?_
      refine W_ret ?_
      refine retE_ret ?_
      exact retOk_tmpE Try.results77 rfl rfl rfl

/-- A clause. -/
structure Cl where
  ls : List Li
def Cl.da (x : Cl) : List Da := [.sl (Li.das x.ls)]
def Cl.cn (x : Cl) : Nat := Li.cns x.ls
theorem Cl.da_len (x : Cl) : x.da.length = 1 := rfl
theorem szClause_call (x : Cl) (l : Int) (hl : -1 ≤ l ∧ l ≤ 1048576) : ACall Try.prog 37 [.dat x.da, Z l] (Z (lft x.cn l)) [] := by
  obtain ⟨ls⟩ := x
  have h1 := lft_le (n := Li.cns ls) (l := l) (by omega)
  refine acall_W Try.func37 rfl _ Try.ntmps37 (Nat.le_of_ble_eq_true rfl) fun w0 S0 => ?_
  refine W_seq ?_
  refine W_region ?_
  refine st_op (os_box rfl rfl rfl rfl rfl) rfl rfl rfl ?_
  refine st_op (opS_of (opP_assign rfl rfl)) rfl rfl rfl ?_
  refine aOps_nil ?_
  refine W_seq ?_
  refine W_region ?_
  first
    | refine st_op (os_fieldAddrO tabOk rfl rfl rfl (by decide) rfl) rfl rfl rfl ?_
    | refine st_op (os_fieldAddrE tabOk rfl rfl rfl (by decide) rfl) rfl rfl rfl ?_
  first
    | refine st_op (os_loadO1 tabOk rfl rfl rfl rfl rfl rfl) rfl rfl rfl ?_
    | refine st_op (os_loadE1 tabOk rfl rfl rfl rfl rfl) rfl rfl rfl ?_
    | refine st_op (os_loadES tabOk rfl rfl rfl rfl rfl) rfl rfl rfl ?_
    | refine st_op (os_loadOS tabOk rfl rfl rfl rfl rfl (Nat.le_of_ble_eq_true rfl)) rfl rfl rfl ?_
    | refine st_op (os_loadES tabOk rfl rfl rfl rfl (by assumption)) rfl rfl rfl ?_
    | refine st_op (os_loadLS tabOk rfl rfl rfl rfl rfl (by assumption) rfl (by first | rfl | assumption)) rfl rfl rfl ?_
    | refine st_op (os_loadL1 (q := 0) tabOk rfl rfl rfl rfl rfl (by assumption) rfl rfl) rfl rfl rfl ?_
  refine st_op (opS_of (opP_move rfl rfl)) rfl rfl rfl ?_
  refine st_op (os_call (ag := [(Operand.tmp 6), (Operand.tmp 7)]) (szLitS_call ls l (by omega)) Try.func72 rfl rfl rfl rfl) rfl rfl rfl ?_
  refine st_op (opS_of (opP_assign rfl rfl)) rfl rfl rfl ?_
  refine aOps_nil ?_
  refine W_seq ?_
  refine W_seq ?_
  refine W_region ?_
  refine st_op (opS_of (opP_move rfl rfl)) rfl rfl rfl ?_
  refine st_op (opS_of (opP_lss rfl rfl rfl)) rfl rfl rfl ?_
  refine aOps_nil ?_
  refine W_cond rfl (fun hc10 => ?_) (fun hc10 => ?_)
  · refine W_seq ?_
    refine W_region ?_
    refine st_op (opS_of (opP_assign rfl rfl)) rfl rfl rfl ?_
    refine aOps_nil ?_
    refine W_ret ?_
    refine retE_ret ?_
    refine retOk_tmpE Try.results37 rfl (congrArg Z ?_) rfl
    first | rfl | (have hlt := of_decide_eq_true hc10; show -1 = lft (Li.cns ls) l; omega)
  · refine W_skip ?_
    refine W_seq ?_
    refine W_region ?_
    refine st_op (opS_of (opP_move rfl rfl)) rfl rfl rfl ?_
    refine st_op (opS_of (opP_assign rfl rfl)) rfl rfl rfl ?_
    refine aOps_nil ?_
    refine W_ret ?_
    refine retE_ret ?_
    refine retOk_tmpE Try.results37 rfl (congrArg Z ?_) rfl
    first | rfl | (have hlt := of_decide_eq_true hc10; show -1 = lft (Li.cns ls) l; omega)

theorem toClause_call (x : Cl) (hc : x.cn ≤ 1048576) : ACall Try.prog 39 [.dat x.da] (.dat x.da) [] := by
  obtain ⟨ls⟩ := x
  refine acall_W Try.func39 rfl _ Try.ntmps39 (Nat.le_of_ble_eq_true rfl) fun w0 S0 => ?_
  refine W_seq ?_
  refine W_region ?_
  refine st_op (os_box rfl rfl rfl rfl rfl) rfl rfl rfl ?_
  refine st_op (os_alloc z68 rfl rfl) rfl rfl rfl ?_
  refine aOps_nil ?_
  refine W_seq ?_
  refine W_region ?_
  refine st_op (os_alloc z68 rfl rfl) rfl rfl rfl ?_
  refine aOps_nil ?_
  refine W_seq ?_
  refine W_region ?_
  first
    | refine st_op (os_fieldAddrO tabOk rfl rfl rfl (by decide) rfl) rfl rfl rfl ?_
    | refine st_op (os_fieldAddrE tabOk rfl rfl rfl (by decide) rfl) rfl rfl rfl ?_
  first
    | refine st_op (os_loadO1 tabOk rfl rfl rfl rfl rfl rfl) rfl rfl rfl ?_
    | refine st_op (os_loadE1 tabOk rfl rfl rfl rfl rfl) rfl rfl rfl ?_
    | refine st_op (os_loadES tabOk rfl rfl rfl rfl rfl) rfl rfl rfl ?_
    | refine st_op (os_loadOS tabOk rfl rfl rfl rfl rfl (Nat.le_of_ble_eq_true rfl)) rfl rfl rfl ?_
    | refine st_op (os_loadES tabOk rfl rfl rfl rfl (by assumption)) rfl rfl rfl ?_
    | refine st_op (os_loadLS tabOk rfl rfl rfl rfl rfl (by assumption) rfl (by first | rfl | assumption)) rfl rfl rfl ?_
    | refine st_op (os_loadL1 (q := 0) tabOk rfl rfl rfl rfl rfl (by assumption) rfl rfl) rfl rfl rfl ?_
  refine st_op (os_call (ag := [(Operand.tmp 5)]) (toLitS_call ls hc) Try.func74 rfl rfl rfl rfl) rfl rfl rfl ?_
  first
    | refine st_op (os_fieldAddrO tabOk rfl rfl rfl (by decide) rfl) rfl rfl rfl ?_
    | refine st_op (os_fieldAddrE tabOk rfl rfl rfl (by decide) rfl) rfl rfl rfl ?_
  refine st_store tabOk rfl rfl rfl rfl rfl rfl rfl rfl rfl (Nat.le_of_ble_eq_true rfl) rfl ?_
  refine aOps_nil ?_
  refine W_seq ?_
  refine W_region ?_
  first
    | refine st_op (os_loadO1 tabOk rfl rfl rfl rfl rfl rfl) rfl rfl rfl ?_
    | refine st_op (os_loadE1 tabOk rfl rfl rfl rfl rfl) rfl rfl rfl ?_
    | refine st_op (os_loadES tabOk rfl rfl rfl rfl rfl) rfl rfl rfl ?_
    | refine st_op (os_loadOS tabOk rfl rfl rfl rfl rfl (Nat.le_of_ble_eq_true rfl)) rfl rfl rfl ?_
    | refine st_op (os_loadES tabOk rfl rfl rfl rfl (by assumption)) rfl rfl rfl ?_
    | refine st_op (os_loadLS tabOk rfl rfl rfl rfl rfl (by assumption) rfl (by first | rfl | assumption)) rfl rfl rfl ?_
    | refine st_op (os_loadL1 (q := 0) tabOk rfl rfl rfl rfl rfl (by assumption) rfl rfl) rfl rfl rfl ?_
  refine st_store tabOk rfl rfl rfl rfl rfl rfl rfl rfl rfl (Nat.le_of_ble_eq_true rfl) rfl ?_
  refine aOps_nil ?_
  refine W_ret ?_
  refine retE_ret ?_
  exact ret_cell tabOk Try.results39 rfl rfl rfl rfl rfl rfl rfl

theorem eqClause_call (x : Cl) : ACall Try.prog 41 [.dat x.da, .dat x.da] (B true) [] := by
  obtain ⟨ls⟩ := x
  refine acall_W Try.func41 rfl _ Try.ntmps41 (Nat.le_of_ble_eq_true rfl) fun w0 S0 => ?_
  refine W_seq ?_
  refine W_region ?_
  refine st_op (os_box rfl rfl rfl rfl rfl) rfl rfl rfl ?_
  refine st_op (os_box rfl rfl rfl rfl rfl) rfl rfl rfl ?_
  refine st_op (opS_of (opP_assign rfl rfl)) rfl rfl rfl ?_
  refine aOps_nil ?_
  refine W_seq ?_
  refine W_seq ?_
  refine W_region ?_
  first
    | refine st_op (os_fieldAddrO tabOk rfl rfl rfl (by decide) rfl) rfl rfl rfl ?_
    | refine st_op (os_fieldAddrE tabOk rfl rfl rfl (by decide) rfl) rfl rfl rfl ?_
  first
    | refine st_op (os_loadO1 tabOk rfl rfl rfl rfl rfl rfl) rfl rfl rfl ?_
    | refine st_op (os_loadE1 tabOk rfl rfl rfl rfl rfl) rfl rfl rfl ?_
    | refine st_op (os_loadES tabOk rfl rfl rfl rfl rfl) rfl rfl rfl ?_
    | refine st_op (os_loadOS tabOk rfl rfl rfl rfl rfl (Nat.le_of_ble_eq_true rfl)) rfl rfl rfl ?_
    | refine st_op (os_loadES tabOk rfl rfl rfl rfl (by assumption)) rfl rfl rfl ?_
    | refine st_op (os_loadLS tabOk rfl rfl rfl rfl rfl (by assumption) rfl (by first | rfl | assumption)) rfl rfl rfl ?_
    | refine st_op (os_loadL1 (q := 0) tabOk rfl rfl rfl rfl rfl (by assumption) rfl rfl) rfl rfl rfl ?_
  first
    | refine st_op (os_fieldAddrO tabOk rfl rfl rfl (by decide) rfl) rfl rfl rfl ?_
    | refine st_op (os_fieldAddrE tabOk rfl rfl rfl (by decide) rfl) rfl rfl rfl ?_
  first
    | refine st_op (os_loadO1 tabOk rfl rfl rfl rfl rfl rfl) rfl rfl rfl ?_
    | refine st_op (os_loadE1 tabOk rfl rfl rfl rfl rfl) rfl rfl rfl ?_
    | refine st_op (os_loadES tabOk rfl rfl rfl rfl rfl) rfl rfl rfl ?_
    | refine st_op (os_loadOS tabOk rfl rfl rfl rfl rfl (Nat.le_of_ble_eq_true rfl)) rfl rfl rfl ?_
    | refine st_op (os_loadES tabOk rfl rfl rfl rfl (by assumption)) rfl rfl rfl ?_
    | refine st_op (os_loadLS tabOk rfl rfl rfl rfl rfl (by assumption) rfl (by first | rfl | assumption)) rfl rfl rfl ?_
    | refine st_op (os_loadL1 (q := 0) tabOk rfl rfl rfl rfl rfl (by assumption) rfl rfl) rfl rfl rfl ?_
  refine st_op (os_call (ag := [(Operand.tmp 6), (Operand.tmp 8)]) (eqLitS_call ls) Try.func77 rfl rfl rfl rfl) rfl rfl rfl ?_
  refine st_op (opS_of (opP_not rfl rfl)) rfl rfl rfl ?_
  refine aOps_nil ?_
  refine W_cond rfl (fun hc10 => ?_) (fun hc10 => ?_)
  · simp at hc10
  · refine W_skip ?_
    refine W_seq ?_
    refine W_region ?_
    refine st_op (opS_of (opP_assign rfl rfl)) rfl rfl rfl ?_
    refine aOps_nil ?_
    refine W_ret ?_
    refine retE_ret ?_
    exact retOk_tmpE Try.results41 rfl rfl rfl

/-- A function's entry. -/
structure Sy where
  nm : ByteArray
  ar : Int
  ac : Bool
def Sy.da (x : Sy) : List Da := [.str x.nm, .int .i64 x.ar, .bool x.ac]
def Sy.cn (x : Sy) : Nat := x.nm.size
theorem Sy.da_len (x : Sy) : x.da.length = 3 := rfl
theorem szSym_call (x : Sy) (l : Int) (hl : -1 ≤ l ∧ l ≤ 1048576) : ACall Try.prog 78 [.dat x.da, Z l] (Z (lft x.cn l)) [] := by
  obtain ⟨nm, ar, ac⟩ := x
  refine acall_fit fun hfit => ?_
  have hn : nm.size ≤ 281474976710656 := hfit.dat.str
  have hn' : (Sy.mk nm ar ac).nm.size ≤ 281474976710656 := hn
  refine acall_W Try.func78 rfl _ Try.ntmps78 (Nat.le_of_ble_eq_true rfl) fun w0 S0 => ?_
  refine W_seq ?_
  refine W_region ?_
  refine st_op (os_box rfl rfl rfl rfl rfl) rfl rfl rfl ?_
  refine st_op (opS_of (opP_assign rfl rfl)) rfl rfl rfl ?_
  refine aOps_nil ?_
  refine W_seq ?_
  refine W_region ?_
  refine st_op (opS_of (opP_move rfl rfl)) rfl rfl rfl ?_
  first
    | refine st_op (os_fieldAddrO tabOk rfl rfl rfl (by decide) rfl) rfl rfl rfl ?_
    | refine st_op (os_fieldAddrE tabOk rfl rfl rfl (by decide) rfl) rfl rfl rfl ?_
  first
    | refine st_op (os_loadO1 tabOk rfl rfl rfl rfl rfl rfl) rfl rfl rfl ?_
    | refine st_op (os_loadE1 tabOk rfl rfl rfl rfl rfl) rfl rfl rfl ?_
    | refine st_op (os_loadES tabOk rfl rfl rfl rfl rfl) rfl rfl rfl ?_
    | refine st_op (os_loadOS tabOk rfl rfl rfl rfl rfl (Nat.le_of_ble_eq_true rfl)) rfl rfl rfl ?_
    | refine st_op (os_loadES tabOk rfl rfl rfl rfl (by assumption)) rfl rfl rfl ?_
    | refine st_op (os_loadLS tabOk rfl rfl rfl rfl rfl (by assumption) rfl (by first | rfl | assumption)) rfl rfl rfl ?_
    | refine st_op (os_loadL1 (q := 0) tabOk rfl rfl rfl rfl rfl (by assumption) rfl rfl) rfl rfl rfl ?_
  first
    | refine st_op (os_lenD tabOk rfl rfl rfl rfl rfl) rfl rfl rfl ?_
    | refine st_op (os_lenO tabOk rfl rfl rfl rfl rfl rfl) rfl rfl rfl ?_
    | refine st_op (os_lenS tabOk rfl rfl rfl rfl) rfl rfl rfl ?_
    | refine st_op (os_len0 tabOk rfl rfl rfl rfl rfl) rfl rfl rfl ?_
  first
    | refine st_op (opS_of (opP_sub64 rfl rfl rfl (by omega))) rfl rfl rfl ?_
    | refine st_op (opS_of (opP_sub rfl rfl rfl)) rfl rfl rfl ?_
  refine st_op (opS_of (opP_assign rfl rfl)) rfl rfl rfl ?_
  refine aOps_nil ?_
  refine W_seq ?_
  refine W_seq ?_
  refine W_region ?_
  refine st_op (opS_of (opP_move rfl rfl)) rfl rfl rfl ?_
  refine st_op (opS_of (opP_lss rfl rfl rfl)) rfl rfl rfl ?_
  refine aOps_nil ?_
  refine W_cond rfl (fun hc11 => ?_) (fun hc11 => ?_)
  · refine W_seq ?_
    refine W_region ?_
    refine st_op (opS_of (opP_assign rfl rfl)) rfl rfl rfl ?_
    refine aOps_nil ?_
    refine W_ret ?_
    refine retE_ret ?_
    refine retOk_tmpE Try.results78 rfl (congrArg Z ?_) rfl
    simp at hc11; show _ = (if l < (nm.size : Int) then (-1 : Int) else l - nm.size); by_cases hh : l < (nm.size : Int) <;> simp [hh] <;> omega
  · refine W_skip ?_
    refine W_seq ?_
    refine W_region ?_
    refine st_op (opS_of (opP_move rfl rfl)) rfl rfl rfl ?_
    refine st_op (opS_of (opP_assign rfl rfl)) rfl rfl rfl ?_
    refine aOps_nil ?_
    refine W_ret ?_
    refine retE_ret ?_
    refine retOk_tmpE Try.results78 rfl (congrArg Z ?_) rfl
    simp at hc11; show _ = (if l < (nm.size : Int) then (-1 : Int) else l - nm.size); by_cases hh : l < (nm.size : Int) <;> simp [hh] <;> omega

theorem toSym_call (x : Sy) (hc : x.cn ≤ 1048576) : ACall Try.prog 79 [.dat x.da] (.dat x.da) [] := by
  obtain ⟨nm, ar, ac⟩ := x
  refine acall_W Try.func79 rfl _ Try.ntmps79 (Nat.le_of_ble_eq_true rfl) fun w0 S0 => ?_
  refine W_seq ?_
  refine W_region ?_
  refine st_op (os_box rfl rfl rfl rfl rfl) rfl rfl rfl ?_
  refine st_op (os_alloc z104 rfl rfl) rfl rfl rfl ?_
  refine aOps_nil ?_
  refine W_seq ?_
  refine W_region ?_
  refine st_op (os_alloc z104 rfl rfl) rfl rfl rfl ?_
  refine aOps_nil ?_
  refine W_seq ?_
  refine W_region ?_
  first
    | refine st_op (os_fieldAddrO tabOk rfl rfl rfl (by decide) rfl) rfl rfl rfl ?_
    | refine st_op (os_fieldAddrE tabOk rfl rfl rfl (by decide) rfl) rfl rfl rfl ?_
  first
    | refine st_op (os_loadO1 tabOk rfl rfl rfl rfl rfl rfl) rfl rfl rfl ?_
    | refine st_op (os_loadE1 tabOk rfl rfl rfl rfl rfl) rfl rfl rfl ?_
    | refine st_op (os_loadES tabOk rfl rfl rfl rfl rfl) rfl rfl rfl ?_
    | refine st_op (os_loadOS tabOk rfl rfl rfl rfl rfl (Nat.le_of_ble_eq_true rfl)) rfl rfl rfl ?_
    | refine st_op (os_loadES tabOk rfl rfl rfl rfl (by assumption)) rfl rfl rfl ?_
    | refine st_op (os_loadLS tabOk rfl rfl rfl rfl rfl (by assumption) rfl (by first | rfl | assumption)) rfl rfl rfl ?_
    | refine st_op (os_loadL1 (q := 0) tabOk rfl rfl rfl rfl rfl (by assumption) rfl rfl) rfl rfl rfl ?_
  first
    | refine st_op (os_fieldAddrO tabOk rfl rfl rfl (by decide) rfl) rfl rfl rfl ?_
    | refine st_op (os_fieldAddrE tabOk rfl rfl rfl (by decide) rfl) rfl rfl rfl ?_
  refine st_store tabOk rfl rfl rfl rfl rfl rfl rfl rfl rfl (Nat.le_of_ble_eq_true rfl) rfl ?_
  refine aOps_nil ?_
  refine W_seq ?_
  refine W_region ?_
  first
    | refine st_op (os_fieldAddrO tabOk rfl rfl rfl (by decide) rfl) rfl rfl rfl ?_
    | refine st_op (os_fieldAddrE tabOk rfl rfl rfl (by decide) rfl) rfl rfl rfl ?_
  first
    | refine st_op (os_loadO1 tabOk rfl rfl rfl rfl rfl rfl) rfl rfl rfl ?_
    | refine st_op (os_loadE1 tabOk rfl rfl rfl rfl rfl) rfl rfl rfl ?_
    | refine st_op (os_loadES tabOk rfl rfl rfl rfl rfl) rfl rfl rfl ?_
    | refine st_op (os_loadOS tabOk rfl rfl rfl rfl rfl (Nat.le_of_ble_eq_true rfl)) rfl rfl rfl ?_
    | refine st_op (os_loadES tabOk rfl rfl rfl rfl (by assumption)) rfl rfl rfl ?_
    | refine st_op (os_loadLS tabOk rfl rfl rfl rfl rfl (by assumption) rfl (by first | rfl | assumption)) rfl rfl rfl ?_
    | refine st_op (os_loadL1 (q := 0) tabOk rfl rfl rfl rfl rfl (by assumption) rfl rfl) rfl rfl rfl ?_
  first
    | refine st_op (os_fieldAddrO tabOk rfl rfl rfl (by decide) rfl) rfl rfl rfl ?_
    | refine st_op (os_fieldAddrE tabOk rfl rfl rfl (by decide) rfl) rfl rfl rfl ?_
  refine st_store tabOk rfl rfl rfl rfl rfl rfl rfl rfl rfl (Nat.le_of_ble_eq_true rfl) rfl ?_
  refine aOps_nil ?_
  refine W_seq ?_
  refine W_region ?_
  first
    | refine st_op (os_fieldAddrO tabOk rfl rfl rfl (by decide) rfl) rfl rfl rfl ?_
    | refine st_op (os_fieldAddrE tabOk rfl rfl rfl (by decide) rfl) rfl rfl rfl ?_
  first
    | refine st_op (os_loadO1 tabOk rfl rfl rfl rfl rfl rfl) rfl rfl rfl ?_
    | refine st_op (os_loadE1 tabOk rfl rfl rfl rfl rfl) rfl rfl rfl ?_
    | refine st_op (os_loadES tabOk rfl rfl rfl rfl rfl) rfl rfl rfl ?_
    | refine st_op (os_loadOS tabOk rfl rfl rfl rfl rfl (Nat.le_of_ble_eq_true rfl)) rfl rfl rfl ?_
    | refine st_op (os_loadES tabOk rfl rfl rfl rfl (by assumption)) rfl rfl rfl ?_
    | refine st_op (os_loadLS tabOk rfl rfl rfl rfl rfl (by assumption) rfl (by first | rfl | assumption)) rfl rfl rfl ?_
    | refine st_op (os_loadL1 (q := 0) tabOk rfl rfl rfl rfl rfl (by assumption) rfl rfl) rfl rfl rfl ?_
  first
    | refine st_op (os_fieldAddrO tabOk rfl rfl rfl (by decide) rfl) rfl rfl rfl ?_
    | refine st_op (os_fieldAddrE tabOk rfl rfl rfl (by decide) rfl) rfl rfl rfl ?_
  refine st_store tabOk rfl rfl rfl rfl rfl rfl rfl rfl rfl (Nat.le_of_ble_eq_true rfl) rfl ?_
  refine aOps_nil ?_
  refine W_seq ?_
  refine W_region ?_
  first
    | refine st_op (os_loadO1 tabOk rfl rfl rfl rfl rfl rfl) rfl rfl rfl ?_
    | refine st_op (os_loadE1 tabOk rfl rfl rfl rfl rfl) rfl rfl rfl ?_
    | refine st_op (os_loadES tabOk rfl rfl rfl rfl rfl) rfl rfl rfl ?_
    | refine st_op (os_loadOS tabOk rfl rfl rfl rfl rfl (Nat.le_of_ble_eq_true rfl)) rfl rfl rfl ?_
    | refine st_op (os_loadES tabOk rfl rfl rfl rfl (by assumption)) rfl rfl rfl ?_
    | refine st_op (os_loadLS tabOk rfl rfl rfl rfl rfl (by assumption) rfl (by first | rfl | assumption)) rfl rfl rfl ?_
    | refine st_op (os_loadL1 (q := 0) tabOk rfl rfl rfl rfl rfl (by assumption) rfl rfl) rfl rfl rfl ?_
  refine st_store tabOk rfl rfl rfl rfl rfl rfl rfl rfl rfl (Nat.le_of_ble_eq_true rfl) rfl ?_
  refine aOps_nil ?_
  refine W_ret ?_
  refine retE_ret ?_
  exact ret_cell tabOk Try.results79 rfl rfl rfl rfl rfl rfl rfl

theorem eqSym_call (x : Sy) : ACall Try.prog 83 [.dat x.da, .dat x.da] (B true) [] := by
  obtain ⟨nm, ar, ac⟩ := x
  refine acall_W Try.func83 rfl _ Try.ntmps83 (Nat.le_of_ble_eq_true rfl) fun w0 S0 => ?_
  refine W_seq ?_
  refine W_region ?_
  refine st_op (os_box rfl rfl rfl rfl rfl) rfl rfl rfl ?_
  refine st_op (os_box rfl rfl rfl rfl rfl) rfl rfl rfl ?_
  refine st_op (opS_of (opP_assign rfl rfl)) rfl rfl rfl ?_
  refine aOps_nil ?_
  refine W_seq ?_
  refine W_seq ?_
  refine W_region ?_
  first
    | refine st_op (os_fieldAddrO tabOk rfl rfl rfl (by decide) rfl) rfl rfl rfl ?_
    | refine st_op (os_fieldAddrE tabOk rfl rfl rfl (by decide) rfl) rfl rfl rfl ?_
  first
    | refine st_op (os_loadO1 tabOk rfl rfl rfl rfl rfl rfl) rfl rfl rfl ?_
    | refine st_op (os_loadE1 tabOk rfl rfl rfl rfl rfl) rfl rfl rfl ?_
    | refine st_op (os_loadES tabOk rfl rfl rfl rfl rfl) rfl rfl rfl ?_
    | refine st_op (os_loadOS tabOk rfl rfl rfl rfl rfl (Nat.le_of_ble_eq_true rfl)) rfl rfl rfl ?_
    | refine st_op (os_loadES tabOk rfl rfl rfl rfl (by assumption)) rfl rfl rfl ?_
    | refine st_op (os_loadLS tabOk rfl rfl rfl rfl rfl (by assumption) rfl (by first | rfl | assumption)) rfl rfl rfl ?_
    | refine st_op (os_loadL1 (q := 0) tabOk rfl rfl rfl rfl rfl (by assumption) rfl rfl) rfl rfl rfl ?_
  first
    | refine st_op (os_fieldAddrO tabOk rfl rfl rfl (by decide) rfl) rfl rfl rfl ?_
    | refine st_op (os_fieldAddrE tabOk rfl rfl rfl (by decide) rfl) rfl rfl rfl ?_
  first
    | refine st_op (os_loadO1 tabOk rfl rfl rfl rfl rfl rfl) rfl rfl rfl ?_
    | refine st_op (os_loadE1 tabOk rfl rfl rfl rfl rfl) rfl rfl rfl ?_
    | refine st_op (os_loadES tabOk rfl rfl rfl rfl rfl) rfl rfl rfl ?_
    | refine st_op (os_loadOS tabOk rfl rfl rfl rfl rfl (Nat.le_of_ble_eq_true rfl)) rfl rfl rfl ?_
    | refine st_op (os_loadES tabOk rfl rfl rfl rfl (by assumption)) rfl rfl rfl ?_
    | refine st_op (os_loadLS tabOk rfl rfl rfl rfl rfl (by assumption) rfl (by first | rfl | assumption)) rfl rfl rfl ?_
    | refine st_op (os_loadL1 (q := 0) tabOk rfl rfl rfl rfl rfl (by assumption) rfl rfl) rfl rfl rfl ?_
  first
    | refine st_op (opS_of (opP_neq rfl rfl rfl)) rfl rfl rfl ?_
    | refine st_op (opS_of (opP_strNe rfl rfl rfl)) rfl rfl rfl ?_
    | refine st_op (os_boolNe tabOk rfl rfl rfl rfl rfl) rfl rfl rfl ?_
  refine aOps_nil ?_
  refine W_cond rfl (fun hc9 => ?_) (fun hc9 => ?_)
  · simp at hc9
  · refine W_skip ?_
    refine W_seq ?_
    refine W_seq ?_
    refine W_region ?_
    first
      | refine st_op (os_fieldAddrO tabOk rfl rfl rfl (by decide) rfl) rfl rfl rfl ?_
      | refine st_op (os_fieldAddrE tabOk rfl rfl rfl (by decide) rfl) rfl rfl rfl ?_
    first
      | refine st_op (os_loadO1 tabOk rfl rfl rfl rfl rfl rfl) rfl rfl rfl ?_
      | refine st_op (os_loadE1 tabOk rfl rfl rfl rfl rfl) rfl rfl rfl ?_
      | refine st_op (os_loadES tabOk rfl rfl rfl rfl rfl) rfl rfl rfl ?_
      | refine st_op (os_loadOS tabOk rfl rfl rfl rfl rfl (Nat.le_of_ble_eq_true rfl)) rfl rfl rfl ?_
      | refine st_op (os_loadES tabOk rfl rfl rfl rfl (by assumption)) rfl rfl rfl ?_
      | refine st_op (os_loadLS tabOk rfl rfl rfl rfl rfl (by assumption) rfl (by first | rfl | assumption)) rfl rfl rfl ?_
      | refine st_op (os_loadL1 (q := 0) tabOk rfl rfl rfl rfl rfl (by assumption) rfl rfl) rfl rfl rfl ?_
    first
      | refine st_op (os_fieldAddrO tabOk rfl rfl rfl (by decide) rfl) rfl rfl rfl ?_
      | refine st_op (os_fieldAddrE tabOk rfl rfl rfl (by decide) rfl) rfl rfl rfl ?_
    first
      | refine st_op (os_loadO1 tabOk rfl rfl rfl rfl rfl rfl) rfl rfl rfl ?_
      | refine st_op (os_loadE1 tabOk rfl rfl rfl rfl rfl) rfl rfl rfl ?_
      | refine st_op (os_loadES tabOk rfl rfl rfl rfl rfl) rfl rfl rfl ?_
      | refine st_op (os_loadOS tabOk rfl rfl rfl rfl rfl (Nat.le_of_ble_eq_true rfl)) rfl rfl rfl ?_
      | refine st_op (os_loadES tabOk rfl rfl rfl rfl (by assumption)) rfl rfl rfl ?_
      | refine st_op (os_loadLS tabOk rfl rfl rfl rfl rfl (by assumption) rfl (by first | rfl | assumption)) rfl rfl rfl ?_
      | refine st_op (os_loadL1 (q := 0) tabOk rfl rfl rfl rfl rfl (by assumption) rfl rfl) rfl rfl rfl ?_
    first
      | refine st_op (opS_of (opP_neq rfl rfl rfl)) rfl rfl rfl ?_
      | refine st_op (opS_of (opP_strNe rfl rfl rfl)) rfl rfl rfl ?_
      | refine st_op (os_boolNe tabOk rfl rfl rfl rfl rfl) rfl rfl rfl ?_
    refine aOps_nil ?_
    refine W_cond rfl (fun hc14 => ?_) (fun hc14 => ?_)
    · simp at hc14
    · refine W_skip ?_
      refine W_seq ?_
      refine W_seq ?_
      refine W_region ?_
      first
        | refine st_op (os_fieldAddrO tabOk rfl rfl rfl (by decide) rfl) rfl rfl rfl ?_
        | refine st_op (os_fieldAddrE tabOk rfl rfl rfl (by decide) rfl) rfl rfl rfl ?_
      first
        | refine st_op (os_loadO1 tabOk rfl rfl rfl rfl rfl rfl) rfl rfl rfl ?_
        | refine st_op (os_loadE1 tabOk rfl rfl rfl rfl rfl) rfl rfl rfl ?_
        | refine st_op (os_loadES tabOk rfl rfl rfl rfl rfl) rfl rfl rfl ?_
        | refine st_op (os_loadOS tabOk rfl rfl rfl rfl rfl (Nat.le_of_ble_eq_true rfl)) rfl rfl rfl ?_
        | refine st_op (os_loadES tabOk rfl rfl rfl rfl (by assumption)) rfl rfl rfl ?_
        | refine st_op (os_loadLS tabOk rfl rfl rfl rfl rfl (by assumption) rfl (by first | rfl | assumption)) rfl rfl rfl ?_
        | refine st_op (os_loadL1 (q := 0) tabOk rfl rfl rfl rfl rfl (by assumption) rfl rfl) rfl rfl rfl ?_
      first
        | refine st_op (os_fieldAddrO tabOk rfl rfl rfl (by decide) rfl) rfl rfl rfl ?_
        | refine st_op (os_fieldAddrE tabOk rfl rfl rfl (by decide) rfl) rfl rfl rfl ?_
      first
        | refine st_op (os_loadO1 tabOk rfl rfl rfl rfl rfl rfl) rfl rfl rfl ?_
        | refine st_op (os_loadE1 tabOk rfl rfl rfl rfl rfl) rfl rfl rfl ?_
        | refine st_op (os_loadES tabOk rfl rfl rfl rfl rfl) rfl rfl rfl ?_
        | refine st_op (os_loadOS tabOk rfl rfl rfl rfl rfl (Nat.le_of_ble_eq_true rfl)) rfl rfl rfl ?_
        | refine st_op (os_loadES tabOk rfl rfl rfl rfl (by assumption)) rfl rfl rfl ?_
        | refine st_op (os_loadLS tabOk rfl rfl rfl rfl rfl (by assumption) rfl (by first | rfl | assumption)) rfl rfl rfl ?_
        | refine st_op (os_loadL1 (q := 0) tabOk rfl rfl rfl rfl rfl (by assumption) rfl rfl) rfl rfl rfl ?_
      first
        | refine st_op (opS_of (opP_neq rfl rfl rfl)) rfl rfl rfl ?_
        | refine st_op (opS_of (opP_strNe rfl rfl rfl)) rfl rfl rfl ?_
        | refine st_op (os_boolNe tabOk rfl rfl rfl rfl rfl) rfl rfl rfl ?_
      refine aOps_nil ?_
      refine W_cond rfl (fun hc19 => ?_) (fun hc19 => ?_)
      · simp at hc19
      · refine W_skip ?_
        refine W_seq ?_
        refine W_region ?_
        refine st_op (opS_of (opP_assign rfl rfl)) rfl rfl rfl ?_
        refine aOps_nil ?_
        refine W_ret ?_
        refine retE_ret ?_
        exact retOk_tmpE Try.results83 rfl rfl rfl

/-- Lists of Sym, as data. -/
def Sy.das (l : List Sy) : List (List Da) := l.map Sy.da
theorem Sy.das_len (l : List Sy) : (Sy.das l).length = l.length := by simp [Sy.das]
theorem Sy.das_get (l : List Sy) (i : Nat) : (Sy.das l)[i]? = (l[i]?).map Sy.da := by simp [Sy.das]
def Sy.cns' : List Sy → Nat
  | [] => 0
  | t :: r => t.cn + Sy.cns' r
def Sy.cns (l : List Sy) : Nat := l.length + Sy.cns' l
theorem Sy.cns_mem {l : List Sy} {t : Sy} (h : t ∈ l) : t.cn + l.length ≤ Sy.cns l := by
  unfold Sy.cns
  induction l with
  | nil => simp at h
  | cons u r ih =>
    rcases List.mem_cons.1 h with rfl | h
    · simp [Sy.cns']; omega
    · have := ih h; simp [Sy.cns']; omega
theorem Sy.cns'_take {l : List Sy} {k : Nat} {t : Sy} (h : l[k]? = some t) : Sy.cns' (l.take (k + 1)) = Sy.cns' (l.take k) + t.cn := by
  induction l generalizing k with
  | nil => simp at h
  | cons u r ih =>
    cases k with
    | zero => simp at h; subst h; simp [Sy.cns']
    | succ k => have := ih (k := k) (by simpa using h); simp [Sy.cns', this]; omega
theorem Sy.cns'_le (l : List Sy) (k : Nat) : Sy.cns' (l.take k) ≤ Sy.cns' l := by
  induction l generalizing k with
  | nil => simp
  | cons u r ih =>
    cases k with
    | zero => simp [Sy.cns']
    | succ k => have := ih k; simp [Sy.cns']; omega

theorem toSymS_call (ks : List Sy) (hc : Sy.cns ks ≤ 1048576) : ACall Try.prog 44 [L (Sy.das ks)] (L (Sy.das ks)) [] := by
  have hkl : ks.length ≤ Sy.cns ks := Nat.le_add_right _ _
  have hdl := Sy.das_len ks
  refine acall_W Try.func44 rfl _ Try.ntmps44 (Nat.le_of_ble_eq_true rfl) fun w0 S0 => ?_
  refine W_seq ?_
  refine W_region ?_
  refine st_op (opS_of (opP_assign rfl rfl)) rfl rfl rfl ?_
  refine aOps_nil ?_
  refine W_seq ?_
  refine W_region ?_
  refine st_op (opS_of (opP_move rfl rfl)) rfl rfl rfl ?_
  first
    | refine st_op (os_lenD tabOk rfl rfl rfl rfl rfl) rfl rfl rfl ?_
    | refine st_op (os_lenO tabOk rfl rfl rfl rfl rfl rfl) rfl rfl rfl ?_
    | refine st_op (os_lenS tabOk rfl rfl rfl rfl) rfl rfl rfl ?_
    | refine st_op (os_len0 tabOk rfl rfl rfl rfl rfl) rfl rfl rfl ?_
  refine st_op (os_make tabOk z104 rfl rfl rfl rfl rfl (by decide) rfl rfl rfl (Nat.le_refl _) (by omega) (by omega)) rfl rfl rfl ?_
  refine st_op (opS_of (opP_assign rfl rfl)) rfl rfl rfl ?_
  refine aOps_nil ?_
  refine W_seq ?_
  refine W_seq ?_
  refine W_region ?_
  refine st_op (opS_of (opP_assign rfl rfl)) rfl rfl rfl ?_
  refine aOps_nil ?_
  refine W_block ?_
  refine W_countI (fun k => ⟨[(0, L (Sy.das ks)), (3, .one (.ol 7)), (4, Z k)], [(7, .lst 104 3 ((Sy.das ks).take k ++ List.replicate ((Sy.das ks).length - k) [.str .empty, .int .i64 0, .bool false]))]⟩) (fun _ => True) ks.length 0 (by (refine Ent.of ?_; repeat (first | (refine entOk_tm rfl ?_) | (refine entOk_ob rfl ?_) | exact entOk_nil | (refine entOk_Z rfl (by omega) ?_) | (refine entOk_Z rfl (by simp <;> omega) ?_) | (refine entOk_lst rfl (by assumption) ?_) | (refine entOk_lst rfl (fill_setE rfl (by assumption) (by assumption) rfl) ?_) | (refine entOk_lst rfl (by simp_all; done) ?_) | (refine entOk_var rfl (by simp_all; done) ?_)))) trivial (Nat.zero_le _) (fun k _ hk _ => ?_)
  refine W_seq ?_
  refine W_seq ?_
  refine W_region ?_
  refine st_op (opS_of (opP_move rfl rfl)) rfl rfl rfl ?_
  refine st_op (opS_of (opP_move rfl rfl)) rfl rfl rfl ?_
  first
    | refine st_op (os_lenD tabOk rfl rfl rfl rfl rfl) rfl rfl rfl ?_
    | refine st_op (os_lenO tabOk rfl rfl rfl rfl rfl rfl) rfl rfl rfl ?_
    | refine st_op (os_lenS tabOk rfl rfl rfl rfl) rfl rfl rfl ?_
    | refine st_op (os_len0 tabOk rfl rfl rfl rfl rfl) rfl rfl rfl ?_
  refine st_op (opS_of (opP_lss rfl rfl rfl)) rfl rfl rfl ?_
  refine aOps_nil ?_
  refine W_cond rfl (fun hc11 => ?_) (fun hc11 => ?_)
  · refine W_skip ?_
    refine W_seq ?_
    refine W_block ?_
    have hlk := ofNat_lt hc11
    rw [Sy.das_len] at hlk
    obtain ⟨t', ht⟩ : ∃ t', ks[k]? = some t' := ⟨ks[k], List.getElem?_eq_getElem hlk⟩
    have ht' : t' ∈ ks := List.mem_of_getElem? ht
    have hx : (Sy.das ks)[k]? = some t'.da := by rw [Sy.das_get, ht]; rfl
    have h3 := Sy.da_len t'
    refine W_region ?_
    refine st_op (opS_of (opP_move rfl rfl)) rfl rfl rfl ?_
    refine st_op (opS_of (opP_move rfl rfl)) rfl rfl rfl ?_
    refine st_op (opS_of (opP_move rfl rfl)) rfl rfl rfl ?_
    refine st_op (opS_of (opP_move rfl rfl)) rfl rfl rfl ?_
    first
      | refine st_op (os_indexD tabOk rfl rfl rfl rfl rfl (by decide) rfl rfl (by assumption) (by first | rfl | assumption)) rfl rfl rfl ?_
      | refine st_op (os_indexO tabOk rfl rfl rfl rfl rfl rfl rfl rfl (by decide) rfl (by first | assumption | (simp; omega))) rfl rfl rfl ?_
    first
      | refine st_op (os_loadO1 tabOk rfl rfl rfl rfl rfl rfl) rfl rfl rfl ?_
      | refine st_op (os_loadE1 tabOk rfl rfl rfl rfl rfl) rfl rfl rfl ?_
      | refine st_op (os_loadES tabOk rfl rfl rfl rfl rfl) rfl rfl rfl ?_
      | refine st_op (os_loadOS tabOk rfl rfl rfl rfl rfl (Nat.le_of_ble_eq_true rfl)) rfl rfl rfl ?_
      | refine st_op (os_loadES tabOk rfl rfl rfl rfl (by assumption)) rfl rfl rfl ?_
      | refine st_op (os_loadLS tabOk rfl rfl rfl rfl rfl (by assumption) rfl (by first | rfl | assumption)) rfl rfl rfl ?_
      | refine st_op (os_loadL1 (q := 0) tabOk rfl rfl rfl rfl rfl (by assumption) rfl rfl) rfl rfl rfl ?_
    refine st_op (os_call (ag := [(Operand.tmp 19)]) (toSym_call t' (by have := Sy.cns_mem ht'; omega)) Try.func79 rfl rfl rfl rfl) rfl rfl rfl ?_
    first
      | refine st_op (os_indexD tabOk rfl rfl rfl rfl rfl (by decide) rfl rfl (by assumption) (by first | rfl | assumption)) rfl rfl rfl ?_
      | refine st_op (os_indexO tabOk rfl rfl rfl rfl rfl rfl rfl rfl (by decide) rfl (by first | assumption | (simp; omega))) rfl rfl rfl ?_
    refine st_storeL (n := k) (q := 0) (ds := t'.da) tabOk rfl rfl rfl rfl rfl rfl (toDs_map _) rfl rfl h3.symm (fill_get rfl (by omega)) rfl (by simp [h3]) (by omega) ?_
    refine aOps_nil ?_
    refine W_region ?_
    refine st_op (opS_of (opP_move rfl rfl)) rfl rfl rfl ?_
    first
      | refine st_op (opS_of (opP_add64 rfl rfl rfl (by omega))) rfl rfl rfl ?_
      | refine st_op (opS_of (opP_strAdd rfl rfl rfl (by assumption))) rfl rfl rfl ?_
      | refine st_op (opS_of (opP_add rfl rfl rfl)) rfl rfl rfl ?_
    refine st_op (opS_of (opP_assign rfl rfl)) rfl rfl rfl ?_
    refine aOps_nil ?_
    refine ⟨k + 1, ?_, trivial, by omega, by omega⟩
    (refine Ent.of ?_; repeat (first | (refine entOk_tm rfl ?_) | (refine entOk_ob rfl ?_) | exact entOk_nil | (refine entOk_Z rfl (by omega) ?_) | (refine entOk_Z rfl (by simp <;> omega) ?_) | (refine entOk_lst rfl (by assumption) ?_) | (refine entOk_lst rfl (fill_setE rfl (by assumption) (by assumption) rfl) ?_) | (refine entOk_lst rfl (by simp_all; done) ?_) | (refine entOk_var rfl (by simp_all; done) ?_)))
  · refine W_exit ?_
    refine blockE_hit ?_
    refine W_seq ?_
    refine W_region ?_
    refine st_op (opS_of (opP_move rfl rfl)) rfl rfl rfl ?_
    refine st_op (opS_of (opP_assign rfl rfl)) rfl rfl rfl ?_
    refine aOps_nil ?_
    refine W_ret ?_
    refine retE_ret ?_
    rw [fill_all (by omega) (by have := ofNat_ge hc11; rw [Sy.das_len] at this; rwa [Sy.das_len])]
    exact retOk_frz (k := 7) rfl (by decide) (retOk_tmpE Try.results44 rfl rfl rfl)

theorem szSymS_call (ks : List Sy) (l : Int) (hl : -1 ≤ l ∧ l ≤ 1048576) : ACall Try.prog 42 [L (Sy.das ks), Z l] (Z (lft (Sy.cns ks) l)) [] := by
  refine acall_fit fun hfit => ?_
  have hkl : ks.length ≤ 281474976710656 := by have := hfit.one.len; rwa [Sy.das_len] at this
  have hdl := Sy.das_len ks
  have hce : Sy.cns ks = ks.length + Sy.cns' ks := rfl
  have hc0 : Sy.cns' (ks.take 0) = 0 := rfl
  refine acall_W Try.func42 rfl _ Try.ntmps42 (Nat.le_of_ble_eq_true rfl) fun w0 S0 => ?_
  refine W_seq ?_
  refine W_region ?_
  refine st_op (opS_of (opP_assign rfl rfl)) rfl rfl rfl ?_
  refine aOps_nil ?_
  refine W_seq ?_
  refine W_region ?_
  refine st_op (opS_of (opP_move rfl rfl)) rfl rfl rfl ?_
  refine st_op (opS_of (opP_move rfl rfl)) rfl rfl rfl ?_
  first
    | refine st_op (os_lenD tabOk rfl rfl rfl rfl rfl) rfl rfl rfl ?_
    | refine st_op (os_lenO tabOk rfl rfl rfl rfl rfl rfl) rfl rfl rfl ?_
    | refine st_op (os_lenS tabOk rfl rfl rfl rfl) rfl rfl rfl ?_
    | refine st_op (os_len0 tabOk rfl rfl rfl rfl rfl) rfl rfl rfl ?_
  first
    | refine st_op (opS_of (opP_sub64 rfl rfl rfl (by omega))) rfl rfl rfl ?_
    | refine st_op (opS_of (opP_sub rfl rfl rfl)) rfl rfl rfl ?_
  refine st_op (opS_of (opP_assign rfl rfl)) rfl rfl rfl ?_
  refine aOps_nil ?_
  refine W_seq ?_
  refine W_seq ?_
  refine W_region ?_
  refine st_op (opS_of (opP_move rfl rfl)) rfl rfl rfl ?_
  refine st_op (opS_of (opP_lss rfl rfl rfl)) rfl rfl rfl ?_
  refine aOps_nil ?_
  refine W_cond rfl (fun hc11 => ?_) (fun hc11 => ?_)
  · refine W_seq ?_
    refine W_region ?_
    refine st_op (opS_of (opP_assign rfl rfl)) rfl rfl rfl ?_
    refine aOps_nil ?_
    refine W_ret ?_
    refine retE_ret ?_
    refine retOk_tmpE Try.results42 rfl (congrArg Z ?_) rfl
    have hfin := Sy.cns'_le ks
    first | (have hk2 : k = ks.length := by simp at hc15; omega); subst hk2; rw [List.take_length] at hJ ⊢; unfold lft; split <;> omega | have hle2 := hfin (k + 1); have hlt := of_decide_eq_true hc25; unfold lft at hlt ⊢; split at hlt <;> split <;> omega | (have hlt := of_decide_eq_true hc11); unfold lft; split <;> omega
  · refine W_skip ?_
    refine W_seq ?_
    refine W_seq ?_
    refine W_region ?_
    refine st_op (opS_of (opP_assign rfl rfl)) rfl rfl rfl ?_
    refine aOps_nil ?_
    refine W_block ?_
    refine W_countI (fun k => ⟨[(0, L (Sy.das ks)), (1, Z (l - ks.length - Sy.cns' (ks.take k))), (5, Z k)], []⟩) (fun k => 0 ≤ l - ks.length - Sy.cns' (ks.take k)) ks.length 0 (by (refine Ent.of ?_; repeat (first | (refine entOk_tm rfl ?_) | (refine entOk_ob rfl ?_) | exact entOk_nil | (refine entOk_Z rfl (by omega) ?_) | (refine entOk_Z rfl (by simp <;> omega) ?_) | (refine entOk_lst rfl (by assumption) ?_) | (refine entOk_lst rfl (fill_setE rfl (by assumption) (by assumption) rfl) ?_) | (refine entOk_lst rfl (by simp_all; done) ?_) | (refine entOk_var rfl (by simp_all; done) ?_)))) (by simp at hc11; omega) (Nat.zero_le _) (fun k _ hk hJ => ?_)
    refine W_seq ?_
    refine W_seq ?_
    refine W_region ?_
    refine st_op (opS_of (opP_move rfl rfl)) rfl rfl rfl ?_
    refine st_op (opS_of (opP_move rfl rfl)) rfl rfl rfl ?_
    first
      | refine st_op (os_lenD tabOk rfl rfl rfl rfl rfl) rfl rfl rfl ?_
      | refine st_op (os_lenO tabOk rfl rfl rfl rfl rfl rfl) rfl rfl rfl ?_
      | refine st_op (os_lenS tabOk rfl rfl rfl rfl) rfl rfl rfl ?_
      | refine st_op (os_len0 tabOk rfl rfl rfl rfl rfl) rfl rfl rfl ?_
    refine st_op (opS_of (opP_lss rfl rfl rfl)) rfl rfl rfl ?_
    refine aOps_nil ?_
    refine W_cond rfl (fun hc15 => ?_) (fun hc15 => ?_)
    · refine W_skip ?_
      refine W_seq ?_
      refine W_block ?_
      refine W_seq ?_
      have hlk := ofNat_lt hc15
      rw [Sy.das_len] at hlk
      obtain ⟨t', ht⟩ : ∃ t', ks[k]? = some t' := ⟨ks[k], List.getElem?_eq_getElem hlk⟩
      have ht' : t' ∈ ks := List.mem_of_getElem? ht
      have hx : (Sy.das ks)[k]? = some t'.da := by rw [Sy.das_get, ht]; rfl
      have h3 := Sy.da_len t'
      have htk := Sy.cns'_take ht
      have hle := lft_le (n := t'.cn) (l := l - ks.length - Sy.cns' (ks.take k)) (by omega)
      refine W_region ?_
      refine st_op (opS_of (opP_move rfl rfl)) rfl rfl rfl ?_
      refine st_op (opS_of (opP_move rfl rfl)) rfl rfl rfl ?_
      first
        | refine st_op (os_indexD tabOk rfl rfl rfl rfl rfl (by decide) rfl rfl (by assumption) (by first | rfl | assumption)) rfl rfl rfl ?_
        | refine st_op (os_indexO tabOk rfl rfl rfl rfl rfl rfl rfl rfl (by decide) rfl (by first | assumption | (simp; omega))) rfl rfl rfl ?_
      first
        | refine st_op (os_loadO1 tabOk rfl rfl rfl rfl rfl rfl) rfl rfl rfl ?_
        | refine st_op (os_loadE1 tabOk rfl rfl rfl rfl rfl) rfl rfl rfl ?_
        | refine st_op (os_loadES tabOk rfl rfl rfl rfl rfl) rfl rfl rfl ?_
        | refine st_op (os_loadOS tabOk rfl rfl rfl rfl rfl (Nat.le_of_ble_eq_true rfl)) rfl rfl rfl ?_
        | refine st_op (os_loadES tabOk rfl rfl rfl rfl (by assumption)) rfl rfl rfl ?_
        | refine st_op (os_loadLS tabOk rfl rfl rfl rfl rfl (by assumption) rfl (by first | rfl | assumption)) rfl rfl rfl ?_
        | refine st_op (os_loadL1 (q := 0) tabOk rfl rfl rfl rfl rfl (by assumption) rfl rfl) rfl rfl rfl ?_
      refine st_op (opS_of (opP_move rfl rfl)) rfl rfl rfl ?_
      refine st_op (os_call (ag := [(Operand.tmp 21), (Operand.tmp 22)]) (szSym_call t' _ (by omega)) Try.func78 rfl rfl rfl rfl) rfl rfl rfl ?_
      refine st_op (opS_of (opP_assign rfl rfl)) rfl rfl rfl ?_
      refine aOps_nil ?_
      refine W_seq ?_
      refine W_region ?_
      refine st_op (opS_of (opP_move rfl rfl)) rfl rfl rfl ?_
      refine st_op (opS_of (opP_lss rfl rfl rfl)) rfl rfl rfl ?_
      refine aOps_nil ?_
      refine W_cond rfl (fun hc25 => ?_) (fun hc25 => ?_)
      · refine W_seq ?_
        refine W_region ?_
        refine st_op (opS_of (opP_assign rfl rfl)) rfl rfl rfl ?_
        refine aOps_nil ?_
        refine W_ret ?_
        refine blockE_ret ?_
        refine blockE_ret ?_
        refine retE_ret ?_
        refine retOk_tmpE Try.results42 rfl (congrArg Z ?_) rfl
        have hfin := Sy.cns'_le ks
        first | (have hk2 : k = ks.length := by simp at hc15; omega); subst hk2; rw [List.take_length] at hJ ⊢; unfold lft; split <;> omega | have hle2 := hfin (k + 1); have hlt := of_decide_eq_true hc25; unfold lft at hlt ⊢; split at hlt <;> split <;> omega | (have hlt := of_decide_eq_true hc11); unfold lft; split <;> omega
      · refine W_skip ?_
        refine W_region ?_
        refine st_op (opS_of (opP_move rfl rfl)) rfl rfl rfl ?_
        first
          | refine st_op (opS_of (opP_add64 rfl rfl rfl (by omega))) rfl rfl rfl ?_
          | refine st_op (opS_of (opP_strAdd rfl rfl rfl (by assumption))) rfl rfl rfl ?_
          | refine st_op (opS_of (opP_add rfl rfl rfl)) rfl rfl rfl ?_
        refine st_op (opS_of (opP_assign rfl rfl)) rfl rfl rfl ?_
        refine aOps_nil ?_
        have hc25' : 0 ≤ lft t'.cn (l - ks.length - Sy.cns' (ks.take k)) := by simpa using hc25
        have hlf : lft t'.cn (l - ks.length - Sy.cns' (ks.take k)) = l - ks.length - Sy.cns' (ks.take (k + 1)) := by unfold lft at hc25' ⊢; split <;> omega
        refine ⟨k + 1, ?_, by omega, by omega, by omega⟩
        (refine Ent.of ?_; repeat (first | (refine entOk_tm rfl ?_) | (refine entOk_ob rfl ?_) | exact entOk_nil | (refine entOk_Z rfl (by omega) ?_) | (refine entOk_Z rfl (by simp <;> omega) ?_) | (refine entOk_lst rfl (by assumption) ?_) | (refine entOk_lst rfl (fill_setE rfl (by assumption) (by assumption) rfl) ?_) | (refine entOk_lst rfl (by simp_all; done) ?_) | (refine entOk_var rfl (by simp_all; done) ?_)))
    · refine W_exit ?_
      refine blockE_hit ?_
      refine W_seq ?_
      refine W_region ?_
      refine st_op (opS_of (opP_move rfl rfl)) rfl rfl rfl ?_
      refine st_op (opS_of (opP_assign rfl rfl)) rfl rfl rfl ?_
      refine aOps_nil ?_
      refine W_ret ?_
      refine retE_ret ?_
      refine retOk_tmpE Try.results42 rfl (congrArg Z ?_) rfl
      have hfin := Sy.cns'_le ks
      first | (have hk2 : k = ks.length := by simp at hc15; omega); subst hk2; rw [List.take_length] at hJ ⊢; unfold lft; split <;> omega | have hle2 := hfin (k + 1); have hlt := of_decide_eq_true hc25; unfold lft at hlt ⊢; split at hlt <;> split <;> omega | (have hlt := of_decide_eq_true hc11); unfold lft; split <;> omega

theorem eqSymS_call (ks : List Sy) : ACall Try.prog 46 [L (Sy.das ks), L (Sy.das ks)] (B true) [] := by
  refine acall_fit fun hfit => ?_
  have hkl : ks.length ≤ 281474976710656 := by have := hfit.one.len; rwa [Sy.das_len] at this
  refine acall_W Try.func46 rfl _ Try.ntmps46 (Nat.le_of_ble_eq_true rfl) fun w0 S0 => ?_
  refine W_seq ?_
  refine W_region ?_
  refine st_op (opS_of (opP_assign rfl rfl)) rfl rfl rfl ?_
  refine aOps_nil ?_
  refine W_seq ?_
  refine W_seq ?_
  refine W_region ?_
  refine st_op (opS_of (opP_move rfl rfl)) rfl rfl rfl ?_
  first
    | refine st_op (os_lenD tabOk rfl rfl rfl rfl rfl) rfl rfl rfl ?_
    | refine st_op (os_lenO tabOk rfl rfl rfl rfl rfl rfl) rfl rfl rfl ?_
    | refine st_op (os_lenS tabOk rfl rfl rfl rfl) rfl rfl rfl ?_
    | refine st_op (os_len0 tabOk rfl rfl rfl rfl rfl) rfl rfl rfl ?_
  refine st_op (opS_of (opP_move rfl rfl)) rfl rfl rfl ?_
  first
    | refine st_op (os_lenD tabOk rfl rfl rfl rfl rfl) rfl rfl rfl ?_
    | refine st_op (os_lenO tabOk rfl rfl rfl rfl rfl rfl) rfl rfl rfl ?_
    | refine st_op (os_lenS tabOk rfl rfl rfl rfl) rfl rfl rfl ?_
    | refine st_op (os_len0 tabOk rfl rfl rfl rfl rfl) rfl rfl rfl ?_
  first
    | refine st_op (opS_of (opP_neq rfl rfl rfl)) rfl rfl rfl ?_
    | refine st_op (opS_of (opP_strNe rfl rfl rfl)) rfl rfl rfl ?_
    | refine st_op (os_boolNe tabOk rfl rfl rfl rfl rfl) rfl rfl rfl ?_
  refine aOps_nil ?_
  refine W_cond rfl (fun hc10 => ?_) (fun hc10 => ?_)
  · simp at hc10
  · refine W_skip ?_
    refine W_seq ?_
    refine W_seq ?_
    refine W_region ?_
    refine st_op (opS_of (opP_assign rfl rfl)) rfl rfl rfl ?_
    refine aOps_nil ?_
    refine W_block ?_
    refine W_countI (fun k => ⟨[(0, L (Sy.das ks)), (1, L (Sy.das ks)), (5, Z k)], []⟩) (fun k => True) ks.length 0 (by (refine Ent.of ?_; repeat (first | (refine entOk_tm rfl ?_) | (refine entOk_ob rfl ?_) | exact entOk_nil | (refine entOk_Z rfl (by omega) ?_) | (refine entOk_Z rfl (by simp <;> omega) ?_) | (refine entOk_lst rfl (by assumption) ?_) | (refine entOk_lst rfl (fill_setE rfl (by assumption) (by assumption) rfl) ?_) | (refine entOk_lst rfl (by simp_all; done) ?_) | (refine entOk_var rfl (by simp_all; done) ?_)))) trivial (Nat.zero_le _) (fun k _ hk hJ => ?_)
    refine W_seq ?_
    refine W_seq ?_
    refine W_region ?_
    refine st_op (opS_of (opP_move rfl rfl)) rfl rfl rfl ?_
    refine st_op (opS_of (opP_move rfl rfl)) rfl rfl rfl ?_
    first
      | refine st_op (os_lenD tabOk rfl rfl rfl rfl rfl) rfl rfl rfl ?_
      | refine st_op (os_lenO tabOk rfl rfl rfl rfl rfl rfl) rfl rfl rfl ?_
      | refine st_op (os_lenS tabOk rfl rfl rfl rfl) rfl rfl rfl ?_
      | refine st_op (os_len0 tabOk rfl rfl rfl rfl rfl) rfl rfl rfl ?_
    refine st_op (opS_of (opP_lss rfl rfl rfl)) rfl rfl rfl ?_
    refine aOps_nil ?_
    refine W_cond rfl (fun hc14 => ?_) (fun hc14 => ?_)
    · refine W_skip ?_
      refine W_seq ?_
      refine W_block ?_
      refine W_seq ?_
      have hlk := ofNat_lt hc14
      rw [Sy.das_len] at hlk
      obtain ⟨t', ht⟩ : ∃ t', ks[k]? = some t' := ⟨ks[k], List.getElem?_eq_getElem hlk⟩
      have ht' : t' ∈ ks := List.mem_of_getElem? ht
      have hx : (Sy.das ks)[k]? = some t'.da := by rw [Sy.das_get, ht]; rfl
      have h3 := Sy.da_len t'
      refine W_drawK mixed (by kernel_rfl) ?_
      refine pq_op (opS_of (opP_move rfl rfl)) rfl rfl rfl rfl rfl ?_
      refine pq_op (opS_of (opP_move rfl rfl)) rfl rfl rfl rfl rfl ?_
      first
        | refine pq_op (os_indexD tabOk rfl rfl rfl rfl rfl (by decide) rfl rfl (by assumption) (by first | rfl | assumption)) rfl rfl rfl rfl rfl ?_
        | refine pq_op (os_indexO tabOk rfl rfl rfl rfl rfl rfl rfl rfl (by decide) rfl (by first | assumption | (simp; omega))) rfl rfl rfl rfl rfl ?_
      first
        | refine pq_op (os_loadO1 tabOk rfl rfl rfl rfl rfl rfl) rfl rfl rfl rfl rfl ?_
        | refine pq_op (os_loadE1 tabOk rfl rfl rfl rfl rfl) rfl rfl rfl rfl rfl ?_
        | refine pq_op (os_loadES tabOk rfl rfl rfl rfl rfl) rfl rfl rfl rfl rfl ?_
        | refine pq_op (os_loadOS tabOk rfl rfl rfl rfl rfl (Nat.le_of_ble_eq_true rfl)) rfl rfl rfl rfl rfl ?_
        | refine pq_op (os_loadES tabOk rfl rfl rfl rfl (by assumption)) rfl rfl rfl rfl rfl ?_
        | refine pq_op (os_loadLS tabOk rfl rfl rfl rfl rfl (by assumption) rfl (by first | rfl | assumption)) rfl rfl rfl rfl rfl ?_
        | refine pq_op (os_loadL1 (q := 0) tabOk rfl rfl rfl rfl rfl (by assumption) rfl rfl) rfl rfl rfl rfl rfl ?_
      refine pq_op (opS_of (opP_move rfl rfl)) rfl rfl rfl rfl rfl ?_
      refine pq_op (opS_of (opP_move rfl rfl)) rfl rfl rfl rfl rfl ?_
      first
        | refine pq_op (os_indexD tabOk rfl rfl rfl rfl rfl (by decide) rfl rfl (by assumption) (by first | rfl | assumption)) rfl rfl rfl rfl rfl ?_
        | refine pq_op (os_indexO tabOk rfl rfl rfl rfl rfl rfl rfl rfl (by decide) rfl (by first | assumption | (simp; omega))) rfl rfl rfl rfl rfl ?_
      first
        | refine pq_op (os_loadO1 tabOk rfl rfl rfl rfl rfl rfl) rfl rfl rfl rfl rfl ?_
        | refine pq_op (os_loadE1 tabOk rfl rfl rfl rfl rfl) rfl rfl rfl rfl rfl ?_
        | refine pq_op (os_loadES tabOk rfl rfl rfl rfl rfl) rfl rfl rfl rfl rfl ?_
        | refine pq_op (os_loadOS tabOk rfl rfl rfl rfl rfl (Nat.le_of_ble_eq_true rfl)) rfl rfl rfl rfl rfl ?_
        | refine pq_op (os_loadES tabOk rfl rfl rfl rfl (by assumption)) rfl rfl rfl rfl rfl ?_
        | refine pq_op (os_loadLS tabOk rfl rfl rfl rfl rfl (by assumption) rfl (by first | rfl | assumption)) rfl rfl rfl rfl rfl ?_
        | refine pq_op (os_loadL1 (q := 0) tabOk rfl rfl rfl rfl rfl (by assumption) rfl rfl) rfl rfl rfl rfl rfl ?_
      refine pq_op (os_call (ag := [(Operand.tmp 20), (Operand.tmp 24)]) (eqSym_call t') Try.func83 rfl rfl rfl rfl) rfl rfl rfl rfl rfl ?_
      refine pq_op (opS_of (opP_not rfl rfl)) rfl rfl rfl rfl rfl ?_
      refine pq_nil ?_
      refine W_cond rfl (fun hc26 => ?_) (fun hc26 => ?_)
      · simp at hc26
      · refine W_skip ?_
        refine W_region ?_
        refine st_op (opS_of (opP_move rfl rfl)) rfl rfl rfl ?_
        first
          | refine st_op (opS_of (opP_add64 rfl rfl rfl (by omega))) rfl rfl rfl ?_
          | refine st_op (opS_of (opP_strAdd rfl rfl rfl (by assumption))) rfl rfl rfl ?_
          | refine st_op (opS_of (opP_add rfl rfl rfl)) rfl rfl rfl ?_
        refine st_op (opS_of (opP_assign rfl rfl)) rfl rfl rfl ?_
        refine aOps_nil ?_
        refine ⟨k + 1, ?_, trivial, by omega, by omega⟩
        (refine Ent.of ?_; repeat (first | (refine entOk_tm rfl ?_) | (refine entOk_ob rfl ?_) | exact entOk_nil | (refine entOk_Z rfl (by omega) ?_) | (refine entOk_Z rfl (by simp <;> omega) ?_) | (refine entOk_lst rfl (by assumption) ?_) | (refine entOk_lst rfl (fill_setE rfl (by assumption) (by assumption) rfl) ?_) | (refine entOk_lst rfl (by simp_all; done) ?_) | (refine entOk_var rfl (by simp_all; done) ?_)))
    · refine W_exit ?_
      refine blockE_hit ?_
      refine W_seq ?_
      refine W_region ?_
      refine st_op (opS_of (opP_assign rfl rfl)) rfl rfl rfl ?_
      refine aOps_nil ?_
      refine W_ret ?_
      refine retE_ret ?_
      exact retOk_tmpE Try.results46 rfl rfl rfl

end AM
end Go.Proofs.Ytfmfflfnkjoopaa
