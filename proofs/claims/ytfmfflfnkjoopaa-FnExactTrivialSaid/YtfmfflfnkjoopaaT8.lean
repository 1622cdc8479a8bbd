/- A trivial clause, told by the program and by the reference; no conditions. -/
import Derived.Test.YtfmfflfnkjoopaaT7
set_option linter.unusedVariables false
set_option linter.unusedSimpArgs false
namespace Go.Proofs.Ytfmfflfnkjoopaa
namespace AM
open Go
attribute [local irreducible] aOps awp W OpP OpS ACall RetOk XOp RetX ResOk XCall

/-- Where the first one is. -/
def fIdx {α : Type} (q : α → Bool) : List α → Int → Int
  | [], _ => -1
  | x :: r, k => if q x then k else fIdx q r (k + 1)
theorem fIdx_at {α : Type} {q : α → Bool} : ∀ {xs : List α} {k : Nat} {x : α} (n : Int), (∀ (i : Nat) y, i < k → xs[i]? = some y → q y = false) → xs[k]? = some x → q x = true → fIdx q xs n = n + k
  | [], _, _, _, _, h, _ => by simp at h
  | y :: r, 0, x, n, _, h1, h2 => by simp at h1; subst h1; simp [fIdx, h2]
  | y :: r, k + 1, x, n, h, h1, h2 => by
    have h0 := h 0 y (by omega) rfl
    have := fIdx_at (xs := r) (k := k) (x := x) (n + 1) (fun i z hi hz => h (i + 1) z (by omega) (by simpa using hz)) (by simpa using h1) h2
    simp only [fIdx, h0, this]
    simp; omega
theorem fIdx_none {α : Type} {q : α → Bool} : ∀ {xs : List α} (n : Int), (∀ (i : Nat) y, i < xs.length → xs[i]? = some y → q y = false) → fIdx q xs n = -1
  | [], _, _ => rfl
  | y :: r, n, h => by
    have h0 := h 0 y (by simp) rfl
    have := fIdx_none (xs := r) (n + 1) (fun i z hi hz => h (i + 1) z (by simpa using hi) (by simpa using hz))
    simp [fIdx, h0, this]
theorem fIdx_any {α : Type} {q : α → Bool} : ∀ {xs : List α} {n : Int}, 0 ≤ n → decide (fIdx q xs n ≥ 0) = xs.any q
  | [], n, _ => by simp [fIdx]
  | x :: r, n, h => by
    simp only [fIdx, List.any_cons]
    split
    · rename_i hq; simp [hq, h]
    · rename_i hq; simp only [Bool.not_eq_true] at hq; rw [fIdx_any (by omega)]; simp [hq]
def noneTo {α : Type} (q : α → Bool) (xs : List α) (k : Nat) : Prop := ∀ (i : Nat) y, i < k → xs[i]? = some y → q y = false
theorem noneTo.next {α : Type} {q : α → Bool} {xs : List α} {k : Nat} {x : α} (h : noneTo q xs k) (hx : xs[k]? = some x) (e : q x = false) : noneTo q xs (k + 1) := by
  intro i y hi hy
  rcases Nat.lt_succ_iff_lt_or_eq.1 hi with hi | rfl
  · exact h i y hi hy
  · rw [hx] at hy; cases hy; exact e

theorem indexFunc_call (q : Li → Bool) (v : AV) (xs : List Li) (I : List (Nat × Ob)) (hi : RoOk I) (hvi : ∀ q ∈ v.ids, 2000 ≤ q) (hb : xs.length ≤ 281474976710656)
    (hv : ∀ x ∈ xs, VCall Try.prog v [.dat x.da] (B (q x)) I I []) : XCall Try.prog 92 [L (Li.das xs), v] (Z (fIdx q xs 0)) I I [] := by
  have hdl := Li.das_len xs
  refine xcall_W Try.func92 rfl _ Try.ntmps92 (Nat.le_of_ble_eq_true rfl) fun w0 S0 β0 => ?_
  refine W_seq ?_
  refine W_region ?_
  refine st_op (opS_of (opP_assign rfl rfl)) rfl rfl rfl ?_
  refine aOps_nil ?_
  refine W_seq ?_
  refine W_seq ?_
  refine W_region ?_
  refine st_op (opS_of (opP_move rfl rfl)) rfl rfl rfl ?_
  first
    | refine st_op (os_lenD tabOk rfl rfl rfl rfl rfl) rfl rfl rfl ?_
    | refine st_op (os_lenO tabOk rfl rfl rfl rfl rfl rfl) rfl rfl rfl ?_
    | refine st_op (os_lenS tabOk rfl rfl rfl rfl) rfl rfl rfl ?_
    | refine st_op (os_len0 tabOk rfl rfl rfl rfl rfl) rfl rfl rfl ?_
  refine st_op (opS_of (opP_move rfl rfl)) rfl rfl rfl ?_
  refine aOps_nil ?_
  refine W_block ?_
  refine W_countI (fun k => ⟨[(0, L (Li.das xs)), (1, v), (7, Z xs.length), (8, Z k)], I⟩) (noneTo q xs) xs.length 0 (by (refine Ent.ofOb hi rfl ?_; repeat (first | (refine entOk_tm rfl ?_) | exact entOk_nil | (refine entOk_Z rfl (by omega) ?_)))) (fun i x h => by omega) (Nat.zero_le _) (fun k _ hk hJ => ?_)
  refine W_seq ?_
  refine W_region ?_
  refine st_op (opS_of (opP_lss rfl rfl rfl)) rfl rfl rfl ?_
  refine aOps_nil ?_
  refine W_seq ?_
  refine W_cond rfl (fun hc9 => ?_) (fun hc9 => ?_)
  · refine W_skip ?_
    refine W_seq ?_
    refine W_block ?_
    refine W_seq ?_
    refine W_region ?_
    refine st_op (opS_of (opP_move rfl rfl)) rfl rfl rfl ?_
    refine st_op (opS_of (opP_assign rfl rfl)) rfl rfl rfl ?_
    refine aOps_nil ?_
    refine W_seq ?_
    have hlk := ofNat_lt hc9
    obtain ⟨x, hx⟩ : ∃ x, xs[k]? = some x := ⟨xs[k], List.getElem?_eq_getElem hlk⟩
    have hvv := hv x (List.mem_of_getElem? hx)
    have hx1 : (Li.das xs)[k]? = some x.da := by rw [Li.das_get, hx]; rfl
    have hx7 := Li.da_len x
    refine W_region ?_
    refine st_op (opS_of (opP_move rfl rfl)) rfl rfl rfl ?_
    refine st_op (opS_of (opP_move rfl rfl)) rfl rfl rfl ?_
    refine st_op (opS_of (opP_move rfl rfl)) rfl rfl rfl ?_
    first
      | refine st_op (os_indexD tabOk rfl rfl rfl rfl rfl (by decide) rfl rfl (by assumption) (by first | rfl | assumption)) rfl rfl rfl ?_
      | refine st_op (os_indexO tabOk rfl rfl rfl rfl rfl rfl rfl rfl (by decide) rfl (by first | assumption | (simp; omega))) rfl rfl rfl ?_
    first
      | refine st_op (os_loadO1 tabOk rfl rfl rfl rfl rfl rfl) rfl rfl rfl ?_
      | refine st_op (os_loadE1 tabOk rfl rfl rfl rfl rfl) rfl rfl rfl ?_
      | refine st_op (os_loadES tabOk rfl rfl rfl rfl rfl) rfl rfl rfl ?_
      | refine st_op (os_loadOS tabOk rfl rfl rfl rfl rfl (Nat.le_of_ble_eq_true rfl)) rfl rfl rfl ?_
      | refine st_op (os_loadES tabOk rfl rfl rfl rfl (by assumption)) rfl rfl rfl ?_
      | refine st_op (os_loadLS tabOk rfl rfl rfl rfl rfl (by assumption) rfl (by first | rfl | assumption)) rfl rfl rfl ?_
      | refine st_op (os_loadL1 (q := 0) tabOk rfl rfl rfl rfl rfl (by assumption) rfl rfl) rfl rfl rfl ?_
    refine st_x (xop_ro hvv rfl rfl rfl rfl (fun p hp => roI hi rfl hp)) rfl ?_
    refine aOps_nil ?_
    refine W_cond rfl (fun hc16 => ?_) (fun hc16 => ?_)
    · refine W_seq ?_
      refine W_region ?_
      refine st_op (opS_of (opP_move rfl rfl)) rfl rfl rfl ?_
      refine st_op (opS_of (opP_assign rfl rfl)) rfl rfl rfl ?_
      refine aOps_nil ?_
      refine W_ret ?_
      refine blockE_ret ?_
      refine blockE_ret ?_
      refine retE_ret ?_
      refine retX_ro hi rfl (resOk_tmp Try.results92 ?_) rfl
      refine congrArg (some ∘ Z) ?_
      first | (rw [fIdx_at 0 hJ hx hc16]; omega) | (rw [fIdx_none 0 (fun i y h => hJ i y (by have h9 := ofNat_ge hc9; omega))])
    · refine W_skip ?_
      refine W_region ?_
      first
        | refine st_op (opS_of (opP_add64 rfl rfl rfl (by omega))) rfl rfl rfl ?_
        | refine st_op (opS_of (opP_strAdd rfl rfl rfl (by assumption))) rfl rfl rfl ?_
        | refine st_op (opS_of (opP_add rfl rfl rfl)) rfl rfl rfl ?_
      refine st_op (opS_of (opP_move rfl rfl)) rfl rfl rfl ?_
      refine aOps_nil ?_
      refine ⟨k + 1, by (refine Ent.ofOb hi rfl ?_; repeat (first | (refine entOk_tm rfl ?_) | exact entOk_nil | (refine entOk_Z rfl (by omega) ?_))), hJ.next hx hc16, by omega, by omega⟩
  · refine W_exit ?_
    refine blockE_hit ?_
    refine W_seq ?_
    refine W_region ?_
    refine st_op (opS_of (opP_assign rfl rfl)) rfl rfl rfl ?_
    refine aOps_nil ?_
    refine W_ret ?_
    refine retE_ret ?_
    refine retX_ro hi rfl (resOk_tmp Try.results92 ?_) rfl
    refine congrArg (some ∘ Z) ?_
    first | (rw [fIdx_at 0 hJ hx hc16]; omega) | (rw [fIdx_none 0 (fun i y h => hJ i y (by have h9 := ofNat_ge hc9; omega))])

theorem containsFunc_call (q : Li → Bool) (v : AV) (xs : List Li) (I : List (Nat × Ob)) (hi : RoOk I) (hvi : ∀ q ∈ v.ids, 2000 ≤ q) (hb : xs.length ≤ 281474976710656)
    (hv : ∀ x ∈ xs, VCall Try.prog v [.dat x.da] (B (q x)) I I []) : XCall Try.prog 81 [L (Li.das xs), v] (B (xs.any q)) I I [] := by
  have hix := indexFunc_call q v xs I hi hvi hb hv
  refine xcall_W Try.func81 rfl _ Try.ntmps81 (Nat.le_of_ble_eq_true rfl) fun w0 S0 β0 => ?_
  refine W_seq ?_
  refine W_region ?_
  refine st_op (opS_of (opP_assign rfl rfl)) rfl rfl rfl ?_
  refine aOps_nil ?_
  refine W_seq ?_
  refine W_region ?_
  refine st_op (opS_of (opP_move rfl rfl)) rfl rfl rfl ?_
  refine st_op (opS_of (opP_move rfl rfl)) rfl rfl rfl ?_
  refine st_x (xop_ro (c := .func 92) (ag := [.tmp 5, .tmp 6]) (vcall_fn hix Try.func92 rfl (by kernel_rfl)) rfl rfl rfl rfl (fun p hp => roI hi rfl hp)) rfl ?_
  refine st_op (opS_of (opP_geq rfl rfl rfl)) rfl rfl rfl ?_
  refine st_op (opS_of (opP_assign rfl rfl)) rfl rfl rfl ?_
  refine aOps_nil ?_
  refine W_ret ?_
  refine retE_ret ?_
  refine retX_ro hi rfl (resOk_tmp Try.results81 ?_) rfl
  exact congrArg (some ∘ B) (fIdx_any (Int.le_refl 0))

theorem implTermSame_call (a b : Tm) : ACall Try.prog 80 [.dat a.da, .dat b.da] (B (decide (Tm.cmp a b = 0))) [] := by
  have hab := compare_call a b
  obtain ⟨f, v, ks⟩ := a
  obtain ⟨g, u, ls⟩ := b
  refine acall_W Try.func80 rfl _ Try.ntmps80 (Nat.le_of_ble_eq_true rfl) fun w0 S0 => ?_
  refine W_seq ?_
  refine W_region ?_
  refine st_op (os_box rfl rfl rfl rfl rfl) rfl rfl rfl ?_
  refine st_op (os_box rfl rfl rfl rfl rfl) rfl rfl rfl ?_
  refine st_op (opS_of (opP_assign rfl rfl)) rfl rfl rfl ?_
  refine aOps_nil ?_
  refine W_seq ?_
  refine W_region ?_
  first
    | refine st_op (os_loadO1 tabOk rfl rfl rfl rfl rfl rfl) rfl rfl rfl ?_
    | refine st_op (os_loadE1 tabOk rfl rfl rfl rfl rfl) rfl rfl rfl ?_
    | refine st_op (os_loadES tabOk rfl rfl rfl rfl rfl) rfl rfl rfl ?_
    | refine st_op (os_loadOS tabOk rfl rfl rfl rfl rfl (Nat.le_of_ble_eq_true rfl)) rfl rfl rfl ?_
    | refine st_op (os_loadES tabOk rfl rfl rfl rfl (by assumption)) rfl rfl rfl ?_
    | refine st_op (os_loadLS tabOk rfl rfl rfl rfl rfl (by assumption) rfl (by first | rfl | assumption)) rfl rfl rfl ?_
    | refine st_op (os_loadL1 (q := 0) tabOk rfl rfl rfl rfl rfl (by assumption) rfl rfl) rfl rfl rfl ?_
  first
    | refine st_op (os_loadO1 tabOk rfl rfl rfl rfl rfl rfl) rfl rfl rfl ?_
    | refine st_op (os_loadE1 tabOk rfl rfl rfl rfl rfl) rfl rfl rfl ?_
    | refine st_op (os_loadES tabOk rfl rfl rfl rfl rfl) rfl rfl rfl ?_
    | refine st_op (os_loadOS tabOk rfl rfl rfl rfl rfl (Nat.le_of_ble_eq_true rfl)) rfl rfl rfl ?_
    | refine st_op (os_loadES tabOk rfl rfl rfl rfl (by assumption)) rfl rfl rfl ?_
    | refine st_op (os_loadLS tabOk rfl rfl rfl rfl rfl (by assumption) rfl (by first | rfl | assumption)) rfl rfl rfl ?_
    | refine st_op (os_loadL1 (q := 0) tabOk rfl rfl rfl rfl rfl (by assumption) rfl rfl) rfl rfl rfl ?_
  refine st_op (os_call (ag := [(Operand.tmp 5), (Operand.tmp 6)]) (hab) Try.func90 rfl rfl rfl rfl) rfl rfl rfl ?_
  first
    | refine st_op (opS_of (opP_eql rfl rfl rfl)) rfl rfl rfl ?_
    | refine st_op (opS_of (opP_strEq rfl rfl rfl)) rfl rfl rfl ?_
    | refine st_op (os_boolEq tabOk rfl rfl rfl rfl rfl) rfl rfl rfl ?_
  refine st_op (opS_of (opP_assign rfl rfl)) rfl rfl rfl ?_
  refine aOps_nil ?_
  refine W_ret ?_
  refine retE_ret ?_
  exact retOk_tmpE Try.results80 rfl rfl rfl

/-- Two equations that say the contrary. -/
def Li.con (a b : Li) : Bool := decide (a.p ≠ b.p) && (decide (Tm.cmp a.l b.l = 0) && decide (Tm.cmp a.r b.r = 0))
theorem trivClo_call (a b : Li) : XCall Try.prog 82 [.dat b.da, .one (.op 2000 0)] (B (Li.con a b)) [(2000, .var (a.da.map .d))] [(2000, .var (a.da.map .d))] [] := by
  obtain ⟨p, ⟨f, v, ks⟩, ⟨g, u, ls⟩⟩ := a
  obtain ⟨p', ⟨f', v', ks'⟩, ⟨g', u', ls'⟩⟩ := b
  refine xcall_W Try.func82 rfl _ Try.ntmps82 (Nat.le_of_ble_eq_true rfl) fun w0 S0 β0 => ?_
  refine W_seq ?_
  refine W_region ?_
  refine st_op (os_box rfl rfl rfl rfl rfl) rfl rfl (by first | rfl | (refine fresh_one (by decide) ?_ ?_ <;> repeat (first | exact notTm_nil | exact notOb_nil | exact notOb_I hi (by decide) | refine notTm_cons rfl ?_ | refine notTm_v hvi (by decide) ?_ | refine notOb_cons rfl ?_))) ?_
  refine st_op (opS_of (opP_assign rfl rfl)) rfl rfl rfl ?_
  refine aOps_nil ?_
  refine W_seq ?_
  refine W_region ?_
  first
    | refine st_op (os_fieldAddrO tabOk rfl rfl rfl (by decide) rfl) rfl rfl rfl ?_
    | refine st_op (os_fieldAddrE tabOk rfl rfl rfl (by decide) rfl) rfl rfl rfl ?_
  first
    | refine st_op (os_loadO1 tabOk rfl rfl rfl rfl rfl rfl) rfl rfl rfl ?_
    | refine st_op (os_loadE1 tabOk rfl rfl rfl rfl rfl) rfl rfl rfl ?_
    | refine st_op (os_loadES tabOk rfl rfl rfl rfl rfl) rfl rfl rfl ?_
    | refine st_op (os_loadOS tabOk rfl rfl rfl rfl rfl (Nat.le_of_ble_eq_true rfl)) rfl rfl rfl ?_
    | refine st_op (os_loadES tabOk rfl rfl rfl rfl (by assumption)) rfl rfl rfl ?_
    | refine st_op (os_loadLS tabOk rfl rfl rfl rfl rfl (by assumption) rfl (by first | rfl | assumption)) rfl rfl rfl ?_
    | refine st_op (os_loadL1 (q := 0) tabOk rfl rfl rfl rfl rfl (by assumption) rfl rfl) rfl rfl rfl ?_
  first
    | refine st_op (os_fieldAddrO tabOk rfl rfl rfl (by decide) rfl) rfl rfl rfl ?_
    | refine st_op (os_fieldAddrE tabOk rfl rfl rfl (by decide) rfl) rfl rfl rfl ?_
  first
    | refine st_op (os_loadO1 tabOk rfl rfl rfl rfl rfl rfl) rfl rfl rfl ?_
    | refine st_op (os_loadE1 tabOk rfl rfl rfl rfl rfl) rfl rfl rfl ?_
    | refine st_op (os_loadES tabOk rfl rfl rfl rfl rfl) rfl rfl rfl ?_
    | refine st_op (os_loadOS tabOk rfl rfl rfl rfl rfl (Nat.le_of_ble_eq_true rfl)) rfl rfl rfl ?_
    | refine st_op (os_loadES tabOk rfl rfl rfl rfl (by assumption)) rfl rfl rfl ?_
    | refine st_op (os_loadLS tabOk rfl rfl rfl rfl rfl (by assumption) rfl (by first | rfl | assumption)) rfl rfl rfl ?_
    | refine st_op (os_loadL1 (q := 0) tabOk rfl rfl rfl rfl rfl (by assumption) rfl rfl) rfl rfl rfl ?_
  first
    | refine st_op (opS_of (opP_neq rfl rfl rfl)) rfl rfl rfl ?_
    | refine st_op (opS_of (opP_strNe rfl rfl rfl)) rfl rfl rfl ?_
    | refine st_op (os_boolNe tabOk rfl rfl rfl rfl rfl) rfl rfl rfl ?_
  refine st_op (opS_of (opP_move rfl rfl)) rfl rfl rfl ?_
  refine st_gsplit rfl rfl rfl (fun hb9 => ?_) (fun hb9 => ?_)
  · first
      | refine st_run (os_fieldAddrO tabOk rfl rfl rfl (by decide) rfl) rfl rfl rfl rfl rfl ?_
      | refine st_run (os_fieldAddrE tabOk rfl rfl rfl (by decide) rfl) rfl rfl rfl rfl rfl ?_
    first
      | refine st_run (os_loadO1 tabOk rfl rfl rfl rfl rfl rfl) rfl rfl rfl rfl rfl ?_
      | refine st_run (os_loadE1 tabOk rfl rfl rfl rfl rfl) rfl rfl rfl rfl rfl ?_
      | refine st_run (os_loadES tabOk rfl rfl rfl rfl rfl) rfl rfl rfl rfl rfl ?_
      | refine st_run (os_loadOS tabOk rfl rfl rfl rfl rfl (Nat.le_of_ble_eq_true rfl)) rfl rfl rfl rfl rfl ?_
      | refine st_run (os_loadES tabOk rfl rfl rfl rfl (by assumption)) rfl rfl rfl rfl rfl ?_
      | refine st_run (os_loadLS tabOk rfl rfl rfl rfl rfl (by assumption) rfl (by first | rfl | assumption)) rfl rfl rfl rfl rfl ?_
      | refine st_run (os_loadL1 (q := 0) tabOk rfl rfl rfl rfl rfl (by assumption) rfl rfl) rfl rfl rfl rfl rfl ?_
    first
      | refine st_run (os_fieldAddrO tabOk rfl rfl rfl (by decide) rfl) rfl rfl rfl rfl rfl ?_
      | refine st_run (os_fieldAddrE tabOk rfl rfl rfl (by decide) rfl) rfl rfl rfl rfl rfl ?_
    first
      | refine st_run (os_loadO1 tabOk rfl rfl rfl rfl rfl rfl) rfl rfl rfl rfl rfl ?_
      | refine st_run (os_loadE1 tabOk rfl rfl rfl rfl rfl) rfl rfl rfl rfl rfl ?_
      | refine st_run (os_loadES tabOk rfl rfl rfl rfl rfl) rfl rfl rfl rfl rfl ?_
      | refine st_run (os_loadOS tabOk rfl rfl rfl rfl rfl (Nat.le_of_ble_eq_true rfl)) rfl rfl rfl rfl rfl ?_
      | refine st_run (os_loadES tabOk rfl rfl rfl rfl (by assumption)) rfl rfl rfl rfl rfl ?_
      | refine st_run (os_loadLS tabOk rfl rfl rfl rfl rfl (by assumption) rfl (by first | rfl | assumption)) rfl rfl rfl rfl rfl ?_
      | refine st_run (os_loadL1 (q := 0) tabOk rfl rfl rfl rfl rfl (by assumption) rfl rfl) rfl rfl rfl rfl rfl ?_
    first
      | refine st_run (os_call (ag := [(Operand.tmp 11), (Operand.tmp 13)]) (implTermSame_call (.mk f v ks) (.mk f' v' ks')) Try.func80 rfl rfl rfl rfl) rfl rfl rfl rfl rfl ?_
      | refine st_run (os_call (ag := [(Operand.tmp 11), (Operand.tmp 13)]) (implTermSame_call (.mk g u ls) (.mk g' u' ls')) Try.func80 rfl rfl rfl rfl) rfl rfl rfl rfl rfl ?_
    first
      | refine st_op (opS_of (opP_pickA rfl rfl rfl rfl)) rfl rfl rfl ?_
      | refine st_op (opS_of (opP_pickF rfl rfl rfl rfl)) rfl rfl rfl ?_
      | refine st_op (opS_of (opP_pickA rfl rfl (by assumption) rfl)) rfl rfl rfl ?_
      | refine st_op (opS_of (opP_pickF rfl rfl (by assumption) rfl)) rfl rfl rfl ?_
    refine st_op (opS_of (opP_move rfl rfl)) rfl rfl rfl ?_
    refine st_gsplit rfl rfl rfl (fun hb16 => ?_) (fun hb16 => ?_)
    · first
        | refine st_run (os_fieldAddrO tabOk rfl rfl rfl (by decide) rfl) rfl rfl rfl rfl rfl ?_
        | refine st_run (os_fieldAddrE tabOk rfl rfl rfl (by decide) rfl) rfl rfl rfl rfl rfl ?_
      first
        | refine st_run (os_loadO1 tabOk rfl rfl rfl rfl rfl rfl) rfl rfl rfl rfl rfl ?_
        | refine st_run (os_loadE1 tabOk rfl rfl rfl rfl rfl) rfl rfl rfl rfl rfl ?_
        | refine st_run (os_loadES tabOk rfl rfl rfl rfl rfl) rfl rfl rfl rfl rfl ?_
        | refine st_run (os_loadOS tabOk rfl rfl rfl rfl rfl (Nat.le_of_ble_eq_true rfl)) rfl rfl rfl rfl rfl ?_
        | refine st_run (os_loadES tabOk rfl rfl rfl rfl (by assumption)) rfl rfl rfl rfl rfl ?_
        | refine st_run (os_loadLS tabOk rfl rfl rfl rfl rfl (by assumption) rfl (by first | rfl | assumption)) rfl rfl rfl rfl rfl ?_
        | refine st_run (os_loadL1 (q := 0) tabOk rfl rfl rfl rfl rfl (by assumption) rfl rfl) rfl rfl rfl rfl rfl ?_
      first
        | refine st_run (os_fieldAddrO tabOk rfl rfl rfl (by decide) rfl) rfl rfl rfl rfl rfl ?_
        | refine st_run (os_fieldAddrE tabOk rfl rfl rfl (by decide) rfl) rfl rfl rfl rfl rfl ?_
      first
        | refine st_run (os_loadO1 tabOk rfl rfl rfl rfl rfl rfl) rfl rfl rfl rfl rfl ?_
        | refine st_run (os_loadE1 tabOk rfl rfl rfl rfl rfl) rfl rfl rfl rfl rfl ?_
        | refine st_run (os_loadES tabOk rfl rfl rfl rfl rfl) rfl rfl rfl rfl rfl ?_
        | refine st_run (os_loadOS tabOk rfl rfl rfl rfl rfl (Nat.le_of_ble_eq_true rfl)) rfl rfl rfl rfl rfl ?_
        | refine st_run (os_loadES tabOk rfl rfl rfl rfl (by assumption)) rfl rfl rfl rfl rfl ?_
        | refine st_run (os_loadLS tabOk rfl rfl rfl rfl rfl (by assumption) rfl (by first | rfl | assumption)) rfl rfl rfl rfl rfl ?_
        | refine st_run (os_loadL1 (q := 0) tabOk rfl rfl rfl rfl rfl (by assumption) rfl rfl) rfl rfl rfl rfl rfl ?_
      first
        | refine st_run (os_call (ag := [(Operand.tmp 18), (Operand.tmp 20)]) (implTermSame_call (.mk f v ks) (.mk f' v' ks')) Try.func80 rfl rfl rfl rfl) rfl rfl rfl rfl rfl ?_
        | refine st_run (os_call (ag := [(Operand.tmp 18), (Operand.tmp 20)]) (implTermSame_call (.mk g u ls) (.mk g' u' ls')) Try.func80 rfl rfl rfl rfl) rfl rfl rfl rfl rfl ?_
      first
        | refine st_op (opS_of (opP_pickA rfl rfl rfl rfl)) rfl rfl rfl ?_
        | refine st_op (opS_of (opP_pickF rfl rfl rfl rfl)) rfl rfl rfl ?_
        | refine st_op (opS_of (opP_pickA rfl rfl (by assumption) rfl)) rfl rfl rfl ?_
        | refine st_op (opS_of (opP_pickF rfl rfl (by assumption) rfl)) rfl rfl rfl ?_
      refine st_op (opS_of (opP_assign rfl rfl)) rfl rfl rfl ?_
      refine aOps_nil ?_
      refine W_ret ?_
      refine retE_ret ?_
      refine retX_ro (.one (by decide) rfl) rfl (resOk_tmp Try.results82 ?_) rfl
      refine congrArg (some ∘ B) ?_
      cases p <;> cases p' <;> simp_all [Li.con]
    · refine st_skipJ rfl rfl rfl rfl ?_
      refine st_skipJ rfl rfl rfl rfl ?_
      refine st_skipJ rfl rfl rfl rfl ?_
      refine st_skipJ rfl rfl rfl rfl ?_
      refine st_skipJ rfl rfl rfl rfl ?_
      first
        | refine st_op (opS_of (opP_pickA rfl rfl rfl rfl)) rfl rfl rfl ?_
        | refine st_op (opS_of (opP_pickF rfl rfl rfl rfl)) rfl rfl rfl ?_
        | refine st_op (opS_of (opP_pickA rfl rfl (by assumption) rfl)) rfl rfl rfl ?_
        | refine st_op (opS_of (opP_pickF rfl rfl (by assumption) rfl)) rfl rfl rfl ?_
      refine st_op (opS_of (opP_assign rfl rfl)) rfl rfl rfl ?_
      refine aOps_nil ?_
      refine W_ret ?_
      refine retE_ret ?_
      refine retX_ro (.one (by decide) rfl) rfl (resOk_tmp Try.results82 ?_) rfl
      refine congrArg (some ∘ B) ?_
      cases p <;> cases p' <;> simp_all [Li.con]
  · refine st_skipJ rfl rfl rfl rfl ?_
    refine st_skipJ rfl rfl rfl rfl ?_
    refine st_skipJ rfl rfl rfl rfl ?_
    refine st_skipJ rfl rfl rfl rfl ?_
    refine st_skipJ rfl rfl rfl rfl ?_
    first
      | refine st_op (opS_of (opP_pickA rfl rfl rfl rfl)) rfl rfl rfl ?_
      | refine st_op (opS_of (opP_pickF rfl rfl rfl rfl)) rfl rfl rfl ?_
      | refine st_op (opS_of (opP_pickA rfl rfl (by assumption) rfl)) rfl rfl rfl ?_
      | refine st_op (opS_of (opP_pickF rfl rfl (by assumption) rfl)) rfl rfl rfl ?_
    refine st_op (opS_of (opP_move rfl rfl)) rfl rfl rfl ?_
    refine st_skipJ rfl rfl rfl rfl ?_
    refine st_skipJ rfl rfl rfl rfl ?_
    refine st_skipJ rfl rfl rfl rfl ?_
    refine st_skipJ rfl rfl rfl rfl ?_
    refine st_skipJ rfl rfl rfl rfl ?_
    first
      | refine st_op (opS_of (opP_pickA rfl rfl rfl rfl)) rfl rfl rfl ?_
      | refine st_op (opS_of (opP_pickF rfl rfl rfl rfl)) rfl rfl rfl ?_
      | refine st_op (opS_of (opP_pickA rfl rfl (by assumption) rfl)) rfl rfl rfl ?_
      | refine st_op (opS_of (opP_pickF rfl rfl (by assumption) rfl)) rfl rfl rfl ?_
    refine st_op (opS_of (opP_assign rfl rfl)) rfl rfl rfl ?_
    refine aOps_nil ?_
    refine W_ret ?_
    refine retE_ret ?_
    refine retX_ro (.one (by decide) rfl) rfl (resOk_tmp Try.results82 ?_) rfl
    refine congrArg (some ∘ B) ?_
    cases p <;> cases p' <;> simp_all [Li.con]

end AM
end Go.Proofs.Ytfmfflfnkjoopaa
