/- Two clauses compared; a trivial clause; no conditions. -/
import Derived.Test.YtfmfflfnkjoopaaT5
import Derived.Test.YtfmfflfnkjoopaaT6
import Derived.Test.YtfmfflfnkjoopaaAm16
set_option linter.unusedVariables false
set_option linter.unusedSimpArgs false
namespace Go.Proofs.Ytfmfflfnkjoopaa
namespace AM
open Go
attribute [local irreducible] aOps awp W OpP OpS ACall RetOk XOp RetX ResOk XCall

section
variable {α : Type}
/-- Two lists compared, element by element. -/
def eqBy (q : α → α → Bool) : List α → List α → Bool
  | [], [] => true
  | x :: xs, y :: ys => q x y && eqBy q xs ys
  | _, _ => false
def eqTo (q : α → α → Bool) (xs ys : List α) (k : Nat) : Prop := ∀ (i : Nat) x y, i < k → xs[i]? = some x → ys[i]? = some y → q x y = true
theorem eqTo.next {q : α → α → Bool} {xs ys : List α} {k : Nat} {x y : α} (h : eqTo q xs ys k) (hx : xs[k]? = some x) (hy : ys[k]? = some y) (e : q x y = true) : eqTo q xs ys (k + 1) := by
  intro i a b hi ha hb
  rcases Nat.lt_succ_iff_lt_or_eq.1 hi with hi | rfl
  · exact h i a b hi ha hb
  · rw [hx] at ha; rw [hy] at hb; cases ha; cases hb; exact e
theorem eqBy_len {q : α → α → Bool} : ∀ {xs ys : List α}, xs.length ≠ ys.length → eqBy q xs ys = false
  | [], [], h => by simp at h
  | [], _ :: _, _ => rfl
  | _ :: _, [], _ => rfl
  | x :: xs, y :: ys, h => by simp only [eqBy, eqBy_len (q := q) (xs := xs) (ys := ys) (by simpa using h), Bool.and_false]
theorem eqBy_no {q : α → α → Bool} : ∀ {xs ys : List α} {k : Nat} {x y : α}, xs[k]? = some x → ys[k]? = some y → q x y = false → eqBy q xs ys = false
  | [], _, _, _, _, h, _, _ => by simp at h
  | _ :: _, [], _, _, _, _, h, _ => by simp at h
  | x :: xs, y :: ys, 0, a, b, h1, h2, h3 => by simp at h1 h2; subst h1; subst h2; simp [eqBy, h3]
  | x :: xs, y :: ys, k + 1, a, b, h1, h2, h3 => by simp only [eqBy, eqBy_no (q := q) (xs := xs) (ys := ys) (k := k) (by simpa using h1) (by simpa using h2) h3, Bool.and_false]
theorem eqBy_all {q : α → α → Bool} : ∀ {xs ys : List α}, xs.length = ys.length → eqTo q xs ys xs.length → eqBy q xs ys = true
  | [], [], _, _ => rfl
  | [], _ :: _, h, _ => by simp at h
  | _ :: _, [], h, _ => by simp at h
  | x :: xs, y :: ys, h, ha => by
    have h0 := ha 0 x y (by simp) rfl rfl
    have := eqBy_all (q := q) (xs := xs) (ys := ys) (by simpa using h) fun i a b hi h1 h2 => ha (i + 1) a b (by simpa using hi) (by simpa using h1) (by simpa using h2)
    simp [eqBy, h0, this]
end

set_option maxHeartbeats 1000000 in
theorem equalFunc_call (q : Li → Li → Bool) (v : AV) (xs ys : List Li) (I : List (Nat × Ob)) (hi : RoOk I) (hvi : ∀ q ∈ v.ids, 2000 ≤ q) (hb : xs.length ≤ 281474976710656)
    (hv : ∀ x ∈ xs, ∀ y ∈ ys, VCall Try.prog v [.dat x.da, .dat y.da] (B (q x y)) I I []) : XCall Try.prog 75 [L (Li.das xs), L (Li.das ys), v] (B (eqBy q xs ys)) I I [] := by
  have hdl := Li.das_len xs
  have hdl2 := Li.das_len ys
  refine xcall_W Try.func75 rfl _ Try.ntmps75 (Nat.le_of_ble_eq_true rfl) fun w0 S0 β0 => ?_
  refine W_seq ?_
  refine W_region ?_
  refine st_op (opS_of (opP_assign rfl rfl)) rfl rfl rfl ?_
  refine aOps_nil ?_
  refine W_seq ?_
  refine W_seq ?_
  refine W_region ?_
  refine st_op (opS_of (opP_move rfl rfl)) rfl rfl rfl ?_
  first
    | refine st_op (os_lenD tabOk rfl rfl rfl rfl rfl) rfl rfl rfl ?_
    | refine st_op (os_lenO tabOk rfl rfl rfl rfl rfl rfl) rfl rfl rfl ?_
    | refine st_op (os_lenS tabOk rfl rfl rfl rfl) rfl rfl rfl ?_
    | refine st_op (os_len0 tabOk rfl rfl rfl rfl rfl) rfl rfl rfl ?_
  refine st_op (opS_of (opP_move rfl rfl)) rfl rfl rfl ?_
  first
    | refine st_op (os_lenD tabOk rfl rfl rfl rfl rfl) rfl rfl rfl ?_
    | refine st_op (os_lenO tabOk rfl rfl rfl rfl rfl rfl) rfl rfl rfl ?_
    | refine st_op (os_lenS tabOk rfl rfl rfl rfl) rfl rfl rfl ?_
    | refine st_op (os_len0 tabOk rfl rfl rfl rfl rfl) rfl rfl rfl ?_
  first
    | refine st_op (opS_of (opP_neq rfl rfl rfl)) rfl rfl rfl ?_
    | refine st_op (opS_of (opP_strNe rfl rfl rfl)) rfl rfl rfl ?_
    | refine st_op (os_boolNe tabOk rfl rfl rfl rfl rfl) rfl rfl rfl ?_
  refine aOps_nil ?_
  refine W_cond rfl (fun hc14 => ?_) (fun hc14 => ?_)
  · refine W_seq ?_
    refine W_region ?_
    refine st_op (opS_of (opP_assign rfl rfl)) rfl rfl rfl ?_
    refine aOps_nil ?_
    refine W_ret ?_
    refine retE_ret ?_
    refine retX_ro hi rfl (resOk_tmp Try.results75 ?_) rfl
    refine congrArg (some ∘ B) ?_
    first | exact (eqBy_len (by have := hc14; simp at this; omega)).symm | exact (eqBy_no hx hy (by simpa using hc30)).symm | exact (eqBy_all hll (fun i x y h => hJ i x y (by have h9 := ofNat_ge hc18; omega))).symm
  · refine W_skip ?_
    refine W_seq ?_
    refine W_seq ?_
    refine W_region ?_
    refine st_op (opS_of (opP_move rfl rfl)) rfl rfl rfl ?_
    first
      | refine st_op (os_lenD tabOk rfl rfl rfl rfl rfl) rfl rfl rfl ?_
      | refine st_op (os_lenO tabOk rfl rfl rfl rfl rfl rfl) rfl rfl rfl ?_
      | refine st_op (os_lenS tabOk rfl rfl rfl rfl) rfl rfl rfl ?_
      | refine st_op (os_len0 tabOk rfl rfl rfl rfl rfl) rfl rfl rfl ?_
    refine st_op (opS_of (opP_move rfl rfl)) rfl rfl rfl ?_
    refine aOps_nil ?_
    refine W_block ?_
    have hll : xs.length = ys.length := by have := hc14; simp at this; omega
    refine W_countI (fun k => ⟨[(0, L (Li.das xs)), (1, L (Li.das ys)), (2, v), (15, L (Li.das xs)), (16, Z xs.length), (17, Z k)], I⟩) (eqTo q xs ys) xs.length 0 (by (refine Ent.ofOb hi rfl ?_; repeat (first | (refine entOk_tm rfl ?_) | exact entOk_nil | (refine entOk_Z rfl (by omega) ?_)))) (fun i x y h => by omega) (Nat.zero_le _) (fun k _ hk hJ => ?_)
    refine W_seq ?_
    refine W_region ?_
    refine st_op (opS_of (opP_lss rfl rfl rfl)) rfl rfl rfl ?_
    refine aOps_nil ?_
    refine W_seq ?_
    refine W_cond rfl (fun hc18 => ?_) (fun hc18 => ?_)
    · refine W_skip ?_
      refine W_seq ?_
      refine W_block ?_
      refine W_seq ?_
      have hlk := ofNat_lt hc18
      obtain ⟨x, hx⟩ : ∃ x, xs[k]? = some x := ⟨xs[k], List.getElem?_eq_getElem hlk⟩
      obtain ⟨y, hy⟩ : ∃ y, ys[k]? = some y := ⟨ys[k], List.getElem?_eq_getElem (by omega)⟩
      have hvv := hv x (List.mem_of_getElem? hx) y (List.mem_of_getElem? hy)
      have hx1 : (Li.das xs)[k]? = some x.da := by rw [Li.das_get, hx]; rfl
      have hy1 : (Li.das ys)[k]? = some y.da := by rw [Li.das_get, hy]; rfl
      have hx7 := Li.da_len x
      have hy7 := Li.da_len y
      obtain ⟨p, ⟨f, a, ks⟩, ⟨g, u, ls⟩⟩ := x
      obtain ⟨p', ⟨f', a', ks'⟩, ⟨g', u', ls'⟩⟩ := y
      refine W_region ?_
      refine st_op (opS_of (opP_move rfl rfl)) rfl rfl rfl ?_
      first
        | refine st_op (os_indexD tabOk rfl rfl rfl rfl rfl (by decide) rfl rfl (by assumption) (by first | rfl | assumption)) rfl rfl rfl ?_
        | refine st_op (os_indexO tabOk rfl rfl rfl rfl rfl rfl rfl rfl (by decide) rfl (by first | assumption | (simp; omega))) rfl rfl rfl ?_
      first
        | refine st_op (os_loadO1 tabOk rfl rfl rfl rfl rfl rfl) rfl rfl rfl ?_
        | refine st_op (os_loadE1 tabOk rfl rfl rfl rfl rfl) rfl rfl rfl ?_
        | refine st_op (os_loadES tabOk rfl rfl rfl rfl rfl) rfl rfl rfl ?_
        | refine st_op (os_loadOS tabOk rfl rfl rfl rfl rfl (Nat.le_of_ble_eq_true rfl)) rfl rfl rfl ?_
        | refine st_op (os_loadES tabOk rfl rfl rfl rfl (by assumption)) rfl rfl rfl ?_
        | refine st_op (os_loadLS tabOk rfl rfl rfl rfl rfl (by assumption) rfl (by first | rfl | assumption)) rfl rfl rfl ?_
        | refine st_op (os_loadL1 (q := 0) tabOk rfl rfl rfl rfl rfl (by assumption) rfl rfl) rfl rfl rfl ?_
      refine st_op (os_alloc z51 rfl rfl) rfl rfl (by first | rfl | (refine fresh_one (by decide) ?_ ?_ <;> repeat (first | exact notTm_nil | exact notOb_nil | exact notOb_I hi (by decide) | refine notTm_cons rfl ?_ | refine notTm_v hvi (by decide) ?_ | refine notOb_cons rfl ?_))) ?_
      refine st_op (opS_of (opP_assign rfl rfl)) rfl rfl rfl ?_
      refine st_store tabOk rfl rfl rfl rfl rfl rfl rfl rfl rfl (Nat.le_of_ble_eq_true rfl) rfl ?_
      refine aOps_nil ?_
      refine W_seq ?_
      refine W_region ?_
      refine st_op (opS_of (opP_move rfl rfl)) rfl rfl rfl ?_
      refine st_op (opS_of (opP_move rfl rfl)) rfl rfl rfl ?_
      first
        | refine st_op (os_indexD tabOk rfl rfl rfl rfl rfl (by decide) rfl rfl (by assumption) (by first | rfl | assumption)) rfl rfl rfl ?_
        | refine st_op (os_indexO tabOk rfl rfl rfl rfl rfl rfl rfl rfl (by decide) rfl (by first | assumption | (simp; omega))) rfl rfl rfl ?_
      first
        | refine st_op (os_loadO1 tabOk rfl rfl rfl rfl rfl rfl) rfl rfl rfl ?_
        | refine st_op (os_loadE1 tabOk rfl rfl rfl rfl rfl) rfl rfl rfl ?_
        | refine st_op (os_loadES tabOk rfl rfl rfl rfl rfl) rfl rfl rfl ?_
        | refine st_op (os_loadOS tabOk rfl rfl rfl rfl rfl (Nat.le_of_ble_eq_true rfl)) rfl rfl rfl ?_
        | refine st_op (os_loadES tabOk rfl rfl rfl rfl (by assumption)) rfl rfl rfl ?_
        | refine st_op (os_loadLS tabOk rfl rfl rfl rfl rfl (by assumption) rfl (by first | rfl | assumption)) rfl rfl rfl ?_
        | refine st_op (os_loadL1 (q := 0) tabOk rfl rfl rfl rfl rfl (by assumption) rfl rfl) rfl rfl rfl ?_
      refine st_op (os_alloc z51 rfl rfl) rfl rfl (by first | rfl | (refine fresh_one (by decide) ?_ ?_ <;> repeat (first | exact notTm_nil | exact notOb_nil | exact notOb_I hi (by decide) | refine notTm_cons rfl ?_ | refine notTm_v hvi (by decide) ?_ | refine notOb_cons rfl ?_))) ?_
      refine st_store tabOk rfl rfl rfl rfl rfl rfl rfl rfl rfl (Nat.le_of_ble_eq_true rfl) rfl ?_
      refine aOps_nil ?_
      refine W_seq ?_
      refine W_region ?_
      refine st_op (opS_of (opP_move rfl rfl)) rfl rfl rfl ?_
      first
        | refine st_op (os_loadO1 tabOk rfl rfl rfl rfl rfl rfl) rfl rfl rfl ?_
        | refine st_op (os_loadE1 tabOk rfl rfl rfl rfl rfl) rfl rfl rfl ?_
        | refine st_op (os_loadES tabOk rfl rfl rfl rfl rfl) rfl rfl rfl ?_
        | refine st_op (os_loadOS tabOk rfl rfl rfl rfl rfl (Nat.le_of_ble_eq_true rfl)) rfl rfl rfl ?_
        | refine st_op (os_loadES tabOk rfl rfl rfl rfl (by assumption)) rfl rfl rfl ?_
        | refine st_op (os_loadLS tabOk rfl rfl rfl rfl rfl (by assumption) rfl (by first | rfl | assumption)) rfl rfl rfl ?_
        | refine st_op (os_loadL1 (q := 0) tabOk rfl rfl rfl rfl rfl (by assumption) rfl rfl) rfl rfl rfl ?_
      first
        | refine st_op (os_loadO1 tabOk rfl rfl rfl rfl rfl rfl) rfl rfl rfl ?_
        | refine st_op (os_loadE1 tabOk rfl rfl rfl rfl rfl) rfl rfl rfl ?_
        | refine st_op (os_loadES tabOk rfl rfl rfl rfl rfl) rfl rfl rfl ?_
        | refine st_op (os_loadOS tabOk rfl rfl rfl rfl rfl (Nat.le_of_ble_eq_true rfl)) rfl rfl rfl ?_
        | refine st_op (os_loadES tabOk rfl rfl rfl rfl (by assumption)) rfl rfl rfl ?_
        | refine st_op (os_loadLS tabOk rfl rfl rfl rfl rfl (by assumption) rfl (by first | rfl | assumption)) rfl rfl rfl ?_
        | refine st_op (os_loadL1 (q := 0) tabOk rfl rfl rfl rfl rfl (by assumption) rfl rfl) rfl rfl rfl ?_
      refine st_x (xop_ro hvv rfl rfl rfl rfl (fun p hp => roI hi rfl hp)) rfl ?_
      refine st_op (opS_of (opP_not rfl rfl)) rfl rfl rfl ?_
      refine aOps_nil ?_
      refine W_cond rfl (fun hc30 => ?_) (fun hc30 => ?_)
      · refine W_seq ?_
        refine W_region ?_
        refine st_op (opS_of (opP_assign rfl rfl)) rfl rfl rfl ?_
        refine aOps_nil ?_
        refine W_ret ?_
        refine blockE_ret ?_
        refine blockE_ret ?_
        refine retE_ret ?_
        refine retX_ro hi rfl (resOk_tmp Try.results75 ?_) rfl
        refine congrArg (some ∘ B) ?_
        first | exact (eqBy_len (by have := hc14; simp at this; omega)).symm | exact (eqBy_no hx hy (by simpa using hc30)).symm | exact (eqBy_all hll (fun i x y h => hJ i x y (by have h9 := ofNat_ge hc18; omega))).symm
      · refine W_skip ?_
        refine W_region ?_
        first
          | refine st_op (opS_of (opP_add64 rfl rfl rfl (by omega))) rfl rfl rfl ?_
          | refine st_op (opS_of (opP_strAdd rfl rfl rfl (by assumption))) rfl rfl rfl ?_
          | refine st_op (opS_of (opP_add rfl rfl rfl)) rfl rfl rfl ?_
        refine st_op (opS_of (opP_move rfl rfl)) rfl rfl rfl ?_
        refine aOps_nil ?_
        refine ⟨k + 1, by (refine Ent.ofOb hi rfl ?_; repeat (first | (refine entOk_tm rfl ?_) | exact entOk_nil | (refine entOk_Z rfl (by omega) ?_))), hJ.next hx hy (by simpa using hc30), by omega, by omega⟩
    · refine W_exit ?_
      refine blockE_hit ?_
      refine W_seq ?_
      refine W_region ?_
      refine st_op (opS_of (opP_assign rfl rfl)) rfl rfl rfl ?_
      refine aOps_nil ?_
      refine W_ret ?_
      refine retE_ret ?_
      refine retX_ro hi rfl (resOk_tmp Try.results75 ?_) rfl
      refine congrArg (some ∘ B) ?_
      first | exact (eqBy_len (by have := hc14; simp at this; omega)).symm | exact (eqBy_no hx hy (by simpa using hc30)).symm | exact (eqBy_all hll (fun i x y h => hJ i x y (by have h9 := ofNat_ge hc18; omega))).symm

theorem implLitSame_call (a b : Li) : ACall Try.prog 76 [.dat a.da, .dat b.da] (B (decide (Li.cmp a b = 0))) [] := by
  have hab := compareLits_call a b
  obtain ⟨p, ⟨f, v, ks⟩, ⟨g, u, ls⟩⟩ := a
  obtain ⟨p', ⟨f', v', ks'⟩, ⟨g', u', ls'⟩⟩ := b
  refine acall_W Try.func76 rfl _ Try.ntmps76 (Nat.le_of_ble_eq_true rfl) fun w0 S0 => ?_
  refine W_seq ?_
  refine W_region ?_
  refine st_op (os_box rfl rfl rfl rfl rfl) rfl rfl rfl ?_
  refine st_op (os_box rfl rfl rfl rfl rfl) rfl rfl rfl ?_
  refine st_op (opS_of (opP_assign rfl rfl)) rfl rfl rfl ?_
  refine aOps_nil ?_
  refine W_seq ?_
  refine W_region ?_
  first
    | refine st_op (os_loadO1 tabOk rfl rfl rfl rfl rfl rfl) rfl rfl rfl ?_
    | refine st_op (os_loadE1 tabOk rfl rfl rfl rfl rfl) rfl rfl rfl ?_
    | refine st_op (os_loadES tabOk rfl rfl rfl rfl rfl) rfl rfl rfl ?_
    | refine st_op (os_loadOS tabOk rfl rfl rfl rfl rfl (Nat.le_of_ble_eq_true rfl)) rfl rfl rfl ?_
    | refine st_op (os_loadES tabOk rfl rfl rfl rfl (by assumption)) rfl rfl rfl ?_
    | refine st_op (os_loadLS tabOk rfl rfl rfl rfl rfl (by assumption) rfl (by first | rfl | assumption)) rfl rfl rfl ?_
    | refine st_op (os_loadL1 (q := 0) tabOk rfl rfl rfl rfl rfl (by assumption) rfl rfl) rfl rfl rfl ?_
  first
    | refine st_op (os_loadO1 tabOk rfl rfl rfl rfl rfl rfl) rfl rfl rfl ?_
    | refine st_op (os_loadE1 tabOk rfl rfl rfl rfl rfl) rfl rfl rfl ?_
    | refine st_op (os_loadES tabOk rfl rfl rfl rfl rfl) rfl rfl rfl ?_
    | refine st_op (os_loadOS tabOk rfl rfl rfl rfl rfl (Nat.le_of_ble_eq_true rfl)) rfl rfl rfl ?_
    | refine st_op (os_loadES tabOk rfl rfl rfl rfl (by assumption)) rfl rfl rfl ?_
    | refine st_op (os_loadLS tabOk rfl rfl rfl rfl rfl (by assumption) rfl (by first | rfl | assumption)) rfl rfl rfl ?_
    | refine st_op (os_loadL1 (q := 0) tabOk rfl rfl rfl rfl rfl (by assumption) rfl rfl) rfl rfl rfl ?_
  refine st_op (os_call (ag := [(Operand.tmp 5), (Operand.tmp 6)]) (hab) Try.func66 rfl rfl rfl rfl) rfl rfl rfl ?_
  first
    | refine st_op (opS_of (opP_eql rfl rfl rfl)) rfl rfl rfl ?_
    | refine st_op (opS_of (opP_strEq rfl rfl rfl)) rfl rfl rfl ?_
    | refine st_op (os_boolEq tabOk rfl rfl rfl rfl rfl) rfl rfl rfl ?_
  refine st_op (opS_of (opP_assign rfl rfl)) rfl rfl rfl ?_
  refine aOps_nil ?_
  refine W_ret ?_
  refine retE_ret ?_
  exact retOk_tmpE Try.results76 rfl rfl rfl

theorem specLitSame_call (a b : Li) : ACall Try.prog 73 [.dat a.da, .dat b.da] (B (decide (Li.cmp a b = 0))) [] := by
  obtain ⟨p, ⟨f, v, ks⟩, ⟨g, u, ls⟩⟩ := a
  obtain ⟨p', ⟨f', v', ks'⟩, ⟨g', u', ls'⟩⟩ := b
  refine acall_W Try.func73 rfl _ Try.ntmps73 (Nat.le_of_ble_eq_true rfl) fun w0 S0 => ?_
  refine W_seq ?_
  refine W_region ?_
  refine st_op (os_box rfl rfl rfl rfl rfl) rfl rfl rfl ?_
  refine st_op (os_box rfl rfl rfl rfl rfl) rfl rfl rfl ?_
  refine st_op (opS_of (opP_assign rfl rfl)) rfl rfl rfl ?_
  refine aOps_nil ?_
  refine W_seq ?_
  refine W_region ?_
  first
    | refine st_op (os_fieldAddrO tabOk rfl rfl rfl (by decide) rfl) rfl rfl rfl ?_
    | refine st_op (os_fieldAddrE tabOk rfl rfl rfl (by decide) rfl) rfl rfl rfl ?_
  first
    | refine st_op (os_loadO1 tabOk rfl rfl rfl rfl rfl rfl) rfl rfl rfl ?_
    | refine st_op (os_loadE1 tabOk rfl rfl rfl rfl rfl) rfl rfl rfl ?_
    | refine st_op (os_loadES tabOk rfl rfl rfl rfl rfl) rfl rfl rfl ?_
    | refine st_op (os_loadOS tabOk rfl rfl rfl rfl rfl (Nat.le_of_ble_eq_true rfl)) rfl rfl rfl ?_
    | refine st_op (os_loadES tabOk rfl rfl rfl rfl (by assumption)) rfl rfl rfl ?_
    | refine st_op (os_loadLS tabOk rfl rfl rfl rfl rfl (by assumption) rfl (by first | rfl | assumption)) rfl rfl rfl ?_
    | refine st_op (os_loadL1 (q := 0) tabOk rfl rfl rfl rfl rfl (by assumption) rfl rfl) rfl rfl rfl ?_
  first
    | refine st_op (os_fieldAddrO tabOk rfl rfl rfl (by decide) rfl) rfl rfl rfl ?_
    | refine st_op (os_fieldAddrE tabOk rfl rfl rfl (by decide) rfl) rfl rfl rfl ?_
  first
    | refine st_op (os_loadO1 tabOk rfl rfl rfl rfl rfl rfl) rfl rfl rfl ?_
    | refine st_op (os_loadE1 tabOk rfl rfl rfl rfl rfl) rfl rfl rfl ?_
    | refine st_op (os_loadES tabOk rfl rfl rfl rfl rfl) rfl rfl rfl ?_
    | refine st_op (os_loadOS tabOk rfl rfl rfl rfl rfl (Nat.le_of_ble_eq_true rfl)) rfl rfl rfl ?_
    | refine st_op (os_loadES tabOk rfl rfl rfl rfl (by assumption)) rfl rfl rfl ?_
    | refine st_op (os_loadLS tabOk rfl rfl rfl rfl rfl (by assumption) rfl (by first | rfl | assumption)) rfl rfl rfl ?_
    | refine st_op (os_loadL1 (q := 0) tabOk rfl rfl rfl rfl rfl (by assumption) rfl rfl) rfl rfl rfl ?_
  first
    | refine st_op (opS_of (opP_eql rfl rfl rfl)) rfl rfl rfl ?_
    | refine st_op (opS_of (opP_strEq rfl rfl rfl)) rfl rfl rfl ?_
    | refine st_op (os_boolEq tabOk rfl rfl rfl rfl rfl) rfl rfl rfl ?_
  refine st_op (opS_of (opP_move rfl rfl)) rfl rfl rfl ?_
  refine st_gsplit rfl rfl rfl (fun hb10 => ?_) (fun hb10 => ?_)
  · first
      | refine st_run (os_fieldAddrO tabOk rfl rfl rfl (by decide) rfl) rfl rfl rfl rfl rfl ?_
      | refine st_run (os_fieldAddrE tabOk rfl rfl rfl (by decide) rfl) rfl rfl rfl rfl rfl ?_
    first
      | refine st_run (os_loadO1 tabOk rfl rfl rfl rfl rfl rfl) rfl rfl rfl rfl rfl ?_
      | refine st_run (os_loadE1 tabOk rfl rfl rfl rfl rfl) rfl rfl rfl rfl rfl ?_
      | refine st_run (os_loadES tabOk rfl rfl rfl rfl rfl) rfl rfl rfl rfl rfl ?_
      | refine st_run (os_loadOS tabOk rfl rfl rfl rfl rfl (Nat.le_of_ble_eq_true rfl)) rfl rfl rfl rfl rfl ?_
      | refine st_run (os_loadES tabOk rfl rfl rfl rfl (by assumption)) rfl rfl rfl rfl rfl ?_
      | refine st_run (os_loadLS tabOk rfl rfl rfl rfl rfl (by assumption) rfl (by first | rfl | assumption)) rfl rfl rfl rfl rfl ?_
      | refine st_run (os_loadL1 (q := 0) tabOk rfl rfl rfl rfl rfl (by assumption) rfl rfl) rfl rfl rfl rfl rfl ?_
    first
      | refine st_run (os_fieldAddrO tabOk rfl rfl rfl (by decide) rfl) rfl rfl rfl rfl rfl ?_
      | refine st_run (os_fieldAddrE tabOk rfl rfl rfl (by decide) rfl) rfl rfl rfl rfl rfl ?_
    first
      | refine st_run (os_loadO1 tabOk rfl rfl rfl rfl rfl rfl) rfl rfl rfl rfl rfl ?_
      | refine st_run (os_loadE1 tabOk rfl rfl rfl rfl rfl) rfl rfl rfl rfl rfl ?_
      | refine st_run (os_loadES tabOk rfl rfl rfl rfl rfl) rfl rfl rfl rfl rfl ?_
      | refine st_run (os_loadOS tabOk rfl rfl rfl rfl rfl (Nat.le_of_ble_eq_true rfl)) rfl rfl rfl rfl rfl ?_
      | refine st_run (os_loadES tabOk rfl rfl rfl rfl (by assumption)) rfl rfl rfl rfl rfl ?_
      | refine st_run (os_loadLS tabOk rfl rfl rfl rfl rfl (by assumption) rfl (by first | rfl | assumption)) rfl rfl rfl rfl rfl ?_
      | refine st_run (os_loadL1 (q := 0) tabOk rfl rfl rfl rfl rfl (by assumption) rfl rfl) rfl rfl rfl rfl rfl ?_
    first
      | refine st_run (os_call (ag := [(Operand.tmp 12), (Operand.tmp 14)]) (termSame_call (.mk f v ks) (.mk f' v' ks')) Try.func64 rfl rfl rfl rfl) rfl rfl rfl rfl rfl ?_
      | refine st_run (os_call (ag := [(Operand.tmp 12), (Operand.tmp 14)]) (termSame_call (.mk g u ls) (.mk g' u' ls')) Try.func64 rfl rfl rfl rfl) rfl rfl rfl rfl rfl ?_
    first
      | refine st_op (opS_of (opP_pickA rfl rfl rfl rfl)) rfl rfl rfl ?_
      | refine st_op (opS_of (opP_pickF rfl rfl rfl rfl)) rfl rfl rfl ?_
      | refine st_op (opS_of (opP_pickA rfl rfl (by assumption) rfl)) rfl rfl rfl ?_
      | refine st_op (opS_of (opP_pickF rfl rfl (by assumption) rfl)) rfl rfl rfl ?_
    refine st_op (opS_of (opP_move rfl rfl)) rfl rfl rfl ?_
    refine st_gsplit rfl rfl rfl (fun hb17 => ?_) (fun hb17 => ?_)
    · first
        | refine st_run (os_fieldAddrO tabOk rfl rfl rfl (by decide) rfl) rfl rfl rfl rfl rfl ?_
        | refine st_run (os_fieldAddrE tabOk rfl rfl rfl (by decide) rfl) rfl rfl rfl rfl rfl ?_
      first
        | refine st_run (os_loadO1 tabOk rfl rfl rfl rfl rfl rfl) rfl rfl rfl rfl rfl ?_
        | refine st_run (os_loadE1 tabOk rfl rfl rfl rfl rfl) rfl rfl rfl rfl rfl ?_
        | refine st_run (os_loadES tabOk rfl rfl rfl rfl rfl) rfl rfl rfl rfl rfl ?_
        | refine st_run (os_loadOS tabOk rfl rfl rfl rfl rfl (Nat.le_of_ble_eq_true rfl)) rfl rfl rfl rfl rfl ?_
        | refine st_run (os_loadES tabOk rfl rfl rfl rfl (by assumption)) rfl rfl rfl rfl rfl ?_
        | refine st_run (os_loadLS tabOk rfl rfl rfl rfl rfl (by assumption) rfl (by first | rfl | assumption)) rfl rfl rfl rfl rfl ?_
        | refine st_run (os_loadL1 (q := 0) tabOk rfl rfl rfl rfl rfl (by assumption) rfl rfl) rfl rfl rfl rfl rfl ?_
      first
        | refine st_run (os_fieldAddrO tabOk rfl rfl rfl (by decide) rfl) rfl rfl rfl rfl rfl ?_
        | refine st_run (os_fieldAddrE tabOk rfl rfl rfl (by decide) rfl) rfl rfl rfl rfl rfl ?_
      first
        | refine st_run (os_loadO1 tabOk rfl rfl rfl rfl rfl rfl) rfl rfl rfl rfl rfl ?_
        | refine st_run (os_loadE1 tabOk rfl rfl rfl rfl rfl) rfl rfl rfl rfl rfl ?_
        | refine st_run (os_loadES tabOk rfl rfl rfl rfl rfl) rfl rfl rfl rfl rfl ?_
        | refine st_run (os_loadOS tabOk rfl rfl rfl rfl rfl (Nat.le_of_ble_eq_true rfl)) rfl rfl rfl rfl rfl ?_
        | refine st_run (os_loadES tabOk rfl rfl rfl rfl (by assumption)) rfl rfl rfl rfl rfl ?_
        | refine st_run (os_loadLS tabOk rfl rfl rfl rfl rfl (by assumption) rfl (by first | rfl | assumption)) rfl rfl rfl rfl rfl ?_
        | refine st_run (os_loadL1 (q := 0) tabOk rfl rfl rfl rfl rfl (by assumption) rfl rfl) rfl rfl rfl rfl rfl ?_
      first
        | refine st_run (os_call (ag := [(Operand.tmp 19), (Operand.tmp 21)]) (termSame_call (.mk f v ks) (.mk f' v' ks')) Try.func64 rfl rfl rfl rfl) rfl rfl rfl rfl rfl ?_
        | refine st_run (os_call (ag := [(Operand.tmp 19), (Operand.tmp 21)]) (termSame_call (.mk g u ls) (.mk g' u' ls')) Try.func64 rfl rfl rfl rfl) rfl rfl rfl rfl rfl ?_
      first
        | refine st_op (opS_of (opP_pickA rfl rfl rfl rfl)) rfl rfl rfl ?_
        | refine st_op (opS_of (opP_pickF rfl rfl rfl rfl)) rfl rfl rfl ?_
        | refine st_op (opS_of (opP_pickA rfl rfl (by assumption) rfl)) rfl rfl rfl ?_
        | refine st_op (opS_of (opP_pickF rfl rfl (by assumption) rfl)) rfl rfl rfl ?_
      refine st_op (opS_of (opP_assign rfl rfl)) rfl rfl rfl ?_
      refine aOps_nil ?_
      refine W_ret ?_
      refine retE_ret ?_
      refine retOk_tmpE Try.results73 rfl (congrArg B ?_) rfl
      cases p <;> cases p' <;> simp_all [Li.cmp, Tm.same_cmp]
    · refine st_skipJ rfl rfl rfl rfl ?_
      refine st_skipJ rfl rfl rfl rfl ?_
      refine st_skipJ rfl rfl rfl rfl ?_
      refine st_skipJ rfl rfl rfl rfl ?_
      refine st_skipJ rfl rfl rfl rfl ?_
      first
        | refine st_op (opS_of (opP_pickA rfl rfl rfl rfl)) rfl rfl rfl ?_
        | refine st_op (opS_of (opP_pickF rfl rfl rfl rfl)) rfl rfl rfl ?_
        | refine st_op (opS_of (opP_pickA rfl rfl (by assumption) rfl)) rfl rfl rfl ?_
        | refine st_op (opS_of (opP_pickF rfl rfl (by assumption) rfl)) rfl rfl rfl ?_
      refine st_op (opS_of (opP_assign rfl rfl)) rfl rfl rfl ?_
      refine aOps_nil ?_
      refine W_ret ?_
      refine retE_ret ?_
      refine retOk_tmpE Try.results73 rfl (congrArg B ?_) rfl
      cases p <;> cases p' <;> simp_all [Li.cmp, Tm.same_cmp]
  · refine st_skipJ rfl rfl rfl rfl ?_
    refine st_skipJ rfl rfl rfl rfl ?_
    refine st_skipJ rfl rfl rfl rfl ?_
    refine st_skipJ rfl rfl rfl rfl ?_
    refine st_skipJ rfl rfl rfl rfl ?_
    first
      | refine st_op (opS_of (opP_pickA rfl rfl rfl rfl)) rfl rfl rfl ?_
      | refine st_op (opS_of (opP_pickF rfl rfl rfl rfl)) rfl rfl rfl ?_
      | refine st_op (opS_of (opP_pickA rfl rfl (by assumption) rfl)) rfl rfl rfl ?_
      | refine st_op (opS_of (opP_pickF rfl rfl (by assumption) rfl)) rfl rfl rfl ?_
    refine st_op (opS_of (opP_move rfl rfl)) rfl rfl rfl ?_
    refine st_skipJ rfl rfl rfl rfl ?_
    refine st_skipJ rfl rfl rfl rfl ?_
    refine st_skipJ rfl rfl rfl rfl ?_
    refine st_skipJ rfl rfl rfl rfl ?_
    refine st_skipJ rfl rfl rfl rfl ?_
    first
      | refine st_op (opS_of (opP_pickA rfl rfl rfl rfl)) rfl rfl rfl ?_
      | refine st_op (opS_of (opP_pickF rfl rfl rfl rfl)) rfl rfl rfl ?_
      | refine st_op (opS_of (opP_pickA rfl rfl (by assumption) rfl)) rfl rfl rfl ?_
      | refine st_op (opS_of (opP_pickF rfl rfl (by assumption) rfl)) rfl rfl rfl ?_
    refine st_op (opS_of (opP_assign rfl rfl)) rfl rfl rfl ?_
    refine aOps_nil ?_
    refine W_ret ?_
    refine retE_ret ?_
    refine retOk_tmpE Try.results73 rfl (congrArg B ?_) rfl
    cases p <;> cases p' <;> simp_all [Li.cmp, Tm.same_cmp]

def Cl.same (a b : Cl) : Bool := eqBy (fun x y => decide (Li.cmp x y = 0)) a.ls b.ls
theorem implClauseSame_call (a b : Cl) : ACall Try.prog 40 [.dat a.da, .dat b.da] (B (Cl.same a b)) [] := by
  refine acall_fit fun hfit => ?_
  have hlen : a.ls.length ≤ 281474976710656 := by have := hfit.dat.len; rwa [Li.das_len] at this
  have he := (equalFunc_call (fun x y => decide (Li.cmp x y = 0)) (.one (.d (.fn 76))) a.ls b.ls [] .nil (by simp [AV.ids, At.ids]) hlen fun x _ y _ => vcall_fn (.of (implLitSame_call x y)) Try.func76 rfl rfl).plain
  obtain ⟨l⟩ := a
  obtain ⟨m⟩ := b
  refine acall_W Try.func40 rfl _ Try.ntmps40 (Nat.le_of_ble_eq_true rfl) fun w0 S0 => ?_
  refine W_seq ?_
  refine W_region ?_
  refine st_op (os_box rfl rfl rfl rfl rfl) rfl rfl rfl ?_
  refine st_op (os_box rfl rfl rfl rfl rfl) rfl rfl rfl ?_
  refine st_op (opS_of (opP_assign rfl rfl)) rfl rfl rfl ?_
  refine aOps_nil ?_
  refine W_seq ?_
  refine W_region ?_
  first
    | refine st_op (os_fieldAddrO tabOk rfl rfl rfl (by decide) rfl) rfl rfl rfl ?_
    | refine st_op (os_fieldAddrE tabOk rfl rfl rfl (by decide) rfl) rfl rfl rfl ?_
  first
    | refine st_op (os_loadO1 tabOk rfl rfl rfl rfl rfl rfl) rfl rfl rfl ?_
    | refine st_op (os_loadE1 tabOk rfl rfl rfl rfl rfl) rfl rfl rfl ?_
    | refine st_op (os_loadES tabOk rfl rfl rfl rfl rfl) rfl rfl rfl ?_
    | refine st_op (os_loadOS tabOk rfl rfl rfl rfl rfl (Nat.le_of_ble_eq_true rfl)) rfl rfl rfl ?_
    | refine st_op (os_loadES tabOk rfl rfl rfl rfl (by assumption)) rfl rfl rfl ?_
    | refine st_op (os_loadLS tabOk rfl rfl rfl rfl rfl (by assumption) rfl (by first | rfl | assumption)) rfl rfl rfl ?_
    | refine st_op (os_loadL1 (q := 0) tabOk rfl rfl rfl rfl rfl (by assumption) rfl rfl) rfl rfl rfl ?_
  first
    | refine st_op (os_fieldAddrO tabOk rfl rfl rfl (by decide) rfl) rfl rfl rfl ?_
    | refine st_op (os_fieldAddrE tabOk rfl rfl rfl (by decide) rfl) rfl rfl rfl ?_
  first
    | refine st_op (os_loadO1 tabOk rfl rfl rfl rfl rfl rfl) rfl rfl rfl ?_
    | refine st_op (os_loadE1 tabOk rfl rfl rfl rfl rfl) rfl rfl rfl ?_
    | refine st_op (os_loadES tabOk rfl rfl rfl rfl rfl) rfl rfl rfl ?_
    | refine st_op (os_loadOS tabOk rfl rfl rfl rfl rfl (Nat.le_of_ble_eq_true rfl)) rfl rfl rfl ?_
    | refine st_op (os_loadES tabOk rfl rfl rfl rfl (by assumption)) rfl rfl rfl ?_
    | refine st_op (os_loadLS tabOk rfl rfl rfl rfl rfl (by assumption) rfl (by first | rfl | assumption)) rfl rfl rfl ?_
    | refine st_op (os_loadL1 (q := 0) tabOk rfl rfl rfl rfl rfl (by assumption) rfl rfl) rfl rfl rfl ?_
  refine st_op (os_call (ag := [(Operand.tmp 6), (Operand.tmp 8), (Operand.func 76)]) (he) Try.func75 rfl rfl (by kernel_rfl) rfl) rfl rfl rfl ?_
  refine st_op (opS_of (opP_assign rfl rfl)) rfl rfl rfl ?_
  refine aOps_nil ?_
  refine W_ret ?_
  refine retE_ret ?_
  exact retOk_tmpE Try.results40 rfl rfl rfl

set_option maxHeartbeats 1000000 in
theorem specClauseSame_call (a b : Cl) : ACall Try.prog 38 [.dat a.da, .dat b.da] (B (Cl.same a b)) [] := by
  refine acall_fit fun hfit => ?_
  have hlen : a.ls.length ≤ 281474976710656 := by have := hfit.dat.len; rwa [Li.das_len] at this
  obtain ⟨xs⟩ := a
  obtain ⟨ys⟩ := b
  have hdl := Li.das_len xs
  have hdl2 := Li.das_len ys
  have hlen' : xs.length ≤ 281474976710656 := hlen
  refine acall_W Try.func38 rfl _ Try.ntmps38 (Nat.le_of_ble_eq_true rfl) fun w0 S0 => ?_
  refine W_seq ?_
  refine W_region ?_
  refine st_op (os_box rfl rfl rfl rfl rfl) rfl rfl rfl ?_
  refine st_op (os_box rfl rfl rfl rfl rfl) rfl rfl rfl ?_
  refine st_op (opS_of (opP_assign rfl rfl)) rfl rfl rfl ?_
  refine aOps_nil ?_
  refine W_seq ?_
  refine W_seq ?_
  refine W_region ?_
  first
    | refine st_op (os_fieldAddrO tabOk rfl rfl rfl (by decide) rfl) rfl rfl rfl ?_
    | refine st_op (os_fieldAddrE tabOk rfl rfl rfl (by decide) rfl) rfl rfl rfl ?_
  first
    | refine st_op (os_loadO1 tabOk rfl rfl rfl rfl rfl rfl) rfl rfl rfl ?_
    | refine st_op (os_loadE1 tabOk rfl rfl rfl rfl rfl) rfl rfl rfl ?_
    | refine st_op (os_loadES tabOk rfl rfl rfl rfl rfl) rfl rfl rfl ?_
    | refine st_op (os_loadOS tabOk rfl rfl rfl rfl rfl (Nat.le_of_ble_eq_true rfl)) rfl rfl rfl ?_
    | refine st_op (os_loadES tabOk rfl rfl rfl rfl (by assumption)) rfl rfl rfl ?_
    | refine st_op (os_loadLS tabOk rfl rfl rfl rfl rfl (by assumption) rfl (by first | rfl | assumption)) rfl rfl rfl ?_
    | refine st_op (os_loadL1 (q := 0) tabOk rfl rfl rfl rfl rfl (by assumption) rfl rfl) rfl rfl rfl ?_
  first
    | refine st_op (os_lenD tabOk rfl rfl rfl rfl rfl) rfl rfl rfl ?_
    | refine st_op (os_lenO tabOk rfl rfl rfl rfl rfl rfl) rfl rfl rfl ?_
    | refine st_op (os_lenS tabOk rfl rfl rfl rfl) rfl rfl rfl ?_
    | refine st_op (os_len0 tabOk rfl rfl rfl rfl rfl) rfl rfl rfl ?_
  first
    | refine st_op (os_fieldAddrO tabOk rfl rfl rfl (by decide) rfl) rfl rfl rfl ?_
    | refine st_op (os_fieldAddrE tabOk rfl rfl rfl (by decide) rfl) rfl rfl rfl ?_
  first
    | refine st_op (os_loadO1 tabOk rfl rfl rfl rfl rfl rfl) rfl rfl rfl ?_
    | refine st_op (os_loadE1 tabOk rfl rfl rfl rfl rfl) rfl rfl rfl ?_
    | refine st_op (os_loadES tabOk rfl rfl rfl rfl rfl) rfl rfl rfl ?_
    | refine st_op (os_loadOS tabOk rfl rfl rfl rfl rfl (Nat.le_of_ble_eq_true rfl)) rfl rfl rfl ?_
    | refine st_op (os_loadES tabOk rfl rfl rfl rfl (by assumption)) rfl rfl rfl ?_
    | refine st_op (os_loadLS tabOk rfl rfl rfl rfl rfl (by assumption) rfl (by first | rfl | assumption)) rfl rfl rfl ?_
    | refine st_op (os_loadL1 (q := 0) tabOk rfl rfl rfl rfl rfl (by assumption) rfl rfl) rfl rfl rfl ?_
  first
    | refine st_op (os_lenD tabOk rfl rfl rfl rfl rfl) rfl rfl rfl ?_
    | refine st_op (os_lenO tabOk rfl rfl rfl rfl rfl rfl) rfl rfl rfl ?_
    | refine st_op (os_lenS tabOk rfl rfl rfl rfl) rfl rfl rfl ?_
    | refine st_op (os_len0 tabOk rfl rfl rfl rfl rfl) rfl rfl rfl ?_
  first
    | refine st_op (opS_of (opP_neq rfl rfl rfl)) rfl rfl rfl ?_
    | refine st_op (opS_of (opP_strNe rfl rfl rfl)) rfl rfl rfl ?_
    | refine st_op (os_boolNe tabOk rfl rfl rfl rfl rfl) rfl rfl rfl ?_
  refine aOps_nil ?_
  refine W_cond rfl (fun hc12 => ?_) (fun hc12 => ?_)
  · refine W_seq ?_
    refine W_region ?_
    refine st_op (opS_of (opP_assign rfl rfl)) rfl rfl rfl ?_
    refine aOps_nil ?_
    refine W_ret ?_
    refine retE_ret ?_
    refine retOk_tmpE Try.results38 rfl (congrArg B ?_) rfl
    show _ = eqBy (fun x y => decide (Li.cmp x y = 0)) xs ys
    first | exact (eqBy_len (by have h12 := hc12; simp [hdl, hdl2] at h12; omega)).symm | exact (eqBy_no hx hy (by simpa using hc31)).symm | exact (eqBy_all hll (fun i x y h => hJ i x y (by have h9 := ofNat_ge hc17; omega))).symm
  · refine W_skip ?_
    refine W_seq ?_
    refine W_seq ?_
    refine W_region ?_
    refine st_op (opS_of (opP_assign rfl rfl)) rfl rfl rfl ?_
    refine aOps_nil ?_
    refine W_block ?_
    have hll : xs.length = ys.length := by have := hc12; simp at this; omega
    refine W_countI (fun k => ⟨[(2, .one (.op 2 0)), (3, .one (.op 3 0)), (5, Z k)], [(2, .var [.d (.sl (Li.das xs))]), (3, .var [.d (.sl (Li.das ys))])]⟩) (eqTo (fun x y => decide (Li.cmp x y = 0)) xs ys) xs.length 0 (by (refine Ent.of ?_; repeat (first | (refine entOk_tm rfl ?_) | (refine entOk_ob rfl ?_) | exact entOk_nil | (refine entOk_Z rfl (by omega) ?_) | (refine entOk_Z rfl (by simp <;> omega) ?_) | (refine entOk_lst rfl (by assumption) ?_) | (refine entOk_lst rfl (fill_setE rfl (by assumption) (by assumption) rfl) ?_) | (refine entOk_lst rfl (by simp_all; done) ?_) | (refine entOk_var rfl (by simp_all; done) ?_)))) (fun i x y h => by omega) (Nat.zero_le _) (fun k _ hk hJ => ?_)
    refine W_seq ?_
    refine W_seq ?_
    refine W_region ?_
    refine st_op (opS_of (opP_move rfl rfl)) rfl rfl rfl ?_
    first
      | refine st_op (os_fieldAddrO tabOk rfl rfl rfl (by decide) rfl) rfl rfl rfl ?_
      | refine st_op (os_fieldAddrE tabOk rfl rfl rfl (by decide) rfl) rfl rfl rfl ?_
    first
      | refine st_op (os_loadO1 tabOk rfl rfl rfl rfl rfl rfl) rfl rfl rfl ?_
      | refine st_op (os_loadE1 tabOk rfl rfl rfl rfl rfl) rfl rfl rfl ?_
      | refine st_op (os_loadES tabOk rfl rfl rfl rfl rfl) rfl rfl rfl ?_
      | refine st_op (os_loadOS tabOk rfl rfl rfl rfl rfl (Nat.le_of_ble_eq_true rfl)) rfl rfl rfl ?_
      | refine st_op (os_loadES tabOk rfl rfl rfl rfl (by assumption)) rfl rfl rfl ?_
      | refine st_op (os_loadLS tabOk rfl rfl rfl rfl rfl (by assumption) rfl (by first | rfl | assumption)) rfl rfl rfl ?_
      | refine st_op (os_loadL1 (q := 0) tabOk rfl rfl rfl rfl rfl (by assumption) rfl rfl) rfl rfl rfl ?_
    first
      | refine st_op (os_lenD tabOk rfl rfl rfl rfl rfl) rfl rfl rfl ?_
      | refine st_op (os_lenO tabOk rfl rfl rfl rfl rfl rfl) rfl rfl rfl ?_
      | refine st_op (os_lenS tabOk rfl rfl rfl rfl) rfl rfl rfl ?_
      | refine st_op (os_len0 tabOk rfl rfl rfl rfl rfl) rfl rfl rfl ?_
    refine st_op (opS_of (opP_lss rfl rfl rfl)) rfl rfl rfl ?_
    refine aOps_nil ?_
    refine W_cond rfl (fun hc17 => ?_) (fun hc17 => ?_)
    · refine W_skip ?_
      refine W_seq ?_
      refine W_block ?_
      refine W_seq ?_
      have hlk := ofNat_lt hc17
      rw [Li.das_len] at hlk
      obtain ⟨x, hx⟩ : ∃ x, xs[k]? = some x := ⟨xs[k], List.getElem?_eq_getElem hlk⟩
      obtain ⟨y, hy⟩ : ∃ y, ys[k]? = some y := ⟨ys[k], List.getElem?_eq_getElem (by omega)⟩
      have hx1 : (Li.das xs)[k]? = some x.da := by rw [Li.das_get, hx]; rfl
      have hy1 : (Li.das ys)[k]? = some y.da := by rw [Li.das_get, hy]; rfl
      have hx7 := Li.da_len x
      have hy7 := Li.da_len y
      refine W_drawK mixed (by kernel_rfl) ?_
      first
        | refine pq_op (os_fieldAddrO tabOk rfl rfl rfl (by decide) rfl) rfl rfl rfl rfl rfl ?_
        | refine pq_op (os_fieldAddrE tabOk rfl rfl rfl (by decide) rfl) rfl rfl rfl rfl rfl ?_
      first
        | refine pq_op (os_loadO1 tabOk rfl rfl rfl rfl rfl rfl) rfl rfl rfl rfl rfl ?_
        | refine pq_op (os_loadE1 tabOk rfl rfl rfl rfl rfl) rfl rfl rfl rfl rfl ?_
        | refine pq_op (os_loadES tabOk rfl rfl rfl rfl rfl) rfl rfl rfl rfl rfl ?_
        | refine pq_op (os_loadOS tabOk rfl rfl rfl rfl rfl (Nat.le_of_ble_eq_true rfl)) rfl rfl rfl rfl rfl ?_
        | refine pq_op (os_loadES tabOk rfl rfl rfl rfl (by assumption)) rfl rfl rfl rfl rfl ?_
        | refine pq_op (os_loadLS tabOk rfl rfl rfl rfl rfl (by assumption) rfl (by first | rfl | assumption)) rfl rfl rfl rfl rfl ?_
        | refine pq_op (os_loadL1 (q := 0) tabOk rfl rfl rfl rfl rfl (by assumption) rfl rfl) rfl rfl rfl rfl rfl ?_
      refine pq_op (opS_of (opP_move rfl rfl)) rfl rfl rfl rfl rfl ?_
      first
        | refine pq_op (os_indexD tabOk rfl rfl rfl rfl rfl (by decide) rfl rfl (by assumption) (by first | rfl | assumption)) rfl rfl rfl rfl rfl ?_
        | refine pq_op (os_indexO tabOk rfl rfl rfl rfl rfl rfl rfl rfl (by decide) rfl (by first | assumption | (simp; omega))) rfl rfl rfl rfl rfl ?_
      first
        | refine pq_op (os_loadO1 tabOk rfl rfl rfl rfl rfl rfl) rfl rfl rfl rfl rfl ?_
        | refine pq_op (os_loadE1 tabOk rfl rfl rfl rfl rfl) rfl rfl rfl rfl rfl ?_
        | refine pq_op (os_loadES tabOk rfl rfl rfl rfl rfl) rfl rfl rfl rfl rfl ?_
        | refine pq_op (os_loadOS tabOk rfl rfl rfl rfl rfl (Nat.le_of_ble_eq_true rfl)) rfl rfl rfl rfl rfl ?_
        | refine pq_op (os_loadES tabOk rfl rfl rfl rfl (by assumption)) rfl rfl rfl rfl rfl ?_
        | refine pq_op (os_loadLS tabOk rfl rfl rfl rfl rfl (by assumption) rfl (by first | rfl | assumption)) rfl rfl rfl rfl rfl ?_
        | refine pq_op (os_loadL1 (q := 0) tabOk rfl rfl rfl rfl rfl (by assumption) rfl rfl) rfl rfl rfl rfl rfl ?_
      first
        | refine pq_op (os_fieldAddrO tabOk rfl rfl rfl (by decide) rfl) rfl rfl rfl rfl rfl ?_
        | refine pq_op (os_fieldAddrE tabOk rfl rfl rfl (by decide) rfl) rfl rfl rfl rfl rfl ?_
      first
        | refine pq_op (os_loadO1 tabOk rfl rfl rfl rfl rfl rfl) rfl rfl rfl rfl rfl ?_
        | refine pq_op (os_loadE1 tabOk rfl rfl rfl rfl rfl) rfl rfl rfl rfl rfl ?_
        | refine pq_op (os_loadES tabOk rfl rfl rfl rfl rfl) rfl rfl rfl rfl rfl ?_
        | refine pq_op (os_loadOS tabOk rfl rfl rfl rfl rfl (Nat.le_of_ble_eq_true rfl)) rfl rfl rfl rfl rfl ?_
        | refine pq_op (os_loadES tabOk rfl rfl rfl rfl (by assumption)) rfl rfl rfl rfl rfl ?_
        | refine pq_op (os_loadLS tabOk rfl rfl rfl rfl rfl (by assumption) rfl (by first | rfl | assumption)) rfl rfl rfl rfl rfl ?_
        | refine pq_op (os_loadL1 (q := 0) tabOk rfl rfl rfl rfl rfl (by assumption) rfl rfl) rfl rfl rfl rfl rfl ?_
      refine pq_op (opS_of (opP_move rfl rfl)) rfl rfl rfl rfl rfl ?_
      first
        | refine pq_op (os_indexD tabOk rfl rfl rfl rfl rfl (by decide) rfl rfl (by assumption) (by first | rfl | assumption)) rfl rfl rfl rfl rfl ?_
        | refine pq_op (os_indexO tabOk rfl rfl rfl rfl rfl rfl rfl rfl (by decide) rfl (by first | assumption | (simp; omega))) rfl rfl rfl rfl rfl ?_
      first
        | refine pq_op (os_loadO1 tabOk rfl rfl rfl rfl rfl rfl) rfl rfl rfl rfl rfl ?_
        | refine pq_op (os_loadE1 tabOk rfl rfl rfl rfl rfl) rfl rfl rfl rfl rfl ?_
        | refine pq_op (os_loadES tabOk rfl rfl rfl rfl rfl) rfl rfl rfl rfl rfl ?_
        | refine pq_op (os_loadOS tabOk rfl rfl rfl rfl rfl (Nat.le_of_ble_eq_true rfl)) rfl rfl rfl rfl rfl ?_
        | refine pq_op (os_loadES tabOk rfl rfl rfl rfl (by assumption)) rfl rfl rfl rfl rfl ?_
        | refine pq_op (os_loadLS tabOk rfl rfl rfl rfl rfl (by assumption) rfl (by first | rfl | assumption)) rfl rfl rfl rfl rfl ?_
        | refine pq_op (os_loadL1 (q := 0) tabOk rfl rfl rfl rfl rfl (by assumption) rfl rfl) rfl rfl rfl rfl rfl ?_
      refine pq_op (os_call (ag := [(Operand.tmp 24), (Operand.tmp 29)]) (specLitSame_call x y) Try.func73 rfl rfl rfl rfl) rfl rfl rfl rfl rfl ?_
      refine pq_op (opS_of (opP_not rfl rfl)) rfl rfl rfl rfl rfl ?_
      refine pq_nil ?_
      refine W_cond rfl (fun hc31 => ?_) (fun hc31 => ?_)
      · refine W_seq ?_
        refine W_region ?_
        refine st_op (opS_of (opP_assign rfl rfl)) rfl rfl rfl ?_
        refine aOps_nil ?_
        refine W_ret ?_
        refine blockE_ret ?_
        refine blockE_ret ?_
        refine retE_ret ?_
        refine retOk_tmpE Try.results38 rfl (congrArg B ?_) rfl
        show _ = eqBy (fun x y => decide (Li.cmp x y = 0)) xs ys
        first | exact (eqBy_len (by have h12 := hc12; simp [hdl, hdl2] at h12; omega)).symm | exact (eqBy_no hx hy (by simpa using hc31)).symm | exact (eqBy_all hll (fun i x y h => hJ i x y (by have h9 := ofNat_ge hc17; omega))).symm
      · refine W_skip ?_
        refine W_region ?_
        refine st_op (opS_of (opP_move rfl rfl)) rfl rfl rfl ?_
        first
          | refine st_op (opS_of (opP_add64 rfl rfl rfl (by omega))) rfl rfl rfl ?_
          | refine st_op (opS_of (opP_strAdd rfl rfl rfl (by assumption))) rfl rfl rfl ?_
          | refine st_op (opS_of (opP_add rfl rfl rfl)) rfl rfl rfl ?_
        refine st_op (opS_of (opP_assign rfl rfl)) rfl rfl rfl ?_
        refine aOps_nil ?_
        refine ⟨k + 1, by (refine Ent.of ?_; repeat (first | (refine entOk_tm rfl ?_) | (refine entOk_ob rfl ?_) | exact entOk_nil | (refine entOk_Z rfl (by omega) ?_) | (refine entOk_Z rfl (by simp <;> omega) ?_) | (refine entOk_lst rfl (by assumption) ?_) | (refine entOk_lst rfl (fill_setE rfl (by assumption) (by assumption) rfl) ?_) | (refine entOk_lst rfl (by simp_all; done) ?_) | (refine entOk_var rfl (by simp_all; done) ?_))), hJ.next hx hy (by simpa using hc31), by omega, by omega⟩
    · refine W_exit ?_
      refine blockE_hit ?_
      refine W_seq ?_
      refine W_region ?_
      refine st_op (opS_of (opP_assign rfl rfl)) rfl rfl rfl ?_
      refine aOps_nil ?_
      refine W_ret ?_
      refine retE_ret ?_
      refine retOk_tmpE Try.results38 rfl (congrArg B ?_) rfl
      show _ = eqBy (fun x y => decide (Li.cmp x y = 0)) xs ys
      first | exact (eqBy_len (by have h12 := hc12; simp [hdl, hdl2] at h12; omega)).symm | exact (eqBy_no hx hy (by simpa using hc31)).symm | exact (eqBy_all hll (fun i x y h => hJ i x y (by have h9 := ofNat_ge hc17; omega))).symm

theorem clauseSame_law (a b : Cl) : ACall Try.prog 8 [.dat a.da, .dat b.da] (B true) [] := by
  have h1 := szClause_call a 1048576 (by omega)
  have h2 := fun hc => szClause_call b (lft a.cn 1048576) hc
  have ha := toClause_call a
  have hb := toClause_call b
  have hg := implClauseSame_call a b
  have hw := specClauseSame_call a b
  have hea := eqClause_call a
  have heb := eqClause_call b
  have l1 := lft_le (n := a.cn) (l := 1048576) (by omega)
  have c1 : 0 ≤ lft a.cn 1048576 → a.cn ≤ 1048576 := by unfold lft; split <;> omega
  have c2 : 0 ≤ lft b.cn (lft a.cn 1048576) → b.cn ≤ 1048576 := by unfold lft; split <;> omega
  generalize a.cn = na at *
  generalize b.cn = nb at *
  generalize Cl.same a b = cab at *
  obtain ⟨l⟩ := a
  obtain ⟨m⟩ := b
  refine acall_W Try.func8 rfl _ Try.ntmps8 (Nat.le_of_ble_eq_true rfl) fun w0 S0 => ?_
  refine W_seq ?_
  refine W_region ?_
  refine st_op (os_box rfl rfl rfl rfl rfl) rfl rfl rfl ?_
  refine st_op (os_box rfl rfl rfl rfl rfl) rfl rfl rfl ?_
  refine st_op (opS_of (opP_assign rfl rfl)) rfl rfl rfl ?_
  refine aOps_nil ?_
  refine W_seq ?_
  refine W_region ?_
  refine st_op (opS_of (opP_assign rfl rfl)) rfl rfl rfl ?_
  refine aOps_nil ?_
  refine W_seq ?_
  refine W_region ?_
  first
    | refine st_op (os_loadO1 tabOk rfl rfl rfl rfl rfl rfl) rfl rfl rfl ?_
    | refine st_op (os_loadE1 tabOk rfl rfl rfl rfl rfl) rfl rfl rfl ?_
    | refine st_op (os_loadES tabOk rfl rfl rfl rfl rfl) rfl rfl rfl ?_
    | refine st_op (os_loadOS tabOk rfl rfl rfl rfl rfl (Nat.le_of_ble_eq_true rfl)) rfl rfl rfl ?_
    | refine st_op (os_loadES tabOk rfl rfl rfl rfl (by assumption)) rfl rfl rfl ?_
    | refine st_op (os_loadLS tabOk rfl rfl rfl rfl rfl (by assumption) rfl (by first | rfl | assumption)) rfl rfl rfl ?_
    | refine st_op (os_loadL1 (q := 0) tabOk rfl rfl rfl rfl rfl (by assumption) rfl rfl) rfl rfl rfl ?_
  refine st_op (opS_of (opP_move rfl rfl)) rfl rfl rfl ?_
  first
    | refine st_op (os_call (ag := [(Operand.tmp 10), (Operand.tmp 11)]) (h1) Try.func37 rfl rfl rfl rfl) rfl rfl rfl ?_
    | refine st_op (os_call (ag := [(Operand.tmp 10), (Operand.tmp 11)]) (h2 (by omega)) Try.func37 rfl rfl rfl rfl) rfl rfl rfl ?_
  refine st_op (opS_of (opP_assign rfl rfl)) rfl rfl rfl ?_
  refine aOps_nil ?_
  refine W_seq ?_
  refine W_seq ?_
  refine W_region ?_
  refine st_op (opS_of (opP_move rfl rfl)) rfl rfl rfl ?_
  refine st_op (opS_of (opP_lss rfl rfl rfl)) rfl rfl rfl ?_
  refine aOps_nil ?_
  refine W_cond rfl (fun hc14 => ?_) (fun hc14 => ?_)
  · refine W_seq ?_
    refine W_region ?_
    refine st_op (opS_of (opP_assign rfl rfl)) rfl rfl rfl ?_
    refine aOps_nil ?_
    refine W_ret ?_
    refine retE_ret ?_
    exact retOk_tmpE Try.results8 rfl rfl rfl
  · refine W_skip ?_
    refine W_seq ?_
    refine W_region ?_
    first
      | refine st_op (os_loadO1 tabOk rfl rfl rfl rfl rfl rfl) rfl rfl rfl ?_
      | refine st_op (os_loadE1 tabOk rfl rfl rfl rfl rfl) rfl rfl rfl ?_
      | refine st_op (os_loadES tabOk rfl rfl rfl rfl rfl) rfl rfl rfl ?_
      | refine st_op (os_loadOS tabOk rfl rfl rfl rfl rfl (Nat.le_of_ble_eq_true rfl)) rfl rfl rfl ?_
      | refine st_op (os_loadES tabOk rfl rfl rfl rfl (by assumption)) rfl rfl rfl ?_
      | refine st_op (os_loadLS tabOk rfl rfl rfl rfl rfl (by assumption) rfl (by first | rfl | assumption)) rfl rfl rfl ?_
      | refine st_op (os_loadL1 (q := 0) tabOk rfl rfl rfl rfl rfl (by assumption) rfl rfl) rfl rfl rfl ?_
    refine st_op (opS_of (opP_move rfl rfl)) rfl rfl rfl ?_
    first
      | refine st_op (os_call (ag := [(Operand.tmp 15), (Operand.tmp 16)]) (h1) Try.func37 rfl rfl rfl rfl) rfl rfl rfl ?_
      | refine st_op (os_call (ag := [(Operand.tmp 15), (Operand.tmp 16)]) (h2 (by omega)) Try.func37 rfl rfl rfl rfl) rfl rfl rfl ?_
    refine st_op (opS_of (opP_assign rfl rfl)) rfl rfl rfl ?_
    refine aOps_nil ?_
    refine W_seq ?_
    refine W_seq ?_
    refine W_region ?_
    refine st_op (opS_of (opP_move rfl rfl)) rfl rfl rfl ?_
    refine st_op (opS_of (opP_lss rfl rfl rfl)) rfl rfl rfl ?_
    refine aOps_nil ?_
    refine W_cond rfl (fun hc19 => ?_) (fun hc19 => ?_)
    · refine W_seq ?_
      refine W_region ?_
      refine st_op (opS_of (opP_assign rfl rfl)) rfl rfl rfl ?_
      refine aOps_nil ?_
      refine W_ret ?_
      refine retE_ret ?_
      exact retOk_tmpE Try.results8 rfl rfl rfl
    · refine W_skip ?_
      refine W_seq ?_
      refine W_drawK mixed (by kernel_rfl) ?_
      first
        | refine pq_op (os_loadO1 tabOk rfl rfl rfl rfl rfl rfl) rfl rfl rfl rfl rfl ?_
        | refine pq_op (os_loadE1 tabOk rfl rfl rfl rfl rfl) rfl rfl rfl rfl rfl ?_
        | refine pq_op (os_loadES tabOk rfl rfl rfl rfl rfl) rfl rfl rfl rfl rfl ?_
        | refine pq_op (os_loadOS tabOk rfl rfl rfl rfl rfl (Nat.le_of_ble_eq_true rfl)) rfl rfl rfl rfl rfl ?_
        | refine pq_op (os_loadES tabOk rfl rfl rfl rfl (by assumption)) rfl rfl rfl rfl rfl ?_
        | refine pq_op (os_loadLS tabOk rfl rfl rfl rfl rfl (by assumption) rfl (by first | rfl | assumption)) rfl rfl rfl rfl rfl ?_
        | refine pq_op (os_loadL1 (q := 0) tabOk rfl rfl rfl rfl rfl (by assumption) rfl rfl) rfl rfl rfl rfl rfl ?_
      first
        | refine pq_op (os_call (ag := [(Operand.tmp 20)]) (ha (c1 (by simpa using hc14))) Try.func39 rfl rfl rfl rfl) rfl rfl rfl rfl rfl ?_
        | refine pq_op (os_call (ag := [(Operand.tmp 20)]) (hb (c2 (by simpa using hc19))) Try.func39 rfl rfl rfl rfl) rfl rfl rfl rfl rfl ?_
      first
        | refine pq_op (os_loadO1 tabOk rfl rfl rfl rfl rfl rfl) rfl rfl rfl rfl rfl ?_
        | refine pq_op (os_loadE1 tabOk rfl rfl rfl rfl rfl) rfl rfl rfl rfl rfl ?_
        | refine pq_op (os_loadES tabOk rfl rfl rfl rfl rfl) rfl rfl rfl rfl rfl ?_
        | refine pq_op (os_loadOS tabOk rfl rfl rfl rfl rfl (Nat.le_of_ble_eq_true rfl)) rfl rfl rfl rfl rfl ?_
        | refine pq_op (os_loadES tabOk rfl rfl rfl rfl (by assumption)) rfl rfl rfl rfl rfl ?_
        | refine pq_op (os_loadLS tabOk rfl rfl rfl rfl rfl (by assumption) rfl (by first | rfl | assumption)) rfl rfl rfl rfl rfl ?_
        | refine pq_op (os_loadL1 (q := 0) tabOk rfl rfl rfl rfl rfl (by assumption) rfl rfl) rfl rfl rfl rfl rfl ?_
      first
        | refine pq_op (os_call (ag := [(Operand.tmp 22)]) (ha (c1 (by simpa using hc14))) Try.func39 rfl rfl rfl rfl) rfl rfl rfl rfl rfl ?_
        | refine pq_op (os_call (ag := [(Operand.tmp 22)]) (hb (c2 (by simpa using hc19))) Try.func39 rfl rfl rfl rfl) rfl rfl rfl rfl rfl ?_
      refine pq_op (os_call (ag := [(Operand.tmp 21), (Operand.tmp 23)]) (hw) Try.func38 rfl rfl rfl rfl) rfl rfl rfl rfl rfl ?_
      refine pq_op (opS_of (opP_assign rfl rfl)) rfl rfl rfl rfl rfl ?_
      refine pq_nil ?_
      refine W_seq ?_
      refine W_region ?_
      first
        | refine st_op (os_loadO1 tabOk rfl rfl rfl rfl rfl rfl) rfl rfl rfl ?_
        | refine st_op (os_loadE1 tabOk rfl rfl rfl rfl rfl) rfl rfl rfl ?_
        | refine st_op (os_loadES tabOk rfl rfl rfl rfl rfl) rfl rfl rfl ?_
        | refine st_op (os_loadOS tabOk rfl rfl rfl rfl rfl (Nat.le_of_ble_eq_true rfl)) rfl rfl rfl ?_
        | refine st_op (os_loadES tabOk rfl rfl rfl rfl (by assumption)) rfl rfl rfl ?_
        | refine st_op (os_loadLS tabOk rfl rfl rfl rfl rfl (by assumption) rfl (by first | rfl | assumption)) rfl rfl rfl ?_
        | refine st_op (os_loadL1 (q := 0) tabOk rfl rfl rfl rfl rfl (by assumption) rfl rfl) rfl rfl rfl ?_
      first
        | refine st_op (os_call (ag := [(Operand.tmp 25)]) (ha (c1 (by simpa using hc14))) Try.func39 rfl rfl rfl rfl) rfl rfl rfl ?_
        | refine st_op (os_call (ag := [(Operand.tmp 25)]) (hb (c2 (by simpa using hc19))) Try.func39 rfl rfl rfl rfl) rfl rfl rfl ?_
      refine st_op (os_alloc z68 rfl rfl) rfl rfl rfl ?_
      refine st_store tabOk rfl rfl rfl rfl rfl rfl rfl rfl rfl (Nat.le_of_ble_eq_true rfl) rfl ?_
      refine aOps_nil ?_
      refine W_seq ?_
      refine W_region ?_
      first
        | refine st_op (os_loadO1 tabOk rfl rfl rfl rfl rfl rfl) rfl rfl rfl ?_
        | refine st_op (os_loadE1 tabOk rfl rfl rfl rfl rfl) rfl rfl rfl ?_
        | refine st_op (os_loadES tabOk rfl rfl rfl rfl rfl) rfl rfl rfl ?_
        | refine st_op (os_loadOS tabOk rfl rfl rfl rfl rfl (Nat.le_of_ble_eq_true rfl)) rfl rfl rfl ?_
        | refine st_op (os_loadES tabOk rfl rfl rfl rfl (by assumption)) rfl rfl rfl ?_
        | refine st_op (os_loadLS tabOk rfl rfl rfl rfl rfl (by assumption) rfl (by first | rfl | assumption)) rfl rfl rfl ?_
        | refine st_op (os_loadL1 (q := 0) tabOk rfl rfl rfl rfl rfl (by assumption) rfl rfl) rfl rfl rfl ?_
      first
        | refine st_op (os_call (ag := [(Operand.tmp 27)]) (ha (c1 (by simpa using hc14))) Try.func39 rfl rfl rfl rfl) rfl rfl rfl ?_
        | refine st_op (os_call (ag := [(Operand.tmp 27)]) (hb (c2 (by simpa using hc19))) Try.func39 rfl rfl rfl rfl) rfl rfl rfl ?_
      refine st_op (os_alloc z68 rfl rfl) rfl rfl rfl ?_
      refine st_store tabOk rfl rfl rfl rfl rfl rfl rfl rfl rfl (Nat.le_of_ble_eq_true rfl) rfl ?_
      refine aOps_nil ?_
      refine W_seq ?_
      refine W_region ?_
      first
        | refine st_op (os_loadO1 tabOk rfl rfl rfl rfl rfl rfl) rfl rfl rfl ?_
        | refine st_op (os_loadE1 tabOk rfl rfl rfl rfl rfl) rfl rfl rfl ?_
        | refine st_op (os_loadES tabOk rfl rfl rfl rfl rfl) rfl rfl rfl ?_
        | refine st_op (os_loadOS tabOk rfl rfl rfl rfl rfl (Nat.le_of_ble_eq_true rfl)) rfl rfl rfl ?_
        | refine st_op (os_loadES tabOk rfl rfl rfl rfl (by assumption)) rfl rfl rfl ?_
        | refine st_op (os_loadLS tabOk rfl rfl rfl rfl rfl (by assumption) rfl (by first | rfl | assumption)) rfl rfl rfl ?_
        | refine st_op (os_loadL1 (q := 0) tabOk rfl rfl rfl rfl rfl (by assumption) rfl rfl) rfl rfl rfl ?_
      first
        | refine st_op (os_loadO1 tabOk rfl rfl rfl rfl rfl rfl) rfl rfl rfl ?_
        | refine st_op (os_loadE1 tabOk rfl rfl rfl rfl rfl) rfl rfl rfl ?_
        | refine st_op (os_loadES tabOk rfl rfl rfl rfl rfl) rfl rfl rfl ?_
        | refine st_op (os_loadOS tabOk rfl rfl rfl rfl rfl (Nat.le_of_ble_eq_true rfl)) rfl rfl rfl ?_
        | refine st_op (os_loadES tabOk rfl rfl rfl rfl (by assumption)) rfl rfl rfl ?_
        | refine st_op (os_loadLS tabOk rfl rfl rfl rfl rfl (by assumption) rfl (by first | rfl | assumption)) rfl rfl rfl ?_
        | refine st_op (os_loadL1 (q := 0) tabOk rfl rfl rfl rfl rfl (by assumption) rfl rfl) rfl rfl rfl ?_
      refine st_op (os_call (ag := [(Operand.tmp 29), (Operand.tmp 30)]) (hg) Try.func40 rfl rfl rfl rfl) rfl rfl rfl ?_
      refine st_op (opS_of (opP_assign rfl rfl)) rfl rfl rfl ?_
      refine aOps_nil ?_
      refine W_seq ?_
      refine W_seq ?_
      refine W_region ?_
      refine st_op (opS_of (opP_move rfl rfl)) rfl rfl rfl ?_
      refine st_op (opS_of (opP_move rfl rfl)) rfl rfl rfl ?_
      first
        | refine st_op (opS_of (opP_neq rfl rfl rfl)) rfl rfl rfl ?_
        | refine st_op (opS_of (opP_strNe rfl rfl rfl)) rfl rfl rfl ?_
        | refine st_op (os_boolNe tabOk rfl rfl rfl rfl rfl) rfl rfl rfl ?_
      refine aOps_nil ?_
      refine W_cond rfl (fun hc34 => ?_) (fun hc34 => ?_)
      · simp at hc34
      · refine W_skip ?_
        refine W_seq ?_
        refine W_seq ?_
        refine W_drawK mixed (by kernel_rfl) ?_
        first
          | refine pq_op (os_loadO1 tabOk rfl rfl rfl rfl rfl rfl) rfl rfl rfl rfl rfl ?_
          | refine pq_op (os_loadE1 tabOk rfl rfl rfl rfl rfl) rfl rfl rfl rfl rfl ?_
          | refine pq_op (os_loadES tabOk rfl rfl rfl rfl rfl) rfl rfl rfl rfl rfl ?_
          | refine pq_op (os_loadOS tabOk rfl rfl rfl rfl rfl (Nat.le_of_ble_eq_true rfl)) rfl rfl rfl rfl rfl ?_
          | refine pq_op (os_loadES tabOk rfl rfl rfl rfl (by assumption)) rfl rfl rfl rfl rfl ?_
          | refine pq_op (os_loadLS tabOk rfl rfl rfl rfl rfl (by assumption) rfl (by first | rfl | assumption)) rfl rfl rfl rfl rfl ?_
          | refine pq_op (os_loadL1 (q := 0) tabOk rfl rfl rfl rfl rfl (by assumption) rfl rfl) rfl rfl rfl rfl rfl ?_
        first
          | refine pq_op (os_loadO1 tabOk rfl rfl rfl rfl rfl rfl) rfl rfl rfl rfl rfl ?_
          | refine pq_op (os_loadE1 tabOk rfl rfl rfl rfl rfl) rfl rfl rfl rfl rfl ?_
          | refine pq_op (os_loadES tabOk rfl rfl rfl rfl rfl) rfl rfl rfl rfl rfl ?_
          | refine pq_op (os_loadOS tabOk rfl rfl rfl rfl rfl (Nat.le_of_ble_eq_true rfl)) rfl rfl rfl rfl rfl ?_
          | refine pq_op (os_loadES tabOk rfl rfl rfl rfl (by assumption)) rfl rfl rfl rfl rfl ?_
          | refine pq_op (os_loadLS tabOk rfl rfl rfl rfl rfl (by assumption) rfl (by first | rfl | assumption)) rfl rfl rfl rfl rfl ?_
          | refine pq_op (os_loadL1 (q := 0) tabOk rfl rfl rfl rfl rfl (by assumption) rfl rfl) rfl rfl rfl rfl rfl ?_
        first
          | refine pq_op (os_call (ag := [(Operand.tmp 36)]) (ha (c1 (by simpa using hc14))) Try.func39 rfl rfl rfl rfl) rfl rfl rfl rfl rfl ?_
          | refine pq_op (os_call (ag := [(Operand.tmp 36)]) (hb (c2 (by simpa using hc19))) Try.func39 rfl rfl rfl rfl) rfl rfl rfl rfl rfl ?_
        first
          | refine pq_op (os_call (ag := [(Operand.tmp 35), (Operand.tmp 37)]) (hea) Try.func41 rfl rfl rfl rfl) rfl rfl rfl rfl rfl ?_
          | refine pq_op (os_call (ag := [(Operand.tmp 35), (Operand.tmp 37)]) (heb) Try.func41 rfl rfl rfl rfl) rfl rfl rfl rfl rfl ?_
        refine pq_op (opS_of (opP_not rfl rfl)) rfl rfl rfl rfl rfl ?_
        refine pq_nil ?_
        refine W_cond rfl (fun hc39 => ?_) (fun hc39 => ?_)
        · simp at hc39
        · refine W_skip ?_
          refine W_seq ?_
          refine W_seq ?_
          refine W_drawK mixed (by kernel_rfl) ?_
          first
            | refine pq_op (os_loadO1 tabOk rfl rfl rfl rfl rfl rfl) rfl rfl rfl rfl rfl ?_
            | refine pq_op (os_loadE1 tabOk rfl rfl rfl rfl rfl) rfl rfl rfl rfl rfl ?_
            | refine pq_op (os_loadES tabOk rfl rfl rfl rfl rfl) rfl rfl rfl rfl rfl ?_
            | refine pq_op (os_loadOS tabOk rfl rfl rfl rfl rfl (Nat.le_of_ble_eq_true rfl)) rfl rfl rfl rfl rfl ?_
            | refine pq_op (os_loadES tabOk rfl rfl rfl rfl (by assumption)) rfl rfl rfl rfl rfl ?_
            | refine pq_op (os_loadLS tabOk rfl rfl rfl rfl rfl (by assumption) rfl (by first | rfl | assumption)) rfl rfl rfl rfl rfl ?_
            | refine pq_op (os_loadL1 (q := 0) tabOk rfl rfl rfl rfl rfl (by assumption) rfl rfl) rfl rfl rfl rfl rfl ?_
          first
            | refine pq_op (os_loadO1 tabOk rfl rfl rfl rfl rfl rfl) rfl rfl rfl rfl rfl ?_
            | refine pq_op (os_loadE1 tabOk rfl rfl rfl rfl rfl) rfl rfl rfl rfl rfl ?_
            | refine pq_op (os_loadES tabOk rfl rfl rfl rfl rfl) rfl rfl rfl rfl rfl ?_
            | refine pq_op (os_loadOS tabOk rfl rfl rfl rfl rfl (Nat.le_of_ble_eq_true rfl)) rfl rfl rfl rfl rfl ?_
            | refine pq_op (os_loadES tabOk rfl rfl rfl rfl (by assumption)) rfl rfl rfl rfl rfl ?_
            | refine pq_op (os_loadLS tabOk rfl rfl rfl rfl rfl (by assumption) rfl (by first | rfl | assumption)) rfl rfl rfl rfl rfl ?_
            | refine pq_op (os_loadL1 (q := 0) tabOk rfl rfl rfl rfl rfl (by assumption) rfl rfl) rfl rfl rfl rfl rfl ?_
          first
            | refine pq_op (os_call (ag := [(Operand.tmp 41)]) (ha (c1 (by simpa using hc14))) Try.func39 rfl rfl rfl rfl) rfl rfl rfl rfl rfl ?_
            | refine pq_op (os_call (ag := [(Operand.tmp 41)]) (hb (c2 (by simpa using hc19))) Try.func39 rfl rfl rfl rfl) rfl rfl rfl rfl rfl ?_
          first
            | refine pq_op (os_call (ag := [(Operand.tmp 40), (Operand.tmp 42)]) (hea) Try.func41 rfl rfl rfl rfl) rfl rfl rfl rfl rfl ?_
            | refine pq_op (os_call (ag := [(Operand.tmp 40), (Operand.tmp 42)]) (heb) Try.func41 rfl rfl rfl rfl) rfl rfl rfl rfl rfl ?_
          refine pq_op (opS_of (opP_not rfl rfl)) rfl rfl rfl rfl rfl ?_
          refine pq_nil ?_
          refine W_cond rfl (fun hc44 => ?_) (fun hc44 => ?_)
          · simp at hc44
          · refine W_skip ?_
            refine W_seq ?_
            refine W_region ?_
            refine st_op (opS_of (opP_assign rfl rfl)) rfl rfl rfl ?_
            refine aOps_nil ?_
            refine W_ret ?_
            refine retE_ret ?_
            exact retOk_tmpE Try.results8 rfl rfl rfl

end AM
end Go.Proofs.Ytfmfflfnkjoopaa
