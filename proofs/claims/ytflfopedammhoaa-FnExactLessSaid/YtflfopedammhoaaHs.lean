/- Contracts of functions of the program, out of what their texts ask; no conditions. -/
import Derived.Test.YtflfopedammhoaaHa
import Derived.Test.YtflfopedammhoaaDt
import Derived.Test.YtflfopedammhoaaHr
set_option linter.unusedVariables false
set_option linter.unusedSimpArgs false
set_option maxRecDepth 100000
namespace Go.Proofs.Ytflfopedammhoaa
namespace AM
open Go Go.ChangeShapes Go.WideShapes Go.RowKit

theorem szLit_call (x : Li) (m : Int) (h0 : 0 ≤ m) (h1 : m ≤ 1048576) : XC Try.prog 59 [.dat x.da, Z m] [] (Z (lft x.cn m)) [] := by
  obtain ⟨p, ⟨f, u, ks⟩, ⟨g, v, ms⟩⟩ := x
  apply laws_szLit_of
  have hle := lft_le (n := Tm.cn (.mk f u ks)) (l := m) (by omega)
  refine ⟨_, szTerm_call (.mk f u ks) m h0 h1, ifB_d (fun h => zw (lft_lt h h0)) fun h => ⟨_, szTerm_call (.mk g v ms) _ (by omega) (by omega), ifB_d (fun h2 => zw ?_) fun h2 => zw ?_⟩⟩
  · have := lft_lt0 h2 (by omega); rw [lft_lft (by omega)] at this; exact this
  · rw [lft_lft (by omega)]; rfl
theorem eqLit_call (x : Li) : XC Try.prog 42 [.dat x.da, .dat x.da] [] (B true) [] := by
  obtain ⟨p, ⟨f, u, ks⟩, ⟨g, v, ms⟩⟩ := x
  apply laws_eqLit_of
  exact ifB_f ne_decB ⟨_, eqTerm_call (.mk f u ks), ifB_f rfl ⟨_, eqTerm_call (.mk g v ms), ifB_f rfl ⟨rfl, rfl⟩⟩⟩
theorem szLitS_call (l : List Li) (left : Int) (h0 : 0 ≤ left) (h1 : left ≤ 1048576) : XC Try.prog 66 [L (l.map Li.da), Z left] [] (Z (lft (cnL Li.cn l) left)) [] := by
  refine xc_fit fun hfit => ?_
  have hlen : l.length ≤ 281474976710656 := by have := hfit.one.len; simpa using this
  apply laws_szLitS_of
  rw [List.length_map, wrI (by omega) (by omega)]
  refine ifB_d (fun h => ⟨?_, rfl⟩) fun h => ?_
  · rw [lft, if_pos (by have := cnL_len Li.cn l; omega)]
  · have key := loopUp (p := fun i => ∀ m : Int, 0 ≤ m → m ≤ 1048576 → laws_szLitS_L5 (Z (lft ((l.drop i).map Li.cn).sum m)) [] (l.map Li.da) m (i : Int)) l.length ?_ ?_ 0 (Nat.zero_le _)
    · have := key (left - l.length) (by omega) (by omega)
      have e : lft ((l.drop 0).map Li.cn).sum (left - l.length) = lft (cnL Li.cn l) left := by
        rw [List.drop_zero, cnL]; unfold lft; split <;> split <;> omega
      rw [e] at this
      exact this
    · intro m hm0 hm1
      apply laws_szLitS_L5_of
      refine ifB_f (lt_decF (by simp)) ⟨?_, rfl⟩
      simp [lft]; omega
    · intro i hi ih m hm0 hm1
      obtain ⟨x, hx⟩ := get_ex hi
      have hx1 := get_map (g := Li.da) hx
      have hxc := szLit_call x m hm0 hm1
      have hdr : ((l.drop i).map Li.cn).sum = Li.cn x + ((l.drop (i + 1)).map Li.cn).sum := by
        obtain ⟨hl, e⟩ := List.getElem?_eq_some_iff.1 hx
        rw [List.drop_eq_getElem_cons hl, e]; simp
      have hle := lft_le (n := Li.cn x) (l := m) (by omega)
      rw [hdr]
      generalize Li.cn x = cx at *
      obtain ⟨p, ⟨f, v, ks⟩, ⟨g, u, ms⟩⟩ := x
      apply laws_szLitS_L5_of
      refine ifB_t (lt_dec (by simpa using hi)) ⟨i, rfl, _, _, _, _, _, _, _, hx1, _, hxc, ?_⟩
      refine ifB_d (fun h => ⟨?_, rfl⟩) fun h => ?_
      · have := lft_neg h hm0
        rw [show lft (cx + ((l.drop (i + 1)).map Li.cn).sum) m = -1 by unfold lft at h ⊢; split at h <;> split <;> omega]
      · rw [wr1 hi hlen, ← lft_lft (by omega)]
        exact ih _ (by omega) (by omega)
theorem eqLitS_call (l : List Li) : XC Try.prog 70 [L (l.map Li.da), L (l.map Li.da)] [] (B true) [] := by
  refine xc_fit fun hfit => ?_
  have hlen : l.length ≤ 281474976710656 := by have := hfit.one.len; simpa using this
  apply laws_eqLitS_of
  refine ifB_f ne_decF ?_
  refine loopUp (p := fun i => laws_eqLitS_L4 (B true) [] (l.map Li.da) (l.map Li.da) (i : Int)) l.length ?_ (fun i hi ih => ?_) 0 (Nat.zero_le _)
  · apply laws_eqLitS_L4_of
    exact ifB_f (lt_decF (by simp)) ⟨rfl, rfl⟩
  · obtain ⟨x, hx⟩ := get_ex hi
    have hx1 := get_map (g := Li.da) hx
    have hxc := eqLit_call x
    obtain ⟨p, ⟨f, v, ks⟩, ⟨g, u, ms⟩⟩ := x
    apply laws_eqLitS_L4_of
    refine ifB_t (lt_dec (by simpa using hi)) ⟨i, rfl, _, _, _, _, _, _, _, hx1, i, rfl, _, _, _, _, _, _, _, hx1, _, hxc, ifB_f rfl ?_⟩
    rw [wr1 hi hlen]
    exact ih
theorem szClause_call (x : Cl) (m : Int) (h0 : 0 ≤ m) (h1 : m ≤ 1048576) : XC Try.prog 25 [.dat x.da, Z m] [] (Z (lft x.cn m)) [] := by
  apply laws_szClause_of
  exact ⟨_, szLitS_call x.ls m h0 h1, ifB_d (fun h => zw (lft_lt0 h h0)) fun _ => ⟨rfl, rfl⟩⟩
theorem eqClause_call (x : Cl) : XC Try.prog 30 [.dat x.da, .dat x.da] [] (B true) [] := by
  apply laws_eqClause_of
  exact ⟨_, eqLitS_call x.ls, ifB_f rfl ⟨rfl, rfl⟩⟩
/-- A literal, marked from a number on. -/
def mkLi (k : Nat) (x : Li) : Li := ⟨decide (Int.tmod (k : Int) 3 = 0), .mk ((k + 1 : Nat) : Int) ((k + 2 : Nat) : Int) (Tm.mkL (k + 3) x.l.ks), .mk ((k + 3 + 2 * x.l.cn : Nat) : Int) ((k + 4 + 2 * x.l.cn : Nat) : Int) (Tm.mkL (k + 5 + 2 * x.l.cn) x.r.ks)⟩
def mkLis : Nat → List Li → List Li
  | _, [] => []
  | k, x :: r => mkLi k x :: mkLis (k + 5 + 2 * x.cn) r
/-- How many numbers the marks of literals take. -/
def mkN : List Li → Nat
  | [] => 0
  | x :: r => 5 + 2 * x.cn + mkN r
theorem mkN_le (l : List Li) : mkN l ≤ 5 * cnL Li.cn l := by
  induction l with
  | nil => simp [mkN]
  | cons x r ih => simp only [mkN, cnL, List.length_cons, List.map_cons, List.sum_cons] at ih ⊢; omega
theorem das3 (l : List Tm) : ∀ y ∈ Tm.das l, y.length = 3 := by
  intro y hy
  rw [Tm.das_map] at hy
  obtain ⟨t, _, rfl⟩ := List.mem_map.1 hy
  exact Tm.da_len t
theorem markLitS_loop : ∀ (l : List Li) (P : List (List Da)) (k : Nat), P.length + l.length ≤ 100000000 → k + mkN l ≤ 100000000 → laws_markLitS_L2 (Z ((k + mkN l : Nat) : Int)) [(2000, .mt 61 7 (P ++ (mkLis k l).map Li.da))] (k : Int) (P.length : Int) (P ++ l.map Li.da)
  | [], P, k, _, _ => by
    apply laws_markLitS_L2_of
    exact ifB_f (decide_eq_false (by simp)) ⟨by simp [mkN], by simp [mkLis]⟩
  | ⟨b, .mk f v ks, .mk g u ms⟩ :: r, P, k, hl, hk => by
    have hN : mkN (⟨b, .mk f v ks, .mk g u ms⟩ :: r) = 5 + 2 * (Tm.cns ks + Tm.cns ms) + mkN r := rfl
    rw [hN] at hk
    simp only [List.length_cons] at hl
    have e1 : (⟨b, .mk f v ks, .mk g u ms⟩ :: r : List Li).map Li.da = [.bool b, .int .i64 f, .int .i64 v, .sl (Tm.das ks), .int .i64 g, .int .i64 u, .sl (Tm.das ms)] :: r.map Li.da := rfl
    apply laws_markLitS_L2_of
    rw [e1]
    have w1 : IntKind.wrap .i64 ((k : Int) + 1) = ((k + 1 : Nat) : Int) := wrN (by omega) 1 (by omega)
    have w2 : IntKind.wrap .i64 (((k + 1 : Nat) : Int) + 1) = ((k + 2 : Nat) : Int) := wrN (by omega) 1 (by omega)
    have w3 : IntKind.wrap .i64 (((k + 2 : Nat) : Int) + 1) = ((k + 3 : Nat) : Int) := wrN (by omega) 1 (by omega)
    have w4 : IntKind.wrap .i64 (((k + 3 + 2 * Tm.cns ks : Nat) : Int) + 1) = ((k + 4 + 2 * Tm.cns ks : Nat) : Int) := by rw [wrI (by omega) (by omega)]; omega
    have w5 : IntKind.wrap .i64 (((k + 4 + 2 * Tm.cns ks : Nat) : Int) + 1) = ((k + 5 + 2 * Tm.cns ks : Nat) : Int) := by rw [wrI (by omega) (by omega)]; omega
    have wp : IntKind.wrap .i64 ((P.length : Int) + 1) = ((P.length + 1 : Nat) : Int) := wrN (by omega) 1 (by omega)
    rw [w1, w2, w3, wp]
    have hlen : ∀ y : List Da, P.length < (P ++ y :: r.map Li.da).length := fun y => by simp
    have hm1 : XC Try.prog 87 [.one (.ol 2000), Z ((k + 3 : Nat) : Int)] [(2000, .mt 30 3 (Tm.das ks))] (Z ((k + 3 + 2 * Tm.cns ks : Nat) : Int)) [(2000, .mt 30 3 (Tm.das (Tm.mkL (k + 3) ks)))] := markTermS_call (.mk f v ks) (k + 3) (by simp only [Tm.cn]; omega)
    have hm2 : XC Try.prog 87 [.one (.ol 2000), Z (IntKind.wrap .i64 (IntKind.wrap .i64 (((k + 3 + 2 * Tm.cns ks : Nat) : Int) + 1) + 1))] [(2000, .mt 30 3 (Tm.das ms))] (Z ((k + 5 + 2 * Tm.cns ks + 2 * Tm.cns ms : Nat) : Int)) [(2000, .mt 30 3 (Tm.das (Tm.mkL (k + 5 + 2 * Tm.cns ks) ms)))] := by
      rw [w4, w5]
      exact markTermS_call (.mk g u ms) (k + 5 + 2 * Tm.cns ks) (by simp only [Tm.cn]; omega)
    refine ifB_t (decide_eq_true (by simp; omega)) ⟨⟨by decide⟩, P.length, rfl, ⟨hlen _⟩, P.length, rfl, _, _, _, _, _, _, _, get_mid,
      P.length, rfl, ⟨by rw [set_mid]; exact hlen _⟩, P.length, rfl, _, _, _, _, _, _, _, by rw [set_mid]; exact get_mid,
      P.length, rfl, ⟨by rw [set_mid, set_mid]; exact hlen _⟩, P.length, rfl, _, _, _, _, _, _, _, by rw [set_mid, set_mid]; exact get_mid,
      P.length, rfl, ⟨by rw [set_mid, set_mid, set_mid]; exact hlen _⟩, P.length, rfl, _, _, _, _, _, _, _, by rw [set_mid, set_mid, set_mid]; exact get_mid, fun _ _ _ => ⟨⟨rfl, rfl, rfl⟩, _, _, _, _, _, _, _, by rw [set_mid, set_mid, set_mid]; exact get_mid, ⟨das3 _⟩, _, _, hm1,
      P.length, rfl, ⟨by rw [set_mid, set_mid, set_mid, set_mid]; exact hlen _⟩, P.length, rfl, _, _, _, _, _, _, _, by rw [set_mid, set_mid, set_mid, set_mid]; exact get_mid,
      P.length, rfl, ⟨by rw [set_mid, set_mid, set_mid, set_mid, set_mid]; exact hlen _⟩, P.length, rfl, _, _, _, _, _, _, _, by rw [set_mid, set_mid, set_mid, set_mid, set_mid]; exact get_mid,
      P.length, rfl, ⟨by rw [set_mid, set_mid, set_mid, set_mid, set_mid, set_mid]; exact hlen _⟩, P.length, rfl, _, _, _, _, _, _, _, by rw [set_mid, set_mid, set_mid, set_mid, set_mid, set_mid]; exact get_mid, fun _ _ _ => ⟨⟨rfl, rfl, rfl⟩, _, _, _, _, _, _, _, by rw [set_mid, set_mid, set_mid, set_mid, set_mid, set_mid]; exact get_mid, ⟨das3 _⟩, _, _, hm2, ?_⟩⟩⟩
    rw [set_mid, set_mid, set_mid, set_mid, set_mid, set_mid, set_mid, w4]
    have ih := markLitS_loop r (P ++ [[.bool (decide (Int.tmod (k : Int) 3 = 0)), .int .i64 ((k + 1 : Nat) : Int), .int .i64 ((k + 2 : Nat) : Int), .sl (Tm.das (Tm.mkL (k + 3) ks)), .int .i64 ((k + 3 + 2 * Tm.cns ks : Nat) : Int), .int .i64 ((k + 4 + 2 * Tm.cns ks : Nat) : Int), .sl (Tm.das (Tm.mkL (k + 5 + 2 * Tm.cns ks) ms))]]) (k + 5 + 2 * (Tm.cns ks + Tm.cns ms)) (by simp; omega) (by omega)
    have e2 : (mkLis k (⟨b, .mk f v ks, .mk g u ms⟩ :: r)).map Li.da = [.bool (decide (Int.tmod (k : Int) 3 = 0)), .int .i64 ((k + 1 : Nat) : Int), .int .i64 ((k + 2 : Nat) : Int), .sl (Tm.das (Tm.mkL (k + 3) ks)), .int .i64 ((k + 3 + 2 * Tm.cns ks : Nat) : Int), .int .i64 ((k + 4 + 2 * Tm.cns ks : Nat) : Int), .sl (Tm.das (Tm.mkL (k + 5 + 2 * Tm.cns ks) ms))] :: (mkLis (k + 5 + 2 * (Tm.cns ks + Tm.cns ms)) r).map Li.da := rfl
    rw [e2, hN, show k + (5 + 2 * (Tm.cns ks + Tm.cns ms) + mkN r) = k + 5 + 2 * (Tm.cns ks + Tm.cns ms) + mkN r by omega, show k + 5 + 2 * Tm.cns ks + 2 * Tm.cns ms = k + 5 + 2 * (Tm.cns ks + Tm.cns ms) by omega]
    have e4 : (P ++ [[Da.bool (decide (Int.tmod (k : Int) 3 = 0)), .int .i64 ((k + 1 : Nat) : Int), .int .i64 ((k + 2 : Nat) : Int), .sl (Tm.das (Tm.mkL (k + 3) ks)), .int .i64 ((k + 3 + 2 * Tm.cns ks : Nat) : Int), .int .i64 ((k + 4 + 2 * Tm.cns ks : Nat) : Int), .sl (Tm.das (Tm.mkL (k + 5 + 2 * Tm.cns ks) ms))]]).length = P.length + 1 := by simp
    rw [e4, List.append_assoc, List.append_assoc] at ih
    exact ih
theorem markClause_call (x : Cl) (k : Nat) (h1 : x.ls.length ≤ 10000000) (hk : k + mkN x.ls ≤ 100000000) : XC Try.prog 33 [.agg [.ol 2000], Z (k : Int)] [(2000, .mt 61 7 (x.ls.map Li.da))] (Z ((k + mkN x.ls : Nat) : Int)) [(2000, .mt 61 7 ((mkLis k x.ls).map Li.da))] := by
  apply laws_markClause_of
  refine ⟨_, _, laws_markLitS_of ?_, rfl, rfl⟩
  have := markLitS_loop x.ls [] k (by simp; omega) hk
  simpa using this
theorem heldLitS_loop : ∀ (l : List Li) (P : List (List Da)) (k : Nat), P.length + l.length ≤ 100000000 → k + mkN l ≤ 100000000 → laws_heldLitS_L2 (Z ((k + mkN l : Nat) : Int)) [] (P ++ (mkLis k l).map Li.da) (k : Int) (P.length : Int)
  | [], P, k, _, _ => by
    apply laws_heldLitS_L2_of
    exact ifB_f (decide_eq_false (by simp [mkLis])) ⟨by simp [mkN], rfl⟩
  | ⟨b, .mk f v ks, .mk g u ms⟩ :: r, P, k, hl, hk => by
    have hN : mkN (⟨b, .mk f v ks, .mk g u ms⟩ :: r) = 5 + 2 * (Tm.cns ks + Tm.cns ms) + mkN r := rfl
    rw [hN] at hk
    simp only [List.length_cons] at hl
    have e2 : (mkLis k (⟨b, .mk f v ks, .mk g u ms⟩ :: r)).map Li.da = [.bool (decide (Int.tmod (k : Int) 3 = 0)), .int .i64 ((k + 1 : Nat) : Int), .int .i64 ((k + 2 : Nat) : Int), .sl (Tm.das (Tm.mkL (k + 3) ks)), .int .i64 ((k + 3 + 2 * Tm.cns ks : Nat) : Int), .int .i64 ((k + 4 + 2 * Tm.cns ks : Nat) : Int), .sl (Tm.das (Tm.mkL (k + 5 + 2 * Tm.cns ks) ms))] :: (mkLis (k + 5 + 2 * (Tm.cns ks + Tm.cns ms)) r).map Li.da := rfl
    apply laws_heldLitS_L2_of
    rw [e2]
    have w1 : IntKind.wrap .i64 ((k : Int) + 1) = ((k + 1 : Nat) : Int) := wrN (by omega) 1 (by omega)
    have w2 : IntKind.wrap .i64 (((k + 1 : Nat) : Int) + 1) = ((k + 2 : Nat) : Int) := wrN (by omega) 1 (by omega)
    have w3 : IntKind.wrap .i64 (((k + 2 : Nat) : Int) + 1) = ((k + 3 : Nat) : Int) := wrN (by omega) 1 (by omega)
    have w4 : IntKind.wrap .i64 (((k + 3 + 2 * Tm.cns ks : Nat) : Int) + 1) = ((k + 4 + 2 * Tm.cns ks : Nat) : Int) := by rw [wrI (by omega) (by omega)]; omega
    have w5 : IntKind.wrap .i64 (((k + 4 + 2 * Tm.cns ks : Nat) : Int) + 1) = ((k + 5 + 2 * Tm.cns ks : Nat) : Int) := by rw [wrI (by omega) (by omega)]; omega
    have wp : IntKind.wrap .i64 ((P.length : Int) + 1) = ((P.length + 1 : Nat) : Int) := wrN (by omega) 1 (by omega)
    rw [w1, w2, w3, wp]
    have hm1 : XC Try.prog 111 [L (Tm.das (Tm.mkL (k + 3) ks)), Z ((k + 3 : Nat) : Int)] [] (Z ((k + 3 + 2 * Tm.cns ks : Nat) : Int)) [] := heldTermS_call (.mk f v ks) (k + 3) (by simp only [Tm.cn]; omega)
    have hm2 : XC Try.prog 111 [L (Tm.das (Tm.mkL (k + 5 + 2 * Tm.cns ks) ms)), Z (IntKind.wrap .i64 (IntKind.wrap .i64 (((k + 3 + 2 * Tm.cns ks : Nat) : Int) + 1) + 1))] [] (Z ((k + 5 + 2 * Tm.cns ks + 2 * Tm.cns ms : Nat) : Int)) [] := by
      rw [w4, w5]
      exact heldTermS_call (.mk g u ms) (k + 5 + 2 * Tm.cns ks) (by simp only [Tm.cn]; omega)
    refine ifB_t (decide_eq_true (by simp; omega)) ⟨P.length, rfl, _, _, _, _, _, _, _, get_mid, ⟨by decide⟩, ifB_f (by simp) ⟨P.length, rfl, _, _, _, _, _, _, _, get_mid, ifB_f (by simp) ⟨P.length, rfl, _, _, _, _, _, _, _, get_mid, ifB_f (by simp)
      ⟨P.length, rfl, _, _, _, _, _, _, _, get_mid, _, hm1, ifB_f (decide_eq_false (by omega)) ⟨P.length, rfl, _, _, _, _, _, _, _, get_mid, ifB_f (by simp) ⟨P.length, rfl, _, _, _, _, _, _, _, get_mid, ifB_f (by rw [w4]; simp) ⟨P.length, rfl, _, _, _, _, _, _, _, get_mid, _, hm2, ifB_f (decide_eq_false (by omega)) ?_⟩⟩⟩⟩⟩⟩⟩
    have ih := heldLitS_loop r (P ++ [[.bool (decide (Int.tmod (k : Int) 3 = 0)), .int .i64 ((k + 1 : Nat) : Int), .int .i64 ((k + 2 : Nat) : Int), .sl (Tm.das (Tm.mkL (k + 3) ks)), .int .i64 ((k + 3 + 2 * Tm.cns ks : Nat) : Int), .int .i64 ((k + 4 + 2 * Tm.cns ks : Nat) : Int), .sl (Tm.das (Tm.mkL (k + 5 + 2 * Tm.cns ks) ms))]]) (k + 5 + 2 * (Tm.cns ks + Tm.cns ms)) (by simp; omega) (by omega)
    rw [hN, show k + (5 + 2 * (Tm.cns ks + Tm.cns ms) + mkN r) = k + 5 + 2 * (Tm.cns ks + Tm.cns ms) + mkN r by omega, show k + 5 + 2 * Tm.cns ks + 2 * Tm.cns ms = k + 5 + 2 * (Tm.cns ks + Tm.cns ms) by omega]
    have e4 : (P ++ [[Da.bool (decide (Int.tmod (k : Int) 3 = 0)), .int .i64 ((k + 1 : Nat) : Int), .int .i64 ((k + 2 : Nat) : Int), .sl (Tm.das (Tm.mkL (k + 3) ks)), .int .i64 ((k + 3 + 2 * Tm.cns ks : Nat) : Int), .int .i64 ((k + 4 + 2 * Tm.cns ks : Nat) : Int), .sl (Tm.das (Tm.mkL (k + 5 + 2 * Tm.cns ks) ms))]]).length = P.length + 1 := by simp
    rw [e4, List.append_assoc] at ih
    exact ih
theorem heldClause_call (x : Cl) (k : Nat) (h1 : x.ls.length ≤ 10000000) (hk : k + mkN x.ls ≤ 100000000) : XC Try.prog 34 [.dat [.sl ((mkLis k x.ls).map Li.da)], Z (k : Int)] [] (Z ((k + mkN x.ls : Nat) : Int)) [] := by
  apply laws_heldClause_of
  refine ⟨_, laws_heldLitS_of ?_, ifB_f (decide_eq_false (by omega)) ⟨rfl, rfl⟩⟩
  have := heldLitS_loop x.ls [] k (by simp; omega) hk
  simpa using this
theorem toLitO_call (x : Li) (hc : x.cn ≤ 1048576) : XC Try.prog 62 [.dat x.da] [] (.agg [.d (.bool x.p), .d (.int .i64 x.l.f), .d (.int .i64 x.l.v), .ol 0, .d (.int .i64 x.r.f), .d (.int .i64 x.r.v), .ol 1]) [(0, .tr 30 3 (Tm.das x.l.ks)), (1, .tr 30 3 (Tm.das x.r.ks))] := by
  have h0 : x.cn = x.l.cn + x.r.cn := rfl
  have h1 := toTermO_call x.l (by omega)
  have h2 := toTermO_call x.r (by omega)
  obtain ⟨p, ⟨f, v, ks⟩, ⟨g, u, ms⟩⟩ := x
  apply laws_toLit_of
  exact ⟨_, _, _, h1, _, _, _, h2, rfl, rfl⟩
theorem toLitSO_call (l : List Li) (hc : cnL Li.cn l ≤ 1048576) : XC Try.prog 68 [L (l.map Li.da)] [] (.one (.ol 0)) [(0, .tr 61 7 (l.map Li.da))] := by
  have hl := cnL_len Li.cn l
  apply laws_toLitS_of
  refine ⟨l.length, l.length, by simp, by simp, ⟨by omega, by omega, by omega⟩, ?_⟩
  have key := loopUp (p := fun i => laws_toLitS_L3 (.one (.ol 0)) [(0, .tr 61 7 (l.map Li.da))] (l.map Li.da) (i : Int) ((l.map Li.da).take i ++ List.replicate ((l.map Li.da).length - i) [.bool false, .int .i64 0, .int .i64 0, .sl [], .int .i64 0, .int .i64 0, .sl []])) l.length ?_ ?_ 0 (Nat.zero_le _)
  · rw [List.take_zero, List.nil_append, Nat.sub_zero, List.length_map] at key
    exact key
  · apply laws_toLitS_L3_of
    refine ifB_f (lt_decF (by simp)) ⟨rfl, ?_⟩
    rw [fill_all rfl (by simp)]
  · intro i hi ih
    obtain ⟨x, hx⟩ := get_ex hi
    have hx1 := get_map (g := Li.da) hx
    have hm := cnL_mem (cn := Li.cn) (List.mem_of_getElem? hx)
    have hxc := toLitO_call x (by omega)
    have hd := Li.da_len x
    obtain ⟨p, ⟨f, v, ks⟩, ⟨g, u, ms⟩⟩ := x
    apply laws_toLitS_L3_of
    refine ifB_t (lt_dec (by simpa using hi)) ⟨i, rfl, _, _, _, _, _, _, _, hx1, _, _, _, _, _, _, _, hxc, i, rfl, ⟨by simp; omega⟩, i, by omega, _, _, _, _, _, _, _, fill_get rfl (by simpa using hi), ?_⟩
    rw [wr1 hi (by omega)]
    have he := fill_setE (z := [.bool false, .int .i64 0, .int .i64 0, .sl [], .int .i64 0, .int .i64 0, .sl []]) (n := (l.map Li.da).length) rfl hx1 hd rfl
    exact he ▸ ih
theorem toClauseO_call (x : Cl) (hc : x.cn ≤ 1048576) : XC Try.prog 28 [.dat x.da] [] (.agg [.ol 0]) [(0, .tr 61 7 (x.ls.map Li.da))] := by
  obtain ⟨ls⟩ := x
  apply laws_toClause_of
  exact ⟨_, toLitSO_call ls hc, rfl, rfl⟩
mutual
def Tm.sh (n : Int) : Tm → Tm
  | .mk f v ks => .mk f (if f = -1 then IntKind.wrap .i64 (v + n) else v) (Tm.shs n ks)
def Tm.shs (n : Int) : List Tm → List Tm
  | [] => []
  | t :: r => Tm.sh n t :: Tm.shs n r
end
mutual
theorem Tm.sh_cn (n : Int) : ∀ t : Tm, (Tm.sh n t).cn = t.cn
  | .mk f v ks => by simp only [Tm.sh, Tm.cn, Tm.shs_cn n ks]
theorem Tm.shs_cn (n : Int) : ∀ l : List Tm, Tm.cns (Tm.shs n l) = Tm.cns l
  | [] => rfl
  | t :: r => by simp only [Tm.shs, Tm.cns, Tm.sh_cn n t, Tm.shs_cn n r]
end
theorem Tm.shs_map (n : Int) (l : List Tm) : Tm.shs n l = l.map (Tm.sh n) := by induction l <;> simp_all [Tm.shs]
def Li.sh (n : Int) (x : Li) : Li := ⟨x.p, x.l.sh n, x.r.sh n⟩
def Cl.sh (n : Int) (x : Cl) : Cl := ⟨x.ls.map (Li.sh n)⟩
theorem mkN_sh (n : Int) (l : List Li) : mkN (l.map (Li.sh n)) = mkN l := by
  induction l with
  | nil => rfl
  | cons x r ih => simp only [List.map_cons, mkN, ih, Li.cn, Li.sh, Tm.sh_cn]

end AM
end Go.Proofs.Ytflfopedammhoaa
