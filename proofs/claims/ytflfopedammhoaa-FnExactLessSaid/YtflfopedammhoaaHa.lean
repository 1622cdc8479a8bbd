/- Contracts of functions of the program, out of what their texts ask; no conditions. -/
import Derived.Test.YtflfopedammhoaaPfB
import Derived.Test.YtflfopedammhoaaDt
import Derived.Test.YtflfopedammhoaaHr
set_option linter.unusedVariables false
set_option linter.unusedSimpArgs false
set_option maxRecDepth 100000
namespace Go.Proofs.Ytflfopedammhoaa
namespace AM
open Go Go.ChangeShapes Go.WideShapes Go.RowKit

theorem lft_lt {c d : Nat} {m : Int} (h : lft c m < 0) (hm : 0 ≤ m) : (-1 : Int) = lft (c + d) m := by unfold lft at h ⊢; split at h <;> split <;> omega
theorem lft_lt0 {c : Nat} {m : Int} (h : lft c m < 0) (hm : 0 ≤ m) : (-1 : Int) = lft c m := by unfold lft at h ⊢; split at h <;> omega
theorem lft_w {c : Nat} {m : Int} (h0 : 0 ≤ m) (h1 : m ≤ 1048576) (hc : c ≤ 281474976710656) (h : IntKind.wrap .i64 (m - (c : Int)) < 0) : (-1 : Int) = lft c m := by
  rw [wrI (by omega) (by omega)] at h
  unfold lft; rw [if_pos (by omega)]
theorem lft_w2 {c : Nat} {m : Int} (h0 : 0 ≤ m) (h1 : m ≤ 1048576) (hc : c ≤ 281474976710656) (h : ¬ IntKind.wrap .i64 (m - (c : Int)) < 0) : IntKind.wrap .i64 (m - (c : Int)) = lft c m := by
  rw [wrI (by omega) (by omega)] at h ⊢
  unfold lft; rw [if_neg (by omega)]
theorem zw {a b : Int} (h : a = b) : Z a = Z b ∧ ([] : List (Nat × Ob)) = [] := ⟨by rw [h], rfl⟩
theorem eqIntS_call (l : List Int) : XC Try.prog 37 [L (l.map In.da), L (l.map In.da)] [] (B true) [] := by
  refine xc_fit fun hfit => ?_
  have hlen : l.length ≤ 281474976710656 := by have := hfit.one.len; simpa using this
  apply laws_eqIntS_of
  refine ifB_f ne_decF ?_
  refine loopUp (p := fun i => laws_eqIntS_L4 (B true) [] (l.map In.da) (l.map In.da) (i : Int)) l.length ?_ (fun i hi ih => ?_) 0 (Nat.zero_le _)
  · apply laws_eqIntS_L4_of
    exact ifB_f (lt_decF (by simp)) ⟨rfl, rfl⟩
  · obtain ⟨x, hx⟩ := get_ex hi
    have hx1 := get_map (g := In.da) hx
    apply laws_eqIntS_L4_of
    refine ifB_t (lt_dec (by simpa using hi)) ⟨i, rfl, _, hx1, i, rfl, _, hx1, ifB_f ne_decF ?_⟩
    rw [wr1 hi hlen]
    exact ih
theorem szTermS_call (l : List Tm) (ih0 : ∀ t ∈ l, ∀ m : Int, 0 ≤ m → m ≤ 1048576 → XC Try.prog 15 [.dat t.da, Z m] [] (Z (lft t.cn m)) []) (left : Int) (h0 : 0 ≤ left) (h1 : left ≤ 1048576) : XC Try.prog 82 [L (Tm.das l), Z left] [] (Z (lft (Tm.cns l) left)) [] := by
  refine xc_fit fun hfit => ?_
  have hlen : l.length ≤ 281474976710656 := by have := hfit.one.len; rwa [das_len] at this
  apply laws_szTermS_of
  rw [das_len, wrI (by omega) (by omega)]
  refine ifB_d (fun h => ⟨?_, rfl⟩) fun h => ?_
  · rw [lft, if_pos (by have := Tm.cns_cnL l ▸ cnL_len Tm.cn l; omega)]
  · have key := loopUp (p := fun i => ∀ m : Int, 0 ≤ m → m ≤ 1048576 → laws_szTermS_L5 (Z (lft ((l.drop i).map Tm.cn).sum m)) [] (Tm.das l) m (i : Int)) l.length ?_ ?_ 0 (Nat.zero_le _)
    · have := key (left - l.length) (by omega) (by omega)
      have e : lft ((l.drop 0).map Tm.cn).sum (left - l.length) = lft (Tm.cns l) left := by
        rw [List.drop_zero, Tm.cns_cnL, cnL]; unfold lft; split <;> split <;> omega
      rw [e] at this
      exact this
    · intro m hm0 hm1
      apply laws_szTermS_L5_of
      refine ifB_f (lt_decF (by rw [das_len]; exact Nat.le_refl _)) ⟨?_, rfl⟩
      simp [lft]; omega
    · intro i hi ih m hm0 hm1
      obtain ⟨x, hx⟩ := get_ex hi
      have hx1 := get_das hx
      have hxc := ih0 x (List.mem_of_getElem? hx) m hm0 hm1
      have hdr : ((l.drop i).map Tm.cn).sum = Tm.cn x + ((l.drop (i + 1)).map Tm.cn).sum := by
        obtain ⟨hl, e⟩ := List.getElem?_eq_some_iff.1 hx
        rw [List.drop_eq_getElem_cons hl, e]; simp
      have hle := lft_le (n := Tm.cn x) (l := m) (by omega)
      rw [hdr]
      generalize Tm.cn x = cx at *
      obtain ⟨f, v, ks⟩ := x
      apply laws_szTermS_L5_of
      refine ifB_t (lt_dec (by rwa [das_len])) ⟨i, rfl, _, _, _, hx1, _, hxc, ?_⟩
      refine ifB_d (fun h => ⟨?_, rfl⟩) fun h => ?_
      · have := lft_neg h hm0
        rw [show lft (cx + ((l.drop (i + 1)).map Tm.cn).sum) m = -1 by unfold lft at h ⊢; split at h <;> split <;> omega]
      · rw [wr1 hi hlen, ← lft_lft (by omega)]
        exact ih _ (by omega) (by omega)

theorem szTerm_call (t : Tm) (m : Int) (h0 : 0 ≤ m) (h1 : m ≤ 1048576) : XC Try.prog 15 [.dat t.da, Z m] [] (Z (lft t.cn m)) [] := by
  induction t using Tm.ind generalizing m with
  | h f v ks ih =>
    apply laws_szTerm_of
    exact ⟨_, szTermS_call ks (fun t ht m h0 h1 => ih t ht m h0 h1) m h0 h1, ifB_d (fun h => zw (lft_lt0 h h0)) fun _ => ⟨rfl, rfl⟩⟩
theorem eqTermS_call (l : List Tm) (ih0 : ∀ t ∈ l, XC Try.prog 20 [.dat t.da, .dat t.da] [] (B true) []) : XC Try.prog 86 [L (Tm.das l), L (Tm.das l)] [] (B true) [] := by
  refine xc_fit fun hfit => ?_
  have hlen : l.length ≤ 281474976710656 := by have := hfit.one.len; rwa [das_len] at this
  apply laws_eqTermS_of
  refine ifB_f ne_decF ?_
  refine loopUp (p := fun i => laws_eqTermS_L4 (B true) [] (Tm.das l) (Tm.das l) (i : Int)) l.length ?_ (fun i hi ih => ?_) 0 (Nat.zero_le _)
  · apply laws_eqTermS_L4_of
    exact ifB_f (lt_decF (by rw [das_len]; exact Nat.le_refl _)) ⟨rfl, rfl⟩
  · obtain ⟨x, hx⟩ := get_ex hi
    have hx1 := get_das hx
    have hxc := ih0 x (List.mem_of_getElem? hx)
    obtain ⟨f, v, ks⟩ := x
    apply laws_eqTermS_L4_of
    refine ifB_t (lt_dec (by rwa [das_len])) ⟨i, rfl, _, _, _, hx1, i, rfl, _, _, _, hx1, _, hxc, ifB_f rfl ?_⟩
    rw [wr1 hi hlen]
    exact ih

theorem eqTerm_call (t : Tm) : XC Try.prog 20 [.dat t.da, .dat t.da] [] (B true) [] := by
  induction t using Tm.ind with
  | h f v ks ih =>
    apply laws_eqTerm_of
    exact ifB_f ne_decF (ifB_f ne_decF ⟨_, eqTermS_call ks ih, ifB_f rfl ⟨rfl, rfl⟩⟩)
mutual
def Tm.mkT : Nat → Tm → Tm
  | k, .mk _ _ ks => .mk k ((k + 1 : Nat) : Int) (Tm.mkL (k + 2) ks)
/-- Terms, marked from a number on. -/
def Tm.mkL : Nat → List Tm → List Tm
  | _, [] => []
  | k, t :: r => Tm.mkT k t :: Tm.mkL (k + 2 + 2 * t.cn) r
end
theorem wrN {k : Nat} (hk : k ≤ 281474976710656) (d : Nat) (hd : d ≤ 1000) : IntKind.wrap .i64 ((k : Int) + (d : Int)) = ((k + d : Nat) : Int) := by
  rw [wrI (by omega) (by omega)]; omega
theorem get_mid {α : Type} {P : List α} {x : α} {R : List α} : (P ++ x :: R)[P.length]? = some x := by simp
theorem set_mid {α : Type} {P : List α} {x y : α} {R : List α} : (P ++ x :: R).set P.length y = P ++ y :: R := by simp
theorem markTermS_loop : ∀ (l : List Tm), (∀ t ∈ l, ∀ k : Nat, k + 2 * t.cn ≤ 100000000 → XC Try.prog 87 [.one (.ol 2000), Z (k : Int)] [(2000, .mt 30 3 (Tm.das t.ks))] (Z ((k + 2 * t.cn : Nat) : Int)) [(2000, .mt 30 3 (Tm.das (Tm.mkL k t.ks)))]) →
    ∀ (P : List (List Da)) (k : Nat), P.length + l.length ≤ 100000000 → k + 2 * Tm.cns l ≤ 100000000 → laws_markTermS_L2 (Z ((k + 2 * Tm.cns l : Nat) : Int)) [(2000, .mt 30 3 (P ++ Tm.das (Tm.mkL k l)))] (k : Int) (P.length : Int) (P ++ Tm.das l)
  | [], _, P, k, _, _ => by
    apply laws_markTermS_L2_of
    refine ifB_f (decide_eq_false (by simp [Tm.das])) ⟨by simp [Tm.cns], by simp [Tm.mkL]⟩
  | .mk f v ks :: r, ih0, P, k, hl, hk => by
    have hcn : Tm.cns (.mk f v ks :: r) = 1 + Tm.cns ks + Tm.cns r := rfl
    rw [hcn] at hk
    simp only [List.length_cons] at hl
    have e1 : Tm.das (.mk f v ks :: r) = [.int .i64 f, .int .i64 v, .sl (Tm.das ks)] :: Tm.das r := rfl
    apply laws_markTermS_L2_of
    rw [e1]
    have w1 : IntKind.wrap .i64 ((k : Int) + 1) = ((k + 1 : Nat) : Int) := wrN (by omega) 1 (by omega)
    have w2 : IntKind.wrap .i64 (((k + 1 : Nat) : Int) + 1) = ((k + 2 : Nat) : Int) := wrN (by omega) 1 (by omega)
    have w3 : IntKind.wrap .i64 ((P.length : Int) + 1) = ((P.length + 1 : Nat) : Int) := wrN (by omega) 1 (by omega)
    rw [w1, w2, w3]
    have hlen : ∀ y : List Da, P.length < (P ++ y :: Tm.das r).length := fun y => by simp
    have hm := ih0 (.mk f v ks) (by simp) (k + 2) (by simp only [Tm.cn]; omega)
    refine ifB_t (decide_eq_true (by simp; omega)) ⟨P.length, rfl, ⟨hlen _⟩, P.length, rfl, _, _, _, get_mid, P.length, rfl, ⟨by rw [set_mid]; exact hlen _⟩, P.length, rfl, _, _, _, by rw [set_mid]; exact get_mid, P.length, rfl, ⟨by rw [set_mid, set_mid]; exact hlen _⟩, P.length, rfl, _, _, _, by rw [set_mid, set_mid]; exact get_mid, fun _ _ _ => ⟨⟨rfl, rfl, rfl⟩, _, _, _, by rw [set_mid, set_mid]; exact get_mid, ⟨fun y hy => ?_⟩, _, _, hm, ?_⟩⟩
    · rw [Tm.das_map] at hy
      obtain ⟨t, _, rfl⟩ := List.mem_map.1 hy
      exact Tm.da_len t
    · rw [set_mid, set_mid, set_mid]
      have ih := markTermS_loop r (fun t ht => ih0 t (List.mem_cons_of_mem _ ht)) (P ++ [[.int .i64 (k : Int), .int .i64 ((k + 1 : Nat) : Int), .sl (Tm.das (Tm.mkL (k + 2) ks))]]) (k + 2 + 2 * Tm.cns ks) (by simp; omega) (by omega)
      have e2 : Tm.das (Tm.mkL k (.mk f v ks :: r)) = [.int .i64 (k : Int), .int .i64 ((k + 1 : Nat) : Int), .sl (Tm.das (Tm.mkL (k + 2) ks))] :: Tm.das (Tm.mkL (k + 2 + 2 * Tm.cns ks) r) := rfl
      have e3 : k + 2 * Tm.cns (.mk f v ks :: r) = k + 2 + 2 * Tm.cns ks + 2 * Tm.cns r := by rw [hcn]; omega
      rw [e2, e3]
      simpa [List.append_assoc, Tm.cn, Tm.ks] using ih
theorem Tm.len_cns (l : List Tm) : l.length ≤ Tm.cns l := by
  rw [Tm.cns_cnL]; exact cnL_len _ _
theorem markTermS_call (t : Tm) : ∀ k : Nat, k + 2 * t.cn ≤ 100000000 → XC Try.prog 87 [.one (.ol 2000), Z (k : Int)] [(2000, .mt 30 3 (Tm.das t.ks))] (Z ((k + 2 * t.cn : Nat) : Int)) [(2000, .mt 30 3 (Tm.das (Tm.mkL k t.ks)))] := by
  induction t using Tm.ind with
  | h f v ks ih =>
  intro k hk
  apply laws_markTermS_of
  have h1 := Tm.len_cns ks
  have h2 : (Tm.mk f v ks).cn = Tm.cns ks := rfl
  rw [h2] at hk ⊢
  have := markTermS_loop ks (fun t ht => ih t ht) [] k (by simp; omega) hk
  simpa [Tm.ks] using this
theorem markTerm_call (t : Tm) (k : Nat) (hk : k + 2 * t.cn ≤ 100000000) : XC Try.prog 21 [.agg [.d (.int .i64 t.f), .d (.int .i64 t.v), .ol 2000], Z (k : Int)] [(2000, .mt 30 3 (Tm.das t.ks))] (Z ((k + 2 * t.cn : Nat) : Int)) [(2000, .mt 30 3 (Tm.das (Tm.mkL k t.ks)))] := by
  apply laws_markTerm_of
  exact ⟨_, _, markTermS_call t k hk, rfl, rfl⟩
theorem heldTermS_loop : ∀ (l : List Tm), (∀ t ∈ l, ∀ k : Nat, k + 2 * t.cn ≤ 100000000 → XC Try.prog 111 [L (Tm.das (Tm.mkL k t.ks)), Z (k : Int)] [] (Z ((k + 2 * t.cn : Nat) : Int)) []) →
    ∀ (P : List (List Da)) (k : Nat), P.length + l.length ≤ 100000000 → k + 2 * Tm.cns l ≤ 100000000 → laws_heldTermS_L2 (Z ((k + 2 * Tm.cns l : Nat) : Int)) [] (P ++ Tm.das (Tm.mkL k l)) (k : Int) (P.length : Int)
  | [], _, P, k, _, _ => by
    apply laws_heldTermS_L2_of
    refine ifB_f (decide_eq_false (by simp [Tm.das, Tm.mkL])) ⟨by simp [Tm.cns], rfl⟩
  | .mk f v ks :: r, ih0, P, k, hl, hk => by
    have hcn : Tm.cns (.mk f v ks :: r) = 1 + Tm.cns ks + Tm.cns r := rfl
    rw [hcn] at hk
    simp only [List.length_cons] at hl
    have e2 : Tm.das (Tm.mkL k (.mk f v ks :: r)) = [.int .i64 (k : Int), .int .i64 ((k + 1 : Nat) : Int), .sl (Tm.das (Tm.mkL (k + 2) ks))] :: Tm.das (Tm.mkL (k + 2 + 2 * Tm.cns ks) r) := rfl
    apply laws_heldTermS_L2_of
    rw [e2]
    have w1 : IntKind.wrap .i64 ((k : Int) + 1) = ((k + 1 : Nat) : Int) := wrN (by omega) 1 (by omega)
    have w2 : IntKind.wrap .i64 (((k + 1 : Nat) : Int) + 1) = ((k + 2 : Nat) : Int) := wrN (by omega) 1 (by omega)
    have w3 : IntKind.wrap .i64 ((P.length : Int) + 1) = ((P.length + 1 : Nat) : Int) := wrN (by omega) 1 (by omega)
    rw [w1, w2, w3]
    have hm := ih0 (.mk f v ks) (by simp) (k + 2) (by simp only [Tm.cn]; omega)
    refine ifB_t (decide_eq_true (by simp; omega)) ⟨P.length, rfl, _, _, _, get_mid, ifB_f (by simp) ⟨P.length, rfl, _, _, _, get_mid, ifB_f (by simp) ⟨P.length, rfl, _, _, _, get_mid, _, hm, ifB_f (decide_eq_false (by omega)) ?_⟩⟩⟩
    have ih := heldTermS_loop r (fun t ht => ih0 t (List.mem_cons_of_mem _ ht)) (P ++ [[.int .i64 (k : Int), .int .i64 ((k + 1 : Nat) : Int), .sl (Tm.das (Tm.mkL (k + 2) ks))]]) (k + 2 + 2 * Tm.cns ks) (by simp; omega) (by omega)
    have e3 : k + 2 * Tm.cns (.mk f v ks :: r) = k + 2 + 2 * Tm.cns ks + 2 * Tm.cns r := by rw [hcn]; omega
    rw [e3]
    simpa [List.append_assoc, Tm.cn, Tm.ks] using ih
theorem heldTermS_call (t : Tm) : ∀ k : Nat, k + 2 * t.cn ≤ 100000000 → XC Try.prog 111 [L (Tm.das (Tm.mkL k t.ks)), Z (k : Int)] [] (Z ((k + 2 * t.cn : Nat) : Int)) [] := by
  induction t using Tm.ind with
  | h f v ks ih =>
  intro k hk
  apply laws_heldTermS_of
  have h1 := Tm.len_cns ks
  have h2 : (Tm.mk f v ks).cn = Tm.cns ks := rfl
  rw [h2] at hk ⊢
  have := heldTermS_loop ks (fun t ht => ih t ht) [] k (by simp; omega) hk
  simpa [Tm.ks] using this
/-- Numbers, marked. -/
def mkI : Nat → List Int → List Int
  | _, [] => []
  | k, _ :: r => (k : Int) :: mkI (k + 1) r
theorem markIntS_loop : ∀ (l : List Int) (P : List (List Da)) (k : Nat), P.length + l.length ≤ 100000000 → k + l.length ≤ 281474976710656 → laws_markIntS_L2 (Z ((k + l.length : Nat) : Int)) [(2000, .mt 3 1 (P ++ (mkI k l).map In.da))] (k : Int) (P.length : Int) (P ++ l.map In.da)
  | [], P, k, _, _ => by
    apply laws_markIntS_L2_of
    exact ifB_f (decide_eq_false (by simp)) ⟨by simp, by simp [mkI]⟩
  | n :: r, P, k, hl, hk => by
    simp only [List.length_cons] at hl hk
    have e1 : (n :: r).map In.da = [.int .i64 n] :: r.map In.da := rfl
    apply laws_markIntS_L2_of
    rw [e1]
    have w1 : IntKind.wrap .i64 ((k : Int) + 1) = ((k + 1 : Nat) : Int) := wrN (by omega) 1 (by omega)
    have w3 : IntKind.wrap .i64 ((P.length : Int) + 1) = ((P.length + 1 : Nat) : Int) := wrN (by omega) 1 (by omega)
    rw [w1, w3]
    refine ifB_t (decide_eq_true (by simp; omega)) ⟨P.length, rfl, ⟨by simp⟩, P.length, rfl, _, get_mid, ?_⟩
    rw [set_mid]
    have ih := markIntS_loop r (P ++ [[.int .i64 (k : Int)]]) (k + 1) (by simp; omega) (by omega)
    have e2 : (mkI k (n :: r)).map In.da = [.int .i64 (k : Int)] :: (mkI (k + 1) r).map In.da := rfl
    rw [e2, show k + (n :: r).length = k + 1 + r.length by simp; omega]
    simpa [List.append_assoc] using ih
theorem markIntS_call (l : List Int) (k : Nat) (hl : l.length ≤ 100000000) (hk : k + l.length ≤ 281474976710656) : XC Try.prog 38 [.one (.ol 2000), Z (k : Int)] [(2000, .mt 3 1 (l.map In.da))] (Z ((k + l.length : Nat) : Int)) [(2000, .mt 3 1 ((mkI k l).map In.da))] := by
  apply laws_markIntS_of
  have := markIntS_loop l [] k (by simp; omega) hk
  simpa using this
theorem toIntSO_call (l : List Int) (hc : l.length ≤ 1048576) : XC Try.prog 46 [L (l.map In.da)] [] (.one (.ol 0)) [(0, .tr 3 1 (l.map In.da))] := by
  apply laws_toIntS_of
  refine ⟨l.length, l.length, by simp, by simp, ⟨by omega, by omega, by omega⟩, ?_⟩
  have key := loopUp (p := fun i => laws_toIntS_L3 (.one (.ol 0)) [(0, .tr 3 1 (l.map In.da))] (l.map In.da) (i : Int) ((l.map In.da).take i ++ List.replicate ((l.map In.da).length - i) [.int .i64 0])) l.length ?_ ?_ 0 (Nat.zero_le _)
  · rw [List.take_zero, List.nil_append, Nat.sub_zero, List.length_map] at key
    exact key
  · apply laws_toIntS_L3_of
    refine ifB_f (lt_decF (by simp)) ⟨rfl, ?_⟩
    rw [fill_all rfl (by simp)]
  · intro i hi ih
    obtain ⟨x, hx⟩ := get_ex hi
    have hx1 := get_map (g := In.da) hx
    apply laws_toIntS_L3_of
    refine ifB_t (lt_dec (by simpa using hi)) ⟨i, rfl, _, hx1, i, rfl, ⟨by simp; omega⟩, i, by omega, _, fill_get rfl (by simpa using hi), ?_⟩
    rw [wr1 hi (by omega)]
    have he := fill_setE (z := [.int .i64 0]) (n := (l.map In.da).length) rfl hx1 rfl rfl
    exact he ▸ ih
theorem toTermSO_call (l : List Tm) (hc : Tm.cns l ≤ 1048576) (ih0 : ∀ t ∈ l, t.cn ≤ 1048576 → XC Try.prog 17 [.dat t.da] [] (.agg [.d (.int .i64 t.f), .d (.int .i64 t.v), .ol 0]) [(0, .tr 30 3 (Tm.das t.ks))]) : XC Try.prog 84 [L (Tm.das l)] [] (.one (.ol 0)) [(0, .tr 30 3 (Tm.das l))] := by
  have hl := Tm.cns_cnL l ▸ cnL_len Tm.cn l
  apply laws_toTermS_of
  refine ⟨l.length, l.length, by rw [das_len], by rw [das_len], ⟨by omega, by omega, by omega⟩, ?_⟩
  have key := loopUp (p := fun i => laws_toTermS_L3 (.one (.ol 0)) [(0, .tr 30 3 (Tm.das l))] (Tm.das l) (i : Int) ((Tm.das l).take i ++ List.replicate ((Tm.das l).length - i) [.int .i64 0, .int .i64 0, .sl []])) l.length ?_ ?_ 0 (Nat.zero_le _)
  · rw [List.take_zero, List.nil_append, Nat.sub_zero, das_len] at key
    exact key
  · apply laws_toTermS_L3_of
    refine ifB_f (lt_decF (by rw [das_len]; exact Nat.le_refl _)) ⟨rfl, ?_⟩
    rw [fill_all rfl (by rw [das_len]; exact Nat.le_refl _)]
  · intro i hi ih
    obtain ⟨x, hx⟩ := get_ex hi
    have hx1 := get_das hx
    have hm := Tm.cns_cnL l ▸ cnL_mem (cn := Tm.cn) (List.mem_of_getElem? hx)
    have hxc := ih0 x (List.mem_of_getElem? hx) (by omega)
    have hd := Tm.da_len x
    obtain ⟨f, v, ks⟩ := x
    apply laws_toTermS_L3_of
    refine ifB_t (lt_dec (by rwa [das_len])) ⟨i, rfl, _, _, _, hx1, _, _, _, hxc, i, rfl, ⟨by rw [List.length_append, List.length_take, List.length_replicate, das_len]; omega⟩, i, by omega, _, _, _, fill_get rfl (by rwa [das_len]), ?_⟩
    rw [wr1 hi (by omega)]
    have he := fill_setE (z := [.int .i64 0, .int .i64 0, .sl []]) (n := (Tm.das l).length) rfl hx1 hd rfl
    exact he ▸ ih
theorem toTermO_call (t : Tm) (hc : t.cn ≤ 1048576) : XC Try.prog 17 [.dat t.da] [] (.agg [.d (.int .i64 t.f), .d (.int .i64 t.v), .ol 0]) [(0, .tr 30 3 (Tm.das t.ks))] := by
  induction t using Tm.ind with
  | h f v ks ih =>
    apply laws_toTerm_of
    exact ⟨_, toTermSO_call ks hc ih, rfl, rfl⟩
theorem l3Copy_loop (f v : Int) (ks : List Tm) (hc : ks.length ≤ 1048576) : ∀ (q p : List Tm), ks = p ++ q → (∀ t ∈ q, XC Try.prog 152 [.dat t.da] [] (.dat t.da) []) → spec_l3Copy_L3 (.dat (Tm.mk f v ks).da) [] (p.length : Int) f v (Tm.das ks) 0 0 f v (Tm.das p)
  | [], p, e, _ => by
    subst e
    apply spec_l3Copy_L3_of
    rw [List.append_nil]
    exact ifB_f (decide_eq_false (by rw [das_len]; omega)) ⟨rfl, rfl⟩
  | t :: q, p, e, ih0 => by
    have hpl : p.length < ks.length := by rw [e]; simp
    have hx : (Tm.das ks)[p.length]? = some t.da := get_das (by rw [e]; exact get_mid)
    have hcall := ih0 t (by simp)
    obtain ⟨g, u, ls⟩ := t
    apply spec_l3Copy_L3_of
    refine ifB_t (decide_eq_true (by rw [das_len]; omega)) ⟨p.length, rfl, _, _, _, hx, _, _, _, hcall, ⟨by rw [das_len]; simp; omega⟩, ?_⟩
    rw [wr1 hpl (by omega)]
    have ih := l3Copy_loop f v ks hc q (p ++ [.mk g u ls]) (by rw [e]; simp) fun t ht => ih0 t (List.mem_cons_of_mem _ ht)
    have e2 : Tm.das (p ++ [.mk g u ls]) = Tm.das p ++ [[.int .i64 g, .int .i64 u, .sl (Tm.das ls)]] := by rw [Tm.das_map, Tm.das_map]; simp [Tm.da]
    rw [e2] at ih
    simpa [Tm.f, Tm.v, Tm.ks] using ih
theorem l3Copy_call (t : Tm) (hc : t.cn ≤ 1048576) : XC Try.prog 152 [.dat t.da] [] (.dat t.da) [] := by
  induction t using Tm.ind with
  | h f v ks ih =>
    have h1 := Tm.len_cns ks
    have h2 : (Tm.mk f v ks).cn = Tm.cns ks := rfl
    apply spec_l3Copy_of
    refine l3Copy_loop f v ks (by omega) ks [] rfl fun t ht => ih t ht ?_
    have := cnL_mem (cn := Tm.cn) ht
    rw [← Tm.cns_cnL] at this
    omega
theorem copyTerms_loop (ks : List Tm) (hc : ks.length ≤ 1048576) : ∀ (q p : List Tm), ks = p ++ q → (∀ t ∈ q, XC Try.prog 117 [.dat t.da] [] (.agg [.d (.int .i64 t.f), .d (.int .i64 t.v), .ol 0]) [(0, .tr 30 3 (Tm.das t.ks))]) → impl_copyTerms_L3 (.one (.ol 0)) [(0, .tr 30 3 (Tm.das ks))] (Tm.das ks) (ks.length : Int) (p.length : Int) (Tm.das p)
  | [], p, e, _ => by
    subst e
    apply impl_copyTerms_L3_of
    rw [List.append_nil]
    exact ifB_f (decide_eq_false (by omega)) ⟨rfl, rfl⟩
  | t :: q, p, e, ih0 => by
    have hpl : p.length < ks.length := by rw [e]; simp
    have hx : (Tm.das ks)[p.length]? = some t.da := get_das (by rw [e]; exact get_mid)
    have hcall := ih0 t (by simp)
    obtain ⟨g, u, ls⟩ := t
    apply impl_copyTerms_L3_of
    refine ifB_t (decide_eq_true (by omega)) ⟨p.length, rfl, _, _, _, hx, _, _, _, hcall, ⟨by rw [das_len]; simp; omega⟩, ?_⟩
    rw [wr1 hpl (by omega)]
    have ih := copyTerms_loop ks hc q (p ++ [.mk g u ls]) (by rw [e]; simp) fun t ht => ih0 t (List.mem_cons_of_mem _ ht)
    have e2 : Tm.das (p ++ [.mk g u ls]) = Tm.das p ++ [[.int .i64 g, .int .i64 u, .sl (Tm.das ls)]] := by rw [Tm.das_map, Tm.das_map]; simp [Tm.da]
    rw [e2] at ih
    simpa [Tm.f, Tm.v, Tm.ks] using ih
theorem copyTerm_call (t : Tm) (hc : t.cn ≤ 1048576) : XC Try.prog 117 [.dat t.da] [] (.agg [.d (.int .i64 t.f), .d (.int .i64 t.v), .ol 0]) [(0, .tr 30 3 (Tm.das t.ks))] := by
  induction t using Tm.ind with
  | h f v ks ih =>
    have h1 := Tm.len_cns ks
    have h2 : (Tm.mk f v ks).cn = Tm.cns ks := rfl
    apply impl_copyTerm_of
    refine ⟨_, impl_copyTerms_of ?_, rfl, rfl⟩
    rw [das_len]
    refine copyTerms_loop ks (by omega) ks [] rfl fun t ht => ih t ht ?_
    have := cnL_mem (cn := Tm.cn) ht
    rw [← Tm.cns_cnL] at this
    omega
theorem l1InA_call (x lo hi : Int) : XC Try.prog 141 [Z x, Z lo, Z hi] [] (B (decide (lo ≤ x) && decide (x ≤ hi))) [] := by
  apply spec_l1In_of
  exact ifB_d (fun h => ⟨by simp [h], rfl⟩) fun h => ⟨by simp [h], rfl⟩
theorem fromA_call (x lo hi : Int) : XC Try.prog 145 [Z x, Z lo, Z hi] [] (B (decide (lo ≤ x) && decide (x ≤ hi))) [] := by
  apply impl_from_of
  exact ifB_d (fun h => ⟨by simp [h], rfl⟩) fun h => ⟨by simp [h], rfl⟩
/-- The term at a place. -/
def atR : List Int → Tm → Tm × Bool
  | [], t => (t, true)
  | n :: r, t => if 0 ≤ n ∧ n ≤ (t.ks.length : Int) - 1 then (match t.ks[n.toNat]? with
    | some u => atR r u
    | none => (.mk 0 0 [], false)) else (.mk 0 0 [], false)
theorem atR_cn : ∀ (q : List Int) (t : Tm), (atR q t).1.cn ≤ t.cn
  | [], t => Nat.le_refl _
  | n :: r, t => by
    simp only [atR]
    split
    · split
      · rename_i u hu
        have h1 := atR_cn r u
        have h2 := cnL_mem (cn := Tm.cn) (List.mem_of_getElem? hu)
        rw [← Tm.cns_cnL] at h2
        have h3 : t.cn = Tm.cns t.ks := by cases t; rfl
        omega
      · exact Nat.zero_le _
    · exact Nat.zero_le _
theorem cn_kidA {t u : Tm} {m : Nat} (h : t.ks[m]? = some u) : u.cn ≤ t.cn ∧ t.ks.length ≤ t.cn := by
  have h2 := cnL_mem (cn := Tm.cn) (List.mem_of_getElem? h)
  rw [← Tm.cns_cnL] at h2
  have h3 : t.cn = Tm.cns t.ks := by cases t; rfl
  omega
theorem ks_cn (t : Tm) : t.ks.length ≤ t.cn := by
  have h3 : t.cn = Tm.cns t.ks := by cases t; rfl
  rw [h3]; exact Tm.len_cns _

end AM
end Go.Proofs.Ytflfopedammhoaa
