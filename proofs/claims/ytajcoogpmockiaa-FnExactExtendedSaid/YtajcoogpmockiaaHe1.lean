/- Contracts of functions of the program, out of what their texts ask; no conditions. -/
import Derived.Test.YtajcoogpmockiaaPeA
import Derived.Test.YtajcoogpmockiaaDt
import Derived.Test.YtajcoogpmockiaaHr
import Derived.Test.YtajcoogpmockiaaTg
set_option linter.unusedVariables false
set_option linter.unusedSimpArgs false
set_option maxRecDepth 100000
namespace Go.Proofs.Ytajcoogpmockiaa
namespace AM
open Go Go.ChangeShapes Go.WideShapes Go.RowKit

theorem lft_lt {c d : Nat} {m : Int} (h : lft c m < 0) (hm : 0 ≤ m) : (-1 : Int) = lft (c + d) m := by unfold lft at h ⊢; split at h <;> split <;> omega
theorem lft_lt0 {c : Nat} {m : Int} (h : lft c m < 0) (hm : 0 ≤ m) : (-1 : Int) = lft c m := by unfold lft at h ⊢; split at h <;> omega
theorem lft_w {c : Nat} {m : Int} (h0 : 0 ≤ m) (h1 : m ≤ 1048576) (hc : c ≤ 281474976710656) (h : IntKind.wrap .i64 (m - (c : Int)) < 0) : (-1 : Int) = lft c m := by
  rw [wrI (by omega) (by omega)] at h
  unfold lft; rw [if_pos (by omega)]
theorem lft_w2 {c : Nat} {m : Int} (h0 : 0 ≤ m) (h1 : m ≤ 1048576) (hc : c ≤ 281474976710656) (h : ¬ IntKind.wrap .i64 (m - (c : Int)) < 0) : IntKind.wrap .i64 (m - (c : Int)) = lft c m := by
  rw [wrI (by omega) (by omega)] at h ⊢
  unfold lft; rw [if_neg (by omega)]
theorem zw {a b : Int} (h : a = b) : Z a = Z b ∧ ([] : List (Nat × Ob)) = [] := ⟨by rw [h], rfl⟩
theorem eqIntS_call (l : List Int) : XC Try.prog 18 [L (l.map In.da), L (l.map In.da)] [] (B true) [] := by
  refine xc_fit fun hfit => ?_
  have hlen : l.length ≤ 281474976710656 := by have := hfit.one.len; simpa using this
  apply laws_eqIntS_of
  refine ifB_f ne_decF ?_
  refine loopUp (p := fun i => laws_eqIntS_L4 (B true) [] (l.map In.da) (l.map In.da) (i : Int)) l.length ?_ (fun i hi ih => ?_) 0 (Nat.zero_le _)
  · apply laws_eqIntS_L4_of
    exact ifB_f (lt_decF (by simp)) ⟨rfl, rfl⟩
  · obtain ⟨x, hx⟩ := get_ex hi
    have hx1 := get_map (g := In.da) hx
    apply laws_eqIntS_L4_of
    refine ifB_t (lt_dec (by simpa using hi)) ⟨i, rfl, _, hx1, i, rfl, _, hx1, ifB_f ne_decF ?_⟩
    rw [wr1 hi hlen]
    exact ih
theorem szTermS_call (l : List Tm) (ih0 : ∀ t ∈ l, ∀ m : Int, 0 ≤ m → m ≤ 1048576 → XC Try.prog 10 [.dat t.da, Z m] [] (Z (lft t.cn m)) []) (left : Int) (h0 : 0 ≤ left) (h1 : left ≤ 1048576) : XC Try.prog 57 [L (Tm.das l), Z left] [] (Z (lft (Tm.cns l) left)) [] := by
  refine xc_fit fun hfit => ?_
  have hlen : l.length ≤ 281474976710656 := by have := hfit.one.len; rwa [das_len] at this
  apply laws_szTermS_of
  rw [das_len, wrI (by omega) (by omega)]
  refine ifB_d (fun h => ⟨?_, rfl⟩) fun h => ?_
  · rw [lft, if_pos (by have := Tm.cns_cnL l ▸ cnL_len Tm.cn l; omega)]
  · have key := loopUp (p := fun i => ∀ m : Int, 0 ≤ m → m ≤ 1048576 → laws_szTermS_L5 (Z (lft ((l.drop i).map Tm.cn).sum m)) [] (Tm.das l) m (i : Int)) l.length ?_ ?_ 0 (Nat.zero_le _)
    · have := key (left - l.length) (by omega) (by omega)
      have e : lft ((l.drop 0).map Tm.cn).sum (left - l.length) = lft (Tm.cns l) left := by
        rw [List.drop_zero, Tm.cns_cnL, cnL]; unfold lft; split <;> split <;> omega
      rw [e] at this
      exact this
    · intro m hm0 hm1
      apply laws_szTermS_L5_of
      refine ifB_f (lt_decF (by rw [das_len]; exact Nat.le_refl _)) ⟨?_, rfl⟩
      simp [lft]; omega
    · intro i hi ih m hm0 hm1
      obtain ⟨x, hx⟩ := get_ex hi
      have hx1 := get_das hx
      have hxc := ih0 x (List.mem_of_getElem? hx) m hm0 hm1
      have hdr : ((l.drop i).map Tm.cn).sum = Tm.cn x + ((l.drop (i + 1)).map Tm.cn).sum := by
        obtain ⟨hl, e⟩ := List.getElem?_eq_some_iff.1 hx
        rw [List.drop_eq_getElem_cons hl, e]; simp
      have hle := lft_le (n := Tm.cn x) (l := m) (by omega)
      rw [hdr]
      generalize Tm.cn x = cx at *
      obtain ⟨f, v, ks⟩ := x
      apply laws_szTermS_L5_of
      refine ifB_t (lt_dec (by rwa [das_len])) ⟨i, rfl, _, _, _, hx1, _, hxc, ?_⟩
      refine ifB_d (fun h => ⟨?_, rfl⟩) fun h => ?_
      · have := lft_neg h hm0
        rw [show lft (cx + ((l.drop (i + 1)).map Tm.cn).sum) m = -1 by unfold lft at h ⊢; split at h <;> split <;> omega]
      · rw [wr1 hi hlen, ← lft_lft (by omega)]
        exact ih _ (by omega) (by omega)

theorem szTerm_call (t : Tm) (m : Int) (h0 : 0 ≤ m) (h1 : m ≤ 1048576) : XC Try.prog 10 [.dat t.da, Z m] [] (Z (lft t.cn m)) [] := by
  induction t using Tm.ind generalizing m with
  | h f v ks ih =>
    apply laws_szTerm_of
    exact ⟨_, szTermS_call ks (fun t ht m h0 h1 => ih t ht m h0 h1) m h0 h1, ifB_d (fun h => zw (lft_lt0 h h0)) fun _ => ⟨rfl, rfl⟩⟩
theorem eqTermS_call (l : List Tm) (ih0 : ∀ t ∈ l, XC Try.prog 16 [.dat t.da, .dat t.da] [] (B true) []) : XC Try.prog 66 [L (Tm.das l), L (Tm.das l)] [] (B true) [] := by
  refine xc_fit fun hfit => ?_
  have hlen : l.length ≤ 281474976710656 := by have := hfit.one.len; rwa [das_len] at this
  apply laws_eqTermS_of
  refine ifB_f ne_decF ?_
  refine loopUp (p := fun i => laws_eqTermS_L4 (B true) [] (Tm.das l) (Tm.das l) (i : Int)) l.length ?_ (fun i hi ih => ?_) 0 (Nat.zero_le _)
  · apply laws_eqTermS_L4_of
    exact ifB_f (lt_decF (by rw [das_len]; exact Nat.le_refl _)) ⟨rfl, rfl⟩
  · obtain ⟨x, hx⟩ := get_ex hi
    have hx1 := get_das hx
    have hxc := ih0 x (List.mem_of_getElem? hx)
    obtain ⟨f, v, ks⟩ := x
    apply laws_eqTermS_L4_of
    refine ifB_t (lt_dec (by rwa [das_len])) ⟨i, rfl, _, _, _, hx1, i, rfl, _, _, _, hx1, _, hxc, ifB_f rfl ?_⟩
    rw [wr1 hi hlen]
    exact ih

theorem eqTerm_call (t : Tm) : XC Try.prog 16 [.dat t.da, .dat t.da] [] (B true) [] := by
  induction t using Tm.ind with
  | h f v ks ih =>
    apply laws_eqTerm_of
    exact ifB_f ne_decF (ifB_f ne_decF ⟨_, eqTermS_call ks ih, ifB_f rfl ⟨rfl, rfl⟩⟩)
mutual
def Tm.mkT : Nat → Tm → Tm
  | k, .mk _ _ ks => .mk k ((k + 1 : Nat) : Int) (Tm.mkL (k + 2) ks)
/-- Terms, marked from a number on. -/
def Tm.mkL : Nat → List Tm → List Tm
  | _, [] => []
  | k, t :: r => Tm.mkT k t :: Tm.mkL (k + 2 + 2 * t.cn) r
end
theorem wrN {k : Nat} (hk : k ≤ 281474976710656) (d : Nat) (hd : d ≤ 1000) : IntKind.wrap .i64 ((k : Int) + (d : Int)) = ((k + d : Nat) : Int) := by
  rw [wrI (by omega) (by omega)]; omega
theorem get_mid {α : Type} {P : List α} {x : α} {R : List α} : (P ++ x :: R)[P.length]? = some x := by simp
theorem set_mid {α : Type} {P : List α} {x y : α} {R : List α} : (P ++ x :: R).set P.length y = P ++ y :: R := by simp
theorem Tm.len_cns (l : List Tm) : l.length ≤ Tm.cns l := by
  rw [Tm.cns_cnL]; exact cnL_len _ _
theorem markTermS_loop : ∀ (l : List Tm), (∀ t ∈ l, ∀ k : Nat, k + 2 * t.cn ≤ 10000000000000 → XC Try.prog 69 [.one (.ol 2000), Z (k : Int)] [(2000, .mt 31 3 (Tm.das t.ks))] (Z ((k + 2 * t.cn : Nat) : Int)) [(2000, .mt 31 3 (Tm.das (Tm.mkL k t.ks)))]) →
    ∀ (P : List (List Da)) (k : Nat), P.length + l.length ≤ 10000000000000 → k + 2 * Tm.cns l ≤ 10000000000000 → laws_markTermS_L2 (Z ((k + 2 * Tm.cns l : Nat) : Int)) [(2000, .mt 31 3 (P ++ Tm.das (Tm.mkL k l)))] (k : Int) (P.length : Int) (P ++ Tm.das l)
  | [], _, P, k, _, _ => by
    apply laws_markTermS_L2_of
    refine ifB_f (decide_eq_false (by simp [Tm.das])) ⟨by simp [Tm.cns], by simp [Tm.mkL]⟩
  | .mk f v ks :: r, ih0, P, k, hl, hk => by
    have hcn : Tm.cns (.mk f v ks :: r) = 1 + Tm.cns ks + Tm.cns r := rfl
    rw [hcn] at hk
    simp only [List.length_cons] at hl
    have e1 : Tm.das (.mk f v ks :: r) = [.int .i64 f, .int .i64 v, .sl (Tm.das ks)] :: Tm.das r := rfl
    apply laws_markTermS_L2_of
    rw [e1]
    have w1 : IntKind.wrap .i64 ((k : Int) + 1) = ((k + 1 : Nat) : Int) := wrN (by omega) 1 (by omega)
    have w2 : IntKind.wrap .i64 (((k + 1 : Nat) : Int) + 1) = ((k + 2 : Nat) : Int) := wrN (by omega) 1 (by omega)
    have w3 : IntKind.wrap .i64 ((P.length : Int) + 1) = ((P.length + 1 : Nat) : Int) := wrN (by omega) 1 (by omega)
    rw [w1, w2, w3]
    have hlen : ∀ y : List Da, P.length < (P ++ y :: Tm.das r).length := fun y => by simp
    have hm := ih0 (.mk f v ks) (by simp) (k + 2) (by simp only [Tm.cn]; omega)
    refine ifB_t (decide_eq_true (by simp; omega)) ⟨P.length, rfl, ⟨hlen _⟩, P.length, rfl, _, _, _, get_mid, P.length, rfl, ⟨by rw [set_mid]; exact hlen _⟩, P.length, rfl, _, _, _, by rw [set_mid]; exact get_mid, P.length, rfl, ⟨by rw [set_mid, set_mid]; exact hlen _⟩, P.length, rfl, _, _, _, by rw [set_mid, set_mid]; exact get_mid, fun _ _ _ => ⟨⟨rfl, rfl, rfl⟩, _, _, _, by rw [set_mid, set_mid]; exact get_mid, ⟨fun y hy => ?_⟩, _, _, hm, ?_⟩⟩
    · rw [Tm.das_map] at hy
      obtain ⟨t, _, rfl⟩ := List.mem_map.1 hy
      exact Tm.da_len t
    · rw [set_mid, set_mid, set_mid]
      have ih := markTermS_loop r (fun t ht => ih0 t (List.mem_cons_of_mem _ ht)) (P ++ [[.int .i64 (k : Int), .int .i64 ((k + 1 : Nat) : Int), .sl (Tm.das (Tm.mkL (k + 2) ks))]]) (k + 2 + 2 * Tm.cns ks) (by simp; omega) (by omega)
      have e2 : Tm.das (Tm.mkL k (.mk f v ks :: r)) = [.int .i64 (k : Int), .int .i64 ((k + 1 : Nat) : Int), .sl (Tm.das (Tm.mkL (k + 2) ks))] :: Tm.das (Tm.mkL (k + 2 + 2 * Tm.cns ks) r) := rfl
      have e3 : k + 2 * Tm.cns (.mk f v ks :: r) = k + 2 + 2 * Tm.cns ks + 2 * Tm.cns r := by rw [hcn]; omega
      rw [e2, e3]
      simpa [List.append_assoc, Tm.cn, Tm.ks] using ih
theorem markTermS_call (t : Tm) : ∀ k : Nat, k + 2 * t.cn ≤ 10000000000000 → XC Try.prog 69 [.one (.ol 2000), Z (k : Int)] [(2000, .mt 31 3 (Tm.das t.ks))] (Z ((k + 2 * t.cn : Nat) : Int)) [(2000, .mt 31 3 (Tm.das (Tm.mkL k t.ks)))] := by
  induction t using Tm.ind with
  | h f v ks ih =>
  intro k hk
  apply laws_markTermS_of
  have h1 := Tm.len_cns ks
  have h2 : (Tm.mk f v ks).cn = Tm.cns ks := rfl
  rw [h2] at hk ⊢
  have := markTermS_loop ks (fun t ht => ih t ht) [] k (by simp; omega) hk
  simpa [Tm.ks] using this
theorem markTerm_call (t : Tm) (k : Nat) (hk : k + 2 * t.cn ≤ 10000000000000) : XC Try.prog 20 [.agg [.d (.int .i64 t.f), .d (.int .i64 t.v), .ol 2000], Z (k : Int)] [(2000, .mt 31 3 (Tm.das t.ks))] (Z ((k + 2 * t.cn : Nat) : Int)) [(2000, .mt 31 3 (Tm.das (Tm.mkL k t.ks)))] := by
  apply laws_markTerm_of
  exact ⟨_, _, markTermS_call t k hk, rfl, rfl⟩
theorem heldTermS_loop : ∀ (l : List Tm), (∀ t ∈ l, ∀ k : Nat, k + 2 * t.cn ≤ 10000000000000 → XC Try.prog 70 [L (Tm.das (Tm.mkL k t.ks)), Z (k : Int)] [] (Z ((k + 2 * t.cn : Nat) : Int)) []) →
    ∀ (P : List (List Da)) (k : Nat), P.length + l.length ≤ 10000000000000 → k + 2 * Tm.cns l ≤ 10000000000000 → laws_heldTermS_L2 (Z ((k + 2 * Tm.cns l : Nat) : Int)) [] (P ++ Tm.das (Tm.mkL k l)) (k : Int) (P.length : Int)
  | [], _, P, k, _, _ => by
    apply laws_heldTermS_L2_of
    refine ifB_f (decide_eq_false (by simp [Tm.das, Tm.mkL])) ⟨by simp [Tm.cns], rfl⟩
  | .mk f v ks :: r, ih0, P, k, hl, hk => by
    have hcn : Tm.cns (.mk f v ks :: r) = 1 + Tm.cns ks + Tm.cns r := rfl
    rw [hcn] at hk
    simp only [List.length_cons] at hl
    have e2 : Tm.das (Tm.mkL k (.mk f v ks :: r)) = [.int .i64 (k : Int), .int .i64 ((k + 1 : Nat) : Int), .sl (Tm.das (Tm.mkL (k + 2) ks))] :: Tm.das (Tm.mkL (k + 2 + 2 * Tm.cns ks) r) := rfl
    apply laws_heldTermS_L2_of
    rw [e2]
    have w1 : IntKind.wrap .i64 ((k : Int) + 1) = ((k + 1 : Nat) : Int) := wrN (by omega) 1 (by omega)
    have w2 : IntKind.wrap .i64 (((k + 1 : Nat) : Int) + 1) = ((k + 2 : Nat) : Int) := wrN (by omega) 1 (by omega)
    have w3 : IntKind.wrap .i64 ((P.length : Int) + 1) = ((P.length + 1 : Nat) : Int) := wrN (by omega) 1 (by omega)
    rw [w1, w2, w3]
    have hm := ih0 (.mk f v ks) (by simp) (k + 2) (by simp only [Tm.cn]; omega)
    refine ifB_t (decide_eq_true (by simp; omega)) ⟨P.length, rfl, _, _, _, get_mid, ifB_f (by simp) ⟨P.length, rfl, _, _, _, get_mid, ifB_f (by simp) ⟨P.length, rfl, _, _, _, get_mid, _, hm, ifB_f (decide_eq_false (by omega)) ?_⟩⟩⟩
    have ih := heldTermS_loop r (fun t ht => ih0 t (List.mem_cons_of_mem _ ht)) (P ++ [[.int .i64 (k : Int), .int .i64 ((k + 1 : Nat) : Int), .sl (Tm.das (Tm.mkL (k + 2) ks))]]) (k + 2 + 2 * Tm.cns ks) (by simp; omega) (by omega)
    have e3 : k + 2 * Tm.cns (.mk f v ks :: r) = k + 2 + 2 * Tm.cns ks + 2 * Tm.cns r := by rw [hcn]; omega
    rw [e3]
    simpa [List.append_assoc, Tm.cn, Tm.ks] using ih
theorem heldTermS_call (t : Tm) : ∀ k : Nat, k + 2 * t.cn ≤ 10000000000000 → XC Try.prog 70 [L (Tm.das (Tm.mkL k t.ks)), Z (k : Int)] [] (Z ((k + 2 * t.cn : Nat) : Int)) [] := by
  induction t using Tm.ind with
  | h f v ks ih =>
  intro k hk
  apply laws_heldTermS_of
  have h1 := Tm.len_cns ks
  have h2 : (Tm.mk f v ks).cn = Tm.cns ks := rfl
  rw [h2] at hk ⊢
  have := heldTermS_loop ks (fun t ht => ih t ht) [] k (by simp; omega) hk
  simpa [Tm.ks] using this
theorem heldTerm_call (t : Tm) (k : Nat) (hk : k + 2 * t.cn ≤ 10000000000000) : XC Try.prog 22 [.dat [.int .i64 t.f, .int .i64 t.v, .sl (Tm.das (Tm.mkL k t.ks))], Z (k : Int)] [] (Z ((k + 2 * t.cn : Nat) : Int)) [] := by
  apply laws_heldTerm_of
  exact ⟨_, heldTermS_call t k hk, ifB_f (decide_eq_false (by omega)) ⟨rfl, rfl⟩⟩
/-- Numbers, marked. -/
def mkI : Nat → List Int → List Int
  | _, [] => []
  | k, _ :: r => (k : Int) :: mkI (k + 1) r
theorem markIntS_loop : ∀ (l : List Int) (P : List (List Da)) (k : Nat), P.length + l.length ≤ 10000000000000 → k + l.length ≤ 281474976710656 → laws_markIntS_L2 (Z ((k + l.length : Nat) : Int)) [(2000, .mt 3 1 (P ++ (mkI k l).map In.da))] (k : Int) (P.length : Int) (P ++ l.map In.da)
  | [], P, k, _, _ => by
    apply laws_markIntS_L2_of
    exact ifB_f (decide_eq_false (by simp)) ⟨by simp, by simp [mkI]⟩
  | n :: r, P, k, hl, hk => by
    simp only [List.length_cons] at hl hk
    have e1 : (n :: r).map In.da = [.int .i64 n] :: r.map In.da := rfl
    apply laws_markIntS_L2_of
    rw [e1]
    have w1 : IntKind.wrap .i64 ((k : Int) + 1) = ((k + 1 : Nat) : Int) := wrN (by omega) 1 (by omega)
    have w3 : IntKind.wrap .i64 ((P.length : Int) + 1) = ((P.length + 1 : Nat) : Int) := wrN (by omega) 1 (by omega)
    rw [w1, w3]
    refine ifB_t (decide_eq_true (by simp; omega)) ⟨P.length, rfl, ⟨by simp⟩, P.length, rfl, _, get_mid, ?_⟩
    rw [set_mid]
    have ih := markIntS_loop r (P ++ [[.int .i64 (k : Int)]]) (k + 1) (by simp; omega) (by omega)
    have e2 : (mkI k (n :: r)).map In.da = [.int .i64 (k : Int)] :: (mkI (k + 1) r).map In.da := rfl
    rw [e2, show k + (n :: r).length = k + 1 + r.length by simp; omega]
    simpa [List.append_assoc] using ih
theorem markIntS_call (l : List Int) (k : Nat) (hl : l.length ≤ 10000000000000) (hk : k + l.length ≤ 281474976710656) : XC Try.prog 21 [.one (.ol 2000), Z (k : Int)] [(2000, .mt 3 1 (l.map In.da))] (Z ((k + l.length : Nat) : Int)) [(2000, .mt 3 1 ((mkI k l).map In.da))] := by
  apply laws_markIntS_of
  have := markIntS_loop l [] k (by simp; omega) hk
  simpa using this
theorem toIntSO_call (l : List Int) (hc : l.length ≤ 1048576) : XC Try.prog 14 [L (l.map In.da)] [] (.one (.ol 0)) [(0, .tr 3 1 (l.map In.da))] := by
  apply laws_toIntS_of
  refine ⟨l.length, l.length, by simp, by simp, ⟨by omega, by omega, by omega⟩, ?_⟩
  have key := loopUp (p := fun i => laws_toIntS_L3 (.one (.ol 0)) [(0, .tr 3 1 (l.map In.da))] (l.map In.da) (i : Int) ((l.map In.da).take i ++ List.replicate ((l.map In.da).length - i) [.int .i64 0])) l.length ?_ ?_ 0 (Nat.zero_le _)
  · rw [List.take_zero, List.nil_append, Nat.sub_zero, List.length_map] at key
    exact key
  · apply laws_toIntS_L3_of
    refine ifB_f (lt_decF (by simp)) ⟨rfl, ?_⟩
    rw [fill_all rfl (by simp)]
  · intro i hi ih
    obtain ⟨x, hx⟩ := get_ex hi
    have hx1 := get_map (g := In.da) hx
    apply laws_toIntS_L3_of
    refine ifB_t (lt_dec (by simpa using hi)) ⟨i, rfl, _, hx1, i, rfl, ⟨by simp; omega⟩, i, by omega, _, fill_get rfl (by simpa using hi), ?_⟩
    rw [wr1 hi (by omega)]
    have he := fill_setE (z := [.int .i64 0]) (n := (l.map In.da).length) rfl hx1 rfl rfl
    exact he ▸ ih
theorem toTermSO_call (l : List Tm) (hc : Tm.cns l ≤ 1048576) (ih0 : ∀ t ∈ l, t.cn ≤ 1048576 → XC Try.prog 13 [.dat t.da] [] (.agg [.d (.int .i64 t.f), .d (.int .i64 t.v), .ol 0]) [(0, .tr 31 3 (Tm.das t.ks))]) : XC Try.prog 62 [L (Tm.das l)] [] (.one (.ol 0)) [(0, .tr 31 3 (Tm.das l))] := by
  have hl := Tm.cns_cnL l ▸ cnL_len Tm.cn l
  apply laws_toTermS_of
  refine ⟨l.length, l.length, by rw [das_len], by rw [das_len], ⟨by omega, by omega, by omega⟩, ?_⟩
  have key := loopUp (p := fun i => laws_toTermS_L3 (.one (.ol 0)) [(0, .tr 31 3 (Tm.das l))] (Tm.das l) (i : Int) ((Tm.das l).take i ++ List.replicate ((Tm.das l).length - i) [.int .i64 0, .int .i64 0, .sl []])) l.length ?_ ?_ 0 (Nat.zero_le _)
  · rw [List.take_zero, List.nil_append, Nat.sub_zero, das_len] at key
    exact key
  · apply laws_toTermS_L3_of
    refine ifB_f (lt_decF (by rw [das_len]; exact Nat.le_refl _)) ⟨rfl, ?_⟩
    rw [fill_all rfl (by rw [das_len]; exact Nat.le_refl _)]
  · intro i hi ih
    obtain ⟨x, hx⟩ := get_ex hi
    have hx1 := get_das hx
    have hm := Tm.cns_cnL l ▸ cnL_mem (cn := Tm.cn) (List.mem_of_getElem? hx)
    have hxc := ih0 x (List.mem_of_getElem? hx) (by omega)
    have hd := Tm.da_len x
    obtain ⟨f, v, ks⟩ := x
    apply laws_toTermS_L3_of
    refine ifB_t (lt_dec (by rwa [das_len])) ⟨i, rfl, _, _, _, hx1, _, _, _, hxc, i, rfl, ⟨by rw [List.length_append, List.length_take, List.length_replicate, das_len]; omega⟩, i, by omega, _, _, _, fill_get rfl (by rwa [das_len]), ?_⟩
    rw [wr1 hi (by omega)]
    have he := fill_setE (z := [.int .i64 0, .int .i64 0, .sl []]) (n := (Tm.das l).length) rfl hx1 hd rfl
    exact he ▸ ih
theorem toTermO_call (t : Tm) (hc : t.cn ≤ 1048576) : XC Try.prog 13 [.dat t.da] [] (.agg [.d (.int .i64 t.f), .d (.int .i64 t.v), .ol 0]) [(0, .tr 31 3 (Tm.das t.ks))] := by
  induction t using Tm.ind with
  | h f v ks ih =>
    apply laws_toTerm_of
    exact ⟨_, toTermSO_call ks hc ih, rfl, rfl⟩
theorem l3Copy_loop (f v : Int) (ks : List Tm) (hc : ks.length ≤ 1200000000000) : ∀ (q p : List Tm), ks = p ++ q → (∀ t ∈ q, XC Try.prog 100 [.dat t.da] [] (.dat t.da) []) → spec_l3Copy_L3 (.dat (Tm.mk f v ks).da) [] (p.length : Int) f v (Tm.das ks) 0 0 f v (Tm.das p)
  | [], p, e, _ => by
    subst e
    apply spec_l3Copy_L3_of
    rw [List.append_nil]
    exact ifB_f (decide_eq_false (by rw [das_len]; omega)) ⟨rfl, rfl⟩
  | t :: q, p, e, ih0 => by
    have hpl : p.length < ks.length := by rw [e]; simp
    have hx : (Tm.das ks)[p.length]? = some t.da := get_das (by rw [e]; exact get_mid)
    have hcall := ih0 t (by simp)
    obtain ⟨g, u, ls⟩ := t
    apply spec_l3Copy_L3_of
    refine ifB_t (decide_eq_true (by rw [das_len]; omega)) ⟨p.length, rfl, _, _, _, hx, _, _, _, hcall, ⟨by rw [das_len]; simp; omega⟩, ?_⟩
    rw [wr1 hpl (by omega)]
    have ih := l3Copy_loop f v ks hc q (p ++ [.mk g u ls]) (by rw [e]; simp) fun t ht => ih0 t (List.mem_cons_of_mem _ ht)
    have e2 : Tm.das (p ++ [.mk g u ls]) = Tm.das p ++ [[.int .i64 g, .int .i64 u, .sl (Tm.das ls)]] := by rw [Tm.das_map, Tm.das_map]; simp [Tm.da]
    rw [e2] at ih
    simpa [Tm.f, Tm.v, Tm.ks] using ih
theorem l3Copy_call (t : Tm) (hc : t.cn ≤ 1200000000000) : XC Try.prog 100 [.dat t.da] [] (.dat t.da) [] := by
  induction t using Tm.ind with
  | h f v ks ih =>
    have h1 := Tm.len_cns ks
    have h2 : (Tm.mk f v ks).cn = Tm.cns ks := rfl
    apply spec_l3Copy_of
    refine l3Copy_loop f v ks (by omega) ks [] rfl fun t ht => ih t ht ?_
    have := cnL_mem (cn := Tm.cn) ht
    rw [← Tm.cns_cnL] at this
    omega
theorem copyTerms_loop (ks : List Tm) (hc : ks.length ≤ 1200000000000) : ∀ (q p : List Tm), ks = p ++ q → (∀ t ∈ q, XC Try.prog 76 [.dat t.da] [] (.agg [.d (.int .i64 t.f), .d (.int .i64 t.v), .ol 0]) [(0, .tr 31 3 (Tm.das t.ks))]) → impl_copyTerms_L3 (.one (.ol 0)) [(0, .tr 31 3 (Tm.das ks))] (Tm.das ks) (ks.length : Int) (p.length : Int) (Tm.das p)
  | [], p, e, _ => by
    subst e
    apply impl_copyTerms_L3_of
    rw [List.append_nil]
    exact ifB_f (decide_eq_false (by omega)) ⟨rfl, rfl⟩
  | t :: q, p, e, ih0 => by
    have hpl : p.length < ks.length := by rw [e]; simp
    have hx : (Tm.das ks)[p.length]? = some t.da := get_das (by rw [e]; exact get_mid)
    have hcall := ih0 t (by simp)
    obtain ⟨g, u, ls⟩ := t
    apply impl_copyTerms_L3_of
    refine ifB_t (decide_eq_true (by omega)) ⟨p.length, rfl, _, _, _, hx, _, _, _, hcall, ⟨by rw [das_len]; simp; omega⟩, ?_⟩
    rw [wr1 hpl (by omega)]
    have ih := copyTerms_loop ks hc q (p ++ [.mk g u ls]) (by rw [e]; simp) fun t ht => ih0 t (List.mem_cons_of_mem _ ht)
    have e2 : Tm.das (p ++ [.mk g u ls]) = Tm.das p ++ [[.int .i64 g, .int .i64 u, .sl (Tm.das ls)]] := by rw [Tm.das_map, Tm.das_map]; simp [Tm.da]
    rw [e2] at ih
    simpa [Tm.f, Tm.v, Tm.ks] using ih
theorem copyTerm_call (t : Tm) (hc : t.cn ≤ 1200000000000) : XC Try.prog 76 [.dat t.da] [] (.agg [.d (.int .i64 t.f), .d (.int .i64 t.v), .ol 0]) [(0, .tr 31 3 (Tm.das t.ks))] := by
  induction t using Tm.ind with
  | h f v ks ih =>
    have h1 := Tm.len_cns ks
    have h2 : (Tm.mk f v ks).cn = Tm.cns ks := rfl
    apply impl_copyTerm_of
    refine ⟨_, impl_copyTerms_of ?_, rfl, rfl⟩
    rw [das_len]
    refine copyTerms_loop ks (by omega) ks [] rfl fun t ht => ih t ht ?_
    have := cnL_mem (cn := Tm.cn) ht
    rw [← Tm.cns_cnL] at this
    omega
theorem l1InA_call (x lo hi : Int) : XC Try.prog 99 [Z x, Z lo, Z hi] [] (B (decide (lo ≤ x) && decide (x ≤ hi))) [] := by
  apply spec_l1In_of
  exact ifB_d (fun h => ⟨by simp [h], rfl⟩) fun h => ⟨by simp [h], rfl⟩
theorem fromA_call (x lo hi : Int) : XC Try.prog 102 [Z x, Z lo, Z hi] [] (B (decide (lo ≤ x) && decide (x ≤ hi))) [] := by
  apply impl_from_of
  exact ifB_d (fun h => ⟨by simp [h], rfl⟩) fun h => ⟨by simp [h], rfl⟩
/-- The term at a place. -/
def atR : List Int → Tm → Tm × Bool
  | [], t => (t, true)
  | n :: r, t => if 0 ≤ n ∧ n ≤ (t.ks.length : Int) - 1 then (match t.ks[n.toNat]? with
    | some u => atR r u
    | none => (.mk 0 0 [], false)) else (.mk 0 0 [], false)
theorem atR_cn : ∀ (q : List Int) (t : Tm), (atR q t).1.cn ≤ t.cn
  | [], t => Nat.le_refl _
  | n :: r, t => by
    simp only [atR]
    split
    · split
      · rename_i u hu
        have h1 := atR_cn r u
        have h2 := cnL_mem (cn := Tm.cn) (List.mem_of_getElem? hu)
        rw [← Tm.cns_cnL] at h2
        have h3 : t.cn = Tm.cns t.ks := by cases t; rfl
        omega
      · exact Nat.zero_le _
    · exact Nat.zero_le _
theorem cn_kidA {t u : Tm} {m : Nat} (h : t.ks[m]? = some u) : u.cn ≤ t.cn ∧ t.ks.length ≤ t.cn := by
  have h2 := cnL_mem (cn := Tm.cn) (List.mem_of_getElem? h)
  rw [← Tm.cns_cnL] at h2
  have h3 : t.cn = Tm.cns t.ks := by cases t; rfl
  omega
theorem ks_cn (t : Tm) : t.ks.length ≤ t.cn := by
  have h3 : t.cn = Tm.cns t.ks := by cases t; rfl
  rw [h3]; exact Tm.len_cns _
theorem specAt_loop (ns : List Int) (hn : ns.length ≤ 1048576) : ∀ (q p : List Int) (t : Tm), ns = p ++ q → t.cn ≤ 1048576 → spec_At_L2 (.tup [.dat (atR q t).1.da, B (atR q t).2]) [] (ns.map In.da) (p.length : Int) t.f t.v (Tm.das t.ks) 0 0
  | [], p, t, e, hc => by
    have hl : ns.length = p.length := by rw [e]; simp
    have hcall := l3Copy_call t (by omega)
    obtain ⟨f, v, ks⟩ := t
    apply spec_At_L2_of
    exact ifB_f (decide_eq_false (by simp; omega)) ⟨_, _, _, hcall, rfl, rfl⟩
  | n :: q, p, t, e, hc => by
    have hpl : p.length < ns.length := by rw [e]; simp
    have hx : (ns.map In.da)[p.length]? = some [.int .i64 n] := get_map (g := In.da) (by rw [e]; exact get_mid)
    have hk := ks_cn t
    apply spec_At_L2_of
    have w : IntKind.wrap .i64 (((Tm.das t.ks).length : Int) - 1) = (t.ks.length : Int) - 1 := by rw [das_len, wrI (by omega) (by omega)]
    rw [w]
    refine ifB_t (decide_eq_true (by simp; omega)) ⟨p.length, rfl, _, hx, _, l1InA_call _ _ _, ifB_of (fun h => ?_) fun h => ?_⟩
    · have hno : ¬ (0 ≤ n ∧ n ≤ (t.ks.length : Int) - 1) := by simp at h; omega
      have e1 : atR (n :: q) t = (.mk 0 0 [], false) := by rw [atR, if_neg hno]
      rw [e1]
      exact ⟨rfl, rfl⟩
    · have hyes : 0 ≤ n ∧ n ≤ (t.ks.length : Int) - 1 := by simpa using h
      obtain ⟨m, rfl⟩ : ∃ m : Nat, n = (m : Int) := ⟨n.toNat, by omega⟩
      obtain ⟨u, hu⟩ := get_ex (l := t.ks) (i := m) (by omega)
      have hc2 := (cn_kidA hu).1
      have e1 : atR ((m : Int) :: q) t = atR q u := by rw [atR, if_pos hyes]; simp [hu]
      have ih := specAt_loop ns hn q (p ++ [(m : Int)]) u (by rw [e]; simp) (by omega)
      have hux := get_das hu
      rw [e1]
      refine ⟨p.length, rfl, _, hx, m, rfl, ?_⟩
      obtain ⟨g, w, ls⟩ := u
      refine ⟨_, _, _, hux, ?_⟩
      rw [wr1 hpl (by omega)]
      simpa [Tm.f, Tm.v, Tm.ks] using ih
theorem specAt_call (t : Tm) (ns : List Int) (hc : t.cn ≤ 1048576) (hn : ns.length ≤ 1048576) : XC Try.prog 58 [.dat t.da, L (ns.map In.da)] [] (.tup [.dat (atR ns t).1.da, B (atR ns t).2]) [] := by
  have h := specAt_loop ns hn ns [] t rfl hc
  obtain ⟨f, v, ks⟩ := t
  apply spec_At_of
  exact h
theorem implAt_loop (ns : List Int) (hn : ns.length ≤ 1048576) : ∀ (q p : List Int) (t : Tm), ns = p ++ q → t.cn ≤ 1048576 → impl_At_L2 (.tup [.agg [.d (.int .i64 (atR q t).1.f), .d (.int .i64 (atR q t).1.v), .ol 0], B (atR q t).2]) [(0, .tr 31 3 (Tm.das (atR q t).1.ks))] (ns.map In.da) (ns.length : Int) (p.length : Int) t.f t.v (Tm.das t.ks) 0 0
  | [], p, t, e, hc => by
    have hl : ns.length = p.length := by rw [e]; simp
    have hcall := copyTerm_call t (by omega)
    obtain ⟨f, v, ks⟩ := t
    apply impl_At_L2_of
    exact ifB_f (decide_eq_false (by omega)) ⟨_, _, _, hcall, rfl, rfl⟩
  | n :: q, p, t, e, hc => by
    have hpl : p.length < ns.length := by rw [e]; simp
    have hx : (ns.map In.da)[p.length]? = some [.int .i64 n] := get_map (g := In.da) (by rw [e]; exact get_mid)
    have hk := ks_cn t
    apply impl_At_L2_of
    have w : IntKind.wrap .i64 (((Tm.das t.ks).length : Int) - 1) = (t.ks.length : Int) - 1 := by rw [das_len, wrI (by omega) (by omega)]
    rw [w]
    refine ifB_t (decide_eq_true (by omega)) ⟨p.length, rfl, _, hx, _, fromA_call _ _ _, ifB_of (fun h => ?_) fun h => ?_⟩
    · have hno : ¬ (0 ≤ n ∧ n ≤ (t.ks.length : Int) - 1) := by simp at h; omega
      have e1 : atR (n :: q) t = (.mk 0 0 [], false) := by rw [atR, if_neg hno]
      rw [e1]
      exact ⟨rfl, rfl⟩
    · have hyes : 0 ≤ n ∧ n ≤ (t.ks.length : Int) - 1 := by simpa using h
      obtain ⟨m, rfl⟩ : ∃ m : Nat, n = (m : Int) := ⟨n.toNat, by omega⟩
      obtain ⟨u, hu⟩ := get_ex (l := t.ks) (i := m) (by omega)
      have hc2 := (cn_kidA hu).1
      have e1 : atR ((m : Int) :: q) t = atR q u := by rw [atR, if_pos hyes]; simp [hu]
      have ih := implAt_loop ns hn q (p ++ [(m : Int)]) u (by rw [e]; simp) (by omega)
      have hux := get_das hu
      rw [e1]
      refine ⟨m, rfl, ?_⟩
      obtain ⟨g, w, ls⟩ := u
      refine ⟨_, _, _, hux, ?_⟩
      rw [wr1 hpl (by omega)]
      simpa [Tm.f, Tm.v, Tm.ks] using ih
theorem implAt_call (t : Tm) (ns : List Int) (hc : t.cn ≤ 1048576) (hn : ns.length ≤ 1048576) : XC Try.prog 63 [.dat t.da, L (ns.map In.da)] [] (.tup [.agg [.d (.int .i64 (atR ns t).1.f), .d (.int .i64 (atR ns t).1.v), .ol 0], B (atR ns t).2]) [(0, .tr 31 3 (Tm.das (atR ns t).1.ks))] := by
  have h := implAt_loop ns hn ns [] t rfl hc
  obtain ⟨f, v, ks⟩ := t
  apply impl_At_of
  rw [List.length_map]
  exact h
/-- A literal, marked from a number on. -/
def mkLi (k : Nat) (x : Li) : Li := ⟨decide (Int.tmod (k : Int) 3 = 0), .mk ((k + 1 : Nat) : Int) ((k + 2 : Nat) : Int) (Tm.mkL (k + 3) x.l.ks), .mk ((k + 3 + 2 * x.l.cn : Nat) : Int) ((k + 4 + 2 * x.l.cn : Nat) : Int) (Tm.mkL (k + 5 + 2 * x.l.cn) x.r.ks)⟩
def mkLis : Nat → List Li → List Li
  | _, [] => []
  | k, x :: r => mkLi k x :: mkLis (k + 5 + 2 * x.cn) r
/-- How many numbers the marks of literals take. -/
def mkN : List Li → Nat
  | [] => 0
  | x :: r => 5 + 2 * x.cn + mkN r
theorem mkN_le (l : List Li) : mkN l ≤ 5 * cnL Li.cn l := by
  induction l with
  | nil => simp [mkN]
  | cons x r ih => simp only [mkN, cnL, List.length_cons, List.map_cons, List.sum_cons] at ih ⊢; omega
theorem das3 (l : List Tm) : ∀ y ∈ Tm.das l, y.length = 3 := by
  intro y hy
  rw [Tm.das_map] at hy
  obtain ⟨t, _, rfl⟩ := List.mem_map.1 hy
  exact Tm.da_len t
mutual
def Tm.sh (n : Int) : Tm → Tm
  | .mk f v ks => .mk f (if f = -1 then IntKind.wrap .i64 (v + n) else v) (Tm.shs n ks)
def Tm.shs (n : Int) : List Tm → List Tm
  | [] => []
  | t :: r => Tm.sh n t :: Tm.shs n r
end
mutual
theorem Tm.sh_cn (n : Int) : ∀ t : Tm, (Tm.sh n t).cn = t.cn
  | .mk f v ks => by simp only [Tm.sh, Tm.cn, Tm.shs_cn n ks]
theorem Tm.shs_cn (n : Int) : ∀ l : List Tm, Tm.cns (Tm.shs n l) = Tm.cns l
  | [] => rfl
  | t :: r => by simp only [Tm.shs, Tm.cns, Tm.sh_cn n t, Tm.shs_cn n r]
end
theorem Tm.shs_map (n : Int) (l : List Tm) : Tm.shs n l = l.map (Tm.sh n) := by induction l <;> simp_all [Tm.shs]
def Li.sh (n : Int) (x : Li) : Li := ⟨x.p, x.l.sh n, x.r.sh n⟩
def Cl.sh (n : Int) (x : Cl) : Cl := ⟨x.ls.map (Li.sh n)⟩
theorem mkN_sh (n : Int) (l : List Li) : mkN (l.map (Li.sh n)) = mkN l := by
  induction l with
  | nil => rfl
  | cons x r ih => simp only [List.map_cons, mkN, ih, Li.cn, Li.sh, Tm.sh_cn]
theorem szSym_call (x : Sy) (m : Int) (h0 : 0 ≤ m) (h1 : m ≤ 1048576) : XC Try.prog 56 [.dat x.da, Z m] [] (Z (lft x.cn m)) [] := by
  refine xc_fit fun hfit => ?_
  have hlen : x.nm.size ≤ 281474976710656 := hfit.dat.str
  apply laws_szSym_of
  exact ifB_d (fun h => zw (lft_w h0 h1 hlen h)) fun h => zw (lft_w2 h0 h1 hlen h)
theorem eqSym_call (x : Sy) : XC Try.prog 67 [.dat x.da, .dat x.da] [] (B true) [] := by
  apply laws_eqSym_of
  exact ifB_f ne_decS (ifB_f ne_decF (ifB_f ne_decB ⟨rfl, rfl⟩))
theorem szSymS_call (l : List Sy) (left : Int) (h0 : 0 ≤ left) (h1 : left ≤ 1048576) : XC Try.prog 9 [L (l.map Sy.da), Z left] [] (Z (lft (cnL Sy.cn l) left)) [] := by
  refine xc_fit fun hfit => ?_
  have hlen : l.length ≤ 281474976710656 := by have := hfit.one.len; simpa using this
  apply laws_szSymS_of
  rw [List.length_map, wrI (by omega) (by omega)]
  refine ifB_d (fun h => ⟨?_, rfl⟩) fun h => ?_
  · rw [lft, if_pos (by have := cnL_len Sy.cn l; omega)]
  · have key := loopUp (p := fun i => ∀ m : Int, 0 ≤ m → m ≤ 1048576 → laws_szSymS_L5 (Z (lft ((l.drop i).map Sy.cn).sum m)) [] (l.map Sy.da) m (i : Int)) l.length ?_ ?_ 0 (Nat.zero_le _)
    · have := key (left - l.length) (by omega) (by omega)
      have e : lft ((l.drop 0).map Sy.cn).sum (left - l.length) = lft (cnL Sy.cn l) left := by
        rw [List.drop_zero, cnL]; unfold lft; split <;> split <;> omega
      rw [e] at this
      exact this
    · intro m hm0 hm1
      apply laws_szSymS_L5_of
      refine ifB_f (lt_decF (by simp)) ⟨?_, rfl⟩
      simp [lft]; omega
    · intro i hi ih m hm0 hm1
      obtain ⟨x, hx⟩ := get_ex hi
      have hx1 := get_map (g := Sy.da) hx
      have hxc := szSym_call x m hm0 hm1
      have hdr : ((l.drop i).map Sy.cn).sum = Sy.cn x + ((l.drop (i + 1)).map Sy.cn).sum := by
        obtain ⟨hl, e⟩ := List.getElem?_eq_some_iff.1 hx
        rw [List.drop_eq_getElem_cons hl, e]; simp
      have hle := lft_le (n := Sy.cn x) (l := m) (by omega)
      rw [hdr]
      generalize Sy.cn x = cx at *
      obtain ⟨nm, ar, ac⟩ := x
      apply laws_szSymS_L5_of
      refine ifB_t (lt_dec (by simpa using hi)) ⟨i, rfl, _, _, _, hx1, _, hxc, ?_⟩
      refine ifB_d (fun h => ⟨?_, rfl⟩) fun h => ?_
      · have := lft_neg h hm0
        rw [show lft (cx + ((l.drop (i + 1)).map Sy.cn).sum) m = -1 by unfold lft at h ⊢; split at h <;> split <;> omega]
      · rw [wr1 hi hlen, ← lft_lft (by omega)]
        exact ih _ (by omega) (by omega)
theorem eqSymS_call (l : List Sy) : XC Try.prog 17 [L (l.map Sy.da), L (l.map Sy.da)] [] (B true) [] := by
  refine xc_fit fun hfit => ?_
  have hlen : l.length ≤ 281474976710656 := by have := hfit.one.len; simpa using this
  apply laws_eqSymS_of
  refine ifB_f ne_decF ?_
  refine loopUp (p := fun i => laws_eqSymS_L4 (B true) [] (l.map Sy.da) (l.map Sy.da) (i : Int)) l.length ?_ (fun i hi ih => ?_) 0 (Nat.zero_le _)
  · apply laws_eqSymS_L4_of
    exact ifB_f (lt_decF (by simp)) ⟨rfl, rfl⟩
  · obtain ⟨x, hx⟩ := get_ex hi
    have hx1 := get_map (g := Sy.da) hx
    have hxc := eqSym_call x
    obtain ⟨nm, ar, ac⟩ := x
    apply laws_eqSymS_L4_of
    refine ifB_t (lt_dec (by simpa using hi)) ⟨i, rfl, _, _, _, hx1, i, rfl, _, _, _, hx1, _, hxc, ifB_f rfl ?_⟩
    rw [wr1 hi hlen]
    exact ih
theorem szRule_call (x : Ru) (m : Int) (h0 : 0 ≤ m) (h1 : m ≤ 1048576) : XC Try.prog 23 [.dat x.da, Z m] [] (Z (lft x.cn m)) [] := by
  obtain ⟨⟨f, u, ks⟩, ⟨g, v, ms⟩⟩ := x
  apply laws_szRule_of
  have hle := lft_le (n := Tm.cn (.mk f u ks)) (l := m) (by omega)
  refine ⟨_, szTerm_call (.mk f u ks) m h0 h1, ifB_d (fun h => zw (lft_lt h h0)) fun h => ⟨_, szTerm_call (.mk g v ms) _ (by omega) (by omega), ifB_d (fun h2 => zw ?_) fun h2 => zw ?_⟩⟩
  · have := lft_lt0 h2 (by omega); rw [lft_lft (by omega)] at this; exact this
  · rw [lft_lft (by omega)]; rfl
theorem eqRule_call (x : Ru) : XC Try.prog 27 [.dat x.da, .dat x.da] [] (B true) [] := by
  obtain ⟨⟨f, u, ks⟩, ⟨g, v, ms⟩⟩ := x
  apply laws_eqRule_of
  exact ⟨_, eqTerm_call (.mk f u ks), ifB_f rfl ⟨_, eqTerm_call (.mk g v ms), ifB_f rfl ⟨rfl, rfl⟩⟩⟩
theorem drop_cons {α : Type} {l : List α} {i : Nat} {x : α} (h : l[i]? = some x) : l.drop i = x :: l.drop (i + 1) := by
  obtain ⟨hl, e⟩ := List.getElem?_eq_some_iff.1 h
  rw [List.drop_eq_getElem_cons hl, e]
theorem drop_end {α : Type} {l : List α} : l.drop l.length = [] := by simp
theorem bF {b : Bool} (h : ¬ b = true) : B false = B b ∧ ([] : List (Nat × Ob)) = [] := ⟨by rw [Bool.eq_false_iff.2 h], rfl⟩
theorem bE {a b : Bool} (h : a = b) : B a = B b ∧ ([] : List (Nat × Ob)) = [] := ⟨by rw [h], rfl⟩
theorem bT {b : Bool} (h : b = true) : B true = B b ∧ ([] : List (Nat × Ob)) = [] := ⟨by rw [h], rfl⟩
theorem ne_i {a b : Int} (h : ¬ a ≠ b) : a = b := by omega
theorem ne_n {a b : Nat} (h : ¬ (a : Int) ≠ (b : Int)) : a = b := by omega
theorem wrM {k : Nat} (h : 0 < k) (hk : k ≤ 281474976710656) : IntKind.wrap .i64 ((k : Int) - 1) = ((k - 1 : Nat) : Int) := by
  rw [wrI (by omega) (by omega)]; omega
/-- One pair of numbers behind another one. -/
def cmp3 (x y : Int) (r : Int) : Int := if x < y then -1 else if x > y then 1 else r
theorem cmp3_zero {x y r : Int} : cmp3 x y r = 0 ↔ x = y ∧ r = 0 := by
  unfold cmp3
  split
  · omega
  · split <;> omega
theorem cmp3_lt {x y r : Int} (h : x ≠ y) : decide (x < y) = decide (cmp3 x y r < 0) := by
  unfold cmp3
  split
  · simp [*]
  · split
    · simp; omega
    · omega
theorem cmp3_eq {x y r : Int} (h : x = y) : cmp3 x y r = r := by unfold cmp3; simp [h]
mutual
/-- The order of terms. -/
def Tm.cmp : Tm → Tm → Int
  | .mk f v ks, .mk g u ls => cmp3 f g (cmp3 v u (cmp3 ks.length ls.length (Tm.cmps ks ls)))
def Tm.cmps : List Tm → List Tm → Int
  | t :: r, u :: s => if Tm.cmp t u = 0 then Tm.cmps r s else Tm.cmp t u
  | _, _ => 0
end
theorem Tm.cmp_mk {f v g u : Int} {ks ls : List Tm} : Tm.cmp (.mk f v ks) (.mk g u ls) = cmp3 f g (cmp3 v u (cmp3 ks.length ls.length (Tm.cmps ks ls))) := rfl
theorem Tm.cmp0 {f v g u : Int} {ks ls : List Tm} : Tm.cmp (.mk f v ks) (.mk g u ls) = 0 ↔ f = g ∧ v = u ∧ ks.length = ls.length ∧ Tm.cmps ks ls = 0 := by
  rw [Tm.cmp_mk, cmp3_zero, cmp3_zero, cmp3_zero]; omega
theorem Tm.cmps_nil : Tm.cmps [] [] = 0 := by simp [Tm.cmps]
theorem Tm.cmps_cons {t u : Tm} {r s : List Tm} : Tm.cmps (t :: r) (u :: s) = if Tm.cmp t u = 0 then Tm.cmps r s else Tm.cmp t u := by simp [Tm.cmps]
theorem Tm.cmps_end {ks ls : List Tm} (h : ks.length = ls.length) : Tm.cmps (ks.drop ks.length) (ls.drop ks.length) = 0 := by
  rw [drop_end, h, drop_end, Tm.cmps_nil]
/-- The order of literals. -/
def Li.cmp (a b : Li) : Int := if a.p = b.p then (if Tm.cmp a.l b.l = 0 then Tm.cmp a.r b.r else Tm.cmp a.l b.l) else if b.p then -1 else 1
def inR (x lo hi : Int) : Bool := decide (lo ≤ x) && decide (x ≤ hi)
theorem l1In_call (x lo hi : Int) : XC Try.prog 99 [Z x, Z lo, Z hi] [] (B (inR x lo hi)) [] := by
  apply spec_l1In_of
  exact ifB_d (fun h => bE (by simp [inR, h])) fun h => bE (by simp [inR, h])
theorem from_call (x lo hi : Int) : XC Try.prog 102 [Z x, Z lo, Z hi] [] (B (inR x lo hi)) [] := by
  apply impl_from_of
  exact ifB_d (fun h => bE (by simp [inR, h])) fun h => bE (by simp [inR, h])
theorem termSame_call (a b : Tm) : XC Try.prog 114 [.dat a.da, .dat b.da] [] (B (decide (Tm.cmp a b = 0))) [] := by
  induction a using Tm.ind generalizing b with
  | h f v ks ih =>
  obtain ⟨g, u, ls⟩ := b
  refine xc_fit fun hfit => ?_
  have hlen : ks.length ≤ 281474976710656 := by have := hfit.dat.tail.tail.len; rwa [das_len] at this
  apply spec_TermSame_of
  rw [das_len, das_len]
  refine ifB_d (fun h => bF (by simp [Tm.cmp0]; omega)) fun h1 => ifB_d (fun h => bF (by simp [Tm.cmp0]; omega)) fun h2 => ifB_d (fun h => bF (by simp [Tm.cmp0]; omega)) fun h3 => ?_
  have h1 := ne_i h1; have h2 := ne_i h2; have h3 := ne_n h3
  have key := loopUp (p := fun i => spec_TermSame_L4 (B (decide (Tm.cmps (ks.drop i) (ls.drop i) = 0))) [] (i : Int) f v (Tm.das ks) g u (Tm.das ls)) ks.length ?_ (fun i hi ihl => ?_) 0 (Nat.zero_le _)
  · have e : decide (Tm.cmp (.mk f v ks) (.mk g u ls) = 0) = decide (Tm.cmps (ks.drop 0) (ls.drop 0) = 0) := by
      simp [Tm.cmp0, h1, h2, h3]
    rw [e]; exact key
  · apply spec_TermSame_L4_of
    exact ifB_f (lt_decF (by rw [das_len]; exact Nat.le_refl _)) (bT (by rw [Tm.cmps_end h3]; rfl))
  · obtain ⟨x, hx⟩ := get_ex hi
    obtain ⟨y, hy⟩ := get_ex (l := ls) (i := i) (by omega)
    have hx1 := get_das hx
    have hy1 := get_das hy
    have hxy := ih x (List.mem_of_getElem? hx) y
    rw [drop_cons hx, drop_cons hy, Tm.cmps_cons]
    obtain ⟨f', v', ks'⟩ := x
    obtain ⟨g', u', ls'⟩ := y
    apply spec_TermSame_L4_of
    refine ifB_t (lt_dec (by rwa [das_len])) ⟨i, rfl, _, _, _, hx1, i, rfl, _, _, _, hy1, _, hxy, ifB_of (fun h => bF ?_) fun h => ?_⟩
    · simp at h; simp [h]
    · simp at h
      rw [wr1 hi hlen, if_pos h]
      exact ihl
theorem before_call (a b : Tm) : XC Try.prog 110 [.dat a.da, .dat b.da] [] (B (decide (Tm.cmp a b < 0))) [] := by
  induction a using Tm.ind generalizing b with
  | h f v ks ih =>
  obtain ⟨g, u, ls⟩ := b
  refine xc_fit fun hfit => ?_
  have hlen : ks.length ≤ 281474976710656 := by have := hfit.dat.tail.tail.len; rwa [das_len] at this
  apply spec_Before_of
  rw [das_len, das_len, Tm.cmp_mk]
  refine ifB_d (fun h => bE (cmp3_lt h)) fun h1 => ?_
  rw [cmp3_eq (ne_i h1)]
  refine ifB_d (fun h => bE (cmp3_lt h)) fun h2 => ?_
  rw [cmp3_eq (ne_i h2)]
  refine ifB_d (fun h => bE (cmp3_lt h)) fun h3 => ?_
  rw [cmp3_eq (ne_i h3)]
  have h3 := ne_n h3
  have key := loopUp (p := fun i => spec_Before_L8 (B (decide (Tm.cmps (ks.drop i) (ls.drop i) < 0))) [] (i : Int) f v (Tm.das ks) g u (Tm.das ls)) ks.length ?_ (fun i hi ihl => ?_) 0 (Nat.zero_le _)
  · exact key
  · apply spec_Before_L8_of
    exact ifB_f (lt_decF (by rw [das_len]; exact Nat.le_refl _)) (bF (by rw [Tm.cmps_end h3]; simp))
  · obtain ⟨x, hx⟩ := get_ex hi
    obtain ⟨y, hy⟩ := get_ex (l := ls) (i := i) (by omega)
    have hx1 := get_das hx
    have hy1 := get_das hy
    have hxy := ih x (List.mem_of_getElem? hx) y
    have hs := termSame_call x y
    rw [drop_cons hx, drop_cons hy, Tm.cmps_cons]
    obtain ⟨f', v', ks'⟩ := x
    obtain ⟨g', u', ls'⟩ := y
    apply spec_Before_L8_of
    refine ifB_t (lt_dec (by rwa [das_len])) ⟨i, rfl, _, _, _, hx1, i, rfl, _, _, _, hy1, _, hs, ifB_of (fun h => ⟨i, rfl, _, _, _, hx1, i, rfl, _, _, _, hy1, _, hxy, bE ?_⟩) fun h => ?_⟩
    · simp at h; simp [h]
    · simp at h
      rw [wr1 hi hlen, if_pos h]
      exact ihl
theorem compare_call (a b : Tm) : XC Try.prog 105 [.dat a.da, .dat b.da] [] (Z (Tm.cmp a b)) [] := by
  induction a using Tm.ind generalizing b with
  | h f v ks ih =>
  obtain ⟨g, u, ls⟩ := b
  refine xc_fit fun hfit => ?_
  have hlen : ks.length ≤ 281474976710656 := by have := hfit.dat.tail.tail.len; rwa [das_len] at this
  apply impl_compare_of
  rw [das_len, das_len, Tm.cmp_mk]
  apply impl_compare_L2_of
  refine ifB_t rfl ⟨0, rfl, ⟨by simp⟩, 0, rfl, _, _, rfl, ?_⟩
  refine ifB_d (fun h => ⟨by simp [cmp3, h], rfl⟩) fun h1 => ifB_d (fun h => ⟨by unfold cmp3; rw [if_neg (by omega), if_pos (by omega)], rfl⟩) fun h2 => ?_
  rw [cmp3_eq (by omega)]
  apply impl_compare_L2_of
  refine ifB_t rfl ⟨1, rfl, ⟨by simp⟩, 1, rfl, _, _, rfl, ?_⟩
  refine ifB_d (fun h => ⟨by simp [cmp3, h], rfl⟩) fun h3 => ifB_d (fun h => ⟨by unfold cmp3; rw [if_neg (by omega), if_pos (by omega)], rfl⟩) fun h4 => ?_
  rw [cmp3_eq (by omega)]
  apply impl_compare_L2_of
  refine ifB_t rfl ⟨2, rfl, ⟨by simp⟩, 2, rfl, _, _, rfl, ?_⟩
  refine ifB_d (fun h => ⟨by simp only [cmp3, if_pos h], rfl⟩) fun h5 => ifB_d (fun h => ⟨by unfold cmp3; rw [if_neg (by omega), if_pos (by omega)], rfl⟩) fun h6 => ?_
  rw [cmp3_eq (by omega)]
  apply impl_compare_L2_of
  refine ifB_f rfl ?_
  have hl : ks.length = ls.length := by omega
  rw [das_len]
  have key := loopUp (p := fun i => impl_compare_L10 (Z (Tm.cmps (ks.drop i) (ls.drop i))) [] (ks.length : Int) (i : Int) f v (Tm.das ks) g u (Tm.das ls)) ks.length ?_ (fun i hi ihl => ?_) 0 (Nat.zero_le _)
  · exact key
  · apply impl_compare_L10_of
    exact ifB_f (lt_decF (Nat.le_refl _)) ⟨by rw [Tm.cmps_end hl], rfl⟩
  · obtain ⟨x, hx⟩ := get_ex hi
    obtain ⟨y, hy⟩ := get_ex (l := ls) (i := i) (by omega)
    have hx1 := get_das hx
    have hy1 := get_das hy
    have hxy := ih x (List.mem_of_getElem? hx) y
    rw [drop_cons hx, drop_cons hy, Tm.cmps_cons]
    obtain ⟨f', v', ks'⟩ := x
    obtain ⟨g', u', ls'⟩ := y
    apply impl_compare_L10_of
    refine ifB_t (lt_dec hi) ⟨i, rfl, _, _, _, hx1, i, rfl, _, _, _, hy1, _, hxy, ifB_d (fun h => ⟨by rw [if_neg h], rfl⟩) fun h => ?_⟩
    rw [wr1 hi hlen, if_pos (by omega)]
    exact ihl
open Classical in
/-- A proposition as a Bool. -/
noncomputable def dB (p : Prop) : Bool := decide p
theorem dB_t {p : Prop} (h : p) : B true = B (dB p) ∧ ([] : List (Nat × Ob)) = [] := ⟨by simp [dB, h], rfl⟩
theorem dB_f {p : Prop} (h : ¬ p) : B false = B (dB p) ∧ ([] : List (Nat × Ob)) = [] := ⟨by simp [dB, h], rfl⟩
theorem dB_e {p : Prop} {b : Bool} (h : b = true ↔ p) : B b = B (dB p) ∧ ([] : List (Nat × Ob)) = [] := ⟨by congr 1; rw [Bool.eq_iff_iff]; simp [dB, h], rfl⟩
theorem dB_true {p : Prop} : dB p = true ↔ p := by simp [dB]
theorem dB_false {p : Prop} : dB p = false ↔ ¬ p := by simp [dB]
theorem inR_t {x lo hi : Int} : inR x lo hi = true ↔ lo ≤ x ∧ x ≤ hi := by simp [inR]
theorem not_f {b : Bool} (h : (!b) = false) : b = true := by simpa using h
theorem not_t {b : Bool} (h : (!b) = true) : b = false := by simpa using h
def pSum (l : List Tm) : Nat := (l.map fun t => t.cn + 1).sum
theorem pSum_cns (l : List Tm) : pSum l = Tm.cns l := by
  induction l with
  | nil => rfl
  | cons t r ih => simp [pSum, Tm.cns] at ih ⊢; omega
theorem Tm.cn_mk {f v : Int} {ks : List Tm} : Tm.cn (.mk f v ks) = Tm.cns ks := by simp [Tm.cn]
theorem cn_kid {ks : List Tm} {i : Nat} {x : Tm} (h : ks[i]? = some x) : x.cn + ks.length ≤ Tm.cns ks := Tm.cns_cnL ks ▸ cnL_mem (cn := Tm.cn) (List.mem_of_getElem? h)
theorem cns_len (ks : List Tm) : ks.length ≤ Tm.cns ks := Tm.cns_cnL ks ▸ cnL_len Tm.cn ks
def smB (c : UInt8) : Prop := 97 ≤ c.toNat ∧ c.toNat ≤ 122
def dgB (c : UInt8) : Prop := 48 ≤ c.toNat ∧ c.toNat ≤ 57
def nGood (s : ByteArray) (i : Nat) : Prop := ∀ c, s[i]? = some c → smB c ∨ (0 < i ∧ dgB c)
/-- A name. -/
def nOk (s : ByteArray) : Prop := (∀ i, i < s.size → nGood s i) ∧ 1 ≤ s.size ∧ s.size ≤ 8
theorem byte_ex {t : ByteArray} {i : Nat} (h : i < t.size) : ∃ b, t[i]? = some b := ⟨t[i], by simp [h]⟩
theorem byte_lt {t : ByteArray} {i : Nat} {b : UInt8} (h : t[i]? = some b) : i < t.size := by
  rcases Nat.lt_or_ge i t.size with h1 | h1
  · exact h1
  · simp [show ¬ i < t.size by omega] at h
def symAt : List Sy → ByteArray → Nat → Int
  | [], _, _ => -1
  | x :: r, nm, i => if x.nm = nm then i else symAt r nm (i + 1)
def sgGood (ss : List Sy) (i : Nat) : Prop := ∀ x, ss[i]? = some x → nOk x.nm ∧ symAt ss x.nm 0 = i ∧ (0 ≤ x.ar ∧ x.ar ≤ 3) ∧ (x.ac = true → x.ar = 2)
/-- A list of functions. -/
def sgOk (ss : List Sy) : Prop := (∀ i, i < ss.length → sgGood ss i) ∧ (1 ≤ ss.length ∧ ss.length ≤ 8) ∧ ∃ x, ss[0]? = some x ∧ x.nm = ⟨#[116, 116]⟩ ∧ x.ar = 0
/-- A term as it must be, of any size. -/
inductive TOk (ss : List Sy) : Tm → Prop
  | var {v : Int} : 0 ≤ v → v ≤ 99 → TOk ss (.mk (-1) v [])
  | app {f : Nat} {x : Sy} {ks : List Tm} : ss[f]? = some x → (x.ac = false → (ks.length : Int) = x.ar) → (x.ac = true → 2 ≤ ks.length) → (∀ (i : Nat) k, ks[i]? = some k → TOk ss k) →
      (x.ac = true → ∀ (i : Nat) k, ks[i]? = some k → k.f ≠ (f : Int) ∧ ∀ k', 0 < i → ks[i - 1]? = some k' → ¬ Tm.cmp k k' < 0) → TOk ss (.mk f 0 ks)
theorem TOk.var_iff {ss : List Sy} {v : Int} {ks : List Tm} : TOk ss (.mk (-1) v ks) ↔ (0 ≤ v ∧ v ≤ 99) ∧ ks = [] := by
  constructor
  · intro h
    generalize hf : (-1 : Int) = f at h
    cases h with
    | var h1 h2 => exact ⟨⟨h1, h2⟩, rfl⟩
    | app => omega
  · rintro ⟨⟨h1, h2⟩, rfl⟩; exact .var h1 h2
/-- A kid that is right. -/
def KOk (ss : List Sy) (f : Int) (x : Sy) (ks : List Tm) (i : Nat) (k : Tm) : Prop := TOk ss k ∧ (x.ac = true → k.f ≠ f ∧ ∀ k', 0 < i → ks[i - 1]? = some k' → ¬ Tm.cmp k k' < 0)
theorem TOk.app_iff {ss : List Sy} {f v : Int} {ks : List Tm} (hf : f ≠ -1) : TOk ss (.mk f v ks) ↔ ∃ (n : Nat) (x : Sy), f = (n : Int) ∧ ss[n]? = some x ∧ v = 0 ∧ (x.ac = false → (ks.length : Int) = x.ar) ∧ (x.ac = true → 2 ≤ ks.length) ∧ ∀ (i : Nat) k, ks[i]? = some k → KOk ss f x ks i k := by
  constructor
  · intro h
    cases h with
    | var => exact absurd rfl hf
    | app h1 h2 h3 h4 h5 => exact ⟨_, _, rfl, h1, rfl, h2, h3, fun i k hk => ⟨h4 i k hk, fun hac => h5 hac i k hk⟩⟩
  · rintro ⟨n, x, rfl, h1, rfl, h2, h3, h4⟩
    exact .app h1 h2 h3 (fun i k hk => (h4 i k hk).1) fun hac i k hk => (h4 i k hk).2 hac
theorem isSym_call (ss : List Sy) (f : Int) : XC Try.prog 108 [L (ss.map Sy.da), Z f] [] (B (inR f 0 ((ss.length : Int) - 1))) [] := by
  refine xc_fit fun hfit => ?_
  have hls : ss.length ≤ 281474976710656 := by have := hfit.one.len; simpa using this
  apply impl_isSym_of
  rw [List.length_map, wrI (by omega) (by omega)]
  exact ⟨_, from_call _ _ _, rfl, rfl⟩
def TmOk (ss : List Sy) (t : Tm) : Prop := sgOk ss ∧ t.cn + 1 ≤ 60 ∧ TOk ss t
def LiOk (ss : List Sy) (x : Li) : Prop := TmOk ss x.l ∧ TmOk ss x.r ∧ ¬ Tm.cmp x.l x.r < 0
def ClOk (ss : List Sy) (c : Cl) : Prop := (∀ (i : Nat) x, c.ls[i]? = some x → LiOk ss x ∧ ∀ y, 0 < i → c.ls[i - 1]? = some y → Li.cmp y x < 0) ∧ c.ls.length ≤ 8
/-- A number put in where it belongs. -/
def insN (n : Int) : List Int → List Int
  | [] => [n]
  | x :: r => if x < n then x :: insN n r else n :: x :: r
def numAdd (l : List Int) (n : Int) : List Int := if n ∈ l then l else insN n l
def adds (out l : List Int) : List Int := l.foldl numAdd out
mutual
def Tm.vs : Tm → List Int → List Int
  | .mk f v ks, out => Tm.vss ks (if f = -1 then numAdd out v else out)
def Tm.vss : List Tm → List Int → List Int
  | [], out => out
  | t :: r, out => Tm.vss r (Tm.vs t out)
end
mutual
def Tm.occ : Tm → Int → Prop
  | .mk f v ks, x => (f = -1 ∧ x = v) ∨ Tm.occs ks x
def Tm.occs : List Tm → Int → Prop
  | [], _ => False
  | t :: r, x => Tm.occ t x ∨ Tm.occs r x
end
mutual
def Tm.cnt : Tm → Int → Nat
  | .mk f v ks, x => (if f = -1 ∧ v = x then 1 else 0) + Tm.cnts ks x
def Tm.cnts : List Tm → Int → Nat
  | [], _ => 0
  | t :: r, x => Tm.cnt t x + Tm.cnts r x
end
theorem insN_len (n : Int) (l : List Int) : (insN n l).length = l.length + 1 := by
  induction l with
  | nil => rfl
  | cons x r ih => unfold insN; split <;> simp_all
theorem numAdd_len (l : List Int) (n : Int) : (numAdd l n).length ≤ l.length + 1 := by
  unfold numAdd; split
  · omega
  · rw [insN_len]; omega
theorem mem_insN {n x : Int} {l : List Int} : x ∈ insN n l ↔ x = n ∨ x ∈ l := by
  induction l with
  | nil => simp [insN]
  | cons y r ih => 
    unfold insN; split
    · simp only [List.mem_cons, ih]
      constructor
      · rintro (h | h | h) <;> simp [h]
      · rintro (h | h | h) <;> simp [h]
    · simp
theorem mem_numAdd {n x : Int} {l : List Int} : x ∈ numAdd l n ↔ x = n ∨ x ∈ l := by
  unfold numAdd; split
  · rename_i h
    constructor
    · exact .inr
    · rintro (rfl | h1)
      · exact h
      · exact h1
  · exact mem_insN
abbrev Srt (l : List Int) : Prop := l.Pairwise (· < ·)
theorem srt_insN {n : Int} {l : List Int} (h : Srt l) (hn : n ∉ l) : Srt (insN n l) := by
  induction l with
  | nil => simp [insN, Srt]
  | cons y r ih =>
    obtain ⟨h1, h2⟩ := List.pairwise_cons.1 h
    unfold insN; split
    · rename_i hy
      refine List.pairwise_cons.2 ⟨fun z hz => ?_, ih h2 fun h => hn (List.mem_cons_of_mem _ h)⟩
      rcases mem_insN.1 hz with rfl | hz
      · exact hy
      · exact h1 z hz
    · rename_i hy
      have hne : n ≠ y := fun e => hn (by simp [e])
      refine List.pairwise_cons.2 ⟨fun z hz => ?_, h⟩
      rcases List.mem_cons.1 hz with rfl | hz
      · omega
      · have := h1 z hz; omega
theorem srt_numAdd {n : Int} {l : List Int} (h : Srt l) : Srt (numAdd l n) := by
  unfold numAdd; split
  · exact h
  · rename_i hn; exact srt_insN h hn
theorem srt_ext : ∀ {a b : List Int}, Srt a → Srt b → (∀ x, x ∈ a ↔ x ∈ b) → a = b
  | [], [], _, _, _ => rfl
  | [], y :: s, _, _, h => absurd ((h y).2 (by simp)) (by simp)
  | x :: r, [], _, _, h => absurd ((h x).1 (by simp)) (by simp)
  | x :: r, y :: s, ha, hb, h => by
    obtain ⟨a1, a2⟩ := List.pairwise_cons.1 ha
    obtain ⟨b1, b2⟩ := List.pairwise_cons.1 hb
    have hxy : x = y := by
      have h1 := (h x).1 (by simp)
      have h2 := (h y).2 (by simp)
      rcases List.mem_cons.1 h1 with h1 | h1
      · exact h1
      · rcases List.mem_cons.1 h2 with h2 | h2
        · exact h2.symm
        · have := b1 x h1; have := a1 y h2; omega
    subst hxy
    refine congrArg (x :: ·) (srt_ext a2 b2 fun z => ?_)
    have hz := h z
    simp only [List.mem_cons] at hz
    constructor
    · intro hm
      have := a1 z hm
      rcases hz.1 (.inr hm) with rfl | h
      · omega
      · exact h
    · intro hm
      have := b1 z hm
      rcases hz.2 (.inr hm) with rfl | h
      · omega
      · exact h
theorem mem_adds {l : List Int} : ∀ {out : List Int} {x : Int}, x ∈ adds out l ↔ x ∈ out ∨ x ∈ l := by
  induction l with
  | nil => intro out x; simp [adds]
  | cons y r ih =>
    intro out x
    have : adds out (y :: r) = adds (numAdd out y) r := rfl
    rw [this, ih, mem_numAdd, List.mem_cons]
    constructor
    · rintro ((h | h) | h) <;> simp [h]
    · rintro (h | h | h) <;> simp [h]
theorem srt_adds {l : List Int} : ∀ {out : List Int}, Srt out → Srt (adds out l) := by
  induction l with
  | nil => intro out h; exact h
  | cons y r ih => intro out h; exact ih (srt_numAdd h)
theorem adds_len (l : List Int) : ∀ out : List Int, (adds out l).length ≤ out.length + l.length := by
  induction l with
  | nil => intro out; exact Nat.le_refl _
  | cons y r ih =>
    intro out
    have h1 := ih (numAdd out y)
    have h2 := numAdd_len out y
    have : adds out (y :: r) = adds (numAdd out y) r := rfl
    rw [this, List.length_cons]; omega
mutual
theorem Tm.vs_len : ∀ (t : Tm) (out : List Int), (t.vs out).length ≤ out.length + t.cn + 1
  | .mk f v ks, out => by
    have h1 := Tm.vss_len ks (if f = -1 then numAdd out v else out)
    have h2 := numAdd_len out v
    simp only [Tm.vs, Tm.cn]
    split at h1 <;> simp_all <;> omega
theorem Tm.vss_len : ∀ (l : List Tm) (out : List Int), (Tm.vss l out).length ≤ out.length + Tm.cns l
  | [], out => by simp [Tm.vss]
  | t :: r, out => by
    have h1 := Tm.vs_len t out
    have h2 := Tm.vss_len r (t.vs out)
    simp only [Tm.vss, Tm.cns]
    omega
end
mutual
theorem Tm.mem_vs : ∀ (t : Tm) (out : List Int) (x : Int), x ∈ t.vs out ↔ x ∈ out ∨ t.occ x
  | .mk f v ks, out, x => by
    simp only [Tm.vs, Tm.occ]
    rw [Tm.mem_vss ks]
    split
    · rename_i h
      rw [mem_numAdd]
      simp only [h, true_and]
      constructor
      · rintro ((h | h) | h) <;> simp [h]
      · rintro (h | h | h) <;> simp [h]
    · rename_i h
      simp [h]
theorem Tm.mem_vss : ∀ (l : List Tm) (out : List Int) (x : Int), x ∈ Tm.vss l out ↔ x ∈ out ∨ Tm.occs l x
  | [], out, x => by simp [Tm.vss, Tm.occs]
  | t :: r, out, x => by
    simp only [Tm.vss, Tm.occs]
    rw [Tm.mem_vss r, Tm.mem_vs t, or_assoc]
end
mutual
theorem Tm.srt_vs : ∀ (t : Tm) {out : List Int}, Srt out → Srt (t.vs out)
  | .mk f v ks, out, h => by
    simp only [Tm.vs]
    split
    · exact Tm.srt_vss ks (srt_numAdd h)
    · exact Tm.srt_vss ks h
theorem Tm.srt_vss : ∀ (l : List Tm) {out : List Int}, Srt out → Srt (Tm.vss l out)
  | [], out, h => h
  | t :: r, out, h => Tm.srt_vss r (Tm.srt_vs t h)
end
mutual
theorem Tm.cnt_le : ∀ (t : Tm) (x : Int), t.cnt x ≤ t.cn + 1
  | .mk f v ks, x => by
    have h1 := Tm.cnts_le ks x
    simp only [Tm.cnt, Tm.cn]
    split <;> omega
theorem Tm.cnts_le : ∀ (l : List Tm) (x : Int), Tm.cnts l x ≤ Tm.cns l
  | [], x => by simp [Tm.cnts]
  | t :: r, x => by
    have h1 := Tm.cnt_le t x
    have h2 := Tm.cnts_le r x
    simp only [Tm.cnts, Tm.cns]
    omega
end
mutual
theorem Tm.cnt_zero : ∀ (t : Tm) (x : Int), t.cnt x = 0 ↔ ¬ t.occ x
  | .mk f v ks, x => by
    have h1 := Tm.cnts_zero ks x
    simp only [Tm.cnt, Tm.occ, not_or]
    split
    · rename_i h
      constructor
      · intro h; omega
      · rintro ⟨h2, _⟩; exact absurd ⟨h.1, h.2.symm⟩ h2
    · rename_i h
      rw [Nat.zero_add, h1]
      constructor
      · exact fun h2 => ⟨fun h3 => h ⟨h3.1, h3.2.symm⟩, h2⟩
      · exact fun h2 => h2.2
theorem Tm.cnts_zero : ∀ (l : List Tm) (x : Int), Tm.cnts l x = 0 ↔ ¬ Tm.occs l x
  | [], x => by simp [Tm.cnts, Tm.occs]
  | t :: r, x => by
    have h1 := Tm.cnt_zero t x
    have h2 := Tm.cnts_zero r x
    simp only [Tm.cnts, Tm.occs, not_or]
    rw [← h1, ← h2]; omega
end
theorem map_app_get {α β : Type} {g : α → β} {p : List α} {x : α} {q : List α} : ((p ++ x :: q).map g)[p.length]? = some (g x) := by simp
theorem das_app_get {p : List Tm} {x : Tm} {q : List Tm} : (Tm.das (p ++ x :: q))[p.length]? = some x.da := by rw [Tm.das_map]; simp
theorem take_map_len {α β : Type} (g : α → β) (p : List α) : List.take p.length (p.map g) = p.map g := List.take_of_length_le (by simp)
theorem len_app1 {α : Type} (p : List α) (x : α) : (p ++ [x]).length = p.length + 1 := by simp
/-- The first place where something holds. -/
def idxP (p : Int → Bool) : List Int → Nat → Int
  | [], _ => -1
  | x :: r, i => if p x then (i : Int) else idxP p r (i + 1)
theorem idxP_neg {p : Int → Bool} : ∀ {l : List Int} {i : Nat}, 0 ≤ idxP p l i ↔ ∃ x ∈ l, p x = true
  | [], i => by simp [idxP]
  | x :: r, i => by
    unfold idxP; split
    · rename_i h; simp [h]
    · rename_i h; rw [idxP_neg]; simp [h]
theorem idxP_ins {n : Int} : ∀ {l : List Int} {i : Nat}, n ∉ l → (idxP (fun x => decide (n < x)) l i < 0 ∧ insN n l = l ++ [n]) ∨ ∃ P R, l = P ++ R ∧ insN n l = P ++ n :: R ∧ idxP (fun x => decide (n < x)) l i = ((i + P.length : Nat) : Int)
  | [], i, _ => .inl ⟨by simp [idxP], rfl⟩
  | x :: r, i, h => by
    have hne : n ≠ x := fun e => h (by simp [e])
    unfold idxP insN
    by_cases hx : n < x
    · rw [if_pos (by simpa using hx), if_neg (by omega)]
      exact .inr ⟨[], x :: r, rfl, rfl, by simp⟩
    · rw [if_neg (by simpa using hx), if_pos (by omega)]
      rcases idxP_ins (l := r) (i := i + 1) (fun h1 => h (List.mem_cons_of_mem _ h1)) with ⟨h1, h2⟩ | ⟨P, R, rfl, h2, h3⟩
      · exact .inl ⟨h1, by rw [h2]; rfl⟩
      · exact .inr ⟨x :: P, R, rfl, by rw [h2]; rfl, by rw [h3]; simp; omega⟩
theorem toSymO_call (x : Sy) : XC Try.prog 61 [.dat x.da] [] (.dat x.da) [] := by
  obtain ⟨a, b, c⟩ := x
  exact laws_toSym_of ⟨rfl, rfl⟩
theorem toSymSO_call (l : List Sy) (hc : cnL Sy.cn l ≤ 1048576) : XC Try.prog 12 [L (l.map Sy.da)] [] (.one (.ol 0)) [(0, .tr 99 3 (l.map Sy.da))] := by
  have hl := cnL_len Sy.cn l
  apply laws_toSymS_of
  refine ⟨l.length, l.length, by simp, by simp, ⟨by omega, by omega, by omega⟩, ?_⟩
  have key := loopUp (p := fun i => laws_toSymS_L3 (.one (.ol 0)) [(0, .tr 99 3 (l.map Sy.da))] (l.map Sy.da) (i : Int) ((l.map Sy.da).take i ++ List.replicate ((l.map Sy.da).length - i) [.str ⟨#[]⟩, .int .i64 0, .bool false])) l.length ?_ ?_ 0 (Nat.zero_le _)
  · rw [List.take_zero, List.nil_append, Nat.sub_zero, List.length_map] at key
    exact key
  · apply laws_toSymS_L3_of
    refine ifB_f (lt_decF (by simp)) ⟨rfl, ?_⟩
    rw [fill_all rfl (by simp)]
  · intro i hi ih
    obtain ⟨x, hx⟩ := get_ex hi
    have hx1 := get_map (g := Sy.da) hx
    have hxc := toSymO_call x
    have hd := Sy.da_len x
    obtain ⟨a, b, c⟩ := x
    apply laws_toSymS_L3_of
    refine ifB_t (lt_dec (by simpa using hi)) ⟨i, rfl, _, _, _, hx1, _, _, _, hxc, i, rfl, ⟨by simp; omega⟩, i, by omega, _, _, _, fill_get rfl (by simpa using hi), ?_⟩
    rw [wr1 hi (by omega)]
    have he := fill_setE (z := [.str ⟨#[]⟩, .int .i64 0, .bool false]) (n := (l.map Sy.da).length) rfl hx1 hd rfl
    exact he ▸ ih
theorem toRuleO_call (x : Ru) (hc : x.cn ≤ 1048576) : XC Try.prog 25 [.dat x.da] [] (.agg [.d (.int .i64 x.l.f), .d (.int .i64 x.l.v), .ol 0, .d (.int .i64 x.r.f), .d (.int .i64 x.r.v), .ol 1]) [(0, .tr 31 3 (Tm.das x.l.ks)), (1, .tr 31 3 (Tm.das x.r.ks))] := by
  have h0 : x.cn = x.l.cn + x.r.cn := rfl
  have h1 := toTermO_call x.l (by omega)
  have h2 := toTermO_call x.r (by omega)
  obtain ⟨⟨f, v, ks⟩, ⟨g, u, ms⟩⟩ := x
  apply laws_toRule_of
  exact ⟨_, _, _, h1, _, _, _, h2, rfl, rfl⟩
def mkD : Nat → Int → ByteArray → ByteArray
  | 0, _, out => ⟨#[109]⟩ ++ out
  | f + 1, k, out => if 0 < k then mkD f (IntKind.wrap .i64 (Int.tdiv k 10)) (strOfNums [IntKind.wrap IntKind.u8 (IntKind.wrap .i64 (48 + Int.tmod k 10))] ++ out) else ⟨#[109]⟩ ++ out
theorem markText_loop : ∀ f (k : Nat) out, k < 10 ^ f → k ≤ 1000000000 → out.size + f ≤ 1000 → laws_markText_L4 (T (mkD f k out)) [] k out := by
  intro f
  induction f with
  | zero =>
    intro k out hk _ hs
    apply laws_markText_L4_of
    refine ifB_f (decide_eq_false (by simp at hk; omega)) ⟨⟨?_⟩, rfl, rfl⟩
    rw [ByteArray.size_append]
    have : (⟨#[109]⟩ : ByteArray).size = 1 := rfl
    omega
  | succ f ih =>
    intro k out hk hk2 hs
    apply laws_markText_L4_of
    refine ifB_d (fun h => ?_) fun h => ?_
    · have e1 : mkD (f + 1) k out = mkD f (IntKind.wrap .i64 (Int.tdiv k 10)) (strOfNums [IntKind.wrap IntKind.u8 (IntKind.wrap .i64 (48 + Int.tmod k 10))] ++ out) := by
        rw [mkD, if_pos h]
      have e2 : IntKind.wrap .i64 (Int.tdiv (k : Int) 10) = ((k / 10 : Nat) : Int) := by
        have : Int.tdiv (k : Int) 10 = ((k / 10 : Nat) : Int) := rfl
        rw [this, wrI (by omega) (by omega)]
      have hsz : ∀ x : Int, (strOfNums [x] ++ out).size = 1 + out.size := fun x => by rw [ByteArray.size_append, strOfNums_len]; rfl
      refine ⟨⟨by decide⟩, [IntKind.wrap IntKind.u8 (IntKind.wrap .i64 (48 + Int.tmod k 10))], rfl, ⟨by rw [hsz]; omega⟩, ⟨by decide⟩, ?_⟩
      rw [e1, e2]
      exact ih (k / 10) _ (by rw [Nat.pow_succ] at hk; omega) (by omega) (by rw [hsz]; omega)
    · have e1 : mkD (f + 1) k out = ⟨#[109]⟩ ++ out := by rw [mkD, if_neg h]
      rw [e1]
      refine ⟨⟨?_⟩, rfl, rfl⟩
      rw [ByteArray.size_append]
      have : (⟨#[109]⟩ : ByteArray).size = 1 := rfl
      omega
/-- The mark of a number. -/
def mkT (k : Nat) : ByteArray := mkD 10 k ⟨#[]⟩
theorem markText_call (k : Nat) (h1 : 1 ≤ k) (h2 : k ≤ 1000000000) : XC Try.prog 68 [Z (k : Int)] [] (T (mkT k)) [] := by
  apply laws_markText_of
  exact ifB_f (decide_eq_false (by omega)) (markText_loop 10 k _ (by omega) h2 (by decide))
theorem wrS {k : Nat} (hk : k ≤ 281474976710656) : IntKind.wrap .i64 ((k : Int) + 1) = ((k + 1 : Nat) : Int) := wrN hk 1 (by omega)
def mkSy1 (k : Nat) : Sy → Sy
  | ⟨nm, ar, ac⟩ => ⟨(mkT (k)), (((k + 1 : Nat) : Int)), (decide (Int.tmod ((k + 2 : Nat) : Int) 3 = 0))⟩
def mknSy : Sy → Nat
  | ⟨nm, ar, ac⟩ => 1 + 1 + 1
def mkSys : Nat → List Sy → List Sy
  | _, [] => []
  | k, x :: r => mkSy1 k x :: mkSys (k + mknSy x) r
def mkNSy (l : List Sy) : Nat := (l.map mknSy).sum
theorem mkNSy_cons (x : Sy) (r : List Sy) : mkNSy (x :: r) = mknSy x + mkNSy r := by simp [mkNSy]
theorem mkNSy_ge : ∀ l : List Sy, l.length ≤ mkNSy l
  | [] => by simp [mkNSy]
  | ⟨nm, ar, ac⟩ :: r => by
    have h := mkNSy_ge r
    rw [mkNSy_cons, List.length_cons]
    simp only [mknSy]
    omega
theorem markSymS_loop : ∀ (l : List Sy) (P : List (List Da)) (k : Nat), 1 ≤ k → P.length + l.length ≤ 100000000 → k + mkNSy l ≤ 100000000 → laws_markSymS_L2 (Z ((k + mkNSy l : Nat) : Int)) [(2000, .mt 99 3 (P ++ (mkSys k l).map Sy.da))] (k : Int) (P.length : Int) (P ++ l.map Sy.da)
  | [], P, k, _, _, _ => by
    apply laws_markSymS_L2_of
    exact ifB_f (decide_eq_false (by simp)) ⟨by simp [mkNSy], by simp [mkSys]⟩
  | ⟨nm, ar, ac⟩ :: r, P, k, h1, hl, hk => by
    rw [mkNSy_cons] at hk ⊢
    simp only [List.length_cons, mknSy] at hl hk
    have hlen : ∀ y : List Da, P.length < (P ++ y :: r.map Sy.da).length := fun y => by simp
    have ih := markSymS_loop r (P ++ [Sy.da (mkSy1 k ⟨nm, ar, ac⟩)]) (k + 3) (by omega) (by simp; omega) (by omega)
    have e4 : (P ++ [Sy.da (mkSy1 k ⟨nm, ar, ac⟩)]).length = P.length + 1 := by simp
    rw [e4, List.append_assoc, List.append_assoc] at ih
    have eN : k + mknSy ⟨nm, ar, ac⟩ = k + 3 := by simp only [mknSy] <;> omega
    have eM : mkSys k (⟨nm, ar, ac⟩ :: r) = mkSy1 k ⟨nm, ar, ac⟩ :: mkSys (k + 3) r := by rw [← eN]; rfl
    rw [eM, ← Nat.add_assoc, eN]
    apply laws_markSymS_L2_of
    rw [List.map_cons, List.map_cons]
    have w0 : IntKind.wrap .i64 (((k : Nat) : Int) + 1) = ((k + 1 : Nat) : Int) := wrS (by omega)
    have w1 : IntKind.wrap .i64 (((k + 1 : Nat) : Int) + 1) = ((k + 2 : Nat) : Int) := wrS (by omega)
    have w2 : IntKind.wrap .i64 (((k + 2 : Nat) : Int) + 1) = ((k + 3 : Nat) : Int) := wrS (by omega)
    have wp : IntKind.wrap .i64 ((P.length : Int) + 1) = ((P.length + 1 : Nat) : Int) := wrS (by omega)
    rw [w0, w1, w2, wp]
    refine ifB_t (decide_eq_true (by simp; omega)) ?_
    refine ⟨_, markText_call (k) (by omega) (by omega), P.length, rfl, ⟨hlen _⟩, P.length, rfl, _, _, _, get_mid, ?_⟩
    rw [set_mid]
    refine ⟨P.length, rfl, ⟨hlen _⟩, P.length, rfl, _, _, _, get_mid, ?_⟩
    rw [set_mid]
    refine ⟨⟨by decide⟩, P.length, rfl, ⟨hlen _⟩, P.length, rfl, _, _, _, get_mid, ?_⟩
    rw [set_mid]
    exact ih
theorem markSymS_call (l : List Sy) (k : Nat) (h1 : 1 ≤ k) (hl : l.length ≤ 100000000) (hk : k + mkNSy l ≤ 100000000) : XC Try.prog 19 [.one (.ol 2000), Z (k : Int)] [(2000, .mt 99 3 (l.map Sy.da))] (Z ((k + mkNSy l : Nat) : Int)) [(2000, .mt 99 3 ((mkSys k l).map Sy.da))] := by
  apply laws_markSymS_of
  simpa using markSymS_loop l [] k h1 (by simpa using hl) hk

end AM
end Go.Proofs.Ytajcoogpmockiaa
