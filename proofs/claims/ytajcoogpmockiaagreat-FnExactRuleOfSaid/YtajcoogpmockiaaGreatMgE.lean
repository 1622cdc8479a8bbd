/- A part of the proof of the law that the last of these texts states, for every input; no conditions. -/
import Derived.Test.YtajcoogpmockiaaGreatMgD
set_option linter.unusedVariables false
set_option linter.unusedSimpArgs false
set_option linter.unusedVariables false
set_option linter.unusedSimpArgs false
set_option maxRecDepth 100000
namespace Go.Proofs.YtajcoogpmockiaaGreat
namespace AM
open Go Go.ChangeShapes Go.WideShapes Go.RowKit
theorem aaMq {c d : Nat} {m : Int} (h : lft c m < 0) (hm : 0 ≤ m) : (-1 : Int) = lft (c + d) m := by unfold lft at h ⊢; split at h <;> split <;> omega
theorem a2Oq {c : Nat} {m : Int} (h : lft c m < 0) (hm : 0 ≤ m) : (-1 : Int) = lft c m := by unfold lft at h ⊢; split at h <;> omega
theorem abyq {c : Nat} {m : Int} (h0 : 0 ≤ m) (h1 : m ≤ 1048576) (hc : c ≤ 281474976710656) (h : IntKind.wrap .i64 (m - (c : Int)) < 0) : (-1 : Int) = lft c m := by
  rw [wrI (by omega) (by omega)] at h
  unfold lft; rw [if_pos (by omega)]
theorem aaUq {c : Nat} {m : Int} (h0 : 0 ≤ m) (h1 : m ≤ 1048576) (hc : c ≤ 281474976710656) (h : ¬ IntKind.wrap .i64 (m - (c : Int)) < 0) : IntKind.wrap .i64 (m - (c : Int)) = lft c m := by
  rw [wrI (by omega) (by omega)] at h ⊢
  unfold lft; rw [if_neg (by omega)]
theorem zw {a b : Int} (h : a = b) : Z a = Z b ∧ ([] : List (Nat × Ob)) = [] := ⟨by rw [h], rfl⟩
theorem a5Iq (l : List Tm) (ih0 : ∀ t ∈ l, ∀ m : Int, 0 ≤ m → m ≤ 1048576 → XC Tryz.prog 130 [.dat t.da, Z m] [] (Z (lft t.cn m)) []) (left : Int) (h0 : 0 ≤ left) (h1 : left ≤ 1048576) : XC Tryz.prog 192 [L (Tm.das l), Z left] [] (Z (lft (Tm.cns l) left)) [] := by
  refine i4q fun hfit => ?_
  have hlen : l.length ≤ 281474976710656 := by have := hfit.one.len; rwa [b6q] at this
  apply a1Jq
  rw [b6q, wrI (by omega) (by omega)]
  refine b8q (fun h => ⟨?_, rfl⟩) fun h => ?_
  · rw [lft, if_pos (by have := Tm.cns_cnL l ▸ j0q Tm.cn l; omega)]
  · have key := f8q (p := fun i => ∀ m : Int, 0 ≤ m → m ≤ 1048576 → m8q (Z (lft ((l.drop i).map Tm.cn).sum m)) [] (Tm.das l) m (i : Int)) l.length ?_ ?_ 0 (Nat.zero_le _)
    · have := key (left - l.length) (by omega) (by omega)
      have e : lft ((l.drop 0).map Tm.cn).sum (left - l.length) = lft (Tm.cns l) left := by
        rw [List.drop_zero, Tm.cns_cnL, cnL]; unfold lft; split <;> split <;> omega
      rw [e] at this
      exact this
    · intro m hm0 hm1
      apply D2q
      refine a7q (c1q (by rw [b6q]; exact Nat.le_refl _)) ⟨?_, rfl⟩
      simp [lft]; omega
    · intro i hi ih m hm0 hm1
      obtain ⟨x, hx⟩ := d4q hi
      have hx1 := h6q hx
      have hxc := ih0 x (List.mem_of_getElem? hx) m hm0 hm1
      have hdr : ((l.drop i).map Tm.cn).sum = Tm.cn x + ((l.drop (i + 1)).map Tm.cn).sum := by
        obtain ⟨hl, e⟩ := List.getElem?_eq_some_iff.1 hx
        rw [List.drop_eq_getElem_cons hl, e]; simp
      have hle := a1rq (n := Tm.cn x) (l := m) (by omega)
      rw [hdr]
      generalize Tm.cn x = cx at *
      obtain ⟨f, v, ks⟩ := x
      apply D2q
      refine b2q (c7q (by rwa [b6q])) ⟨i, rfl, _, _, _, hx1, _, hxc, ?_⟩
      refine b8q (fun h => ⟨?_, rfl⟩) fun h => ?_
      · have := a2Tq h hm0
        rw [show lft (cx + ((l.drop (i + 1)).map Tm.cn).sum) m = -1 by unfold lft at h ⊢; split at h <;> split <;> omega]
      · rw [wr1 hi hlen, ← M8q (by omega)]
        exact ih _ (by omega) (by omega)
theorem a03q (t : Tm) (m : Int) (h0 : 0 ≤ m) (h1 : m ≤ 1048576) : XC Tryz.prog 130 [.dat t.da, Z m] [] (Z (lft t.cn m)) [] := by
  induction t using Tm.ind generalizing m with
  | h f v ks ih =>
    apply a2vq
    exact ⟨_, a5Iq ks (fun t ht m h0 h1 => ih t ht m h0 h1) m h0 h1, b8q (fun h => zw (a2Oq h h0)) fun _ => ⟨rfl, rfl⟩⟩
theorem a4Lq (l : List Tm) (ih0 : ∀ t ∈ l, XC Tryz.prog 54 [.dat t.da, .dat t.da] [] (B true) []) : XC Tryz.prog 125 [L (Tm.das l), L (Tm.das l)] [] (B true) [] := by
  refine i4q fun hfit => ?_
  have hlen : l.length ≤ 281474976710656 := by have := hfit.one.len; rwa [b6q] at this
  apply a1Wq
  refine a7q G9q ?_
  refine f8q (p := fun i => m9q (B true) [] (Tm.das l) (Tm.das l) (i : Int)) l.length ?_ (fun i hi ih => ?_) 0 (Nat.zero_le _)
  · apply D1q
    exact a7q (c1q (by rw [b6q]; exact Nat.le_refl _)) ⟨rfl, rfl⟩
  · obtain ⟨x, hx⟩ := d4q hi
    have hx1 := h6q hx
    have hxc := ih0 x (List.mem_of_getElem? hx)
    obtain ⟨f, v, ks⟩ := x
    apply D1q
    refine b2q (c7q (by rwa [b6q])) ⟨i, rfl, _, _, _, hx1, i, rfl, _, _, _, hx1, _, hxc, a7q rfl ?_⟩
    rw [wr1 hi hlen]
    exact ih
theorem C5q (t : Tm) : XC Tryz.prog 54 [.dat t.da, .dat t.da] [] (B true) [] := by
  induction t using Tm.ind with
  | h f v ks ih =>
    apply a2Uq
    exact a7q G9q (a7q G9q ⟨_, a4Lq ks ih, a7q rfl ⟨rfl, rfl⟩⟩)
mutual
def Tm.mkT : Nat → Tm → Tm
  | k, .mk _ _ ks => .mk k ((k + 1 : Nat) : Int) (Tm.mkL (k + 2) ks)
def Tm.mkL : Nat → List Tm → List Tm
  | _, [] => []
  | k, t :: r => Tm.mkT k t :: Tm.mkL (k + 2 + 2 * t.cn) r
end
theorem wrN {k : Nat} (hk : k ≤ 281474976710656) (d : Nat) (hd : d ≤ 1000) : IntKind.wrap .i64 ((k : Int) + (d : Int)) = ((k + d : Nat) : Int) := by
  rw [wrI (by omega) (by omega)]; omega
theorem f0q {α : Type} {P : List α} {x : α} {R : List α} : (P ++ x :: R)[P.length]? = some x := by simp
theorem b1q {α : Type} {P : List α} {x y : α} {R : List α} : (P ++ x :: R).set P.length y = P ++ y :: R := by simp
theorem Tm.len_cns (l : List Tm) : l.length ≤ Tm.cns l := by
  rw [Tm.cns_cnL]; exact j0q _ _
theorem O6q : ∀ (l : List Tm), (∀ t ∈ l, ∀ k : Nat, k + 2 * t.cn ≤ 10000000000000 → XC Tryz.prog 76 [.one (.ol 2000), Z (k : Int)] [(2000, .mt 30 3 (Tm.das t.ks))] (Z ((k + 2 * t.cn : Nat) : Int)) [(2000, .mt 30 3 (Tm.das (Tm.mkL k t.ks)))]) →
    ∀ (P : List (List Da)) (k : Nat), P.length + l.length ≤ 10000000000000 → k + 2 * Tm.cns l ≤ 10000000000000 → k3q (Z ((k + 2 * Tm.cns l : Nat) : Int)) [(2000, .mt 30 3 (P ++ Tm.das (Tm.mkL k l)))] (k : Int) (P.length : Int) (P ++ Tm.das l)
  | [], _, P, k, _, _ => by
    apply z1q
    refine a7q (decide_eq_false (by simp [Tm.das])) ⟨by simp [Tm.cns], by simp [Tm.mkL]⟩
  | .mk f v ks :: r, ih0, P, k, hl, hk => by
    have hcn : Tm.cns (.mk f v ks :: r) = 1 + Tm.cns ks + Tm.cns r := rfl
    rw [hcn] at hk
    simp only [List.length_cons] at hl
    have e1 : Tm.das (.mk f v ks :: r) = [.int .i64 f, .int .i64 v, .sl (Tm.das ks)] :: Tm.das r := rfl
    apply z1q
    rw [e1]
    have w1 : IntKind.wrap .i64 ((k : Int) + 1) = ((k + 1 : Nat) : Int) := wrN (by omega) 1 (by omega)
    have w2 : IntKind.wrap .i64 (((k + 1 : Nat) : Int) + 1) = ((k + 2 : Nat) : Int) := wrN (by omega) 1 (by omega)
    have w3 : IntKind.wrap .i64 ((P.length : Int) + 1) = ((P.length + 1 : Nat) : Int) := wrN (by omega) 1 (by omega)
    rw [w1, w2, w3]
    have hlen : ∀ y : List Da, P.length < (P ++ y :: Tm.das r).length := fun y => by simp
    have hm := ih0 (.mk f v ks) (by simp) (k + 2) (by simp only [Tm.cn]; omega)
    refine b2q (decide_eq_true (by simp; omega)) ⟨P.length, rfl, ⟨hlen _⟩, P.length, rfl, _, _, _, f0q, P.length, rfl, ⟨by rw [b1q]; exact hlen _⟩, P.length, rfl, _, _, _, by rw [b1q]; exact f0q, P.length, rfl, ⟨by rw [b1q, b1q]; exact hlen _⟩, P.length, rfl, _, _, _, by rw [b1q, b1q]; exact f0q, fun _ _ _ => ⟨⟨rfl, rfl, rfl⟩, _, _, _, by rw [b1q, b1q]; exact f0q, ⟨fun y hy => ?_⟩, _, _, hm, ?_⟩⟩
    · rw [Tm.das_map] at hy
      obtain ⟨t, _, rfl⟩ := List.mem_map.1 hy
      exact Tm.da_len t
    · rw [b1q, b1q, b1q]
      have ih := O6q r (fun t ht => ih0 t (List.mem_cons_of_mem _ ht)) (P ++ [[.int .i64 (k : Int), .int .i64 ((k + 1 : Nat) : Int), .sl (Tm.das (Tm.mkL (k + 2) ks))]]) (k + 2 + 2 * Tm.cns ks) (by simp; omega) (by omega)
      have e2 : Tm.das (Tm.mkL k (.mk f v ks :: r)) = [.int .i64 (k : Int), .int .i64 ((k + 1 : Nat) : Int), .sl (Tm.das (Tm.mkL (k + 2) ks))] :: Tm.das (Tm.mkL (k + 2 + 2 * Tm.cns ks) r) := rfl
      have e3 : k + 2 * Tm.cns (.mk f v ks :: r) = k + 2 + 2 * Tm.cns ks + 2 * Tm.cns r := by rw [hcn]; omega
      rw [e2, e3]
      simpa [List.append_assoc, Tm.cn, Tm.ks] using ih
theorem B5q (t : Tm) : ∀ k : Nat, k + 2 * t.cn ≤ 10000000000000 → XC Tryz.prog 76 [.one (.ol 2000), Z (k : Int)] [(2000, .mt 30 3 (Tm.das t.ks))] (Z ((k + 2 * t.cn : Nat) : Int)) [(2000, .mt 30 3 (Tm.das (Tm.mkL k t.ks)))] := by
  induction t using Tm.ind with
  | h f v ks ih =>
  intro k hk
  apply Z1q
  have h1 := Tm.len_cns ks
  have h2 : (Tm.mk f v ks).cn = Tm.cns ks := rfl
  rw [h2] at hk ⊢
  have := O6q ks (fun t ht => ih t ht) [] k (by simp; omega) hk
  simpa [Tm.ks] using this
theorem S4q (t : Tm) (k : Nat) (hk : k + 2 * t.cn ≤ 10000000000000) : XC Tryz.prog 59 [.agg [.d (.int .i64 t.f), .d (.int .i64 t.v), .ol 2000], Z (k : Int)] [(2000, .mt 30 3 (Tm.das t.ks))] (Z ((k + 2 * t.cn : Nat) : Int)) [(2000, .mt 30 3 (Tm.das (Tm.mkL k t.ks)))] := by
  apply a0Rq
  exact ⟨_, _, B5q t k hk, rfl, rfl⟩
theorem N2q : ∀ (l : List Tm), (∀ t ∈ l, ∀ k : Nat, k + 2 * t.cn ≤ 10000000000000 → XC Tryz.prog 127 [L (Tm.das (Tm.mkL k t.ks)), Z (k : Int)] [] (Z ((k + 2 * t.cn : Nat) : Int)) []) →
    ∀ (P : List (List Da)) (k : Nat), P.length + l.length ≤ 10000000000000 → k + 2 * Tm.cns l ≤ 10000000000000 → k5q (Z ((k + 2 * Tm.cns l : Nat) : Int)) [] (P ++ Tm.das (Tm.mkL k l)) (k : Int) (P.length : Int)
  | [], _, P, k, _, _ => by
    apply z9q
    refine a7q (decide_eq_false (by simp [Tm.das, Tm.mkL])) ⟨by simp [Tm.cns], rfl⟩
  | .mk f v ks :: r, ih0, P, k, hl, hk => by
    have hcn : Tm.cns (.mk f v ks :: r) = 1 + Tm.cns ks + Tm.cns r := rfl
    rw [hcn] at hk
    simp only [List.length_cons] at hl
    have e2 : Tm.das (Tm.mkL k (.mk f v ks :: r)) = [.int .i64 (k : Int), .int .i64 ((k + 1 : Nat) : Int), .sl (Tm.das (Tm.mkL (k + 2) ks))] :: Tm.das (Tm.mkL (k + 2 + 2 * Tm.cns ks) r) := rfl
    apply z9q
    rw [e2]
    have w1 : IntKind.wrap .i64 ((k : Int) + 1) = ((k + 1 : Nat) : Int) := wrN (by omega) 1 (by omega)
    have w2 : IntKind.wrap .i64 (((k + 1 : Nat) : Int) + 1) = ((k + 2 : Nat) : Int) := wrN (by omega) 1 (by omega)
    have w3 : IntKind.wrap .i64 ((P.length : Int) + 1) = ((P.length + 1 : Nat) : Int) := wrN (by omega) 1 (by omega)
    rw [w1, w2, w3]
    have hm := ih0 (.mk f v ks) (by simp) (k + 2) (by simp only [Tm.cn]; omega)
    refine b2q (decide_eq_true (by simp; omega)) ⟨P.length, rfl, _, _, _, f0q, a7q (by simp) ⟨P.length, rfl, _, _, _, f0q, a7q (by simp) ⟨P.length, rfl, _, _, _, f0q, _, hm, a7q (decide_eq_false (by omega)) ?_⟩⟩⟩
    have ih := N2q r (fun t ht => ih0 t (List.mem_cons_of_mem _ ht)) (P ++ [[.int .i64 (k : Int), .int .i64 ((k + 1 : Nat) : Int), .sl (Tm.das (Tm.mkL (k + 2) ks))]]) (k + 2 + 2 * Tm.cns ks) (by simp; omega) (by omega)
    have e3 : k + 2 * Tm.cns (.mk f v ks :: r) = k + 2 + 2 * Tm.cns ks + 2 * Tm.cns r := by rw [hcn]; omega
    rw [e3]
    simpa [List.append_assoc, Tm.cn, Tm.ks] using ih
theorem a29q (t : Tm) : ∀ k : Nat, k + 2 * t.cn ≤ 10000000000000 → XC Tryz.prog 127 [L (Tm.das (Tm.mkL k t.ks)), Z (k : Int)] [] (Z ((k + 2 * t.cn : Nat) : Int)) [] := by
  induction t using Tm.ind with
  | h f v ks ih =>
  intro k hk
  apply Y6q
  have h1 := Tm.len_cns ks
  have h2 : (Tm.mk f v ks).cn = Tm.cns ks := rfl
  rw [h2] at hk ⊢
  have := N2q ks (fun t ht => ih t ht) [] k (by simp; omega) hk
  simpa [Tm.ks] using this
theorem S1q (t : Tm) (k : Nat) (hk : k + 2 * t.cn ≤ 10000000000000) : XC Tryz.prog 60 [.dat [.int .i64 t.f, .int .i64 t.v, .sl (Tm.das (Tm.mkL k t.ks))], Z (k : Int)] [] (Z ((k + 2 * t.cn : Nat) : Int)) [] := by
  apply a0Mq
  exact ⟨_, a29q t k hk, a7q (decide_eq_false (by omega)) ⟨rfl, rfl⟩⟩
theorem a3Rq (l : List Tm) (hc : Tm.cns l ≤ 1048576) (ih0 : ∀ t ∈ l, t.cn ≤ 1048576 → XC Tryz.prog 133 [.dat t.da] [] (.agg [.d (.int .i64 t.f), .d (.int .i64 t.v), .ol 0]) [(0, .tr 30 3 (Tm.das t.ks))]) : XC Tryz.prog 195 [L (Tm.das l)] [] (.one (.ol 0)) [(0, .tr 30 3 (Tm.das l))] := by
  have hl := Tm.cns_cnL l ▸ j0q Tm.cn l
  apply a16q
  refine ⟨l.length, l.length, by rw [b6q], by rw [b6q], ⟨by omega, by omega, by omega⟩, ?_⟩
  have key := f8q (p := fun i => m0q (.one (.ol 0)) [(0, .tr 30 3 (Tm.das l))] (Tm.das l) (i : Int) ((Tm.das l).take i ++ List.replicate ((Tm.das l).length - i) [.int .i64 0, .int .i64 0, .sl []])) l.length ?_ ?_ 0 (Nat.zero_le _)
  · rw [List.take_zero, List.nil_append, Nat.sub_zero, b6q] at key
    exact key
  · apply C6q
    refine a7q (c1q (by rw [b6q]; exact Nat.le_refl _)) ⟨rfl, ?_⟩
    rw [a0xq rfl (by rw [b6q]; exact Nat.le_refl _)]
  · intro i hi ih
    obtain ⟨x, hx⟩ := d4q hi
    have hx1 := h6q hx
    have hm := Tm.cns_cnL l ▸ o3q (cn := Tm.cn) (List.mem_of_getElem? hx)
    have hxc := ih0 x (List.mem_of_getElem? hx) (by omega)
    have hd := Tm.da_len x
    obtain ⟨f, v, ks⟩ := x
    apply C6q
    refine b2q (c7q (by rwa [b6q])) ⟨i, rfl, _, _, _, hx1, _, _, _, hxc, i, rfl, ⟨by rw [List.length_append, List.length_take, List.length_replicate, b6q]; omega⟩, i, by omega, _, _, _, a0Kq rfl (by rwa [b6q]), ?_⟩
    rw [wr1 hi (by omega)]
    have he := T4q (z := [.int .i64 0, .int .i64 0, .sl []]) (n := (Tm.das l).length) rfl hx1 hd rfl
    exact he ▸ ih
theorem V0q (t : Tm) (hc : t.cn ≤ 1048576) : XC Tryz.prog 133 [.dat t.da] [] (.agg [.d (.int .i64 t.f), .d (.int .i64 t.v), .ol 0]) [(0, .tr 30 3 (Tm.das t.ks))] := by
  induction t using Tm.ind with
  | h f v ks ih =>
    apply a2Hq
    exact ⟨_, a3Rq ks hc ih, rfl, rfl⟩
theorem a01q (f v : Int) (ks : List Tm) (hc : ks.length ≤ 1200000000000) : ∀ (q p : List Tm), ks = p ++ q → (∀ t ∈ q, XC Tryz.prog 109 [.dat t.da] [] (.dat t.da) []) → o1q (.dat (Tm.mk f v ks).da) [] (p.length : Int) f v (Tm.das ks) 0 0 f v (Tm.das p)
  | [], p, e, _ => by
    subst e
    apply E2q
    rw [List.append_nil]
    exact a7q (decide_eq_false (by rw [b6q]; omega)) ⟨rfl, rfl⟩
  | t :: q, p, e, ih0 => by
    have hpl : p.length < ks.length := by rw [e]; simp
    have hx : (Tm.das ks)[p.length]? = some t.da := h6q (by rw [e]; exact f0q)
    have hcall := ih0 t (by simp)
    obtain ⟨g, u, ls⟩ := t
    apply E2q
    refine b2q (decide_eq_true (by rw [b6q]; omega)) ⟨p.length, rfl, _, _, _, hx, _, _, _, hcall, ⟨by rw [b6q]; simp; omega⟩, ?_⟩
    rw [wr1 hpl (by omega)]
    have ih := a01q f v ks hc q (p ++ [.mk g u ls]) (by rw [e]; simp) fun t ht => ih0 t (List.mem_cons_of_mem _ ht)
    have e2 : Tm.das (p ++ [.mk g u ls]) = Tm.das p ++ [[.int .i64 g, .int .i64 u, .sl (Tm.das ls)]] := by rw [Tm.das_map, Tm.das_map]; simp [Tm.da]
    rw [e2] at ih
    simpa [Tm.f, Tm.v, Tm.ks] using ih
theorem a05q (t : Tm) (hc : t.cn ≤ 1200000000000) : XC Tryz.prog 109 [.dat t.da] [] (.dat t.da) [] := by
  induction t using Tm.ind with
  | h f v ks ih =>
    have h1 := Tm.len_cns ks
    have h2 : (Tm.mk f v ks).cn = Tm.cns ks := rfl
    apply a2Vq
    refine a01q f v ks (by omega) ks [] rfl fun t ht => ih t ht ?_
    have := o3q (cn := Tm.cn) ht
    rw [← Tm.cns_cnL] at this
    omega
theorem M3q (ks : List Tm) (hc : ks.length ≤ 1200000000000) : ∀ (q p : List Tm), ks = p ++ q → (∀ t ∈ q, XC Tryz.prog 117 [.dat t.da] [] (.agg [.d (.int .i64 t.f), .d (.int .i64 t.v), .ol 0]) [(0, .tr 30 3 (Tm.das t.ks))]) → k4q (.one (.ol 0)) [(0, .tr 30 3 (Tm.das ks))] (Tm.das ks) (ks.length : Int) (p.length : Int) (Tm.das p)
  | [], p, e, _ => by
    subst e
    apply z3q
    rw [List.append_nil]
    exact a7q (decide_eq_false (by omega)) ⟨rfl, rfl⟩
  | t :: q, p, e, ih0 => by
    have hpl : p.length < ks.length := by rw [e]; simp
    have hx : (Tm.das ks)[p.length]? = some t.da := h6q (by rw [e]; exact f0q)
    have hcall := ih0 t (by simp)
    obtain ⟨g, u, ls⟩ := t
    apply z3q
    refine b2q (decide_eq_true (by omega)) ⟨p.length, rfl, _, _, _, hx, _, _, _, hcall, ⟨by rw [b6q]; simp; omega⟩, ?_⟩
    rw [wr1 hpl (by omega)]
    have ih := M3q ks hc q (p ++ [.mk g u ls]) (by rw [e]; simp) fun t ht => ih0 t (List.mem_cons_of_mem _ ht)
    have e2 : Tm.das (p ++ [.mk g u ls]) = Tm.das p ++ [[.int .i64 g, .int .i64 u, .sl (Tm.das ls)]] := by rw [Tm.das_map, Tm.das_map]; simp [Tm.da]
    rw [e2] at ih
    simpa [Tm.f, Tm.v, Tm.ks] using ih
theorem S5q (t : Tm) (hc : t.cn ≤ 1200000000000) : XC Tryz.prog 117 [.dat t.da] [] (.agg [.d (.int .i64 t.f), .d (.int .i64 t.v), .ol 0]) [(0, .tr 30 3 (Tm.das t.ks))] := by
  induction t using Tm.ind with
  | h f v ks ih =>
    have h1 := Tm.len_cns ks
    have h2 : (Tm.mk f v ks).cn = Tm.cns ks := rfl
    apply a0mq
    refine ⟨_, Z3q ?_, rfl, rfl⟩
    rw [b6q]
    refine M3q ks (by omega) ks [] rfl fun t ht => ih t ht ?_
    have := o3q (cn := Tm.cn) ht
    rw [← Tm.cns_cnL] at this
    omega
theorem a6Iq (x : Li) (m : Int) (h0 : 0 ≤ m) (h1 : m ≤ 1048576) : XC Tryz.prog 105 [.dat x.da, Z m] [] (Z (lft x.cn m)) [] := by
  obtain ⟨p, ⟨f, u, ks⟩, ⟨g, v, ms⟩⟩ := x
  apply a3Mq
  have hle := a1rq (n := Tm.cn (.mk f u ks)) (l := m) (by omega)
  refine ⟨_, a03q (.mk f u ks) m h0 h1, b8q (fun h => zw (aaMq h h0)) fun h => ⟨_, a03q (.mk g v ms) _ (by omega) (by omega), b8q (fun h2 => zw ?_) fun h2 => zw ?_⟩⟩
  · have := a2Oq h2 (by omega); rw [M8q (by omega)] at this; exact this
  · rw [M8q (by omega)]; rfl
theorem a7oq (x : Li) : XC Tryz.prog 126 [.dat x.da, .dat x.da] [] (B true) [] := by
  obtain ⟨p, ⟨f, u, ks⟩, ⟨g, v, ms⟩⟩ := x
  apply a3Eq
  exact a7q a6hq ⟨_, C5q (.mk f u ks), a7q rfl ⟨_, C5q (.mk g v ms), a7q rfl ⟨rfl, rfl⟩⟩⟩
theorem a60q (l : List Li) (left : Int) (h0 : 0 ≤ left) (h1 : left ≤ 1048576) : XC Tryz.prog 45 [L (l.map Li.da), Z left] [] (Z (lft (cnL Li.cn l) left)) [] := by
  refine i4q fun hfit => ?_
  have hlen : l.length ≤ 281474976710656 := by have := hfit.one.len; simpa using this
  apply a2Wq
  rw [List.length_map, wrI (by omega) (by omega)]
  refine b8q (fun h => ⟨?_, rfl⟩) fun h => ?_
  · rw [lft, if_pos (by have := j0q Li.cn l; omega)]
  · have key := f8q (p := fun i => ∀ m : Int, 0 ≤ m → m ≤ 1048576 → o0q (Z (lft ((l.drop i).map Li.cn).sum m)) [] (l.map Li.da) m (i : Int)) l.length ?_ ?_ 0 (Nat.zero_le _)
    · have := key (left - l.length) (by omega) (by omega)
      have e : lft ((l.drop 0).map Li.cn).sum (left - l.length) = lft (cnL Li.cn l) left := by
        rw [List.drop_zero, cnL]; unfold lft; split <;> split <;> omega
      rw [e] at this
      exact this
    · intro m hm0 hm1
      apply F1q
      refine a7q (c1q (by simp)) ⟨?_, rfl⟩
      simp [lft]; omega
    · intro i hi ih m hm0 hm1
      obtain ⟨x, hx⟩ := d4q hi
      have hx1 := f1q (g := Li.da) hx
      have hxc := a6Iq x m hm0 hm1
      have hdr : ((l.drop i).map Li.cn).sum = Li.cn x + ((l.drop (i + 1)).map Li.cn).sum := by
        obtain ⟨hl, e⟩ := List.getElem?_eq_some_iff.1 hx
        rw [List.drop_eq_getElem_cons hl, e]; simp
      have hle := a1rq (n := Li.cn x) (l := m) (by omega)
      rw [hdr]
      generalize Li.cn x = cx at *
      obtain ⟨p, ⟨f, v, ks⟩, ⟨g, u, ms⟩⟩ := x
      apply F1q
      refine b2q (c7q (by simpa using hi)) ⟨i, rfl, _, _, _, _, _, _, _, hx1, _, hxc, ?_⟩
      refine b8q (fun h => ⟨?_, rfl⟩) fun h => ?_
      · have := a2Tq h hm0
        rw [show lft (cx + ((l.drop (i + 1)).map Li.cn).sum) m = -1 by unfold lft at h ⊢; split at h <;> split <;> omega]
      · rw [wr1 hi hlen, ← M8q (by omega)]
        exact ih _ (by omega) (by omega)
theorem a5Qq (l : List Li) : XC Tryz.prog 56 [L (l.map Li.da), L (l.map Li.da)] [] (B true) [] := by
  refine i4q fun hfit => ?_
  have hlen : l.length ≤ 281474976710656 := by have := hfit.one.len; simpa using this
  apply a2Cq
  refine a7q G9q ?_
  refine f8q (p := fun i => o2q (B true) [] (l.map Li.da) (l.map Li.da) (i : Int)) l.length ?_ (fun i hi ih => ?_) 0 (Nat.zero_le _)
  · apply E8q
    exact a7q (c1q (by simp)) ⟨rfl, rfl⟩
  · obtain ⟨x, hx⟩ := d4q hi
    have hx1 := f1q (g := Li.da) hx
    have hxc := a7oq x
    obtain ⟨p, ⟨f, v, ks⟩, ⟨g, u, ms⟩⟩ := x
    apply E8q
    refine b2q (c7q (by simpa using hi)) ⟨i, rfl, _, _, _, _, _, _, _, hx1, i, rfl, _, _, _, _, _, _, _, hx1, _, hxc, a7q rfl ?_⟩
    rw [wr1 hi hlen]
    exact ih
theorem a3Jq (x : Cl) (m : Int) (h0 : 0 ≤ m) (h1 : m ≤ 1048576) : XC Tryz.prog 10 [.dat x.da, Z m] [] (Z (lft x.cn m)) [] := by
  apply a0Dq
  exact ⟨_, a60q x.ls m h0 h1, b8q (fun h => zw (a2Oq h h0)) fun _ => ⟨rfl, rfl⟩⟩
theorem a47q (x : Cl) : XC Tryz.prog 17 [.dat x.da, .dat x.da] [] (B true) [] := by
  apply a0eq
  exact ⟨_, a5Qq x.ls, a7q rfl ⟨rfl, rfl⟩⟩
def mkLi (k : Nat) (x : Li) : Li := ⟨decide (Int.tmod (k : Int) 3 = 0), .mk ((k + 1 : Nat) : Int) ((k + 2 : Nat) : Int) (Tm.mkL (k + 3) x.l.ks), .mk ((k + 3 + 2 * x.l.cn : Nat) : Int) ((k + 4 + 2 * x.l.cn : Nat) : Int) (Tm.mkL (k + 5 + 2 * x.l.cn) x.r.ks)⟩
def X5q : Nat → List Li → List Li
  | _, [] => []
  | k, x :: r => mkLi k x :: X5q (k + 5 + 2 * x.cn) r
def mkN : List Li → Nat
  | [] => 0
  | x :: r => 5 + 2 * x.cn + mkN r
theorem aaIq (l : List Li) : mkN l ≤ 5 * cnL Li.cn l := by
  induction l with
  | nil => simp [mkN]
  | cons x r ih => simp only [mkN, cnL, List.length_cons, List.map_cons, List.sum_cons] at ih ⊢; omega
theorem das3 (l : List Tm) : ∀ y ∈ Tm.das l, y.length = 3 := by
  intro y hy
  rw [Tm.das_map] at hy
  obtain ⟨t, _, rfl⟩ := List.mem_map.1 hy
  exact Tm.da_len t
theorem S0q : ∀ (l : List Li) (P : List (List Da)) (k : Nat), P.length + l.length ≤ 10000000000000 → k + mkN l ≤ 10000000000000 → l2q (Z ((k + mkN l : Nat) : Int)) [(2000, .mt 85 7 (P ++ (X5q k l).map Li.da))] (k : Int) (P.length : Int) (P ++ l.map Li.da)
  | [], P, k, _, _ => by
    apply A5q
    exact a7q (decide_eq_false (by simp)) ⟨by simp [mkN], by simp [X5q]⟩
  | ⟨b, .mk f v ks, .mk g u ms⟩ :: r, P, k, hl, hk => by
    have hN : mkN (⟨b, .mk f v ks, .mk g u ms⟩ :: r) = 5 + 2 * (Tm.cns ks + Tm.cns ms) + mkN r := rfl
    rw [hN] at hk
    simp only [List.length_cons] at hl
    have e1 : (⟨b, .mk f v ks, .mk g u ms⟩ :: r : List Li).map Li.da = [.bool b, .int .i64 f, .int .i64 v, .sl (Tm.das ks), .int .i64 g, .int .i64 u, .sl (Tm.das ms)] :: r.map Li.da := rfl
    apply A5q
    rw [e1]
    have w1 : IntKind.wrap .i64 ((k : Int) + 1) = ((k + 1 : Nat) : Int) := wrN (by omega) 1 (by omega)
    have w2 : IntKind.wrap .i64 (((k + 1 : Nat) : Int) + 1) = ((k + 2 : Nat) : Int) := wrN (by omega) 1 (by omega)
    have w3 : IntKind.wrap .i64 (((k + 2 : Nat) : Int) + 1) = ((k + 3 : Nat) : Int) := wrN (by omega) 1 (by omega)
    have w4 : IntKind.wrap .i64 (((k + 3 + 2 * Tm.cns ks : Nat) : Int) + 1) = ((k + 4 + 2 * Tm.cns ks : Nat) : Int) := by rw [wrI (by omega) (by omega)]; omega
    have w5 : IntKind.wrap .i64 (((k + 4 + 2 * Tm.cns ks : Nat) : Int) + 1) = ((k + 5 + 2 * Tm.cns ks : Nat) : Int) := by rw [wrI (by omega) (by omega)]; omega
    have wp : IntKind.wrap .i64 ((P.length : Int) + 1) = ((P.length + 1 : Nat) : Int) := wrN (by omega) 1 (by omega)
    rw [w1, w2, w3, wp]
    have hlen : ∀ y : List Da, P.length < (P ++ y :: r.map Li.da).length := fun y => by simp
    have hm1 : XC Tryz.prog 76 [.one (.ol 2000), Z ((k + 3 : Nat) : Int)] [(2000, .mt 30 3 (Tm.das ks))] (Z ((k + 3 + 2 * Tm.cns ks : Nat) : Int)) [(2000, .mt 30 3 (Tm.das (Tm.mkL (k + 3) ks)))] := B5q (.mk f v ks) (k + 3) (by simp only [Tm.cn]; omega)
    have hm2 : XC Tryz.prog 76 [.one (.ol 2000), Z (IntKind.wrap .i64 (IntKind.wrap .i64 (((k + 3 + 2 * Tm.cns ks : Nat) : Int) + 1) + 1))] [(2000, .mt 30 3 (Tm.das ms))] (Z ((k + 5 + 2 * Tm.cns ks + 2 * Tm.cns ms : Nat) : Int)) [(2000, .mt 30 3 (Tm.das (Tm.mkL (k + 5 + 2 * Tm.cns ks) ms)))] := by
      rw [w4, w5]
      exact B5q (.mk g u ms) (k + 5 + 2 * Tm.cns ks) (by simp only [Tm.cn]; omega)
    refine b2q (decide_eq_true (by simp; omega)) ⟨⟨by decide⟩, P.length, rfl, ⟨hlen _⟩, P.length, rfl, _, _, _, _, _, _, _, f0q,
      P.length, rfl, ⟨by rw [b1q]; exact hlen _⟩, P.length, rfl, _, _, _, _, _, _, _, by rw [b1q]; exact f0q,
      P.length, rfl, ⟨by rw [b1q, b1q]; exact hlen _⟩, P.length, rfl, _, _, _, _, _, _, _, by rw [b1q, b1q]; exact f0q,
      P.length, rfl, ⟨by rw [b1q, b1q, b1q]; exact hlen _⟩, P.length, rfl, _, _, _, _, _, _, _, by rw [b1q, b1q, b1q]; exact f0q, fun _ _ _ => ⟨⟨rfl, rfl, rfl⟩, _, _, _, _, _, _, _, by rw [b1q, b1q, b1q]; exact f0q, ⟨das3 _⟩, _, _, hm1,
      P.length, rfl, ⟨by rw [b1q, b1q, b1q, b1q]; exact hlen _⟩, P.length, rfl, _, _, _, _, _, _, _, by rw [b1q, b1q, b1q, b1q]; exact f0q,
      P.length, rfl, ⟨by rw [b1q, b1q, b1q, b1q, b1q]; exact hlen _⟩, P.length, rfl, _, _, _, _, _, _, _, by rw [b1q, b1q, b1q, b1q, b1q]; exact f0q,
      P.length, rfl, ⟨by rw [b1q, b1q, b1q, b1q, b1q, b1q]; exact hlen _⟩, P.length, rfl, _, _, _, _, _, _, _, by rw [b1q, b1q, b1q, b1q, b1q, b1q]; exact f0q, fun _ _ _ => ⟨⟨rfl, rfl, rfl⟩, _, _, _, _, _, _, _, by rw [b1q, b1q, b1q, b1q, b1q, b1q]; exact f0q, ⟨das3 _⟩, _, _, hm2, ?_⟩⟩⟩
    rw [b1q, b1q, b1q, b1q, b1q, b1q, b1q, w4]
    have ih := S0q r (P ++ [[.bool (decide (Int.tmod (k : Int) 3 = 0)), .int .i64 ((k + 1 : Nat) : Int), .int .i64 ((k + 2 : Nat) : Int), .sl (Tm.das (Tm.mkL (k + 3) ks)), .int .i64 ((k + 3 + 2 * Tm.cns ks : Nat) : Int), .int .i64 ((k + 4 + 2 * Tm.cns ks : Nat) : Int), .sl (Tm.das (Tm.mkL (k + 5 + 2 * Tm.cns ks) ms))]]) (k + 5 + 2 * (Tm.cns ks + Tm.cns ms)) (by simp; omega) (by omega)
    have e2 : (X5q k (⟨b, .mk f v ks, .mk g u ms⟩ :: r)).map Li.da = [.bool (decide (Int.tmod (k : Int) 3 = 0)), .int .i64 ((k + 1 : Nat) : Int), .int .i64 ((k + 2 : Nat) : Int), .sl (Tm.das (Tm.mkL (k + 3) ks)), .int .i64 ((k + 3 + 2 * Tm.cns ks : Nat) : Int), .int .i64 ((k + 4 + 2 * Tm.cns ks : Nat) : Int), .sl (Tm.das (Tm.mkL (k + 5 + 2 * Tm.cns ks) ms))] :: (X5q (k + 5 + 2 * (Tm.cns ks + Tm.cns ms)) r).map Li.da := rfl
    rw [e2, hN, show k + (5 + 2 * (Tm.cns ks + Tm.cns ms) + mkN r) = k + 5 + 2 * (Tm.cns ks + Tm.cns ms) + mkN r by omega, show k + 5 + 2 * Tm.cns ks + 2 * Tm.cns ms = k + 5 + 2 * (Tm.cns ks + Tm.cns ms) by omega]
    have e4 : (P ++ [[Da.bool (decide (Int.tmod (k : Int) 3 = 0)), .int .i64 ((k + 1 : Nat) : Int), .int .i64 ((k + 2 : Nat) : Int), .sl (Tm.das (Tm.mkL (k + 3) ks)), .int .i64 ((k + 3 + 2 * Tm.cns ks : Nat) : Int), .int .i64 ((k + 4 + 2 * Tm.cns ks : Nat) : Int), .sl (Tm.das (Tm.mkL (k + 5 + 2 * Tm.cns ks) ms))]]).length = P.length + 1 := by simp
    rw [e4, List.append_assoc, List.append_assoc] at ih
    exact ih
theorem a1bq (x : Cl) (k : Nat) (h1 : x.ls.length ≤ 1000000000000) (hk : k + mkN x.ls ≤ 10000000000000) : XC Tryz.prog 19 [.agg [.ol 2000], Z (k : Int)] [(2000, .mt 85 7 (x.ls.map Li.da))] (Z ((k + mkN x.ls : Nat) : Int)) [(2000, .mt 85 7 ((X5q k x.ls).map Li.da))] := by
  apply W3q
  refine ⟨_, _, a0pq ?_, rfl, rfl⟩
  have := S0q x.ls [] k (by simp; omega) hk
  simpa using this
theorem a5Mq (x : Li) (hc : x.cn ≤ 1048576) : XC Tryz.prog 114 [.dat x.da] [] (.agg [.d (.bool x.p), .d (.int .i64 x.l.f), .d (.int .i64 x.l.v), .ol 0, .d (.int .i64 x.r.f), .d (.int .i64 x.r.v), .ol 1]) [(0, .tr 30 3 (Tm.das x.l.ks)), (1, .tr 30 3 (Tm.das x.r.ks))] := by
  have h0 : x.cn = x.l.cn + x.r.cn := rfl
  have h1 := V0q x.l (by omega)
  have h2 := V0q x.r (by omega)
  obtain ⟨p, ⟨f, v, ks⟩, ⟨g, u, ms⟩⟩ := x
  apply a3Iq
  exact ⟨_, _, _, h1, _, _, _, h2, rfl, rfl⟩
theorem a4Iq (l : List Li) (hc : cnL Li.cn l ≤ 1048576) : XC Tryz.prog 50 [L (l.map Li.da)] [] (.one (.ol 0)) [(0, .tr 85 7 (l.map Li.da))] := by
  have hl := j0q Li.cn l
  apply a2Zq
  refine ⟨l.length, l.length, by simp, by simp, ⟨by omega, by omega, by omega⟩, ?_⟩
  have key := f8q (p := fun i => o6q (.one (.ol 0)) [(0, .tr 85 7 (l.map Li.da))] (l.map Li.da) (i : Int) ((l.map Li.da).take i ++ List.replicate ((l.map Li.da).length - i) [.bool false, .int .i64 0, .int .i64 0, .sl [], .int .i64 0, .int .i64 0, .sl []])) l.length ?_ ?_ 0 (Nat.zero_le _)
  · rw [List.take_zero, List.nil_append, Nat.sub_zero, List.length_map] at key
    exact key
  · apply F4q
    refine a7q (c1q (by simp)) ⟨rfl, ?_⟩
    rw [a0xq rfl (by simp)]
  · intro i hi ih
    obtain ⟨x, hx⟩ := d4q hi
    have hx1 := f1q (g := Li.da) hx
    have hm := o3q (cn := Li.cn) (List.mem_of_getElem? hx)
    have hxc := a5Mq x (by omega)
    have hd := Li.da_len x
    obtain ⟨p, ⟨f, v, ks⟩, ⟨g, u, ms⟩⟩ := x
    apply F4q
    refine b2q (c7q (by simpa using hi)) ⟨i, rfl, _, _, _, _, _, _, _, hx1, _, _, _, _, _, _, _, hxc, i, rfl, ⟨by simp; omega⟩, i, by omega, _, _, _, _, _, _, _, a0Kq rfl (by simpa using hi), ?_⟩
    rw [wr1 hi (by omega)]
    have he := T4q (z := [.bool false, .int .i64 0, .int .i64 0, .sl [], .int .i64 0, .int .i64 0, .sl []]) (n := (l.map Li.da).length) rfl hx1 hd rfl
    exact he ▸ ih
theorem a27q (x : Cl) (hc : x.cn ≤ 1048576) : XC Tryz.prog 13 [.dat x.da] [] (.agg [.ol 0]) [(0, .tr 85 7 (x.ls.map Li.da))] := by
  obtain ⟨ls⟩ := x
  apply a0sq
  exact ⟨_, a4Iq ls hc, rfl, rfl⟩
theorem a7Aq (x : Sy) (m : Int) (h0 : 0 ≤ m) (h1 : m ≤ 1048576) : XC Tryz.prog 44 [.dat x.da, Z m] [] (Z (lft x.cn m)) [] := by
  refine i4q fun hfit => ?_
  have hlen : x.nm.size ≤ 281474976710656 := hfit.dat.str
  apply a3yq
  exact b8q (fun h => zw (abyq h0 h1 hlen h)) fun h => zw (aaUq h0 h1 hlen h)
theorem a76q (x : Sy) : XC Tryz.prog 55 [.dat x.da, .dat x.da] [] (B true) [] := by
  apply a3Cq
  exact a7q aa2q (a7q G9q (a7q a6hq ⟨rfl, rfl⟩))
theorem a5Xq (l : List Sy) (left : Int) (h0 : 0 ≤ left) (h1 : left ≤ 1048576) : XC Tryz.prog 9 [L (l.map Sy.da), Z left] [] (Z (lft (cnL Sy.cn l) left)) [] := by
  refine i4q fun hfit => ?_
  have hlen : l.length ≤ 281474976710656 := by have := hfit.one.len; simpa using this
  apply a2fq
  rw [List.length_map, wrI (by omega) (by omega)]
  refine b8q (fun h => ⟨?_, rfl⟩) fun h => ?_
  · rw [lft, if_pos (by have := j0q Sy.cn l; omega)]
  · have key := f8q (p := fun i => ∀ m : Int, 0 ≤ m → m ≤ 1048576 → o9q (Z (lft ((l.drop i).map Sy.cn).sum m)) [] (l.map Sy.da) m (i : Int)) l.length ?_ ?_ 0 (Nat.zero_le _)
    · have := key (left - l.length) (by omega) (by omega)
      have e : lft ((l.drop 0).map Sy.cn).sum (left - l.length) = lft (cnL Sy.cn l) left := by
        rw [List.drop_zero, cnL]; unfold lft; split <;> split <;> omega
      rw [e] at this
      exact this
    · intro m hm0 hm1
      apply E4q
      refine a7q (c1q (by simp)) ⟨?_, rfl⟩
      simp [lft]; omega
    · intro i hi ih m hm0 hm1
      obtain ⟨x, hx⟩ := d4q hi
      have hx1 := f1q (g := Sy.da) hx
      have hxc := a7Aq x m hm0 hm1
      have hdr : ((l.drop i).map Sy.cn).sum = Sy.cn x + ((l.drop (i + 1)).map Sy.cn).sum := by
        obtain ⟨hl, e⟩ := List.getElem?_eq_some_iff.1 hx
        rw [List.drop_eq_getElem_cons hl, e]; simp
      have hle := a1rq (n := Sy.cn x) (l := m) (by omega)
      rw [hdr]
      generalize Sy.cn x = cx at *
      obtain ⟨nm, ar, ac⟩ := x
      apply E4q
      refine b2q (c7q (by simpa using hi)) ⟨i, rfl, _, _, _, hx1, _, hxc, ?_⟩
      refine b8q (fun h => ⟨?_, rfl⟩) fun h => ?_
      · have := a2Tq h hm0
        rw [show lft (cx + ((l.drop (i + 1)).map Sy.cn).sum) m = -1 by unfold lft at h ⊢; split at h <;> split <;> omega]
      · rw [wr1 hi hlen, ← M8q (by omega)]
        exact ih _ (by omega) (by omega)
theorem a5Oq (l : List Sy) : XC Tryz.prog 16 [L (l.map Sy.da), L (l.map Sy.da)] [] (B true) [] := by
  refine i4q fun hfit => ?_
  have hlen : l.length ≤ 281474976710656 := by have := hfit.one.len; simpa using this
  apply a2qq
  refine a7q G9q ?_
  refine f8q (p := fun i => o5q (B true) [] (l.map Sy.da) (l.map Sy.da) (i : Int)) l.length ?_ (fun i hi ih => ?_) 0 (Nat.zero_le _)
  · apply D9q
    exact a7q (c1q (by simp)) ⟨rfl, rfl⟩
  · obtain ⟨x, hx⟩ := d4q hi
    have hx1 := f1q (g := Sy.da) hx
    have hxc := a76q x
    obtain ⟨nm, ar, ac⟩ := x
    apply D9q
    refine b2q (c7q (by simpa using hi)) ⟨i, rfl, _, _, _, hx1, i, rfl, _, _, _, hx1, _, hxc, a7q rfl ?_⟩
    rw [wr1 hi hlen]
    exact ih
theorem a6fq (x : Ru) : XC Tryz.prog 15 [.dat x.da, .dat x.da] [] (B true) [] := by
  obtain ⟨⟨f, u, ks⟩, ⟨g, v, ms⟩⟩ := x
  apply a2Qq
  exact ⟨_, C5q (.mk f u ks), a7q rfl ⟨_, C5q (.mk g v ms), a7q rfl ⟨rfl, rfl⟩⟩⟩
theorem k7q {α : Type} {l : List α} {i : Nat} {x : α} (h : l[i]? = some x) : l.drop i = x :: l.drop (i + 1) := by
  obtain ⟨hl, e⟩ := List.getElem?_eq_some_iff.1 h
  rw [List.drop_eq_getElem_cons hl, e]
theorem B8q {α : Type} {l : List α} : l.drop l.length = [] := by simp
theorem bF {b : Bool} (h : ¬ b = true) : B false = B b ∧ ([] : List (Nat × Ob)) = [] := ⟨by rw [Bool.eq_false_iff.2 h], rfl⟩
theorem bE {a b : Bool} (h : a = b) : B a = B b ∧ ([] : List (Nat × Ob)) = [] := ⟨by rw [h], rfl⟩
theorem bT {b : Bool} (h : b = true) : B true = B b ∧ ([] : List (Nat × Ob)) = [] := ⟨by rw [h], rfl⟩
theorem D6q {a b : Int} (h : ¬ a ≠ b) : a = b := by omega
theorem ne_n {a b : Nat} (h : ¬ (a : Int) ≠ (b : Int)) : a = b := by omega
theorem wrM {k : Nat} (h : 0 < k) (hk : k ≤ 281474976710656) : IntKind.wrap .i64 ((k : Int) - 1) = ((k - 1 : Nat) : Int) := by
  rw [wrI (by omega) (by omega)]; omega
def n2q (x y : Int) (r : Int) : Int := if x < y then -1 else if x > y then 1 else r
theorem T7q {x y r : Int} : n2q x y r = 0 ↔ x = y ∧ r = 0 := by
  unfold n2q
  split
  · omega
  · split <;> omega
theorem a2mq {x y r : Int} (h : x ≠ y) : decide (x < y) = decide (n2q x y r < 0) := by
  unfold n2q
  split
  · simp [*]
  · split
    · simp; omega
    · omega
theorem G7q {x y r : Int} (h : x = y) : n2q x y r = r := by unfold n2q; simp [h]
mutual
def Tm.cmp : Tm → Tm → Int
  | .mk f v ks, .mk g u ls => n2q f g (n2q v u (n2q ks.length ls.length (Tm.cmps ks ls)))
def Tm.cmps : List Tm → List Tm → Int
  | t :: r, u :: s => if Tm.cmp t u = 0 then Tm.cmps r s else Tm.cmp t u
  | _, _ => 0
end
theorem Tm.cmp_mk {f v g u : Int} {ks ls : List Tm} : Tm.cmp (.mk f v ks) (.mk g u ls) = n2q f g (n2q v u (n2q ks.length ls.length (Tm.cmps ks ls))) := rfl
theorem Tm.cmp0 {f v g u : Int} {ks ls : List Tm} : Tm.cmp (.mk f v ks) (.mk g u ls) = 0 ↔ f = g ∧ v = u ∧ ks.length = ls.length ∧ Tm.cmps ks ls = 0 := by
  rw [Tm.cmp_mk, T7q, T7q, T7q]; omega
theorem Tm.cmps_nil : Tm.cmps [] [] = 0 := by simp [Tm.cmps]
theorem Tm.cmps_cons {t u : Tm} {r s : List Tm} : Tm.cmps (t :: r) (u :: s) = if Tm.cmp t u = 0 then Tm.cmps r s else Tm.cmp t u := by simp [Tm.cmps]
theorem Tm.cmps_end {ks ls : List Tm} (h : ks.length = ls.length) : Tm.cmps (ks.drop ks.length) (ls.drop ks.length) = 0 := by
  rw [B8q, h, B8q, Tm.cmps_nil]
def Li.cmp (a b : Li) : Int := if a.p = b.p then (if Tm.cmp a.l b.l = 0 then Tm.cmp a.r b.r else Tm.cmp a.l b.l) else if b.p then -1 else 1
def inR (x lo hi : Int) : Bool := decide (lo ≤ x) && decide (x ≤ hi)
theorem x6q (x lo hi : Int) : XC Tryz.prog 64 [Z x, Z lo, Z hi] [] (B (inR x lo hi)) [] := by
  apply a4Kq
  exact b8q (fun h => bE (by simp [inR, h])) fun h => bE (by simp [inR, h])
theorem x7q (x lo hi : Int) : XC Tryz.prog 134 [Z x, Z lo, Z hi] [] (B (inR x lo hi)) [] := by
  apply a50q
  exact b8q (fun h => bE (by simp [inR, h])) fun h => bE (by simp [inR, h])
theorem a6vq (t : Tm) : XC Tryz.prog 100 [.dat t.da] [] (B (decide (t.f = -1))) [] := by
  obtain ⟨f, v, ks⟩ := t
  apply R5q
  exact ⟨rfl, rfl⟩
theorem S3q (a b : Tm) : XC Tryz.prog 78 [.dat a.da, .dat b.da] [] (B (decide (Tm.cmp a b = 0))) [] := by
  induction a using Tm.ind generalizing b with
  | h f v ks ih =>
  obtain ⟨g, u, ls⟩ := b
  refine i4q fun hfit => ?_
  have hlen : ks.length ≤ 281474976710656 := by have := hfit.dat.tail.tail.len; rwa [b6q] at this
  apply a0Fq
  rw [b6q, b6q]
  refine b8q (fun h => bF (by simp [Tm.cmp0]; omega)) fun h1 => b8q (fun h => bF (by simp [Tm.cmp0]; omega)) fun h2 => b8q (fun h => bF (by simp [Tm.cmp0]; omega)) fun h3 => ?_
  have h1 := D6q h1; have h2 := D6q h2; have h3 := ne_n h3
  have key := f8q (p := fun i => l4q (B (decide (Tm.cmps (ks.drop i) (ls.drop i) = 0))) [] (i : Int) f v (Tm.das ks) g u (Tm.das ls)) ks.length ?_ (fun i hi ihl => ?_) 0 (Nat.zero_le _)
  · have e : decide (Tm.cmp (.mk f v ks) (.mk g u ls) = 0) = decide (Tm.cmps (ks.drop 0) (ls.drop 0) = 0) := by
      simp [Tm.cmp0, h1, h2, h3]
    rw [e]; exact key
  · apply A6q
    exact a7q (c1q (by rw [b6q]; exact Nat.le_refl _)) (bT (by rw [Tm.cmps_end h3]; rfl))
  · obtain ⟨x, hx⟩ := d4q hi
    obtain ⟨y, hy⟩ := d4q (l := ls) (i := i) (by omega)
    have hx1 := h6q hx
    have hy1 := h6q hy
    have hxy := ih x (List.mem_of_getElem? hx) y
    rw [k7q hx, k7q hy, Tm.cmps_cons]
    obtain ⟨f', v', ks'⟩ := x
    obtain ⟨g', u', ls'⟩ := y
    apply A6q
    refine b2q (c7q (by rwa [b6q])) ⟨i, rfl, _, _, _, hx1, i, rfl, _, _, _, hy1, _, hxy, b9q (fun h => bF ?_) fun h => ?_⟩
    · simp at h; simp [h]
    · simp at h
      rw [wr1 hi hlen, if_pos h]
      exact ihl
theorem v1q (a b : Tm) : XC Tryz.prog 154 [.dat a.da, .dat b.da] [] (B (decide (Tm.cmp a b < 0))) [] := by
  induction a using Tm.ind generalizing b with
  | h f v ks ih =>
  obtain ⟨g, u, ls⟩ := b
  refine i4q fun hfit => ?_
  have hlen : ks.length ≤ 281474976710656 := by have := hfit.dat.tail.tail.len; rwa [b6q] at this
  apply a2sq
  rw [b6q, b6q, Tm.cmp_mk]
  refine b8q (fun h => bE (a2mq h)) fun h1 => ?_
  rw [G7q (D6q h1)]
  refine b8q (fun h => bE (a2mq h)) fun h2 => ?_
  rw [G7q (D6q h2)]
  refine b8q (fun h => bE (a2mq h)) fun h3 => ?_
  rw [G7q (D6q h3)]
  have h3 := ne_n h3
  have key := f8q (p := fun i => n9q (B (decide (Tm.cmps (ks.drop i) (ls.drop i) < 0))) [] (i : Int) f v (Tm.das ks) g u (Tm.das ls)) ks.length ?_ (fun i hi ihl => ?_) 0 (Nat.zero_le _)
  · exact key
  · apply F0q
    exact a7q (c1q (by rw [b6q]; exact Nat.le_refl _)) (bF (by rw [Tm.cmps_end h3]; simp))
  · obtain ⟨x, hx⟩ := d4q hi
    obtain ⟨y, hy⟩ := d4q (l := ls) (i := i) (by omega)
    have hx1 := h6q hx
    have hy1 := h6q hy
    have hxy := ih x (List.mem_of_getElem? hx) y
    have hs := S3q x y
    rw [k7q hx, k7q hy, Tm.cmps_cons]
    obtain ⟨f', v', ks'⟩ := x
    obtain ⟨g', u', ls'⟩ := y
    apply F0q
    refine b2q (c7q (by rwa [b6q])) ⟨i, rfl, _, _, _, hx1, i, rfl, _, _, _, hy1, _, hs, b9q (fun h => ⟨i, rfl, _, _, _, hx1, i, rfl, _, _, _, hy1, _, hxy, bE ?_⟩) fun h => ?_⟩
    · simp at h; simp [h]
    · simp at h
      rw [wr1 hi hlen, if_pos h]
      exact ihl
theorem J0q (a b : Tm) : XC Tryz.prog 143 [.dat a.da, .dat b.da] [] (Z (Tm.cmp a b)) [] := by
  induction a using Tm.ind generalizing b with
  | h f v ks ih =>
  obtain ⟨g, u, ls⟩ := b
  refine i4q fun hfit => ?_
  have hlen : ks.length ≤ 281474976710656 := by have := hfit.dat.tail.tail.len; rwa [b6q] at this
  apply a1Lq
  rw [b6q, b6q, Tm.cmp_mk]
  apply m4q
  refine b2q rfl ⟨0, rfl, ⟨by simp⟩, 0, rfl, _, _, rfl, ?_⟩
  refine b8q (fun h => ⟨by simp [n2q, h], rfl⟩) fun h1 => b8q (fun h => ⟨by unfold n2q; rw [if_neg (by omega), if_pos (by omega)], rfl⟩) fun h2 => ?_
  rw [G7q (by omega)]
  apply m4q
  refine b2q rfl ⟨1, rfl, ⟨by simp⟩, 1, rfl, _, _, rfl, ?_⟩
  refine b8q (fun h => ⟨by simp [n2q, h], rfl⟩) fun h3 => b8q (fun h => ⟨by unfold n2q; rw [if_neg (by omega), if_pos (by omega)], rfl⟩) fun h4 => ?_
  rw [G7q (by omega)]
  apply m4q
  refine b2q rfl ⟨2, rfl, ⟨by simp⟩, 2, rfl, _, _, rfl, ?_⟩
  refine b8q (fun h => ⟨by simp only [n2q, if_pos h], rfl⟩) fun h5 => b8q (fun h => ⟨by unfold n2q; rw [if_neg (by omega), if_pos (by omega)], rfl⟩) fun h6 => ?_
  rw [G7q (by omega)]
  apply m4q
  refine a7q rfl ?_
  have hl : ks.length = ls.length := by omega
  rw [b6q]
  have key := f8q (p := fun i => l3q (Z (Tm.cmps (ks.drop i) (ls.drop i))) [] (ks.length : Int) (i : Int) f v (Tm.das ks) g u (Tm.das ls)) ks.length ?_ (fun i hi ihl => ?_) 0 (Nat.zero_le _)
  · exact key
  · apply B0q
    exact a7q (c1q (Nat.le_refl _)) ⟨by rw [Tm.cmps_end hl], rfl⟩
  · obtain ⟨x, hx⟩ := d4q hi
    obtain ⟨y, hy⟩ := d4q (l := ls) (i := i) (by omega)
    have hx1 := h6q hx
    have hy1 := h6q hy
    have hxy := ih x (List.mem_of_getElem? hx) y
    rw [k7q hx, k7q hy, Tm.cmps_cons]
    obtain ⟨f', v', ks'⟩ := x
    obtain ⟨g', u', ls'⟩ := y
    apply B0q
    refine b2q (c7q hi) ⟨i, rfl, _, _, _, hx1, i, rfl, _, _, _, hy1, _, hxy, b8q (fun h => ⟨by rw [if_neg h], rfl⟩) fun h => ?_⟩
    rw [wr1 hi hlen, if_pos (by omega)]
    exact ihl
theorem z2q (a b : Tm) : XC Tryz.prog 171 [.dat a.da, .dat b.da] [] (B (decide (Tm.cmp a b < 0))) [] := by
  have h := J0q a b
  obtain ⟨f, v, ks⟩ := a; obtain ⟨g, u, ls⟩ := b
  apply a2eq
  exact ⟨_, h, rfl, rfl⟩
theorem a0Hq (a b : Li) : XC Tryz.prog 135 [.dat a.da, .dat b.da] [] (Z (Li.cmp a b)) [] := by
  have h1 := J0q a.l b.l
  have h2 := J0q a.r b.r
  obtain ⟨p, ⟨f, v, ks⟩, ⟨g, u, ls⟩⟩ := a
  obtain ⟨p', ⟨f', v', ks'⟩, ⟨g', u', ls'⟩⟩ := b
  have hc : p = p' → ∃ n, XC Tryz.prog 143 [.dat (Tm.mk f v ks).da, .dat (Tm.mk f' v' ks').da] [] (Z n) [] ∧ ifB (decide (n ≠ 0)) (Z n = Z (Li.cmp ⟨p, .mk f v ks, .mk g u ls⟩ ⟨p', .mk f' v' ks', .mk g' u' ls'⟩) ∧ ([] : List (Nat × Ob)) = []) (∃ n1, XC Tryz.prog 143 [.dat (Tm.mk g u ls).da, .dat (Tm.mk g' u' ls').da] [] (Z n1) [] ∧ Z n1 = Z (Li.cmp ⟨p, .mk f v ks, .mk g u ls⟩ ⟨p', .mk f' v' ks', .mk g' u' ls'⟩) ∧ ([] : List (Nat × Ob)) = []) := by
    rintro rfl
    refine ⟨_, h1, b8q (fun h => ⟨by simp only [Li.cmp, if_true, if_neg h], rfl⟩) fun h => ⟨_, h2, by simp only [Li.cmp, if_true, if_pos (D6q h)], rfl⟩⟩
  apply S9q
  cases p <;> cases p'
  · exact b2q rfl (a7q rfl (a7q rfl (hc rfl)))
  · exact b2q rfl (b2q rfl ⟨rfl, rfl⟩)
  · exact a7q rfl (b2q rfl (b2q rfl ⟨rfl, rfl⟩))
  · exact a7q rfl (b2q rfl (a7q rfl (hc rfl)))
theorem V9q (a b : Li) : XC Tryz.prog 116 [.dat a.da, .dat b.da] [] (B (decide (Li.cmp a b < 0))) [] := by
  have h := a0Hq a b
  obtain ⟨p, ⟨f, v, ks⟩, ⟨g, u, ls⟩⟩ := a
  obtain ⟨p', ⟨f', v', ks'⟩, ⟨g', u', ls'⟩⟩ := b
  apply Z2q
  exact ⟨_, h, rfl, rfl⟩
theorem a2Pq (a b : Li) : XC Tryz.prog 107 [.dat a.da, .dat b.da] [] (B (decide (Li.cmp a b < 0))) [] := by
  have h1 := S3q a.l b.l
  have h2 := v1q a.l b.l
  have h3 := v1q a.r b.r
  obtain ⟨p, ⟨f, v, ks⟩, ⟨g, u, ls⟩⟩ := a
  obtain ⟨p', ⟨f', v', ks'⟩, ⟨g', u', ls'⟩⟩ := b
  apply Y8q
  refine b8q (fun h => bE ?_) fun h => ?_
  · cases p <;> cases p' <;> simp_all [Li.cmp]
  · have h : p = p' := by simpa using h
    subst h
    refine ⟨_, h1, b9q (fun h => ⟨_, h2, bE ?_⟩) fun h => ⟨_, h3, bE ?_⟩⟩
    · have h : ¬ Tm.cmp (.mk f v ks) (.mk f' v' ks') = 0 := by simpa using h
      simp only [Li.cmp, if_true, if_neg h]
    · have h : Tm.cmp (.mk f v ks) (.mk f' v' ks') = 0 := by simpa using h
      simp only [Li.cmp, if_true, if_pos h]
open Classical in
noncomputable def dB (p : Prop) : Bool := decide p
theorem dB_t {p : Prop} (h : p) : B true = B (dB p) ∧ ([] : List (Nat × Ob)) = [] := ⟨by simp [dB, h], rfl⟩
theorem d7q {p : Prop} (h : ¬ p) : B false = B (dB p) ∧ ([] : List (Nat × Ob)) = [] := ⟨by simp [dB, h], rfl⟩
theorem t1q {p : Prop} {b : Bool} (h : b = true ↔ p) : B b = B (dB p) ∧ ([] : List (Nat × Ob)) = [] := ⟨by congr 1; rw [Bool.eq_iff_iff]; simp [dB, h], rfl⟩
theorem c8q {p : Prop} : dB p = true ↔ p := by simp [dB]
theorem d9q {p : Prop} : dB p = false ↔ ¬ p := by simp [dB]
theorem g8q {x lo hi : Int} : inR x lo hi = true ↔ lo ≤ x ∧ x ≤ hi := by simp [inR]
theorem e7q {b : Bool} (h : (!b) = false) : b = true := by simpa using h
theorem g4q {b : Bool} (h : (!b) = true) : b = false := by simpa using h
def u8q (l : List Tm) : Nat := (l.map fun t => t.cn + 1).sum
theorem Q1q (l : List Tm) : u8q l = Tm.cns l := by
  induction l with
  | nil => rfl
  | cons t r ih => simp [u8q, Tm.cns] at ih ⊢; omega
theorem Tm.cn_mk {f v : Int} {ks : List Tm} : Tm.cn (.mk f v ks) = Tm.cns ks := by simp [Tm.cn]
theorem a8qq {ks : List Tm} {i : Nat} {x : Tm} (h : ks[i]? = some x) : x.cn + ks.length ≤ Tm.cns ks := Tm.cns_cnL ks ▸ o3q (cn := Tm.cn) (List.mem_of_getElem? h)
theorem a6nq (ks : List Tm) : ks.length ≤ Tm.cns ks := Tm.cns_cnL ks ▸ j0q Tm.cn ks
theorem a2hq (t : Tm) (hc : t.cn ≤ 1200000000000) : XC Tryz.prog 167 [.dat t.da] [] (Z ((t.cn + 1 : Nat) : Int)) [] := by
  induction t using Tm.ind with
  | h f v ks ih =>
  rw [Tm.cn_mk] at hc ⊢
  have hl := a6nq ks
  apply a4jq
  have key := f8q (p := fun i => ∀ n : Nat, n + u8q (ks.drop i) ≤ 1200000000001 → q3q (Z ((n + u8q (ks.drop i) : Nat) : Int)) [] (n : Int) (i : Int) f v (Tm.das ks)) ks.length ?_ (fun i hi ihl => ?_) 0 (Nat.zero_le _)
  · have := key 1 (by rw [List.drop_zero, Q1q]; omega)
    rw [List.drop_zero, Q1q, Nat.add_comm] at this
    exact this
  · intro n hn
    apply I4q
    exact a7q (c1q (by rw [b6q]; exact Nat.le_refl _)) ⟨by rw [B8q]; simp [u8q], rfl⟩
  · intro n hn
    obtain ⟨x, hx⟩ := d4q hi
    have hx1 := h6q hx
    have hk := a8qq hx
    have hxc := ih x (List.mem_of_getElem? hx) (by omega)
    have e : u8q (ks.drop i) = x.cn + 1 + u8q (ks.drop (i + 1)) := by rw [k7q hx]; simp [u8q]
    rw [e] at hn ⊢
    generalize x.cn = c at *
    obtain ⟨f', v', ks'⟩ := x
    apply I4q
    refine b2q (c7q (by rwa [b6q])) ⟨i, rfl, _, _, _, hx1, _, hxc, ?_⟩
    rw [wr1 hi (by omega), wrI (by omega) (by omega)]
    have := ihl (n + (c + 1)) (by omega)
    rw [Nat.add_assoc] at this
    exact this
theorem a2Kq (t : Tm) (hc : t.cn ≤ 1200000000000) (n : Nat) (hn : n + t.cn + 1 ≤ 2400000000002) : XC Tryz.prog 176 [.dat t.da, .one (.clo 220 [(2000, 0)])] [(2000, .var [.d (.int .i64 (n : Int))])] (.tup []) [(2000, .var [.d (.int .i64 ((n + t.cn + 1 : Nat) : Int))])] := by
  induction t using Tm.ind generalizing n with
  | h f v ks ih =>
  rw [Tm.cn_mk] at hc hn ⊢
  have hl := a6nq ks
  apply F7q
  refine ⟨((n + 1 : Nat) : Int), a1kq ⟨rfl, by rw [wrI (by omega) (by omega)]; rfl⟩, ?_⟩
  have key := f8q (p := fun i => ∀ m : Nat, m + u8q (ks.drop i) ≤ 2400000000002 → f9q (.tup []) [(2000, .var [.d (.int .i64 ((m + u8q (ks.drop i) : Nat) : Int))])] (Tm.das ks) (ks.length : Int) (i : Int) (m : Int)) ks.length ?_ (fun i hi ihl => ?_) 0 (Nat.zero_le _)
  · have := key (n + 1) (by rw [List.drop_zero, Q1q]; omega)
    rw [List.drop_zero, Q1q, show n + 1 + Tm.cns ks = n + Tm.cns ks + 1 by omega] at this
    rw [b6q]
    exact this
  · intro m hm
    apply p1q
    exact a7q (c1q (Nat.le_refl _)) ⟨rfl, by rw [B8q]; simp [u8q]⟩
  · intro m hm
    obtain ⟨x, hx⟩ := d4q hi
    have hx1 := h6q hx
    have hk := a8qq hx
    have e : u8q (ks.drop i) = x.cn + 1 + u8q (ks.drop (i + 1)) := by rw [k7q hx]; simp [u8q]
    rw [e] at hm ⊢
    have hxc := ih x (List.mem_of_getElem? hx) (by omega) m (by omega)
    generalize x.cn = c at *
    obtain ⟨f', v', ks'⟩ := x
    apply p1q
    refine b2q (c7q hi) ⟨i, rfl, _, _, _, hx1, _, hxc, ?_⟩
    rw [wr1 hi (by omega)]
    have := ihl (m + c + 1) (by omega)
    rw [show m + c + 1 + u8q (ks.drop (i + 1)) = m + (c + 1 + u8q (ks.drop (i + 1))) by omega] at this
    exact this
theorem a3bq (t : Tm) (hc : t.cn ≤ 1200000000000) : XC Tryz.prog 180 [.dat t.da] [] (Z ((t.cn + 1 : Nat) : Int)) [] := by
  have h := a2Kq t hc 0 (by omega)
  rw [Nat.zero_add] at h
  obtain ⟨f, v, ks⟩ := t
  apply a3Sq
  exact ⟨_, h, rfl, rfl⟩
def smB (c : UInt8) : Prop := 97 ≤ c.toNat ∧ c.toNat ≤ 122
def dgB (c : UInt8) : Prop := 48 ≤ c.toNat ∧ c.toNat ≤ 57
def a6Fq (s : ByteArray) (i : Nat) : Prop := ∀ c, s[i]? = some c → smB c ∨ (0 < i ∧ dgB c)
def nOk (s : ByteArray) : Prop := (∀ i, i < s.size → a6Fq s i) ∧ 1 ≤ s.size ∧ s.size ≤ 8
theorem a2Fq {t : ByteArray} {i : Nat} (h : i < t.size) : ∃ b, t[i]? = some b := ⟨t[i], by simp [h]⟩
theorem a1nq (s : ByteArray) : XC Tryz.prog 211 [T s] [] (B (dB (nOk s))) [] := by
  refine i4q fun hfit => ?_
  have hlen : s.size ≤ 281474976710656 := hfit.one.str
  apply a2Rq
  have key := f8q (p := fun i => (∀ j, j < i → a6Fq s j) → g3q (B (dB (nOk s))) [] s (i : Int)) s.size ?_ (fun i hi ihl => ?_) 0 (Nat.zero_le _)
  · exact key (by omega)
  · intro hall
    apply E6q
    refine a7q (c1q (Nat.le_refl _)) ⟨_, x6q _ _ _, t1q ?_⟩
    rw [g8q]
    exact ⟨fun h => ⟨hall, by omega, by omega⟩, fun h => by have := h.2; omega⟩
  · intro hall
    obtain ⟨b, hb⟩ := a2Fq hi
    have good : a6Fq s i → g3q (B (dB (nOk s))) [] s (IntKind.wrap .i64 ((i : Int) + 1)) := fun h => by
      rw [wr1 hi hlen]
      exact ihl fun j hj => by
        rcases Nat.lt_succ_iff_lt_or_eq.1 hj with hj | rfl
        · exact hall j hj
        · exact h
    have bad : ¬ (smB b ∨ (0 < i ∧ dgB b)) → B false = B (dB (nOk s)) ∧ ([] : List (Nat × Ob)) = [] := fun h => d7q fun hn => h (hn.1 i hi b hb)
    have rest : ¬ smB b → ifB (decide ((0 : Int) < (i : Int))) (∃ (n : Nat) (b1 : UInt8), (i : Int) = (n : Int) ∧ s[n]? = some b1 ∧ ifB (decide ((48 : Int) ≤ (b1.toNat : Int))) (∃ (n : Nat) (b2 : UInt8), (i : Int) = (n : Int) ∧ s[n]? = some b2 ∧ ifB (!decide ((b2.toNat : Int) ≤ 57)) (B false = B (dB (nOk s)) ∧ ([] : List (Nat × Ob)) = []) (g3q (B (dB (nOk s))) [] s (IntKind.wrap .i64 ((i : Int) + 1)))) (B false = B (dB (nOk s)) ∧ ([] : List (Nat × Ob)) = [])) (B false = B (dB (nOk s)) ∧ ([] : List (Nat × Ob)) = []) := by
      intro hns
      refine b8q (fun h0 => ⟨i, b, rfl, hb, b8q (fun h1 => ⟨i, b, rfl, hb, b9q (fun h2 => bad ?_) fun h2 => good ?_⟩) fun h1 => bad ?_⟩) fun h0 => bad ?_
      · have h2 := g4q h2; simp at h2; exact fun h => h.elim hns fun h => by have := h.2; unfold dgB at this; omega
      · have h2 := e7q h2; simp at h2; intro c hc; rw [hb] at hc; cases hc; right; unfold dgB; omega
      · exact fun h => h.elim hns fun h => by have := h.2; unfold dgB at this; omega
      · exact fun h => h.elim hns fun h => by omega
    apply E6q
    refine b2q (c7q hi) ⟨i, b, rfl, hb, b8q (fun h0 => ⟨i, b, rfl, hb, b8q (fun h1 => good ?_) fun h1 => ?_⟩) fun h0 => ?_⟩
    · intro c hc; rw [hb] at hc; cases hc; unfold smB; omega
    · exact rest (by unfold smB; omega)
    · exact rest (by unfold smB; omega)
theorem U0q (c : Int) : XC Tryz.prog 242 [I .u8 c] [] (B (inR c 97 122)) [] := by
  apply a1Pq
  exact b8q (fun h => bE (by simp [inR, h])) fun h => bE (by simp [inR, h])
theorem a55q (c : Int) : XC Tryz.prog 243 [I .u8 c] [] (B (inR c 48 57)) [] := by
  apply a1iq
  exact b8q (fun h => bE (by simp [inR, h])) fun h => bE (by simp [inR, h])
theorem a1Iq (s : ByteArray) : XC Tryz.prog 218 [T s] [] (B (dB (nOk s))) [] := by
  refine i4q fun hfit => ?_
  have hlen : s.size ≤ 281474976710656 := hfit.one.str
  apply a35q
  have key := f8q (p := fun i => (∀ j, j < i → ∀ c, s[j]? = some c → smB c ∨ dgB c) → j3q (B (dB (nOk s))) [] s (s.size : Int) (i : Int)) s.size ?_ (fun i hi ihl => ?_) 0 (Nat.zero_le _)
  · exact key (by omega)
  · intro hall
    apply F3q
    refine a7q (c1q (Nat.le_refl _)) ⟨_, x7q _ _ _, b9q (fun h => ?_) fun h => d7q ?_⟩
    · rw [g8q] at h
      obtain ⟨b, hb⟩ := a2Fq (t := s) (i := 0) (by omega)
      refine ⟨0, b, rfl, hb, _, U0q _, t1q ?_⟩
      rw [g8q]
      constructor
      · intro h1
        refine ⟨fun i hi c hc => ?_, by omega, by omega⟩
        rcases Nat.eq_zero_or_pos i with rfl | hp
        · rw [hb] at hc; cases hc; left; unfold smB; omega
        · rcases hall i hi c hc with h | h
          · exact .inl h
          · exact .inr ⟨hp, h⟩
      · intro h1
        rcases h1.1 0 (by omega) b hb with h | h
        · unfold smB at h; omega
        · omega
    · intro hn
      have := hn.2
      rw [Bool.eq_false_iff, Ne, g8q] at h
      omega
  · intro hall
    obtain ⟨b, hb⟩ := a2Fq hi
    have good : smB b ∨ dgB b → j3q (B (dB (nOk s))) [] s (s.size : Int) (IntKind.wrap .i64 ((i : Int) + 1)) := fun h => by
      rw [wr1 hi hlen]
      exact ihl fun j hj c hc => by
        rcases Nat.lt_succ_iff_lt_or_eq.1 hj with hj | rfl
        · exact hall j hj c hc
        · rw [hb] at hc; cases hc; exact h
    apply F3q
    refine b2q (c7q hi) ⟨i, b, rfl, hb, _, U0q _, b9q (fun h1 => ⟨i, b, rfl, hb, _, a55q _, b9q (fun h2 => d7q fun hn => ?_) fun h2 => good ?_⟩) fun h1 => good ?_⟩
    · have h1 := g4q h1
      have h2 := g4q h2
      rw [Bool.eq_false_iff, Ne, g8q] at h1 h2
      rcases hn.1 i hi b hb with h | h
      · unfold smB at h; omega
      · unfold dgB at h; omega
    · have h2 := e7q h2
      rw [g8q] at h2
      right; unfold dgB; omega
    · have h1 := e7q h1
      rw [g8q] at h1
      left; unfold smB; omega
def r1q : List Sy → ByteArray → Nat → Int
  | [], _, _ => -1
  | x :: r, nm, i => if x.nm = nm then i else r1q r nm (i + 1)
theorem a3dq (ss : List Sy) (nm : ByteArray) : XC Tryz.prog 212 [L (ss.map Sy.da), T nm] [] (Z (r1q ss nm 0)) [] := by
  refine i4q fun hfit => ?_
  have hlen : ss.length ≤ 281474976710656 := by have := hfit.one.len; simpa using this
  apply a3Yq
  have key := f8q (p := fun i => q0q (Z (r1q (ss.drop i) nm i)) [] (ss.map Sy.da) nm (i : Int)) ss.length ?_ (fun i hi ihl => ?_) 0 (Nat.zero_le _)
  · exact key
  · apply I7q
    exact a7q (c1q (by simp)) ⟨by rw [B8q]; rfl, rfl⟩
  · obtain ⟨x, hx⟩ := d4q hi
    have hx1 := f1q (g := Sy.da) hx
    rw [k7q hx]
    apply I7q
    refine b2q (c7q (by simpa using hi)) ⟨i, rfl, _, _, _, hx1, b8q (fun h => ⟨by simp [r1q, h], rfl⟩) fun h => ?_⟩
    rw [wr1 hi hlen, r1q, if_neg h]
    exact ihl
theorem a39q (ss : List Sy) (nm : ByteArray) : XC Tryz.prog 219 [L (ss.map Sy.da), T nm] [] (Z (r1q ss nm 0)) [] := by
  refine i4q fun hfit => ?_
  have hlen : ss.length ≤ 281474976710656 := by have := hfit.one.len; simpa using this
  apply a43q
  refine ⟨_, nm, t7q ?_, rfl, rfl⟩
  rw [List.length_map]
  have key := f8q (p := fun i => d5q (Z (r1q (ss.drop i) nm i)) [(2000, .var [.d (.str nm)])] (ss.map Sy.da) (ss.length : Int) (i : Int) nm) ss.length ?_ (fun i hi ihl => ?_) 0 (Nat.zero_le _)
  · exact key
  · apply i6q
    exact a7q (c1q (Nat.le_refl _)) ⟨by rw [B8q]; rfl, rfl⟩
  · obtain ⟨x, hx⟩ := d4q hi
    have hx1 := f1q (g := Sy.da) hx
    rw [k7q hx]
    apply i6q
    refine b2q (c7q hi) ⟨i, rfl, _, _, _, hx1, _, nm, a1Zq ⟨rfl, rfl⟩, b8q (fun h => ⟨by simp [r1q, h], rfl⟩) fun h => ?_⟩
    rw [wr1 hi hlen, r1q, if_neg h]
    exact ihl
def a4Jq (ss : List Sy) (i : Nat) : Prop := ∀ x, ss[i]? = some x → nOk x.nm ∧ r1q ss x.nm 0 = i ∧ (0 ≤ x.ar ∧ x.ar ≤ 3) ∧ (x.ac = true → x.ar = 2)
def H6q (ss : List Sy) : Prop := (∀ i, i < ss.length → a4Jq ss i) ∧ (1 ≤ ss.length ∧ ss.length ≤ 8) ∧ ∃ x, ss[0]? = some x ∧ x.nm = ⟨#[116, 116]⟩ ∧ x.ar = 0
theorem a2Bq (ss : List Sy) : XC Tryz.prog 166 [L (ss.map Sy.da)] [] (B (dB (H6q ss))) [] := by
  refine i4q fun hfit => ?_
  have hlen : ss.length ≤ 281474976710656 := by have := hfit.one.len; simpa using this
  apply a4gq
  have key := f8q (p := fun i => (∀ j, j < i → a4Jq ss j) → k2q (B (dB (H6q ss))) [] (ss.map Sy.da) (i : Int)) ss.length ?_ (fun i hi ihl => ?_) 0 (Nat.zero_le _)
  · exact key (by omega)
  · intro hall
    apply I1q
    rw [List.length_map]
    refine a7q (c1q (Nat.le_refl _)) ⟨_, x6q _ _ _, b9q (fun h => ?_) fun h => d7q fun hn => ?_⟩
    · rw [g8q] at h
      obtain ⟨x, hx⟩ := d4q (l := ss) (i := 0) (by omega)
      refine ⟨0, rfl, _, _, _, f1q (g := Sy.da) hx, t1q ?_⟩
      simp only [Bool.and_eq_true, decide_eq_true_eq]
      constructor
      · rintro ⟨h1, h2, h3⟩
        exact ⟨hall, by omega, x, hx, h1, h2⟩
      · rintro ⟨_, _, y, hy, h1, h2⟩
        rw [hx] at hy; cases hy
        refine ⟨h1, h2, ?_⟩
        cases hac : x.ac with
        | false => rfl
        | true => have := (hall 0 (by omega) x hx).2.2.2 hac; omega
    · rw [Bool.eq_false_iff, Ne, g8q] at h
      have := hn.2.1
      omega
  · intro hall
    obtain ⟨x, hx⟩ := d4q hi
    have hx1 := f1q (g := Sy.da) hx
    have bad : ¬ (nOk x.nm ∧ r1q ss x.nm 0 = i ∧ (0 ≤ x.ar ∧ x.ar ≤ 3) ∧ (x.ac = true → x.ar = 2)) → B false = B (dB (H6q ss)) ∧ ([] : List (Nat × Ob)) = [] := fun h => d7q fun hn => h (hn.1 i hi x hx)
    have good : (nOk x.nm ∧ r1q ss x.nm 0 = i ∧ (0 ≤ x.ar ∧ x.ar ≤ 3) ∧ (x.ac = true → x.ar = 2)) → k2q (B (dB (H6q ss))) [] (ss.map Sy.da) (IntKind.wrap .i64 ((i : Int) + 1)) := fun h => by
      rw [wr1 hi hlen]
      exact ihl fun j hj y hy => by
        rcases Nat.lt_succ_iff_lt_or_eq.1 hj with hj | rfl
        · exact hall j hj y hy
        · rw [hx] at hy; cases hy; exact h
    apply I1q
    refine b2q (c7q (by simpa using hi)) ⟨i, rfl, _, _, _, hx1, _, a1nq _, b9q (fun h1 => bad ?_) fun h1 => ⟨i, rfl, _, _, _, hx1, _, a3dq ss _, b8q (fun h2 => bad ?_) fun h2 => ⟨i, rfl, _, _, _, hx1, _, x6q _ _ _, b9q (fun h3 => bad ?_) fun h3 => ⟨i, rfl, _, _, _, hx1, b9q (fun h4 => ⟨i, rfl, _, _, _, hx1, b8q (fun h5 => bad ?_) fun h5 => good ?_⟩) fun h4 => good ?_⟩⟩⟩⟩
    · have := d9q.1 (g4q h1); exact fun h => this h.1
    · exact fun h => h2 h.2.1
    · have := g4q h3; rw [Bool.eq_false_iff, Ne, g8q] at this; exact fun h => this h.2.2.1
    · exact fun h => h5 (h.2.2.2 h4)
    · have n1 := c8q.1 (e7q h1); have n3 := e7q h3; rw [g8q] at n3
      exact ⟨n1, by omega, n3, fun _ => by omega⟩
    · have n1 := c8q.1 (e7q h1); have n3 := e7q h3; rw [g8q] at n3
      exact ⟨n1, by omega, n3, fun h => by rw [h4] at h; cases h⟩
theorem a2uq (ss : List Sy) : XC Tryz.prog 179 [L (ss.map Sy.da)] [] (B (dB (H6q ss))) [] := by
  refine i4q fun hfit => ?_
  have hlen : ss.length ≤ 281474976710656 := by have := hfit.one.len; simpa using this
  apply a4hq
  rw [List.length_map]
  have key := f8q (p := fun i => (∀ j, j < i → a4Jq ss j) → k1q (B (dB (H6q ss))) [] (ss.map Sy.da) (ss.map Sy.da) (ss.length : Int) (i : Int)) ss.length ?_ (fun i hi ihl => ?_) 0 (Nat.zero_le _)
  · exact key (by omega)
  · intro hall
    apply H4q
    rw [List.length_map]
    refine a7q (c1q (Nat.le_refl _)) ⟨_, x7q _ _ _, b9q (fun h => ?_) fun h => d7q fun hn => ?_⟩
    · rw [g8q] at h
      obtain ⟨x, hx⟩ := d4q (l := ss) (i := 0) (by omega)
      have hx1 := f1q (g := Sy.da) hx
      refine ⟨0, rfl, _, _, _, hx1, b8q (fun h1 => ⟨0, rfl, _, _, _, hx1, t1q ?_⟩) fun h1 => d7q fun hn => ?_⟩
      · simp only [decide_eq_true_eq]
        constructor
        · intro h2; exact ⟨hall, by omega, x, hx, h1, h2⟩
        · rintro ⟨_, _, y, hy, _, h2⟩
          rw [hx] at hy; cases hy; exact h2
      · obtain ⟨_, _, y, hy, h2, _⟩ := hn
        rw [hx] at hy; cases hy; exact h1 h2
    · rw [Bool.eq_false_iff, Ne, g8q] at h
      have := hn.2.1
      omega
  · intro hall
    obtain ⟨x, hx⟩ := d4q hi
    have hx1 := f1q (g := Sy.da) hx
    have bad : ¬ (nOk x.nm ∧ r1q ss x.nm 0 = i ∧ (0 ≤ x.ar ∧ x.ar ≤ 3) ∧ (x.ac = true → x.ar = 2)) → B false = B (dB (H6q ss)) ∧ ([] : List (Nat × Ob)) = [] := fun h => d7q fun hn => h (hn.1 i hi x hx)
    have good : (nOk x.nm ∧ r1q ss x.nm 0 = i ∧ (0 ≤ x.ar ∧ x.ar ≤ 3) ∧ (x.ac = true → x.ar = 2)) → k1q (B (dB (H6q ss))) [] (ss.map Sy.da) (ss.map Sy.da) (ss.length : Int) (IntKind.wrap .i64 ((i : Int) + 1)) := fun h => by
      rw [wr1 hi hlen]
      exact ihl fun j hj y hy => by
        rcases Nat.lt_succ_iff_lt_or_eq.1 hj with hj | rfl
        · exact hall j hj y hy
        · rw [hx] at hy; cases hy; exact h
    apply H4q
    refine b2q (c7q hi) ⟨i, rfl, _, _, _, hx1, _, a1Iq _, b9q (fun h1 => bad ?_) fun h1 => ⟨_, a39q ss _, b8q (fun h2 => bad ?_) fun h2 => ⟨_, x7q _ _ _, b9q (fun h3 => bad ?_) fun h3 => b9q (fun h4 => b8q (fun h5 => bad ?_) fun h5 => good ?_) fun h4 => good ?_⟩⟩⟩
    · have := d9q.1 (g4q h1); exact fun h => this h.1
    · exact fun h => h2 h.2.1
    · have := g4q h3; rw [Bool.eq_false_iff, Ne, g8q] at this; exact fun h => this h.2.2.1
    · exact fun h => h5 (h.2.2.2 h4)
    · have n1 := c8q.1 (e7q h1); have n3 := e7q h3; rw [g8q] at n3
      exact ⟨n1, by omega, n3, fun _ => by omega⟩
    · have n1 := c8q.1 (e7q h1); have n3 := e7q h3; rw [g8q] at n3
      exact ⟨n1, by omega, n3, fun h => by rw [h4] at h; cases h⟩
inductive TOk (ss : List Sy) : Tm → Prop
  | var {v : Int} : 0 ≤ v → v ≤ 99 → TOk ss (.mk (-1) v [])
  | app {f : Nat} {x : Sy} {ks : List Tm} : ss[f]? = some x → (x.ac = false → (ks.length : Int) = x.ar) → (x.ac = true → 2 ≤ ks.length) → (∀ (i : Nat) k, ks[i]? = some k → TOk ss k) →
      (x.ac = true → ∀ (i : Nat) k, ks[i]? = some k → k.f ≠ (f : Int) ∧ ∀ k', 0 < i → ks[i - 1]? = some k' → ¬ Tm.cmp k k' < 0) → TOk ss (.mk f 0 ks)
theorem TOk.var_iff {ss : List Sy} {v : Int} {ks : List Tm} : TOk ss (.mk (-1) v ks) ↔ (0 ≤ v ∧ v ≤ 99) ∧ ks = [] := by
  constructor
  · intro h
    generalize hf : (-1 : Int) = f at h
    cases h with
    | var h1 h2 => exact ⟨⟨h1, h2⟩, rfl⟩
    | app => omega
  · rintro ⟨⟨h1, h2⟩, rfl⟩; exact .var h1 h2
def KOk (ss : List Sy) (f : Int) (x : Sy) (ks : List Tm) (i : Nat) (k : Tm) : Prop := TOk ss k ∧ (x.ac = true → k.f ≠ f ∧ ∀ k', 0 < i → ks[i - 1]? = some k' → ¬ Tm.cmp k k' < 0)
theorem TOk.app_iff {ss : List Sy} {f v : Int} {ks : List Tm} (hf : f ≠ -1) : TOk ss (.mk f v ks) ↔ ∃ (n : Nat) (x : Sy), f = (n : Int) ∧ ss[n]? = some x ∧ v = 0 ∧ (x.ac = false → (ks.length : Int) = x.ar) ∧ (x.ac = true → 2 ≤ ks.length) ∧ ∀ (i : Nat) k, ks[i]? = some k → KOk ss f x ks i k := by
  constructor
  · intro h
    cases h with
    | var => exact absurd rfl hf
    | app h1 h2 h3 h4 h5 => exact ⟨_, _, rfl, h1, rfl, h2, h3, fun i k hk => ⟨h4 i k hk, fun hac => h5 hac i k hk⟩⟩
  · rintro ⟨n, x, rfl, h1, rfl, h2, h3, h4⟩
    exact .app h1 h2 h3 (fun i k hk => (h4 i k hk).1) fun hac i k hk => (h4 i k hk).2 hac
theorem a4Zq (ss : List Sy) (t : Tm) : XC Tryz.prog 168 [L (ss.map Sy.da), .dat t.da] [] (B (dB (TOk ss t))) [] := by
  induction t using Tm.ind with
  | h f v ks ih =>
  refine i4q fun hfit => ?_
  have hls : ss.length ≤ 281474976710656 := by have := hfit.one.len; simpa using this
  have hlen : ks.length ≤ 281474976710656 := by have := hfit.tail.dat.tail.tail.len; rwa [b6q] at this
  apply a1oq
  rw [b6q, List.length_map, wrI (by omega) (by omega)]
  refine b8q (fun h => ?_) fun hf => ?_
  · subst h
    refine ⟨_, x6q _ _ _, b9q (fun h => t1q ?_) fun h => d7q ?_⟩
    · rw [g8q] at h
      rw [TOk.var_iff, decide_eq_true_eq]
      exact ⟨fun hk => ⟨h, List.length_eq_zero_iff.1 (by omega)⟩, fun hk => by rw [hk.2]; rfl⟩
    · rw [Bool.eq_false_iff, Ne, g8q] at h
      rw [TOk.var_iff]
      exact fun hk => h hk.1
  · refine ⟨_, x6q _ _ _, b9q (fun h => d7q ?_) fun h => ?_⟩
    · have h := g4q h
      rw [Bool.eq_false_iff, Ne, g8q] at h
      rw [TOk.app_iff hf]
      rintro ⟨n, x, rfl, hx, _⟩
      have := (List.getElem?_eq_some_iff.1 hx).1
      omega
    · have h := e7q h
      rw [g8q] at h
      obtain ⟨n, rfl⟩ := Int.eq_ofNat_of_zero_le h.1
      obtain ⟨x, hx⟩ := d4q (l := ss) (i := n) (by omega)
      have hx1 := f1q (g := Sy.da) hx
      have inv : TOk ss (.mk n v ks) ↔ v = 0 ∧ (x.ac = false → (ks.length : Int) = x.ar) ∧ (x.ac = true → 2 ≤ ks.length) ∧ ∀ (i : Nat) k, ks[i]? = some k → KOk ss n x ks i k := by
        rw [TOk.app_iff hf]
        constructor
        · rintro ⟨m, y, e, hy, h1⟩
          have e : n = m := by omega
          subst e
          rw [hx] at hy; cases hy; exact h1
        · intro h1; exact ⟨n, x, rfl, hx, h1⟩
      have loop : v = 0 → (x.ac = false → (ks.length : Int) = x.ar) → (x.ac = true → 2 ≤ ks.length) → d8q (B (dB (TOk ss (.mk n v ks)))) [] (ss.map Sy.da) 0 (n : Int) v (Tm.das ks) := by
        intro g1 g2 g3
        have key := f8q (p := fun i => (∀ (j : Nat) k, j < i → ks[j]? = some k → KOk ss n x ks j k) → d8q (B (dB (TOk ss (.mk n v ks)))) [] (ss.map Sy.da) (i : Int) (n : Int) v (Tm.das ks)) ks.length ?_ (fun i hi ihl => ?_) 0 (Nat.zero_le _)
        · exact key fun j k hj => by omega
        · intro hall
          apply C8q
          exact a7q (c1q (by rw [b6q]; exact Nat.le_refl _)) (dB_t (inv.2 ⟨g1, g2, g3, fun i k hk => hall i k (List.getElem?_eq_some_iff.1 hk).1 hk⟩))
        · intro hall
          obtain ⟨y, hy⟩ := d4q hi
          have hy1 := h6q hy
          have hyc := ih y (List.mem_of_getElem? hy)
          have hpr : 0 < i → ∃ z, ks[i - 1]? = some z := fun h => d4q (by omega)
          have bad : ¬ KOk ss n x ks i y → B false = B (dB (TOk ss (.mk n v ks))) ∧ ([] : List (Nat × Ob)) = [] := fun h => d7q fun hn => h ((inv.1 hn).2.2.2 i y hy)
          have good : KOk ss n x ks i y → d8q (B (dB (TOk ss (.mk n v ks)))) [] (ss.map Sy.da) (IntKind.wrap .i64 ((i : Int) + 1)) (n : Int) v (Tm.das ks) := fun h => by
            rw [wr1 hi hlen]
            exact ihl fun j k hj hk => by
              rcases Nat.lt_succ_iff_lt_or_eq.1 hj with hj | rfl
              · exact hall j k hj hk
              · rw [hy] at hk; cases hk; exact h
          have hcm := fun z => v1q y z
          obtain ⟨f', v', ks'⟩ := y
          have last : (x.ac = true → f' ≠ (n : Int) ∧ ∀ k', 0 < i → ks[i - 1]? = some k' → ¬ Tm.cmp (.mk f' v' ks') k' < 0) → ∃ b, XC Tryz.prog 168 [L (ss.map Sy.da), .dat (Tm.mk f' v' ks').da] [] (B b) [] ∧ ifB (!b) (B false = B (dB (TOk ss (.mk n v ks))) ∧ ([] : List (Nat × Ob)) = []) (d8q (B (dB (TOk ss (.mk n v ks)))) [] (ss.map Sy.da) (IntKind.wrap .i64 ((i : Int) + 1)) (n : Int) v (Tm.das ks)) := by
            intro hk
            refine ⟨_, hyc, b9q (fun h => bad fun hh => ?_) fun h => good ?_⟩
            · exact d9q.1 (g4q h) hh.1
            · exact ⟨c8q.1 (e7q h), hk⟩
          apply C8q
          refine b2q (c7q (by rwa [b6q])) ⟨n, rfl, _, _, _, hx1, b9q (fun hac => ⟨i, rfl, _, _, _, hy1, b8q (fun h1 => bad fun hh => (hh.2 hac).1 h1) fun h1 => b8q (fun h2 => ?_) fun h2 => ?_⟩) fun hac => ?_⟩
          · have h2 : 0 < i := by omega
            obtain ⟨z, hz⟩ := hpr h2
            have hz1 := h6q hz
            have hc := hcm z
            refine ⟨i, rfl, _, _, _, hy1, i - 1, wrM h2 (by omega), ?_⟩
            obtain ⟨f2, v2, ks2⟩ := z
            refine ⟨_, _, _, hz1, _, hc, b8q (fun h3 => bad fun hh => (hh.2 hac).2 _ h2 hz h3) fun h3 => ⟨i, rfl, _, _, _, hy1, last fun _ => ⟨h1, fun k' _ hk' => ?_⟩⟩⟩
            rw [hz] at hk'; cases hk'; exact h3
          · exact ⟨i, rfl, _, _, _, hy1, last fun _ => ⟨h1, fun k' h _ => by omega⟩⟩
          · exact ⟨i, rfl, _, _, _, hy1, last fun h => by rw [hac] at h; cases h⟩
      refine b8q (fun h1 => d7q fun hn => h1 (inv.1 hn).1) fun h1 => ⟨n, rfl, _, _, _, hx1, b9q (fun h2 => ⟨n, rfl, _, _, _, hx1, b8q (fun h3 => d7q fun hn => h3 ((inv.1 hn).2.1 (g4q h2))) fun h3 => ⟨n, rfl, _, _, _, hx1, a7q (g4q h2) ?_⟩⟩) fun h2 => ⟨n, rfl, _, _, _, hx1, b2q (e7q h2) (b8q (fun h3 => d7q fun hn => ?_) fun h3 => ?_)⟩⟩
      · exact loop (D6q h1) (fun _ => D6q h3) fun h => by rw [g4q h2] at h; cases h
      · have := (inv.1 hn).2.2.1 (e7q h2); omega
      · exact loop (D6q h1) (fun h => by rw [e7q h2] at h; cases h) fun _ => by omega
theorem a6tq (ss : List Sy) (f : Int) : XC Tryz.prog 161 [L (ss.map Sy.da), Z f] [] (B (inR f 0 ((ss.length : Int) - 1))) [] := by
  refine i4q fun hfit => ?_
  have hls : ss.length ≤ 281474976710656 := by have := hfit.one.len; simpa using this
  apply R7q
  rw [List.length_map, wrI (by omega) (by omega)]
  exact ⟨_, x7q _ _ _, rfl, rfl⟩
theorem a5Uq (ss : List Sy) (t : Tm) : XC Tryz.prog 181 [L (ss.map Sy.da), .dat t.da] [] (B (dB (TOk ss t))) [] := by
  induction t using Tm.ind with
  | h f v ks ih =>
  refine i4q fun hfit => ?_
  have hls : ss.length ≤ 281474976710656 := by have := hfit.one.len; simpa using this
  have hlen : ks.length ≤ 281474976710656 := by have := hfit.tail.dat.tail.tail.len; rwa [b6q] at this
  apply a2Eq
  rw [b6q]
  refine ⟨_, a6vq (.mk f v ks), b8q (fun h => ?_) fun hf => ?_⟩
  · have h : f = -1 := h
    subst h
    refine ⟨_, x7q _ _ _, b9q (fun h => t1q ?_) fun h => d7q ?_⟩
    · rw [g8q] at h
      rw [TOk.var_iff, decide_eq_true_eq]
      exact ⟨fun hk => ⟨h, List.length_eq_zero_iff.1 (by omega)⟩, fun hk => by rw [hk.2]; rfl⟩
    · rw [Bool.eq_false_iff, Ne, g8q] at h
      rw [TOk.var_iff]
      exact fun hk => h hk.1
  · have hf : f ≠ -1 := hf
    refine ⟨_, a6tq ss f, b9q (fun h => d7q ?_) fun h => ?_⟩
    · have h := g4q h
      rw [Bool.eq_false_iff, Ne, g8q] at h
      rw [TOk.app_iff hf]
      rintro ⟨n, x, rfl, hx, _⟩
      have := (List.getElem?_eq_some_iff.1 hx).1
      omega
    · have h := e7q h
      rw [g8q] at h
      obtain ⟨n, rfl⟩ := Int.eq_ofNat_of_zero_le h.1
      obtain ⟨x, hx⟩ := d4q (l := ss) (i := n) (by omega)
      have hx1 := f1q (g := Sy.da) hx
      have inv : TOk ss (.mk n v ks) ↔ v = 0 ∧ (x.ac = false → (ks.length : Int) = x.ar) ∧ (x.ac = true → 2 ≤ ks.length) ∧ ∀ (i : Nat) k, ks[i]? = some k → KOk ss n x ks i k := by
        rw [TOk.app_iff hf]
        constructor
        · rintro ⟨m, y, e, hy, h1⟩
          have e : n = m := by omega
          subst e
          rw [hx] at hy; cases hy; exact h1
        · intro h1; exact ⟨n, x, rfl, hx, h1⟩
      have loop : v = 0 → (x.ac = false → (ks.length : Int) = x.ar) → (x.ac = true → 2 ≤ ks.length) → e3q (B (dB (TOk ss (.mk n v ks)))) [] (ss.map Sy.da) (Tm.das ks) (ks.length : Int) 0 (n : Int) v (Tm.das ks) := by
        intro g1 g2 g3
        have key := f8q (p := fun i => (∀ (j : Nat) k, j < i → ks[j]? = some k → KOk ss n x ks j k) → e3q (B (dB (TOk ss (.mk n v ks)))) [] (ss.map Sy.da) (Tm.das ks) (ks.length : Int) (i : Int) (n : Int) v (Tm.das ks)) ks.length ?_ (fun i hi ihl => ?_) 0 (Nat.zero_le _)
        · exact key fun j k hj => by omega
        · intro hall
          apply E0q
          exact a7q (c1q (Nat.le_refl _)) (dB_t (inv.2 ⟨g1, g2, g3, fun i k hk => hall i k (List.getElem?_eq_some_iff.1 hk).1 hk⟩))
        · intro hall
          obtain ⟨y, hy⟩ := d4q hi
          have hy1 := h6q hy
          have hyc := ih y (List.mem_of_getElem? hy)
          have hpr : 0 < i → ∃ z, ks[i - 1]? = some z := fun h => d4q (by omega)
          have bad : ¬ KOk ss n x ks i y → B false = B (dB (TOk ss (.mk n v ks))) ∧ ([] : List (Nat × Ob)) = [] := fun h => d7q fun hn => h ((inv.1 hn).2.2.2 i y hy)
          have good : KOk ss n x ks i y → e3q (B (dB (TOk ss (.mk n v ks)))) [] (ss.map Sy.da) (Tm.das ks) (ks.length : Int) (IntKind.wrap .i64 ((i : Int) + 1)) (n : Int) v (Tm.das ks) := fun h => by
            rw [wr1 hi hlen]
            exact ihl fun j k hj hk => by
              rcases Nat.lt_succ_iff_lt_or_eq.1 hj with hj | rfl
              · exact hall j k hj hk
              · rw [hy] at hk; cases hk; exact h
          have hcm := fun z => z2q y z
          obtain ⟨f', v', ks'⟩ := y
          apply E0q
          refine b2q (c7q hi) ⟨i, rfl, _, _, _, hy1, _, hyc, b9q (fun h => bad fun hh => d9q.1 (g4q h) hh.1) fun h0 => ⟨n, rfl, _, _, _, hx1, b9q (fun hac => b8q (fun h1 => bad fun hh => (hh.2 hac).1 h1) fun h1 => b8q (fun h2 => ?_) fun h2 => good ⟨c8q.1 (e7q h0), fun _ => ⟨h1, fun k' h _ => by omega⟩⟩) fun hac => good ⟨c8q.1 (e7q h0), fun h => by rw [hac] at h; cases h⟩⟩⟩
          have h2 : 0 < i := by omega
          obtain ⟨z, hz⟩ := hpr h2
          have hz1 := h6q hz
          have hc := hcm z
          refine ⟨i - 1, wrM h2 (by omega), ?_⟩
          obtain ⟨f2, v2, ks2⟩ := z
          refine ⟨_, _, _, hz1, _, hc, b8q (fun h3 => bad fun hh => (hh.2 hac).2 _ h2 hz h3) fun h3 => good ⟨c8q.1 (e7q h0), fun _ => ⟨h1, fun k' _ hk' => ?_⟩⟩⟩
          rw [hz] at hk'; cases hk'; exact h3
      refine b8q (fun h1 => d7q fun hn => h1 (inv.1 hn).1) fun h1 => ⟨n, rfl, _, _, _, hx1, b9q (fun h2 => ⟨n, rfl, _, _, _, hx1, b8q (fun h3 => d7q fun hn => h3 ((inv.1 hn).2.1 (g4q h2))) fun h3 => ⟨n, rfl, _, _, _, hx1, a7q (g4q h2) ?_⟩⟩) fun h2 => ⟨n, rfl, _, _, _, hx1, b2q (e7q h2) (b8q (fun h3 => d7q fun hn => ?_) fun h3 => ?_)⟩⟩
      · exact loop (D6q h1) (fun _ => D6q h3) fun h => by rw [g4q h2] at h; cases h
      · have := (inv.1 hn).2.2.1 (e7q h2); omega
      · exact loop (D6q h1) (fun h => by rw [e7q h2] at h; cases h) fun _ => by omega
def l8q (ss : List Sy) (t : Tm) : Prop := H6q ss ∧ t.cn + 1 ≤ 60 ∧ TOk ss t
def Q0q (ss : List Sy) (x : Li) : Prop := l8q ss x.l ∧ l8q ss x.r ∧ ¬ Tm.cmp x.l x.r < 0
def H9q (ss : List Sy) (c : Cl) : Prop := (∀ (i : Nat) x, c.ls[i]? = some x → Q0q ss x ∧ ∀ y, 0 < i → c.ls[i - 1]? = some y → Li.cmp y x < 0) ∧ c.ls.length ≤ 8
theorem k0q (ss : List Sy) (t : Tm) (hc : t.cn ≤ 1200000000000) : XC Tryz.prog 110 [L (ss.map Sy.da), .dat t.da] [] (B (dB (l8q ss t))) [] := by
  have h1 := a2Bq ss
  have h2 := a2hq t hc
  have h3 := a4Zq ss t
  have e : l8q ss t = (H6q ss ∧ t.cn + 1 ≤ 60 ∧ TOk ss t) := rfl
  rw [e]
  generalize t.cn = c at *
  obtain ⟨f, v, ks⟩ := t
  apply a2wq
  refine ⟨_, h1, b9q (fun g1 => ⟨_, h2, b8q (fun g2 => ⟨_, h3, t1q ?_⟩) fun g2 => d7q fun hn => g2 (by have := hn.2.1; omega)⟩) fun g1 => d7q fun hn => d9q.1 g1 hn.1⟩
  rw [c8q]
  exact ⟨fun h => ⟨c8q.1 g1, by omega, h⟩, fun h => h.2.2⟩
theorem j9q (ss : List Sy) (t : Tm) (hc : t.cn ≤ 1200000000000) : XC Tryz.prog 120 [L (ss.map Sy.da), .dat t.da] [] (B (dB (l8q ss t))) [] := by
  have h1 := a2uq ss
  have h2 := a3bq t hc
  have h3 := a5Uq ss t
  have e : l8q ss t = (H6q ss ∧ t.cn + 1 ≤ 60 ∧ TOk ss t) := rfl
  rw [e]
  generalize t.cn = c at *
  obtain ⟨f, v, ks⟩ := t
  apply a2lq
  refine ⟨_, h1, b9q (fun g1 => ⟨_, h2, b8q (fun g2 => ⟨_, h3, t1q ?_⟩) fun g2 => d7q fun hn => g2 (by have := hn.2.1; omega)⟩) fun g1 => d7q fun hn => d9q.1 g1 hn.1⟩
  rw [c8q]
  exact ⟨fun h => ⟨c8q.1 g1, by omega, h⟩, fun h => h.2.2⟩
theorem a2Gq (ss : List Sy) (x : Li) (hc : x.cn ≤ 1200000000000) : XC Tryz.prog 106 [L (ss.map Sy.da), .dat x.da] [] (B (dB (Q0q ss x))) [] := by
  have hc : x.l.cn + x.r.cn ≤ 1200000000000 := hc
  have h1 := k0q ss x.l (by omega)
  have h2 := k0q ss x.r (by omega)
  have h3 := v1q x.l x.r
  obtain ⟨p, ⟨f, v, ks⟩, ⟨g, u, ls⟩⟩ := x
  apply a4fq
  refine ⟨_, h1, b9q (fun g1 => ⟨_, h2, b9q (fun g2 => ⟨_, h3, t1q ?_⟩) fun g2 => d7q fun hn => d9q.1 g2 hn.2.1⟩) fun g1 => d7q fun hn => d9q.1 g1 hn.1⟩
  simp only [Bool.not_eq_true', decide_eq_false_iff_not]
  exact ⟨fun h => ⟨c8q.1 g1, c8q.1 g2, h⟩, fun h => h.2.2⟩
theorem a33q (ss : List Sy) (x : Li) (hc : x.cn ≤ 1200000000000) : XC Tryz.prog 115 [L (ss.map Sy.da), .dat x.da] [] (B (dB (Q0q ss x))) [] := by
  have hc : x.l.cn + x.r.cn ≤ 1200000000000 := hc
  have h1 := j9q ss x.l (by omega)
  have h2 := j9q ss x.r (by omega)
  have h3 := z2q x.l x.r
  obtain ⟨p, ⟨f, v, ks⟩, ⟨g, u, ls⟩⟩ := x
  apply a4lq
  refine ⟨_, h1, b9q (fun g1 => ⟨_, h2, b9q (fun g2 => ⟨_, h3, t1q ?_⟩) fun g2 => d7q fun hn => d9q.1 g2 hn.2.1⟩) fun g1 => d7q fun hn => d9q.1 g1 hn.1⟩
  simp only [Bool.not_eq_true', decide_eq_false_iff_not]
  exact ⟨fun h => ⟨c8q.1 g1, c8q.1 g2, h⟩, fun h => h.2.2⟩
theorem Y7q (ss : List Sy) (c : Cl) (hc : c.cn ≤ 1200000000000) : XC Tryz.prog 46 [L (ss.map Sy.da), .dat c.da] [] (B (dB (H9q ss c))) [] := by
  have hc : cnL Li.cn c.ls ≤ 1200000000000 := hc
  have hlen : c.ls.length ≤ 281474976710656 := by have := j0q Li.cn c.ls; omega
  apply a0hq
  have key := f8q (p := fun i => (∀ (j : Nat) x, j < i → c.ls[j]? = some x → Q0q ss x ∧ ∀ y, 0 < j → c.ls[j - 1]? = some y → Li.cmp y x < 0) → h3q (B (dB (H9q ss c))) [] (ss.map Sy.da) (i : Int) (c.ls.map Li.da)) c.ls.length ?_ (fun i hi ihl => ?_) 0 (Nat.zero_le _)
  · exact key fun j x hj => by omega
  · intro hall
    apply A9q
    rw [List.length_map]
    refine a7q (c1q (Nat.le_refl _)) (t1q ?_)
    rw [decide_eq_true_eq]
    exact ⟨fun h => ⟨fun i x hx => hall i x (List.getElem?_eq_some_iff.1 hx).1 hx, by omega⟩, fun h => by have := h.2; omega⟩
  · intro hall
    obtain ⟨x, hx⟩ := d4q hi
    have hx1 := f1q (g := Li.da) hx
    have hm := o3q (cn := Li.cn) (List.mem_of_getElem? hx)
    have hxc := a2Gq ss x (by omega)
    have bad : ¬ (Q0q ss x ∧ ∀ y, 0 < i → c.ls[i - 1]? = some y → Li.cmp y x < 0) → B false = B (dB (H9q ss c)) ∧ ([] : List (Nat × Ob)) = [] := fun h => d7q fun hn => h (hn.1 i x hx)
    have good : (Q0q ss x ∧ ∀ y, 0 < i → c.ls[i - 1]? = some y → Li.cmp y x < 0) → h3q (B (dB (H9q ss c))) [] (ss.map Sy.da) (IntKind.wrap .i64 ((i : Int) + 1)) (c.ls.map Li.da) := fun h => by
      rw [wr1 hi hlen]
      exact ihl fun j y hj hy => by
        rcases Nat.lt_succ_iff_lt_or_eq.1 hj with hj | rfl
        · exact hall j y hj hy
        · rw [hx] at hy; cases hy; exact h
    have hcm := fun z => a2Pq z x
    obtain ⟨p, ⟨f, v, ks⟩, ⟨g, u, ms⟩⟩ := x
    apply A9q
    refine b2q (c7q (by simpa using hi)) ⟨i, rfl, _, _, _, _, _, _, _, hx1, _, hxc, b9q (fun h => bad fun hh => d9q.1 (g4q h) hh.1) fun h0 => b8q (fun h2 => ?_) fun h2 => good ⟨c8q.1 (e7q h0), fun y h => by omega⟩⟩
    have h2 : 0 < i := by omega
    obtain ⟨z, hz⟩ := d4q (l := c.ls) (i := i - 1) (by omega)
    have hz1 := f1q (g := Li.da) hz
    have hcz := hcm z
    refine ⟨i - 1, wrM h2 (by omega), ?_⟩
    obtain ⟨p', ⟨f', v', ks'⟩, ⟨g', u', ms'⟩⟩ := z
    refine ⟨_, _, _, _, _, _, _, hz1, i, rfl, _, _, _, _, _, _, _, hx1, _, hcz, b9q (fun h => bad fun hh => ?_) fun h => good ⟨c8q.1 (e7q h0), fun y _ hy => ?_⟩⟩
    · have h := g4q h; simp at h; have := hh.2 _ h2 hz; omega
    · rw [hz] at hy; cases hy; simpa using e7q h
theorem Y5q (ss : List Sy) (c : Cl) (hc : c.cn ≤ 1200000000000) : XC Tryz.prog 51 [L (ss.map Sy.da), .dat c.da] [] (B (dB (H9q ss c))) [] := by
  have hc : cnL Li.cn c.ls ≤ 1200000000000 := hc
  have hlen : c.ls.length ≤ 281474976710656 := by have := j0q Li.cn c.ls; omega
  apply a0Jq
  rw [List.length_map]
  have key := f8q (p := fun i => (∀ (j : Nat) x, j < i → c.ls[j]? = some x → Q0q ss x ∧ ∀ y, 0 < j → c.ls[j - 1]? = some y → Li.cmp y x < 0) → h2q (B (dB (H9q ss c))) [] (ss.map Sy.da) (c.ls.map Li.da) (c.ls.length : Int) (i : Int) (c.ls.map Li.da)) c.ls.length ?_ (fun i hi ihl => ?_) 0 (Nat.zero_le _)
  · exact key fun j x hj => by omega
  · intro hall
    apply A7q
    rw [List.length_map]
    refine a7q (c1q (Nat.le_refl _)) (t1q ?_)
    rw [decide_eq_true_eq]
    exact ⟨fun h => ⟨fun i x hx => hall i x (List.getElem?_eq_some_iff.1 hx).1 hx, by omega⟩, fun h => by have := h.2; omega⟩
  · intro hall
    obtain ⟨x, hx⟩ := d4q hi
    have hx1 := f1q (g := Li.da) hx
    have hm := o3q (cn := Li.cn) (List.mem_of_getElem? hx)
    have hxc := a33q ss x (by omega)
    have bad : ¬ (Q0q ss x ∧ ∀ y, 0 < i → c.ls[i - 1]? = some y → Li.cmp y x < 0) → B false = B (dB (H9q ss c)) ∧ ([] : List (Nat × Ob)) = [] := fun h => d7q fun hn => h (hn.1 i x hx)
    have good : (Q0q ss x ∧ ∀ y, 0 < i → c.ls[i - 1]? = some y → Li.cmp y x < 0) → h2q (B (dB (H9q ss c))) [] (ss.map Sy.da) (c.ls.map Li.da) (c.ls.length : Int) (IntKind.wrap .i64 ((i : Int) + 1)) (c.ls.map Li.da) := fun h => by
      rw [wr1 hi hlen]
      exact ihl fun j y hj hy => by
        rcases Nat.lt_succ_iff_lt_or_eq.1 hj with hj | rfl
        · exact hall j y hj hy
        · rw [hx] at hy; cases hy; exact h
    have hcm := fun z => V9q z x
    obtain ⟨p, ⟨f, v, ks⟩, ⟨g, u, ms⟩⟩ := x
    apply A7q
    refine b2q (c7q hi) ⟨i, rfl, _, _, _, _, _, _, _, hx1, _, hxc, b9q (fun h => bad fun hh => d9q.1 (g4q h) hh.1) fun h0 => b8q (fun h2 => ?_) fun h2 => good ⟨c8q.1 (e7q h0), fun y h => by omega⟩⟩
    have h2 : 0 < i := by omega
    obtain ⟨z, hz⟩ := d4q (l := c.ls) (i := i - 1) (by omega)
    have hz1 := f1q (g := Li.da) hz
    have hcz := hcm z
    refine ⟨i - 1, wrM h2 (by omega), ?_⟩
    obtain ⟨p', ⟨f', v', ks'⟩, ⟨g', u', ms'⟩⟩ := z
    refine ⟨_, _, _, _, _, _, _, hz1, _, hcz, b9q (fun h => bad fun hh => ?_) fun h => good ⟨c8q.1 (e7q h0), fun y _ hy => ?_⟩⟩
    · have h := g4q h; simp at h; have := hh.2 _ h2 hz; omega
    · rw [hz] at hy; cases hy; simpa using e7q h
theorem t8q (l : List Int) : f7q (l.map In.da) := by
  intro x hx
  obtain ⟨n, _, rfl⟩ := List.mem_map.1 hx
  rfl
theorem p4q (l : List Int) : ∀ y ∈ l.map In.da, y.length = 1 := by
  intro x hx
  obtain ⟨n, _, rfl⟩ := List.mem_map.1 hx
  rfl
theorem a6Tq (P R : List (List Da)) (b : List Da) (hl : P.length + R.length ≤ 10000000000000) : XC Tryz.prog 217 [.one (.ol 2000), Z (P.length : Int), .one (.ol 2001)] [(2000, .lst 3 1 (P ++ R)), (2001, .lst 3 1 [b])] (.one (.ol 0)) [(2001, .lst 3 1 [b]), (0, .lst 3 1 (P ++ b :: R))] := by
  apply P9q
  intro c hc1 hc2
  have hlen : (P ++ R).length = P.length + R.length := by simp
  have t1 : ∀ j, P.take (P.length + j) = P := fun j => List.take_of_length_le (by omega)
  have d1 : ∀ j, P.drop (P.length + j) = [] := fun j => List.drop_eq_nil_of_le (by omega)
  refine ⟨P.length, rfl, ⟨by rw [hlen]; omega, .inl (Nat.le_refl _)⟩, a7q (by simp) ?_⟩
  cases R with
  | nil =>
    refine b2q (by simp) ⟨⟨by omega, by simp at *; omega⟩, ?_⟩
    by_cases h : 0 + (P ++ []).length + [b].length ≤ c
    · exact b2q (decide_eq_true h) ⟨⟨by simp⟩, by simp [t1, d1, List.take_append]⟩
    · exact a7q (decide_eq_false h) (by simp)
  | cons x R =>
    refine a7q (by simp; omega) ?_
    have w1 : IntKind.wrap .i64 (((P ++ x :: R).length : Int) + (([b].length : Nat) : Int)) = ((P.length + R.length + 2 : Nat) : Int) := by
      rw [wrI (by simp; omega) (by simp at *; omega)]; simp; omega
    have w2 : IntKind.wrap .i64 (((P.length + R.length + 2 : Nat) : Int) - (P.length : Int)) = ((R.length + 2 : Nat) : Int) := by
      rw [wrI (by omega) (by simp at *; omega)]; omega
    have w3 : IntKind.wrap .i64 ((P.length : Int) + (([b].length : Nat) : Int)) = ((P.length + 1 : Nat) : Int) := by
      rw [wrI (by simp; omega) (by simp at *; omega)]; simp
    rw [w1, w2, w3]
    simp only [List.length_cons] at hl
    have hlen' : (P ++ x :: R).length = P.length + R.length + 1 := by simp; omega
    have m1 : min (R.length + 1) (P.length + (R.length + 1 + 1) - (P.length + 1)) = R.length + 1 := by omega
    by_cases h : (((c : Int) - 0)) < ((P.length + R.length + 2 : Nat) : Int)
    · refine b2q (decide_eq_true h) ⟨P.length, rfl, ⟨by omega, .inl (by omega)⟩, R.length + 2, rfl, ⟨by omega, by simp <;> omega⟩, a7q (decide_eq_false (by simp <;> omega)) ?_⟩
      refine ⟨P.length, rfl, ⟨by simp, Nat.le_refl _⟩, ⟨by simp <;> omega⟩, P.length + 1, rfl, ⟨by simp <;> omega, Nat.le_refl _⟩, P.length, rfl, ⟨by omega, .inl (Nat.le_refl _)⟩, ⟨by simp <;> omega⟩, ⟨by simp <;> omega⟩, rfl, ?_⟩
      simp [List.take_append, List.drop_append, List.replicate_succ, t1, d1, m1, Nat.add_assoc] <;> omega
    · have e1 : P.length + R.length + 2 - P.length = R.length + 2 := by omega
      have e2 : P.length + R.length + 2 - (P.length + 1) = R.length + 1 := by omega
      have e3 : P.length + R.length + 1 - P.length = R.length + 1 := by omega
      have e4 : min (R.length + 2) (R.length + 1) = R.length + 1 := by omega
      have e5 : min 1 (R.length + 2) = 1 := by omega
      have e7 : P.length + (R.length + 1 + 1) - P.length = R.length + 2 := by omega
      have e8 : P.length + (R.length + 1 + 1) - (P.length + 1) = R.length + 1 := by omega
      refine a7q (decide_eq_false h) ⟨P.length + R.length + 2, rfl, ⟨by omega, .inr (by omega)⟩, P.length + 1, rfl, ⟨by omega, .inl (Nat.le_refl _)⟩, P.length + 1, rfl, ⟨by omega, .inl (Nat.le_refl _)⟩, P.length, rfl, ⟨by omega, .inl (Nat.le_refl _)⟩, ⟨by simp <;> omega⟩, ⟨by simp, by simp <;> omega⟩, P.length, rfl, ⟨by omega, .inl (Nat.le_refl _)⟩, ⟨by simp; exact Nat.le_trans (Nat.le_succ _) (Nat.le_add_right _ _), by simp <;> omega⟩, ⟨by simp [e1, e2, e3, e4, e5, e7, e8] <;> omega⟩, rfl, ?_⟩
      simp only [Nat.sub_zero, Nat.zero_add, e1, e2, e4]
      simp [List.take_append, List.drop_append, t1, d1, m1, e1, e2, e3, e4, e5, e7, e8, Nat.add_assoc] <;> omega
def s7q (n : Int) : List Int → List Int
  | [] => [n]
  | x :: r => if x < n then x :: s7q n r else n :: x :: r
def h4q (l : List Int) (n : Int) : List Int := if n ∈ l then l else s7q n l
mutual
def Tm.vs : Tm → List Int → List Int
  | .mk f v ks, out => Tm.vss ks (if f = -1 then h4q out v else out)
def Tm.vss : List Tm → List Int → List Int
  | [], out => out
  | t :: r, out => Tm.vss r (Tm.vs t out)
end
mutual
def Tm.occ : Tm → Int → Prop
  | .mk f v ks, x => (f = -1 ∧ x = v) ∨ Tm.occs ks x
def Tm.occs : List Tm → Int → Prop
  | [], _ => False
  | t :: r, x => Tm.occ t x ∨ Tm.occs r x
end
mutual
def Tm.cnt : Tm → Int → Nat
  | .mk f v ks, x => (if f = -1 ∧ v = x then 1 else 0) + Tm.cnts ks x
def Tm.cnts : List Tm → Int → Nat
  | [], _ => 0
  | t :: r, x => Tm.cnt t x + Tm.cnts r x
end
theorem a8Mq (n : Int) (l : List Int) : (s7q n l).length = l.length + 1 := by
  induction l with
  | nil => rfl
  | cons x r ih => unfold s7q; split <;> simp_all
theorem P5q (l : List Int) (n : Int) : (h4q l n).length ≤ l.length + 1 := by
  unfold h4q; split
  · omega
  · rw [a8Mq]; omega
theorem a5qq {n x : Int} {l : List Int} : x ∈ s7q n l ↔ x = n ∨ x ∈ l := by
  induction l with
  | nil => simp [s7q]
  | cons y r ih =>
    unfold s7q; split
    · simp only [List.mem_cons, ih]
      constructor
      · rintro (h | h | h) <;> simp [h]
      · rintro (h | h | h) <;> simp [h]
    · simp
theorem a6Rq {n x : Int} {l : List Int} : x ∈ h4q l n ↔ x = n ∨ x ∈ l := by
  unfold h4q; split
  · rename_i h
    constructor
    · exact .inr
    · rintro (rfl | h1)
      · exact h
      · exact h1
  · exact a5qq
abbrev Srt (l : List Int) : Prop := l.Pairwise (· < ·)
theorem a9Cq {n : Int} {l : List Int} (h : Srt l) (hn : n ∉ l) : Srt (s7q n l) := by
  induction l with
  | nil => simp [s7q, Srt]
  | cons y r ih =>
    obtain ⟨h1, h2⟩ := List.pairwise_cons.1 h
    unfold s7q; split
    · rename_i hy
      refine List.pairwise_cons.2 ⟨fun z hz => ?_, ih h2 fun h => hn (List.mem_cons_of_mem _ h)⟩
      rcases a5qq.1 hz with rfl | hz
      · exact hy
      · exact h1 z hz
    · rename_i hy
      have hne : n ≠ y := fun e => hn (by simp [e])
      refine List.pairwise_cons.2 ⟨fun z hz => ?_, h⟩
      rcases List.mem_cons.1 hz with rfl | hz
      · omega
      · have := h1 z hz; omega
theorem a6Hq {n : Int} {l : List Int} (h : Srt l) : Srt (h4q l n) := by
  unfold h4q; split
  · exact h
  · rename_i hn; exact a9Cq h hn
mutual
theorem Tm.vs_len : ∀ (t : Tm) (out : List Int), (t.vs out).length ≤ out.length + t.cn + 1
  | .mk f v ks, out => by
    have h1 := Tm.vss_len ks (if f = -1 then h4q out v else out)
    have h2 := P5q out v
    simp only [Tm.vs, Tm.cn]
    split at h1 <;> simp_all <;> omega
theorem Tm.vss_len : ∀ (l : List Tm) (out : List Int), (Tm.vss l out).length ≤ out.length + Tm.cns l
  | [], out => by simp [Tm.vss]
  | t :: r, out => by
    have h1 := Tm.vs_len t out
    have h2 := Tm.vss_len r (t.vs out)
    simp only [Tm.vss, Tm.cns]
    omega
end
mutual
theorem Tm.mem_vs : ∀ (t : Tm) (out : List Int) (x : Int), x ∈ t.vs out ↔ x ∈ out ∨ t.occ x
  | .mk f v ks, out, x => by
    simp only [Tm.vs, Tm.occ]
    rw [Tm.mem_vss ks]
    split
    · rename_i h
      rw [a6Rq]
      simp only [h, true_and]
      constructor
      · rintro ((h | h) | h) <;> simp [h]
      · rintro (h | h | h) <;> simp [h]
    · rename_i h
      simp [h]
theorem Tm.mem_vss : ∀ (l : List Tm) (out : List Int) (x : Int), x ∈ Tm.vss l out ↔ x ∈ out ∨ Tm.occs l x
  | [], out, x => by simp [Tm.vss, Tm.occs]
  | t :: r, out, x => by
    simp only [Tm.vss, Tm.occs]
    rw [Tm.mem_vss r, Tm.mem_vs t, or_assoc]
end
mutual
theorem Tm.srt_vs : ∀ (t : Tm) {out : List Int}, Srt out → Srt (t.vs out)
  | .mk f v ks, out, h => by
    simp only [Tm.vs]
    split
    · exact Tm.srt_vss ks (a6Hq h)
    · exact Tm.srt_vss ks h
theorem Tm.srt_vss : ∀ (l : List Tm) {out : List Int}, Srt out → Srt (Tm.vss l out)
  | [], out, h => h
  | t :: r, out, h => Tm.srt_vss r (Tm.srt_vs t h)
end
mutual
theorem Tm.cnt_le : ∀ (t : Tm) (x : Int), t.cnt x ≤ t.cn + 1
  | .mk f v ks, x => by
    have h1 := Tm.cnts_le ks x
    simp only [Tm.cnt, Tm.cn]
    split <;> omega
theorem Tm.cnts_le : ∀ (l : List Tm) (x : Int), Tm.cnts l x ≤ Tm.cns l
  | [], x => by simp [Tm.cnts]
  | t :: r, x => by
    have h1 := Tm.cnt_le t x
    have h2 := Tm.cnts_le r x
    simp only [Tm.cnts, Tm.cns]
    omega
end
mutual
theorem Tm.cnt_zero : ∀ (t : Tm) (x : Int), t.cnt x = 0 ↔ ¬ t.occ x
  | .mk f v ks, x => by
    have h1 := Tm.cnts_zero ks x
    simp only [Tm.cnt, Tm.occ, not_or]
    split
    · rename_i h
      constructor
      · intro h; omega
      · rintro ⟨h2, _⟩; exact absurd ⟨h.1, h.2.symm⟩ h2
    · rename_i h
      rw [Nat.zero_add, h1]
      constructor
      · exact fun h2 => ⟨fun h3 => h ⟨h3.1, h3.2.symm⟩, h2⟩
      · exact fun h2 => h2.2
theorem Tm.cnts_zero : ∀ (l : List Tm) (x : Int), Tm.cnts l x = 0 ↔ ¬ Tm.occs l x
  | [], x => by simp [Tm.cnts, Tm.occs]
  | t :: r, x => by
    have h1 := Tm.cnt_zero t x
    have h2 := Tm.cnts_zero r x
    simp only [Tm.cnts, Tm.occs, not_or]
    rw [← h1, ← h2]; omega
end
theorem n0q {α β : Type} {g : α → β} {p : List α} {x : α} {q : List α} : ((p ++ x :: q).map g)[p.length]? = some (g x) := by simp
theorem q7q {p : List Tm} {x : Tm} {q : List Tm} : (Tm.das (p ++ x :: q))[p.length]? = some x.da := by rw [Tm.das_map]; simp
theorem V1q {α β : Type} (g : α → β) (p : List α) : List.take p.length (p.map g) = p.map g := List.take_of_length_le (by simp)
theorem h1q {α : Type} (p : List α) (x : α) : (p ++ [x]).length = p.length + 1 := by simp
def o7q (p : Int → Bool) : List Int → Nat → Int
  | [], _ => -1
  | x :: r, i => if p x then (i : Int) else o7q p r (i + 1)
theorem P0q {p : Int → Bool} : ∀ {l : List Int} {i : Nat}, 0 ≤ o7q p l i ↔ ∃ x ∈ l, p x = true
  | [], i => by simp [o7q]
  | x :: r, i => by
    unfold o7q; split
    · rename_i h; simp [h]
    · rename_i h; rw [P0q]; simp [h]
theorem a4Qq {n : Int} : ∀ {l : List Int} {i : Nat}, n ∉ l → (o7q (fun x => decide (n < x)) l i < 0 ∧ s7q n l = l ++ [n]) ∨ ∃ P R, l = P ++ R ∧ s7q n l = P ++ n :: R ∧ o7q (fun x => decide (n < x)) l i = ((i + P.length : Nat) : Int)
  | [], i, _ => .inl ⟨by simp [o7q], rfl⟩
  | x :: r, i, h => by
    have hne : n ≠ x := fun e => h (by simp [e])
    unfold o7q s7q
    by_cases hx : n < x
    · rw [if_pos (by simpa using hx), if_neg (by omega)]
      exact .inr ⟨[], x :: r, rfl, rfl, by simp⟩
    · rw [if_neg (by simpa using hx), if_pos (by omega)]
      rcases a4Qq (l := r) (i := i + 1) (fun h1 => h (List.mem_cons_of_mem _ h1)) with ⟨h1, h2⟩ | ⟨P, R, rfl, h2, h3⟩
      · exact .inl ⟨h1, by rw [h2]; rfl⟩
      · exact .inr ⟨x :: P, R, rfl, by rw [h2]; rfl, by rw [h3]; simp; omega⟩
theorem S2q (l : List Int) (n : Int) (hl : l.length ≤ 10000000000000) : ∀ (q p : List Int), l = p ++ q → i8q (Z (o7q (fun x => decide (n = x)) q p.length)) [] (l.map In.da) n (l.length : Int) (p.length : Int)
  | [], p, e => by
    apply v0q
    subst e
    exact a7q (c1q (by simp)) ⟨rfl, rfl⟩
  | x :: q, p, e => by
    apply v0q
    have ih := S2q l n hl q (p ++ [x]) (by simp [e])
    subst e
    rw [h1q] at ih
    refine b2q (c7q (by simp)) ⟨p.length, rfl, x, n0q, ?_⟩
    by_cases h : n = x
    · exact b2q (by simpa using h) ⟨by simp [o7q, h], rfl⟩
    · refine a7q (by simpa using h) ?_
      rw [wr1 (n := p.length + 1) (by omega) (by simp at hl; omega)]
      simpa [o7q, h] using ih
theorem a0Eq (l : List Int) (n : Int) (hl : l.length ≤ 10000000000000) : XC Tryz.prog 183 [L (l.map In.da), Z n] [] (B (decide (n ∈ l))) [] := by
  apply M0q
  refine ⟨_, S8q (by simpa using S2q l n hl l [] rfl), ?_, rfl⟩
  congr 1
  rw [decide_eq_decide, P0q]
  simp
theorem O1q (l : List Int) (n : Int) (hl : l.length ≤ 10000000000000) : XC Tryz.prog 124 [L (l.map In.da), Z n] [] (B (decide (n ∈ l))) [] := by
  apply a3Vq
  exact ⟨_, a0Eq l n hl, rfl, rfl⟩
theorem M6q (l : List Int) (n : Int) (hl : l.length ≤ 10000000000000) : ∀ (q p : List Int), l = p ++ q → q5q (B (decide (n ∈ q))) [] (l.map In.da) n (p.length : Int)
  | [], p, e => by
    apply H8q
    subst e
    exact a7q (c1q (by simp)) ⟨by simp, rfl⟩
  | x :: q, p, e => by
    apply H8q
    have ih := M6q l n hl q (p ++ [x]) (by simp [e])
    subst e
    rw [h1q] at ih
    refine b2q (c7q (by simp)) ⟨p.length, rfl, x, n0q, ?_⟩
    by_cases h : x = n
    · exact b2q (by simpa using h) ⟨by simp [h], rfl⟩
    · refine a7q (by simpa using h) ?_
      rw [wr1 (n := p.length + 1) (by omega) (by simp at hl; omega)]
      have : (n ∈ x :: q) = (n ∈ q) := by simp; intro e; exact absurd e.symm h
      simpa [this] using ih
theorem a2Aq (l : List Int) (n : Int) (hl : l.length ≤ 10000000000000) : XC Tryz.prog 239 [L (l.map In.da), Z n] [] (B (decide (n ∈ l))) [] := by
  apply a3Zq
  simpa using M6q l n hl l [] rfl
theorem J6q (l : List Int) (n : Int) (hl : l.length ≤ 10000000000000) : ∀ (q p : List Int), l = p ++ q → p0q (L ((p ++ s7q n q).map In.da)) [] (l.map In.da) n (p.length : Int)
  | [], p, e => by
    apply E1q
    subst e
    refine a7q (c1q (by simp)) ⟨p.length, rfl, ⟨by simp⟩, ⟨p4q _⟩, ⟨?_⟩, ⟨?_⟩, ⟨by simp at *; omega⟩, ⟨by simp at *; omega⟩, p.length, rfl, ⟨by simp⟩, ⟨p4q _⟩, ⟨by simp⟩, ⟨?_⟩, ⟨by simp at *; omega⟩, ?_, rfl⟩
    · intro y hy; exact p4q _ y (List.mem_of_mem_take (List.mem_of_mem_drop hy))
    · intro y hy; exact t8q _ y (List.mem_of_mem_take (List.mem_of_mem_drop hy))
    · intro y hy; exact t8q _ y (List.mem_of_mem_take (List.mem_of_mem_drop hy))
    · simp [s7q, V1q]; rfl
  | x :: q, p, e => by
    apply E1q
    have ih := J6q l n hl q (p ++ [x]) (by simp [e])
    subst e
    rw [h1q] at ih
    refine b2q (c7q (by simp)) ⟨p.length, rfl, x, n0q, ?_⟩
    by_cases h : x < n
    · refine b2q (by simpa using h) ?_
      rw [wr1 (n := p.length + 1) (by omega) (by simp at hl; omega)]
      simpa [s7q, h] using ih
    · refine a7q (by simpa using h) ⟨p.length, rfl, ⟨by simp⟩, ⟨p4q _⟩, ⟨?_⟩, ⟨?_⟩, ⟨by simp at *; omega⟩, ⟨by simp at *; omega⟩, p.length, rfl, ⟨by simp⟩, ⟨p4q _⟩, ⟨?_⟩, ⟨?_⟩, ⟨by simp at *; omega⟩, ?_, rfl⟩
      · intro y hy; exact p4q _ y (List.mem_of_mem_take (List.mem_of_mem_drop hy))
      · intro y hy; exact t8q _ y (List.mem_of_mem_take (List.mem_of_mem_drop hy))
      · intro y hy; exact p4q _ y (List.mem_of_mem_take (List.mem_of_mem_drop hy))
      · intro y hy; exact t8q _ y (List.mem_of_mem_take (List.mem_of_mem_drop hy))
      · simp [s7q, h, V1q, List.take_append, List.drop_append]; rfl
theorem a17q (l : List Int) (n : Int) (hl : l.length ≤ 10000000000000) : XC Tryz.prog 213 [L (l.map In.da), Z n] [] (L ((h4q l n).map In.da)) [] := by
  apply a28q
  refine ⟨_, a2Aq l n hl, ?_⟩
  by_cases h : n ∈ l
  · exact b2q (by simpa using h) ⟨⟨p4q _⟩, ⟨t8q _⟩, ⟨by simp; omega⟩, by simp [h4q, h], rfl⟩
  · refine a7q (by simpa using h) ?_
    simpa [h4q, h] using J6q l n hl l [] rfl
theorem a40q (l : List Int) (hl : l.length ≤ 10000000000000) : XC Tryz.prog 215 [L (l.map In.da)] [] (.one (.ol 0)) [(0, .tr 3 1 (l.map In.da))] := by
  apply S6q
  refine ⟨fun h => ⟨rfl, ?_⟩, ⟨p4q _⟩, ⟨t8q _⟩, ⟨by simp; omega⟩, rfl, by simp⟩
  cases l with
  | nil => rfl
  | cons x r => simp [In.da] at h
theorem a04q (l : List Int) (n : Int) (hl : l.length ≤ 10000000000000) : ∀ (q p : List Int), l = p ++ q → d1q (Z (o7q (fun x => decide (n < x)) q p.length)) [(2000, .var [.d (.int .i64 n)])] (l.map In.da) (l.length : Int) (p.length : Int) n
  | [], p, e => by
    apply h9q
    subst e
    exact a7q (c1q (by simp)) ⟨rfl, rfl⟩
  | x :: q, p, e => by
    apply h9q
    have ih := a04q l n hl q (p ++ [x]) (by simp [e])
    subst e
    rw [h1q] at ih
    refine b2q (c7q (by simp)) ⟨p.length, rfl, x, n0q, _, _, a0nq ⟨rfl, rfl⟩, ?_⟩
    by_cases h : n < x
    · exact b2q (by simpa using h) ⟨by simp [o7q, h], rfl⟩
    · refine a7q (by simpa using h) ?_
      rw [wr1 (n := p.length + 1) (by omega) (by simp at hl; omega)]
      simpa [o7q, h] using ih
theorem Z8q (P R : List Int) (n : Int) (hl : P.length + R.length ≤ 10000000000000) : XC Tryz.prog 217 [.one (.ol 2000), Z (P.length : Int), .one (.ol 2001)] [(2000, .tr 3 1 ((P ++ R).map In.da)), (2001, .lst 3 1 [In.da n])] (.one (.ol 0)) [(2001, .lst 3 1 [In.da n]), (0, .tr 3 1 ((P ++ n :: R).map In.da))] := by
  have h := a6Tq (P.map In.da) (R.map In.da) (In.da n) (by simpa using hl)
  rw [List.length_map, ← List.map_append] at h
  have e : P.map In.da ++ In.da n :: R.map In.da = (P ++ n :: R).map In.da := by simp
  rw [e] at h
  exact h.imp (.cons (a9jq _ _ _) (.cons (.refl _) .nil)) (.cons (.refl _) (.cons (a6yq (t8q _)) .nil))
theorem a0Wq (l : List Int) (n : Int) (hl : l.length ≤ 10000000000000) : XC Tryz.prog 178 [L (l.map In.da), Z n] [] (.one (.ol 0)) [(0, .tr 3 1 ((h4q l n).map In.da))] := by
  apply a36q
  refine ⟨_, a40q l hl, _, O1q l n hl, ?_⟩
  by_cases h : n ∈ l
  · exact b2q (by simpa using h) ⟨rfl, by simp [h4q, h]⟩
  · refine a7q (by simpa using h) ⟨_, _, s3q (by simpa using a04q l n hl l [] rfl), ?_⟩
    rcases a4Qq (i := 0) h with ⟨h1, h2⟩ | ⟨P, R, rfl, h2, h3⟩
    · have := Z8q l [] n (by simpa using hl)
      rw [List.append_nil, ← h2] at this
      exact b2q (by simpa using h1) ⟨(h4q l n).map In.da, [In.da n], by simpa [h4q, h, In.da] using this, rfl, rfl⟩
    · have := Z8q P R n (by simpa using hl)
      rw [← h2] at this
      refine a7q (by rw [h3]; simp) ⟨(h4q (P ++ R) n).map In.da, [In.da n], ?_, rfl, rfl⟩
      rw [h3]
      simpa [h4q, h, In.da] using this
theorem L2q (f v : Int) (ks : List Tm) (hk : ks.length ≤ 10000000000000) : ∀ (q p : List Tm) (out : List Int), ks = p ++ q → out.length + Tm.cns q ≤ 5000000000000 → (∀ t ∈ q, ∀ o : List Int, o.length + t.cn + 1 ≤ 5000000000000 → XC Tryz.prog 169 [.dat t.da, L (o.map In.da)] [] (L ((t.vs o).map In.da)) []) → k8q (L ((Tm.vss q out).map In.da)) [] (out.map In.da) (p.length : Int) f v (Tm.das ks)
  | [], p, out, e, _, _ => by
    apply E5q
    subst e
    exact a7q (c1q (by simp [b6q])) ⟨rfl, rfl⟩
  | .mk g u ls :: q, p, out, e, ho, hc => by
    apply E5q
    have hcn : Tm.cns (.mk g u ls :: q) = 1 + (Tm.mk g u ls).cn + Tm.cns q := by simp [Tm.cns]
    have hl := Tm.vs_len (.mk g u ls) out
    have ih := L2q f v ks hk q (p ++ [.mk g u ls]) (Tm.vs (.mk g u ls) out) (by simp [e]) (by omega) (fun t ht => hc t (List.mem_cons_of_mem _ ht))
    subst e
    rw [h1q] at ih
    refine b2q (c7q (by simp [b6q])) ⟨p.length, rfl, g, u, Tm.das ls, q7q, _, hc (.mk g u ls) (by simp) out (by omega), ?_⟩
    rw [wr1 (n := p.length + 1) (by omega) (by simp at hk; omega)]
    exact ih
theorem a68q (t : Tm) : ∀ out : List Int, out.length + t.cn + 1 ≤ 5000000000000 → XC Tryz.prog 169 [.dat t.da, L (out.map In.da)] [] (L ((t.vs out).map In.da)) [] := by
  induction t using Tm.ind with
  | h f v ks ih =>
  intro out ho
  have hcn : (Tm.mk f v ks).cn = Tm.cns ks := by simp [Tm.cn]
  have hl := P5q out v
  have hkl := Tm.cns_cnL ks ▸ j0q Tm.cn ks
  apply a2zq
  by_cases h : f = -1
  · refine b2q (by simpa using h) ⟨_, a17q out v (by omega), ?_⟩
    have := L2q f v ks (by omega) ks [] (h4q out v) rfl (by omega) ih
    simpa [Tm.vs, h] using this
  · refine a7q (by simpa using h) ?_
    have := L2q f v ks (by omega) ks [] out rfl (by omega) ih
    simpa [Tm.vs, h] using this
theorem r5q (t : Tm) (hc : t.cn ≤ 1200000000000) : XC Tryz.prog 112 [.dat t.da] [] (L ((t.vs []).map In.da)) [] := by
  obtain ⟨f, v, ks⟩ := t
  apply a2oq
  exact ⟨_, a68q (.mk f v ks) [] (by simp; omega), rfl, rfl⟩
theorem L9q (t : Tm) : XC Tryz.prog 100 [.dat t.da] [] (B (decide (t.f = -1))) [] := by
  obtain ⟨f, v, ks⟩ := t
  exact R5q ⟨rfl, rfl⟩
theorem a5Jq (t : Tm) (o : List Int) (hl : o.length ≤ 5000000000000) : XC Tryz.prog 177 [.dat t.da, .one (.op 2000 0)] [(2000, .var [.ol 2001]), (2001, .tr 3 1 (o.map In.da))] (.tup []) [(2000, .var [.ol 0]), (0, .tr 3 1 ((if t.f = -1 then h4q o t.v else o).map In.da))] := by
  obtain ⟨f, v, ks⟩ := t
  apply a0vq
  refine ⟨_, L9q (.mk f v ks), ?_⟩
  by_cases h : f = -1
  · exact b2q (decide_eq_true h) ⟨_, a0Wq o v (by omega), rfl, by simp [Tm.f, Tm.v, h]⟩
  · exact a7q (decide_eq_false h) ⟨rfl, by simp [Tm.f, h]⟩
theorem R8q (ks : List Tm) (hk : ks.length ≤ 10000000000000) : ∀ (q p : List Tm) (out : List Int), ks = p ++ q → out.length + Tm.cns q ≤ 5000000000000 → (∀ t ∈ q, ∀ o : List Int, o.length + t.cn + 1 ≤ 5000000000000 → XC Tryz.prog 176 [.dat t.da, .one (.clo 177 [(2000, 0)])] [(2000, .var [.ol 2001]), (2001, .tr 3 1 (o.map In.da))] (.tup []) [(2000, .var [.ol 0]), (0, .tr 3 1 ((t.vs o).map In.da))]) → f4q (.tup []) [(2000, .var [.ol 0]), (0, .tr 3 1 ((Tm.vss q out).map In.da))] (Tm.das ks) (ks.length : Int) (p.length : Int) (out.map In.da)
  | [], p, out, e, _, _ => by
    apply n3q
    subst e
    exact a7q (c1q (by simp)) ⟨rfl, rfl⟩
  | .mk g u ls :: q, p, out, e, ho, hc => by
    apply n3q
    have hcn : Tm.cns (.mk g u ls :: q) = 1 + (Tm.mk g u ls).cn + Tm.cns q := by simp [Tm.cns]
    have hl := Tm.vs_len (.mk g u ls) out
    have ih := R8q ks hk q (p ++ [.mk g u ls]) (Tm.vs (.mk g u ls) out) (by simp [e]) (by omega) (fun t ht => hc t (List.mem_cons_of_mem _ ht))
    subst e
    rw [h1q] at ih
    refine b2q (c7q (by simp)) ⟨p.length, rfl, g, u, Tm.das ls, q7q, _, hc (.mk g u ls) (by simp) out (by omega), ?_⟩
    rw [wr1 (n := p.length + 1) (by omega) (by simp at hk; omega)]
    exact ih
theorem a3Kq (t : Tm) : ∀ o : List Int, o.length + t.cn + 1 ≤ 5000000000000 → XC Tryz.prog 176 [.dat t.da, .one (.clo 177 [(2000, 0)])] [(2000, .var [.ol 2001]), (2001, .tr 3 1 (o.map In.da))] (.tup []) [(2000, .var [.ol 0]), (0, .tr 3 1 ((t.vs o).map In.da))] := by
  induction t using Tm.ind with
  | h f v ks ih =>
  intro o ho
  have hcn : (Tm.mk f v ks).cn = Tm.cns ks := by simp [Tm.cn]
  have hl := P5q o v
  have hkl := Tm.cns_cnL ks ▸ j0q Tm.cn ks
  apply D4q
  refine ⟨_, a5Jq (.mk f v ks) o (by omega), ?_⟩
  have := R8q ks (by omega) ks [] (if f = -1 then h4q o v else o) rfl (by split <;> omega) ih
  rw [b6q]
  exact this
theorem r7q (t : Tm) (hc : t.cn ≤ 1200000000000) : XC Tryz.prog 119 [.dat t.da] [] (.one (.ol 0)) [(0, .tr 3 1 ((t.vs []).map In.da))] := by
  obtain ⟨f, v, ks⟩ := t
  apply a3aq
  exact ⟨_, a3Kq (.mk f v ks) [] (by simp; omega), rfl, rfl⟩
theorem G1q (f v x : Int) (ks : List Tm) (hk : Tm.cns ks ≤ 1200000000000) : ∀ (q p : List Tm) (n : Nat), ks = p ++ q → n + Tm.cns q ≤ 5000000000000 → (∀ t ∈ q, XC Tryz.prog 113 [.dat t.da, Z x] [] (Z (t.cnt x : Int)) []) → l9q (Z ((n + Tm.cnts q x : Nat) : Int)) [] x (n : Int) (p.length : Int) f v (Tm.das ks)
  | [], p, n, e, _, _ => by
    apply I0q
    subst e
    exact a7q (c1q (by simp [b6q])) ⟨by simp [Tm.cnts], rfl⟩
  | .mk g u ls :: q, p, n, e, ho, hc => by
    apply I0q
    have hcn : Tm.cns (.mk g u ls :: q) = 1 + (Tm.mk g u ls).cn + Tm.cns q := by simp [Tm.cns]
    have hl := Tm.cnt_le (.mk g u ls) x
    have hkl := Tm.cns_cnL ks ▸ j0q Tm.cn ks
    have ih := G1q f v x ks hk q (p ++ [.mk g u ls]) (n + (Tm.mk g u ls).cnt x) (by simp [e]) (by omega) (fun t ht => hc t (List.mem_cons_of_mem _ ht))
    subst e
    rw [h1q] at ih
    refine b2q (c7q (by simp [b6q])) ⟨p.length, rfl, g, u, Tm.das ls, q7q, _, hc (.mk g u ls) (by simp), ?_⟩
    have w : IntKind.wrap .i64 ((n : Int) + ((Tm.mk g u ls).cnt x : Int)) = ((n + (Tm.mk g u ls).cnt x : Nat) : Int) := by rw [wrI (by omega) (by omega)]; simp
    rw [wr1 (n := p.length + 1) (by omega) (by simp at hkl; omega), w]
    have e2 : n + Tm.cnts (.mk g u ls :: q) x = n + (Tm.mk g u ls).cnt x + Tm.cnts q x := by simp only [Tm.cnts]; omega
    rw [e2]
    exact ih
theorem R0q (t : Tm) (x : Int) : t.cn ≤ 1200000000000 → XC Tryz.prog 113 [.dat t.da, Z x] [] (Z (t.cnt x : Int)) [] := by
  induction t using Tm.ind with
  | h f v ks ih =>
  intro hc
  have hcn : (Tm.mk f v ks).cn = Tm.cns ks := by simp [Tm.cn]
  rw [hcn] at hc
  have ih' : ∀ t ∈ ks, XC Tryz.prog 113 [.dat t.da, Z x] [] (Z (t.cnt x : Int)) [] := fun t ht => ih t ht (by have := Tm.cns_cnL ks ▸ o3q (cn := Tm.cn) ht; omega)
  apply a42q
  by_cases h : f = -1
  · refine b2q (by simpa using h) ?_
    by_cases hv : v = x
    · have := G1q f v x ks hc ks [] 1 rfl (by omega) ih'
      exact ⟨1, D8q (b2q (by simpa using hv) ⟨rfl, rfl⟩), by simpa [Tm.cnt, h, hv] using this⟩
    · have := G1q f v x ks hc ks [] 0 rfl (by omega) ih'
      exact ⟨0, D8q (a7q (by simpa using hv) ⟨rfl, rfl⟩), by simpa [Tm.cnt, h, hv] using this⟩
  · refine a7q (by simpa using h) ?_
    have := G1q f v x ks hc ks [] 0 rfl (by omega) ih'
    exact ⟨0, D8q (a7q rfl ⟨rfl, rfl⟩), by simpa [Tm.cnt, h] using this⟩
theorem a5Tq (x : Sy) : XC Tryz.prog 49 [.dat x.da] [] (.dat x.da) [] := by
  obtain ⟨a, b, c⟩ := x
  exact a4aq ⟨rfl, rfl⟩
theorem a53q (l : List Sy) (hc : cnL Sy.cn l ≤ 1048576) : XC Tryz.prog 12 [L (l.map Sy.da)] [] (.one (.ol 0)) [(0, .tr 89 3 (l.map Sy.da))] := by
  have hl := j0q Sy.cn l
  apply a2Nq
  refine ⟨l.length, l.length, by simp, by simp, ⟨by omega, by omega, by omega⟩, ?_⟩
  have key := f8q (p := fun i => n7q (.one (.ol 0)) [(0, .tr 89 3 (l.map Sy.da))] (l.map Sy.da) (i : Int) ((l.map Sy.da).take i ++ List.replicate ((l.map Sy.da).length - i) [.str ⟨#[]⟩, .int .i64 0, .bool false])) l.length ?_ ?_ 0 (Nat.zero_le _)
  · rw [List.take_zero, List.nil_append, Nat.sub_zero, List.length_map] at key
    exact key
  · apply E3q
    refine a7q (c1q (by simp)) ⟨rfl, ?_⟩
    rw [a0xq rfl (by simp)]
  · intro i hi ih
    obtain ⟨x, hx⟩ := d4q hi
    have hx1 := f1q (g := Sy.da) hx
    have hxc := a5Tq x
    have hd := Sy.da_len x
    obtain ⟨a, b, c⟩ := x
    apply E3q
    refine b2q (c7q (by simpa using hi)) ⟨i, rfl, _, _, _, hx1, _, _, _, hxc, i, rfl, ⟨by simp; omega⟩, i, by omega, _, _, _, a0Kq rfl (by simpa using hi), ?_⟩
    rw [wr1 hi (by omega)]
    have he := T4q (z := [.str ⟨#[]⟩, .int .i64 0, .bool false]) (n := (l.map Sy.da).length) rfl hx1 hd rfl
    exact he ▸ ih
def mkD : Nat → Int → ByteArray → ByteArray
  | 0, _, out => ⟨#[109]⟩ ++ out
  | f + 1, k, out => if 0 < k then mkD f (IntKind.wrap .i64 (Int.tdiv k 10)) (strOfNums [IntKind.wrap IntKind.u8 (IntKind.wrap .i64 (48 + Int.tmod k 10))] ++ out) else ⟨#[109]⟩ ++ out
theorem a4nq : ∀ f (k : Nat) out, k < 10 ^ f → k ≤ 1000000000 → out.size + f ≤ 1000 → l1q (T (mkD f k out)) [] k out := by
  intro f
  induction f with
  | zero =>
    intro k out hk _ hs
    apply A4q
    refine a7q (decide_eq_false (by simp at hk; omega)) ⟨⟨?_⟩, rfl, rfl⟩
    rw [ByteArray.size_append]
    have : (⟨#[109]⟩ : ByteArray).size = 1 := rfl
    omega
  | succ f ih =>
    intro k out hk hk2 hs
    apply A4q
    refine b8q (fun h => ?_) fun h => ?_
    · have e1 : mkD (f + 1) k out = mkD f (IntKind.wrap .i64 (Int.tdiv k 10)) (strOfNums [IntKind.wrap IntKind.u8 (IntKind.wrap .i64 (48 + Int.tmod k 10))] ++ out) := by
        rw [mkD, if_pos h]
      have e2 : IntKind.wrap .i64 (Int.tdiv (k : Int) 10) = ((k / 10 : Nat) : Int) := by
        have : Int.tdiv (k : Int) 10 = ((k / 10 : Nat) : Int) := rfl
        rw [this, wrI (by omega) (by omega)]
      have hsz : ∀ x : Int, (strOfNums [x] ++ out).size = 1 + out.size := fun x => by rw [ByteArray.size_append, R4q]; rfl
      refine ⟨⟨by decide⟩, [IntKind.wrap IntKind.u8 (IntKind.wrap .i64 (48 + Int.tmod k 10))], rfl, ⟨by rw [hsz]; omega⟩, ⟨by decide⟩, ?_⟩
      rw [e1, e2]
      exact ih (k / 10) _ (by rw [Nat.pow_succ] at hk; omega) (by omega) (by rw [hsz]; omega)
    · have e1 : mkD (f + 1) k out = ⟨#[109]⟩ ++ out := by rw [mkD, if_neg h]
      rw [e1]
      refine ⟨⟨?_⟩, rfl, rfl⟩
      rw [ByteArray.size_append]
      have : (⟨#[109]⟩ : ByteArray).size = 1 := rfl
      omega
def mkT (k : Nat) : ByteArray := mkD 10 k ⟨#[]⟩
theorem a3Uq (k : Nat) (h1 : 1 ≤ k) (h2 : k ≤ 1000000000) : XC Tryz.prog 57 [Z (k : Int)] [] (T (mkT k)) [] := by
  apply a0gq
  exact a7q (decide_eq_false (by omega)) (a4nq 10 k _ (by omega) h2 (by decide))
theorem wrS {k : Nat} (hk : k ≤ 281474976710656) : IntKind.wrap .i64 ((k : Int) + 1) = ((k + 1 : Nat) : Int) := wrN hk 1 (by omega)
def a4oq (k : Nat) : Sy → Sy
  | ⟨nm, ar, ac⟩ => ⟨(mkT (k)), (((k + 1 : Nat) : Int)), (decide (Int.tmod ((k + 2 : Nat) : Int) 3 = 0))⟩
def Q6q : Sy → Nat
  | ⟨nm, ar, ac⟩ => 1 + 1 + 1
def X6q : Nat → List Sy → List Sy
  | _, [] => []
  | k, x :: r => a4oq k x :: X6q (k + Q6q x) r
def w8q (l : List Sy) : Nat := (l.map Q6q).sum
theorem a1eq (x : Sy) (r : List Sy) : w8q (x :: r) = Q6q x + w8q r := by simp [w8q]
theorem R9q : ∀ (l : List Sy) (P : List (List Da)) (k : Nat), 1 ≤ k → P.length + l.length ≤ 100000000 → k + w8q l ≤ 100000000 → k9q (Z ((k + w8q l : Nat) : Int)) [(2000, .mt 89 3 (P ++ (X6q k l).map Sy.da))] (k : Int) (P.length : Int) (P ++ l.map Sy.da)
  | [], P, k, _, _, _ => by
    apply A8q
    exact a7q (decide_eq_false (by simp)) ⟨by simp [w8q], by simp [X6q]⟩
  | ⟨nm, ar, ac⟩ :: r, P, k, h1, hl, hk => by
    rw [a1eq] at hk ⊢
    simp only [List.length_cons, Q6q] at hl hk
    have hlen : ∀ y : List Da, P.length < (P ++ y :: r.map Sy.da).length := fun y => by simp
    have ih := R9q r (P ++ [Sy.da (a4oq k ⟨nm, ar, ac⟩)]) (k + 3) (by omega) (by simp; omega) (by omega)
    have e4 : (P ++ [Sy.da (a4oq k ⟨nm, ar, ac⟩)]).length = P.length + 1 := by simp
    rw [e4, List.append_assoc, List.append_assoc] at ih
    have eN : k + Q6q ⟨nm, ar, ac⟩ = k + 3 := by simp only [Q6q] <;> omega
    have eM : X6q k (⟨nm, ar, ac⟩ :: r) = a4oq k ⟨nm, ar, ac⟩ :: X6q (k + 3) r := by rw [← eN]; rfl
    rw [eM, ← Nat.add_assoc, eN]
    apply A8q
    rw [List.map_cons, List.map_cons]
    have w0 : IntKind.wrap .i64 (((k : Nat) : Int) + 1) = ((k + 1 : Nat) : Int) := wrS (by omega)
    have w1 : IntKind.wrap .i64 (((k + 1 : Nat) : Int) + 1) = ((k + 2 : Nat) : Int) := wrS (by omega)
    have w2 : IntKind.wrap .i64 (((k + 2 : Nat) : Int) + 1) = ((k + 3 : Nat) : Int) := wrS (by omega)
    have wp : IntKind.wrap .i64 ((P.length : Int) + 1) = ((P.length + 1 : Nat) : Int) := wrS (by omega)
    rw [w0, w1, w2, wp]
    refine b2q (decide_eq_true (by simp; omega)) ?_
    refine ⟨_, a3Uq (k) (by omega) (by omega), P.length, rfl, ⟨hlen _⟩, P.length, rfl, _, _, _, f0q, ?_⟩
    rw [b1q]
    refine ⟨P.length, rfl, ⟨hlen _⟩, P.length, rfl, _, _, _, f0q, ?_⟩
    rw [b1q]
    refine ⟨⟨by decide⟩, P.length, rfl, ⟨hlen _⟩, P.length, rfl, _, _, _, f0q, ?_⟩
    rw [b1q]
    exact ih
theorem a44q (l : List Sy) (k : Nat) (h1 : 1 ≤ k) (hl : l.length ≤ 100000000) (hk : k + w8q l ≤ 100000000) : XC Tryz.prog 18 [.one (.ol 2000), Z (k : Int)] [(2000, .mt 89 3 (l.map Sy.da))] (Z ((k + w8q l : Nat) : Int)) [(2000, .mt 89 3 ((X6q k l).map Sy.da))] := by
  apply a0Iq
  simpa using R9q l [] k h1 (by simpa using hl) hk
theorem a9vq {l : List Int} (h : Srt l) (n : Int) (hne : l ≠ []) : (∀ x ∈ l, x < n) ↔ ∃ x, l[l.length - 1]? = some x ∧ x < n := by
  obtain ⟨r, x, rfl⟩ := List.eq_nil_or_concat l |>.resolve_left hne
  rw [List.concat_eq_append] at h ⊢
  have hx : (r ++ [x])[(r ++ [x]).length - 1]? = some x := by simp
  constructor
  · intro h1; exact ⟨x, hx, h1 x (by simp)⟩
  · rintro ⟨y, hy, h2⟩ z hz
    rw [hx] at hy
    cases hy
    rcases List.mem_append.1 hz with hz | hz
    · have := (List.pairwise_append.1 h).2.2 z hz x (by simp); omega
    · rw [List.mem_singleton.1 hz]; exact h2
theorem a0Nq {t : Tm} {x : Int} : x ∈ t.vs [] ↔ t.occ x := by rw [Tm.mem_vs]; simp
def bel (t : Tm) (n : Int) : Prop := ∀ x, t.occ x → x < n
def RuOk (ss : List Sy) (x : Ru) : Prop := l8q ss x.l ∧ l8q ss x.r ∧ x.l.f ≠ -1 ∧ bel x.l 60 ∧ ∀ y, x.r.occ y → x.l.occ y
theorem a1yq (t : Tm) (n : Int) (hc : t.cn ≤ 1200000000000) : XC Tryz.prog 111 [.dat t.da, Z n] [] (B (dB (bel t n))) [] := by
  have h1 := r5q t hc
  have hlen := t.vs_len []
  have hs := t.srt_vs (out := []) (by simp [Srt])
  have hb : bel t n ↔ ∀ x ∈ t.vs [], x < n := by simp only [a0Nq]; rfl
  generalize t.vs [] = l at *
  simp only [List.length_nil] at hlen
  obtain ⟨f, v, ks⟩ := t
  apply a0wq
  refine ⟨_, h1, ?_⟩
  by_cases h0 : l = []
  · subst h0
    exact b2q (by simp) (dB_t (hb.2 (by simp)))
  · have hp : 0 < l.length := List.length_pos_iff.2 h0
    obtain ⟨x, hx⟩ := d4q (l := l) (i := l.length - 1) (by omega)
    refine a7q (by simpa using h0) ⟨l.length - 1, ?_, x, f1q (g := In.da) hx, t1q ?_⟩
    · rw [List.length_map, wrI (by omega) (by omega)]; omega
    · rw [hb, a9vq hs n h0, hx]; simp
theorem J2q (ss : List Sy) (x : Ru) (hc : x.l.cn ≤ 1200000000000) (l : List Int) (hl : l.length ≤ 5000000000000) (G : Prop) (hG : G ↔ ∀ y ∈ l, x.l.occ y) : ∀ (q p : List Int), l = p ++ q → (∀ y ∈ p, x.l.occ y) → o4q (B (dB G)) [] (l.map In.da) (p.length : Int) x.l.f x.l.v (Tm.das x.l.ks) x.r.f x.r.v (Tm.das x.r.ks)
  | [], p, e, hp => by
    apply F2q
    subst e
    exact a7q (c1q (by simp)) (dB_t (hG.2 (by simpa using hp)))
  | y :: q, p, e, hp => by
    have hcc := R0q x.l y hc
    have ih := J2q ss x hc l hl G hG q (p ++ [y]) (by simp [e])
    have hz := x.l.cnt_zero y
    subst e
    rw [h1q] at ih
    have ed : x.l.da = [.int .i64 x.l.f, .int .i64 x.l.v, .sl (Tm.das x.l.ks)] := by obtain ⟨⟨f, v, ks⟩, r⟩ := x; rfl
    rw [ed] at hcc
    apply F2q
    refine b2q (c7q (by simp)) ⟨p.length, rfl, y, n0q, _, hcc, ?_⟩
    by_cases h : x.l.cnt y = 0
    · refine b2q (by simpa using h) (d7q fun hg => ?_)
      exact (hz.1 h) (hG.1 hg y (by simp))
    · refine a7q (by simpa using h) ?_
      rw [wr1 (n := p.length + 1) (by omega) (by simp at hl; omega)]
      refine ih fun z hz' => ?_
      rcases List.mem_append.1 hz' with h1 | h1
      · exact hp z h1
      · rw [List.mem_singleton.1 h1]
        exact Classical.not_not.1 fun hn => h (hz.2 hn)
theorem a1xq (ss : List Sy) (x : Ru) (hc : x.cn ≤ 1200000000000) : XC Tryz.prog 48 [L (ss.map Sy.da), .dat x.da] [] (B (dB (RuOk ss x))) [] := by
  have h0 : x.cn = x.l.cn + x.r.cn := rfl
  have t1 := k0q ss x.l (by omega)
  have t2 := k0q ss x.r (by omega)
  have b1 := a1yq x.l 60 (by omega)
  have b2 := a1yq x.r 60 (by omega)
  have v2 := r5q x.r (by omega)
  have hlen := x.r.vs_len []
  simp only [List.length_nil] at hlen
  have lp := fun (G : Prop) hG => J2q ss x (by omega) (x.r.vs []) (by omega) G hG (x.r.vs []) [] rfl (by simp)
  obtain ⟨⟨f, v, ks⟩, ⟨g, u, ms⟩⟩ := x
  apply a31q
  refine ⟨_, t1, b9q (fun h => d7q fun hr => ?_) fun h1 => ⟨_, t2, b9q (fun h => d7q fun hr => ?_) fun h2 => b9q (fun h => d7q fun hr => ?_) fun h3 => ⟨_, b1, b9q (fun h => d7q fun hr => ?_) fun h4 => ⟨_, b2, b9q (fun h => d7q fun hr => ?_) fun h5 => ⟨_, v2, lp _ ?_⟩⟩⟩⟩⟩
  · exact d9q.1 (g4q h) hr.1
  · exact d9q.1 (g4q h) hr.2.1
  · exact hr.2.2.1 (by simpa [Tm.f] using h)
  · exact d9q.1 (g4q h) hr.2.2.2.1
  · exact d9q.1 (g4q h) fun y hy => hr.2.2.2.1 y (hr.2.2.2.2 y hy)
  · simp only [a0Nq]
    exact ⟨fun hr => hr.2.2.2.2, fun hv => ⟨c8q.1 (e7q h1), c8q.1 (e7q h2), by simpa [Tm.f] using h3, c8q.1 (e7q h4), hv⟩⟩
theorem a18q (l : List Int) (hl : l.length ≤ 10000000000000) : ∀ (q p : List Int), l = p ++ q → d3q (Z (o7q (fun x => decide (60 ≤ x)) q p.length)) [] (l.map In.da) (l.length : Int) (p.length : Int)
  | [], p, e => by
    apply i2q
    subst e
    exact a7q (c1q (by simp)) ⟨rfl, rfl⟩
  | x :: q, p, e => by
    apply i2q
    have ih := a18q l hl q (p ++ [x]) (by simp [e])
    subst e
    rw [h1q] at ih
    refine b2q (c7q (by simp)) ⟨p.length, rfl, x, n0q, _, a0bq ⟨rfl, rfl⟩, ?_⟩
    by_cases h : 60 ≤ x
    · exact b2q (by simpa using h) ⟨by simp [o7q, h], rfl⟩
    · refine a7q (by simpa using h) ?_
      rw [wr1 (n := p.length + 1) (by omega) (by simp at hl; omega)]
      simpa [o7q, h] using ih
theorem a0Sq (l : List Int) (hl : l.length ≤ 10000000000000) : XC Tryz.prog 121 [L (l.map In.da), .one (.d (.fn 122))] [] (B (dB (∃ x ∈ l, 60 ≤ x))) [] := by
  apply p8q
  refine ⟨_, s4q (by simpa using a18q l hl l [] rfl), t1q ?_⟩
  rw [decide_eq_true_iff, P0q]; simp
theorem a1Nq (o : List Int) (ho : o.length ≤ 10000000000000) (l : List Int) (hl : l.length ≤ 10000000000000) : ∀ (q p : List Int), l = p ++ q → d2q (Z (o7q (fun x => !decide (x ∈ o)) q p.length)) [(2000, .var [.ol 0]), (0, .tr 3 1 (o.map In.da))] (l.map In.da) (l.length : Int) (p.length : Int) (o.map In.da)
  | [], p, e => by
    apply i3q
    subst e
    exact a7q (c1q (by simp)) ⟨rfl, rfl⟩
  | x :: q, p, e => by
    apply i3q
    have ih := a1Nq o ho l hl q (p ++ [x]) (by simp [e])
    subst e
    rw [h1q] at ih
    refine b2q (c7q (by simp)) ⟨p.length, rfl, x, n0q, _, _, a0Aq ⟨_, O1q o x ho, rfl, rfl⟩, ?_⟩
    by_cases h : x ∈ o
    · refine a7q (by simpa using h) ?_
      rw [wr1 (n := p.length + 1) (by omega) (by simp at hl; omega)]
      simpa [o7q, h] using ih
    · exact b2q (by simpa using h) ⟨by simp [o7q, h], rfl⟩
theorem a1wq (o : List Int) (ho : o.length ≤ 10000000000000) (l : List Int) (hl : l.length ≤ 10000000000000) : XC Tryz.prog 121 [L (l.map In.da), .one (.clo 123 [(2000, 0)])] [(2000, .var [.ol 2001]), (2001, .tr 3 1 (o.map In.da))] (B (dB (∃ x ∈ l, x ∉ o))) [(2000, .var [.ol 0]), (0, .tr 3 1 (o.map In.da))] := by
  apply p9q
  refine ⟨_, _, s2q (by simpa using a1Nq o ho l hl l [] rfl), ?_, rfl⟩
  congr 1
  rw [Bool.eq_iff_iff, c8q, decide_eq_true_iff, P0q]; simp
theorem a6cq (t : Tm) : XC Tryz.prog 100 [.dat t.da] [] (B (decide (t.f = -1))) [] := L9q t
theorem a21q (ss : List Sy) (x : Ru) (hc : x.cn ≤ 1200000000000) : XC Tryz.prog 53 [L (ss.map Sy.da), .dat x.da] [] (B (dB (RuOk ss x))) [] := by
  have h0 : x.cn = x.l.cn + x.r.cn := rfl
  have t1 := j9q ss x.l (by omega)
  have t2 := j9q ss x.r (by omega)
  have v1 := r7q x.l (by omega)
  have v2 := r7q x.r (by omega)
  have i1 := a6cq x.l
  have l1 := x.l.vs_len []
  have l2 := x.r.vs_len []
  simp only [List.length_nil] at l1 l2
  have k1 := a0Sq (x.l.vs []) (by omega)
  have k2 := a1wq (x.l.vs []) (by omega) (x.r.vs []) (by omega)
  simp only [a0Nq] at k1 k2
  obtain ⟨⟨f, v, ks⟩, ⟨g, u, ms⟩⟩ := x
  apply a30q
  refine ⟨_, v1, _, t1, b9q (fun h => d7q fun hr => ?_) fun h1 => ⟨_, t2, b9q (fun h => d7q fun hr => ?_) fun h2 => ⟨_, i1, b9q (fun h => d7q fun hr => ?_) fun h3 => ⟨_, k1, b9q (fun h => d7q fun hr => ?_) fun h4 => ⟨_, v2, _, _, k2, t1q ?_⟩⟩⟩⟩⟩
  · exact d9q.1 (g4q h) hr.1
  · exact d9q.1 (g4q h) hr.2.1
  · exact hr.2.2.1 (of_decide_eq_true h)
  · obtain ⟨y, hy, h60⟩ := c8q.1 h
    have := hr.2.2.2.1 y hy
    omega
  · have h4' := d9q.1 h4
    simp only [Bool.not_eq_true', d9q, not_exists, not_and, Classical.not_not]
    constructor
    · exact fun hv => ⟨c8q.1 (e7q h1), c8q.1 (e7q h2), of_decide_eq_false h3, fun y hy => Int.not_le.1 fun h60 => h4' ⟨y, hy, h60⟩, hv⟩
    · exact fun hr => hr.2.2.2.2
end AM
end Go.Proofs.YtajcoogpmockiaaGreat
set_option linter.unusedVariables false
set_option linter.unusedSimpArgs false
set_option maxRecDepth 100000
namespace Go.Proofs.YtajcoogpmockiaaGreat
namespace AM
open Go Go.ChangeShapes Go.WideShapes Go.RowKit
def TgP {α : Type} (da : α → List Da) (z : List Da × α) : Prop := z.1.map Da.u1 = da z.2
theorem a9Wq {y : Da} {b : Bool} (h : y.u1 = .bool b) : y = .bool b := by cases y <;> simp [Da.u1] at h ⊢; exact h
theorem a1Mq {y : Da} {k : IntKind} {n : Int} (h : y.u1 = .int k n) : y = .int k n := by cases y <;> simp [Da.u1] at h ⊢; exact h
theorem TgP.lit {z : List Da × Li} (h : TgP Li.da z) : ∃ b n1 n2 d n3 n4 d1, z.1 = [.bool b, .int .i64 n1, .int .i64 n2, d, .int .i64 n3, .int .i64 n4, d1] := by
  obtain ⟨row, ⟨p, ⟨f, v, ks⟩, ⟨g, u, ms⟩⟩⟩ := z
  have h : row.map Da.u1 = [.bool p, .int .i64 f, .int .i64 v, .sl (Tm.das ks), .int .i64 g, .int .i64 u, .sl (Tm.das ms)] := h
  obtain ⟨y1, r1, rfl, h1, h⟩ := List.map_eq_cons_iff.1 h
  obtain ⟨y2, r2, rfl, h2, h⟩ := List.map_eq_cons_iff.1 h
  obtain ⟨y3, r3, rfl, h3, h⟩ := List.map_eq_cons_iff.1 h
  obtain ⟨y4, r4, rfl, h4, h⟩ := List.map_eq_cons_iff.1 h
  obtain ⟨y5, r5, rfl, h5, h⟩ := List.map_eq_cons_iff.1 h
  obtain ⟨y6, r6, rfl, h6, h⟩ := List.map_eq_cons_iff.1 h
  obtain ⟨y7, r7, rfl, h7, h⟩ := List.map_eq_cons_iff.1 h
  rw [List.map_eq_nil_iff.1 h]
  exact ⟨p, f, v, y4, g, u, y7, by rw [a9Wq h1, a1Mq h2, a1Mq h3, a1Mq h5, a1Mq h6]⟩
section
variable {β : Type} {lt : β → β → Prop}
end
section
variable {β γ : Type} (g : β → γ)
end
theorem a0iq {x y r s : Int} (h : r = -s) : n2q x y r = -n2q y x s := by
  unfold n2q; split <;> split <;> (try split) <;> omega
mutual
theorem Tm.cmp_neg : ∀ a b : Tm, Tm.cmp a b = -Tm.cmp b a
  | .mk f v ks, .mk g u ls => by
    rw [Tm.cmp_mk, Tm.cmp_mk]
    exact a0iq (a0iq (a0iq (Tm.cmps_neg ks ls)))
theorem Tm.cmps_neg : ∀ a b : List Tm, Tm.cmps a b = -Tm.cmps b a
  | [], [] => by simp [Tm.cmps]
  | [], _ :: _ => by simp [Tm.cmps]
  | _ :: _, [] => by simp [Tm.cmps]
  | t :: r, u :: s => by
    have h1 := Tm.cmp_neg t u
    have h2 := Tm.cmps_neg r s
    rw [Tm.cmps_cons, Tm.cmps_cons]
    split <;> split <;> omega
end
theorem Li.cmp_neg (a b : Li) : Li.cmp a b = -Li.cmp b a := by
  have h1 := Tm.cmp_neg a.l b.l
  have h2 := Tm.cmp_neg a.r b.r
  unfold Li.cmp
  by_cases hp : a.p = b.p
  · rw [if_pos hp, if_pos hp.symm]
    split <;> split <;> omega
  · have e : b.p = !a.p := by cases hb : b.p <;> cases ha : a.p <;> simp_all
    rw [if_neg hp, if_neg (show ¬ b.p = a.p from fun h => hp h.symm), e]
    cases a.p <;> rfl
def putC {α : Type} (cmp : α → α → Int) (x : α) : List α → List α
  | [] => [x]
  | y :: r => if cmp y x ≤ 0 then y :: putC cmp x r else x :: y :: r
def abrq {α : Type} (cmp : α → α → Int) (l : List α) : List α := l.foldl (fun a x => putC cmp x a) []
end AM
end Go.Proofs.YtajcoogpmockiaaGreat
set_option linter.unusedVariables false
set_option linter.unusedSimpArgs false
set_option maxRecDepth 100000
namespace Go.Proofs.YtajcoogpmockiaaGreat
namespace AM
open Go Go.ChangeShapes Go.WideShapes Go.RowKit
def bl (s : List Sy) (f : Int) : Bool := inR f 0 ((s.length : Int) - 1) && ((s[f.toNat]?).map (·.ac)).getD false
mutual
def nrm (s : List Sy) : Tm → Tm
  | .mk f v ks => .mk f v (if bl s f then abrq Tm.cmp (nrmK s (bl s f) f ks) else nrmK s (bl s f) f ks)
def nrmK (s : List Sy) (b : Bool) (f : Int) : List Tm → List Tm
  | [] => []
  | t :: r => (if b = true ∧ (nrm s t).f = f then (nrm s t).ks else [nrm s t]) ++ nrmK s b f r
end
theorem a2xq {x lo hi : Int} : inR x lo hi = true ↔ lo ≤ x ∧ x ≤ hi := by simp [inR]
theorem a8fq {s : List Sy} {f : Int} {m : Nat} {x : Sy} (hf : f = (m : Int)) (hm : s[m]? = some x) : bl s f = x.ac := by
  have h := (List.getElem?_eq_some_iff.1 hm).1
  subst hf
  have : inR (m : Int) 0 ((s.length : Int) - 1) = true := a2xq.2 ⟨by omega, by omega⟩
  simp [bl, this, hm]
theorem a2Jq (s : List Sy) (f : Int) (hs : s.length ≤ 10000000) : XC Tryz.prog 151 [L (s.map Sy.da), Z f] [] (B (bl s f)) [] := by
  have w : IntKind.wrap .i64 ((s.length : Int) - 1) = (s.length : Int) - 1 := wrI (by omega) (by omega)
  apply a3Gq
  rw [List.length_map, w]
  refine ⟨_, x6q f 0 _, ?_⟩
  by_cases h : inR f 0 ((s.length : Int) - 1) = true
  · obtain ⟨h1, h2⟩ := a2xq.1 h
    obtain ⟨m, rfl⟩ : ∃ m : Nat, f = (m : Int) := ⟨f.toNat, by omega⟩
    obtain ⟨x, hx⟩ := d4q (l := s) (i := m) (by omega)
    have hx2 := f1q (g := Sy.da) hx
    refine b2q h ⟨m, rfl, _, _, _, hx2, ?_, rfl⟩
    rw [a8fq rfl hx]
  · exact a7q (Bool.eq_false_iff.2 h) ⟨by simp [bl, h], rfl⟩
theorem a6bq (s : List Sy) (f : Int) (hs : s.length ≤ 10000000) : XC Tryz.prog 161 [L (s.map Sy.da), Z f] [] (B (inR f 0 ((s.length : Int) - 1))) [] := by
  have w : IntKind.wrap .i64 ((s.length : Int) - 1) = (s.length : Int) - 1 := wrI (by omega) (by omega)
  apply R7q
  rw [List.length_map, w]
  exact ⟨_, x7q f 0 _, rfl, rfl⟩
theorem a32q (s : List Sy) (f : Int) (hs : s.length ≤ 10000000) : XC Tryz.prog 98 [L (s.map Sy.da), Z f] [] (B (bl s f)) [] := by
  apply a3zq
  refine ⟨_, a6bq s f hs, ?_⟩
  by_cases h : inR f 0 ((s.length : Int) - 1) = true
  · obtain ⟨h1, h2⟩ := a2xq.1 h
    obtain ⟨m, rfl⟩ : ∃ m : Nat, f = (m : Int) := ⟨f.toNat, by omega⟩
    obtain ⟨x, hx⟩ := d4q (l := s) (i := m) (by omega)
    have hx2 := f1q (g := Sy.da) hx
    refine b2q h ⟨m, rfl, _, _, _, hx2, ?_, rfl⟩
    rw [a8fq rfl hx]
  · exact a7q (Bool.eq_false_iff.2 h) ⟨by simp [bl, h], rfl⟩
def lmk (s : List Sy) (pos : Bool) (a b : Tm) : Li := if Tm.cmp (nrm s a) (nrm s b) < 0 then ⟨pos, nrm s b, nrm s a⟩ else ⟨pos, nrm s a, nrm s b⟩
theorem a5pq : ∀ l : List Sy, w8q l = 3 * l.length
  | [] => by simp [w8q]
  | ⟨a, b, c⟩ :: r => by
    have h := a5pq r
    rw [a1eq, h, List.length_cons]
    simp only [Q6q]
    omega
def insD {α : Type} (cmp : α → α → Int) (x : α) : List α → List α
  | [] => [x]
  | y :: r => if cmp y x < 0 then y :: insD cmp x r else if cmp y x = 0 then y :: r else x :: y :: r
def insS {α : Type} (cmp : α → α → Int) (l : List α) : List α := l.foldl (fun a x => insD cmp x a) []
section
variable {α : Type} {cmp : α → α → Int}
end
def lmkL (s : List Sy) (x : Li) : Li := lmk s x.p x.l x.r
def clm (s : List Sy) (ls : List Li) : List Li := insS Li.cmp (ls.map (lmkL s))
theorem a41q (x : Ru) (k : Nat) (hk : k + 2 * x.cn ≤ 10000000000000) : XC Tryz.prog 20 [.agg [.d (.int .i64 x.l.f), .d (.int .i64 x.l.v), .ol 2000, .d (.int .i64 x.r.f), .d (.int .i64 x.r.v), .ol 2001], Z (k : Int)] [(2000, .mt 30 3 (Tm.das x.l.ks)), (2001, .mt 30 3 (Tm.das x.r.ks))] (Z ((k + 2 * x.cn : Nat) : Int)) [(2000, .mt 30 3 (Tm.das (Tm.mkL k x.l.ks))), (2001, .mt 30 3 (Tm.das (Tm.mkL (k + 2 * x.l.cn) x.r.ks)))] := by
  have h0 : x.cn = x.l.cn + x.r.cn := rfl
  have h1 := S4q x.l k (by omega)
  have h2 := S4q x.r (k + 2 * x.l.cn) (by omega)
  rw [show k + 2 * x.cn = k + 2 * x.l.cn + 2 * x.r.cn by omega]
  apply a0Pq
  exact ⟨_, _, h1, _, _, h2, rfl, rfl⟩
theorem a3Fq (x : Ru) (k : Nat) (hk : k + 2 * x.cn ≤ 10000000000000) : XC Tryz.prog 21 [.dat [.int .i64 x.l.f, .int .i64 x.l.v, .sl (Tm.das (Tm.mkL k x.l.ks)), .int .i64 x.r.f, .int .i64 x.r.v, .sl (Tm.das (Tm.mkL (k + 2 * x.l.cn) x.r.ks))], Z (k : Int)] [] (Z ((k + 2 * x.cn : Nat) : Int)) [] := by
  have h0 : x.cn = x.l.cn + x.r.cn := rfl
  have h1 := S1q x.l k (by omega)
  have h2 := S1q x.r (k + 2 * x.l.cn) (by omega)
  rw [show k + 2 * x.cn = k + 2 * x.l.cn + 2 * x.r.cn by omega]
  apply a0rq
  exact ⟨_, h1, a7q (decide_eq_false (by omega)) ⟨_, h2, a7q (decide_eq_false (by omega)) ⟨rfl, rfl⟩⟩⟩
theorem a5Wq (t : Tm) (x : Int) (n : Nat) (hn : n ≤ 6000000000000) : XC Tryz.prog 214 [.dat t.da, .one (.op 2000 0), .one (.op 2001 0)] [(2000, .var [.d (.int .i64 x)]), (2001, .var [.d (.int .i64 (n : Int))])] (.tup []) [(2000, .var [.d (.int .i64 x)]), (2001, .var [.d (.int .i64 ((n + (if t.f = -1 ∧ t.v = x then 1 else 0) : Nat) : Int))])] := by
  obtain ⟨f, v, ks⟩ := t
  have w : IntKind.wrap .i64 ((n : Int) + 1) = ((n + 1 : Nat) : Int) := by rw [wrI (by omega) (by omega)]; omega
  apply a0Uq
  refine ⟨_, L9q (.mk f v ks), ?_⟩
  by_cases h : f = -1
  · refine b2q (decide_eq_true h) ?_
    by_cases hv : v = x
    · refine b2q (decide_eq_true hv) ⟨rfl, ?_⟩
      rw [w]; simp [Tm.f, Tm.v, h, hv]
    · refine a7q (decide_eq_false hv) ⟨rfl, ?_⟩
      simp [Tm.f, Tm.v, hv]
  · refine a7q (decide_eq_false h) ⟨rfl, ?_⟩
    simp [Tm.f, Tm.v, h]
theorem N8q (x : Int) (ks : List Tm) (hk : ks.length ≤ 10000000000000) : ∀ (q p : List Tm) (n : Nat), ks = p ++ q → n + Tm.cns q ≤ 5000000000000 → (∀ t ∈ q, ∀ n : Nat, n + t.cn + 1 ≤ 5000000000000 → XC Tryz.prog 176 [.dat t.da, .one (.clo 214 [(2000, 0), (2001, 0)])] [(2000, .var [.d (.int .i64 x)]), (2001, .var [.d (.int .i64 (n : Int))])] (.tup []) [(2000, .var [.d (.int .i64 x)]), (2001, .var [.d (.int .i64 ((n + t.cnt x : Nat) : Int))])]) → g0q (.tup []) [(2000, .var [.d (.int .i64 x)]), (2001, .var [.d (.int .i64 ((n + Tm.cnts q x : Nat) : Int))])] (Tm.das ks) (ks.length : Int) (p.length : Int) x (n : Int)
  | [], p, n, e, _, _ => by
    apply n8q
    subst e
    exact a7q (c1q (by simp)) ⟨rfl, by simp [Tm.cnts]⟩
  | y :: q, p, n, e, hn, hc => by
    have hcn : Tm.cns (y :: q) = 1 + y.cn + Tm.cns q := by simp [Tm.cns]
    have hl := Tm.cnt_le y x
    have ih := N8q x ks hk q (p ++ [y]) (n + y.cnt x) (by simp [e]) (by omega) (fun t ht => hc t (List.mem_cons_of_mem _ ht))
    have c := hc y (by simp) n (by omega)
    have hx : (Tm.das ks)[p.length]? = some y.da := by rw [e]; exact q7q
    have hlt : p.length < ks.length := by rw [e]; simp
    have hw : IntKind.wrap .i64 ((p.length : Int) + 1) = ((p.length + 1 : Nat) : Int) := wr1 hlt (by omega)
    have e2 : n + Tm.cnts (y :: q) x = n + y.cnt x + Tm.cnts q x := by simp only [Tm.cnts]; omega
    rw [h1q] at ih
    rw [e2]
    generalize y.cnt x = m at *
    obtain ⟨g, u, ls⟩ := y
    apply n8q
    rw [hw]
    exact b2q (c7q hlt) ⟨p.length, rfl, g, u, Tm.das ls, hx, _, _, c, ih⟩
theorem a2jq (x : Int) (t : Tm) : t.cn ≤ 1200000000000 → ∀ n : Nat, n + t.cn + 1 ≤ 5000000000000 → XC Tryz.prog 176 [.dat t.da, .one (.clo 214 [(2000, 0), (2001, 0)])] [(2000, .var [.d (.int .i64 x)]), (2001, .var [.d (.int .i64 (n : Int))])] (.tup []) [(2000, .var [.d (.int .i64 x)]), (2001, .var [.d (.int .i64 ((n + t.cnt x : Nat) : Int))])] := by
  induction t using Tm.ind with
  | h f v ks ih =>
  intro hc n hn
  have hcn : (Tm.mk f v ks).cn = Tm.cns ks := by simp [Tm.cn]
  rw [hcn] at hc hn
  have hkl := Tm.len_cns ks
  have c1 := a5Wq (.mk f v ks) x n (by omega)
  have e : n + (Tm.mk f v ks).cnt x = n + (if (Tm.mk f v ks).f = -1 ∧ (Tm.mk f v ks).v = x then 1 else 0) + Tm.cnts ks x := by
    show n + ((if f = -1 ∧ v = x then 1 else 0) + Tm.cnts ks x) = n + (if f = -1 ∧ v = x then 1 else 0) + Tm.cnts ks x
    rw [Nat.add_assoc]
  have hb : (if (Tm.mk f v ks).f = -1 ∧ (Tm.mk f v ks).v = x then 1 else 0) ≤ 1 := by split <;> omega
  rw [e]
  generalize (if (Tm.mk f v ks).f = -1 ∧ (Tm.mk f v ks).v = x then 1 else 0) = m at *
  have lp := N8q x ks (by omega) ks [] (n + m) rfl (by omega) (fun t ht n hn => ih t ht (by have := Tm.cns_cnL ks ▸ o3q (cn := Tm.cn) ht; omega) n hn)
  apply F5q
  rw [b6q]
  exact ⟨_, _, c1, lp⟩
theorem M5q (t : Tm) (x : Int) (hc : t.cn ≤ 1200000000000) : XC Tryz.prog 173 [.dat t.da, Z x] [] (Z (t.cnt x : Int)) [] := by
  have h := a2jq x t hc 0 (by omega)
  rw [Nat.zero_add] at h
  obtain ⟨f, v, ks⟩ := t
  apply a3Pq
  exact ⟨_, _, h, rfl, rfl⟩
mutual
def Tm.wt (s : List Sy) : Tm → Nat
  | .mk f _ ks => (if bl s f = true ∧ 0 < ks.length then ks.length - 1 else 1) + Tm.wts s ks
def Tm.wts (s : List Sy) : List Tm → Nat
  | [] => 0
  | t :: r => Tm.wt s t + Tm.wts s r
end
mutual
theorem Tm.wt_le (s : List Sy) : ∀ t : Tm, t.wt s ≤ 2 * t.cn + 1
  | .mk f v ks => by
    have h := Tm.wts_le s ks
    have hl := Tm.len_cns ks
    simp only [Tm.wt, Tm.cn]
    split <;> omega
theorem Tm.wts_le (s : List Sy) : ∀ l : List Tm, Tm.wts s l + l.length ≤ 2 * Tm.cns l
  | [] => by simp [Tm.wts, Tm.cns]
  | t :: r => by
    have h1 := Tm.wt_le s t
    have h2 := Tm.wts_le s r
    simp only [Tm.wts, Tm.cns, List.length_cons]
    omega
end
theorem z8q (s : List Sy) (f v : Int) (ks : List Tm) (hk : Tm.cns ks ≤ 1200000000000) : ∀ (q p : List Tm) (n : Nat), ks = p ++ q → n + 2 * Tm.cns q ≤ 5000000000000 → (∀ t ∈ q, XC Tryz.prog 164 [L (s.map Sy.da), .dat t.da] [] (Z (t.wt s : Int)) []) → j1q (Z ((n + Tm.wts s q : Nat) : Int)) [] (s.map Sy.da) (n : Int) (p.length : Int) f v (Tm.das ks)
  | [], p, n, e, _, _ => by
    apply E9q
    subst e
    exact a7q (c1q (by simp [b6q])) ⟨by simp [Tm.wts], rfl⟩
  | y :: q, p, n, e, hn, hc => by
    have hcn : Tm.cns (y :: q) = 1 + y.cn + Tm.cns q := by simp [Tm.cns]
    have hl := Tm.wt_le s y
    have hkl := Tm.len_cns ks
    have ih := z8q s f v ks hk q (p ++ [y]) (n + y.wt s) (by simp [e]) (by omega) (fun t ht => hc t (List.mem_cons_of_mem _ ht))
    have c := hc y (by simp)
    have hx : (Tm.das ks)[p.length]? = some y.da := by rw [e]; exact q7q
    have hlt : p.length < ks.length := by rw [e]; simp
    have hw : IntKind.wrap .i64 ((p.length : Int) + 1) = ((p.length + 1 : Nat) : Int) := wr1 hlt (by omega)
    have hw2 : IntKind.wrap .i64 ((n : Int) + (y.wt s : Int)) = ((n + y.wt s : Nat) : Int) := by rw [wrI (by omega) (by omega)]; omega
    have e2 : n + Tm.wts s (y :: q) = n + y.wt s + Tm.wts s q := by simp only [Tm.wts]; omega
    rw [h1q] at ih
    rw [e2]
    generalize y.wt s = m at *
    obtain ⟨g, u, ls⟩ := y
    apply E9q
    rw [hw]
    refine b2q (c7q (by rw [b6q]; exact hlt)) ⟨p.length, rfl, g, u, Tm.das ls, hx, _, c, ?_⟩
    rw [hw2]
    exact ih
theorem J7q (s : List Sy) (hs : s.length ≤ 10000000) (t : Tm) : t.cn ≤ 1200000000000 → XC Tryz.prog 164 [L (s.map Sy.da), .dat t.da] [] (Z (t.wt s : Int)) [] := by
  induction t using Tm.ind with
  | h f v ks ih =>
  intro hc
  have hcn : (Tm.mk f v ks).cn = Tm.cns ks := by simp [Tm.cn]
  rw [hcn] at hc
  have hkl := Tm.len_cns ks
  have ih' : ∀ t ∈ ks, XC Tryz.prog 164 [L (s.map Sy.da), .dat t.da] [] (Z (t.wt s : Int)) [] := fun t ht => ih t ht (by have := Tm.cns_cnL ks ▸ o3q (cn := Tm.cn) ht; omega)
  have l1 := z8q s f v ks hc ks [] 1 rfl (by omega) ih'
  have l2 := z8q s f v ks hc ks [] (ks.length - 1) rfl (by omega) ih'
  apply a2Mq
  refine ⟨_, a2Jq s f hs, ?_⟩
  rw [b6q]
  by_cases hb : bl s f = true
  · refine b2q hb ?_
    by_cases h0 : 0 < ks.length
    · refine b2q (decide_eq_true (by omega)) ?_
      have w : IntKind.wrap .i64 ((ks.length : Int) - 1) = ((ks.length - 1 : Nat) : Int) := by rw [wrI (by omega) (by omega)]; omega
      rw [w, Tm.wt, if_pos ⟨hb, h0⟩]
      exact l2
    · refine a7q (decide_eq_false (by omega)) ?_
      rw [Tm.wt, if_neg (fun h => h0 h.2)]
      exact l1
  · refine a7q (by simpa using hb) ?_
    rw [Tm.wt, if_neg (fun h => hb h.1)]
    exact l1
theorem z5q (s : List Sy) (ks : List Tm) (hk : Tm.cns ks ≤ 1200000000000) : ∀ (q p : List Tm) (n : Nat), ks = p ++ q → n + 2 * Tm.cns q ≤ 5000000000000 → (∀ t ∈ q, XC Tryz.prog 174 [L (s.map Sy.da), .dat t.da] [] (Z (t.wt s : Int)) []) → j4q (Z ((n + Tm.wts s q : Nat) : Int)) [] (s.map Sy.da) (n : Int) (Tm.das ks) (ks.length : Int) (p.length : Int)
  | [], p, n, e, _, _ => by
    apply E7q
    subst e
    exact a7q (c1q (by simp)) ⟨by simp [Tm.wts], rfl⟩
  | y :: q, p, n, e, hn, hc => by
    have hcn : Tm.cns (y :: q) = 1 + y.cn + Tm.cns q := by simp [Tm.cns]
    have hl := Tm.wt_le s y
    have hkl := Tm.len_cns ks
    have ih := z5q s ks hk q (p ++ [y]) (n + y.wt s) (by simp [e]) (by omega) (fun t ht => hc t (List.mem_cons_of_mem _ ht))
    have c := hc y (by simp)
    have hx : (Tm.das ks)[p.length]? = some y.da := by rw [e]; exact q7q
    have hlt : p.length < ks.length := by rw [e]; simp
    have hw : IntKind.wrap .i64 ((p.length : Int) + 1) = ((p.length + 1 : Nat) : Int) := wr1 hlt (by omega)
    have hw2 : IntKind.wrap .i64 ((n : Int) + (y.wt s : Int)) = ((n + y.wt s : Nat) : Int) := by rw [wrI (by omega) (by omega)]; omega
    have e2 : n + Tm.wts s (y :: q) = n + y.wt s + Tm.wts s q := by simp only [Tm.wts]; omega
    rw [h1q] at ih
    rw [e2]
    generalize y.wt s = m at *
    obtain ⟨g, u, ls⟩ := y
    apply E7q
    rw [hw]
    refine b2q (c7q hlt) ⟨p.length, rfl, g, u, Tm.das ls, hx, _, c, ?_⟩
    rw [hw2]
    exact ih
theorem K3q (s : List Sy) (hs : s.length ≤ 10000000) (t : Tm) : t.cn ≤ 1200000000000 → XC Tryz.prog 174 [L (s.map Sy.da), .dat t.da] [] (Z (t.wt s : Int)) [] := by
  induction t using Tm.ind with
  | h f v ks ih =>
  intro hc
  have hcn : (Tm.mk f v ks).cn = Tm.cns ks := by simp [Tm.cn]
  rw [hcn] at hc
  have hkl := Tm.len_cns ks
  have ih' : ∀ t ∈ ks, XC Tryz.prog 174 [L (s.map Sy.da), .dat t.da] [] (Z (t.wt s : Int)) [] := fun t ht => ih t ht (by have := Tm.cns_cnL ks ▸ o3q (cn := Tm.cn) ht; omega)
  have l1 := z5q s ks hc ks [] 1 rfl (by omega) ih'
  have l2 := z5q s ks hc ks [] (ks.length - 1) rfl (by omega) ih'
  apply a25q
  refine ⟨_, a32q s f hs, ?_⟩
  rw [b6q]
  by_cases hb : bl s f = true
  · refine b2q hb ?_
    by_cases h0 : 0 < ks.length
    · refine b2q (decide_eq_true (by omega)) ?_
      have w : IntKind.wrap .i64 ((ks.length : Int) - 1) = ((ks.length - 1 : Nat) : Int) := by rw [wrI (by omega) (by omega)]; omega
      rw [w, Tm.wt, if_pos ⟨hb, h0⟩]
      exact l2
    · refine a7q (decide_eq_false (by omega)) ?_
      rw [Tm.wt, if_neg (fun h => h0 h.2)]
      exact l1
  · refine a7q (by simpa using hb) ?_
    rw [Tm.wt, if_neg (fun h => hb h.1)]
    exact l1
def grd (t : Tm) : Bool := decide ((((t.vs []).map In.da).length : Int) = 0)
def grT (s : List Sy) (a b : Tm) : Prop := b.wt s < a.wt s ∨ (a.wt s = b.wt s ∧ grd a = true ∧ grd b = true ∧ Tm.cmp b a < 0)
def grt (s : List Sy) (a b : Tm) : Prop := l8q s a ∧ l8q s b ∧ (∀ v ∈ b.vs [], ¬ a.cnt v < b.cnt v) ∧ grT s a b
theorem a8Oq {s : List Sy} {a b : Tm} (h : grt s a b) : ¬ grt s b a := by
  intro h2
  have h1 := h.2.2.2
  have h3 := h2.2.2.2
  have hn := Tm.cmp_neg a b
  unfold grT at h1 h3
  omega
theorem K4q (t : Tm) (hc : t.cn ≤ 1200000000000) : XC Tryz.prog 165 [.dat t.da] [] (B (grd t)) [] := by
  have h := r5q t hc
  unfold grd
  obtain ⟨f, v, ks⟩ := t
  apply a2pq
  exact ⟨_, h, rfl, rfl⟩
theorem H5q (s : List Sy) (hs : s.length ≤ 10000000) (a b : Tm) (ha : a.cn ≤ 1200000000000) (hb : b.cn ≤ 1200000000000) (vs : List Int) (hv : vs.length ≤ 5000000000000) (G : Prop) : ∀ (q p : List Int), vs = p ++ q → (G ↔ (∀ v ∈ q, ¬ a.cnt v < b.cnt v) ∧ grT s a b) → m5q (B (dB G)) [] (s.map Sy.da) (vs.map In.da) (p.length : Int) a.f a.v (Tm.das a.ks) b.f b.v (Tm.das b.ks)
  | [], p, e, hG => by
    have w1 := J7q s hs a ha
    have w2 := J7q s hs b hb
    have g1 := K4q a ha
    have g2 := K4q b hb
    have c := v1q b a
    have hG' : G ↔ grT s a b := by rw [hG]; simp
    clear hG
    unfold grT at hG'
    generalize a.wt s = wa at *
    generalize b.wt s = wb at *
    generalize grd a = ga at *
    generalize grd b = gb at *
    generalize Tm.cmp b a = cc at *
    obtain ⟨f, v, ks⟩ := a
    obtain ⟨g, u, ms⟩ := b
    apply D3q
    subst e
    refine a7q (c1q (by simp)) ⟨_, w1, _, w2, b8q (fun h => dB_t (hG'.2 (.inl (by omega)))) fun h => b8q (fun h2 => ⟨_, g1, b9q (fun h3 => ⟨_, g2, b9q (fun h4 => ⟨_, c, t1q ?_⟩) fun h4 => d7q fun hg => ?_⟩) fun h3 => d7q fun hg => ?_⟩) fun h2 => d7q fun hg => ?_⟩
    · rw [hG', decide_eq_true_eq]
      constructor
      · intro h5; exact .inr ⟨by omega, h3, h4, h5⟩
      · rintro (h5 | h5)
        · omega
        · exact h5.2.2.2
    · rcases hG'.1 hg with h5 | h5
      · omega
      · rw [h5.2.2.1] at h4; simp at h4
    · rcases hG'.1 hg with h5 | h5
      · omega
      · rw [h5.2.1] at h3; simp at h3
    · rcases hG'.1 hg with h5 | h5
      · omega
      · omega
  | x :: q, p, e, hG => by
    have hlt : p.length < vs.length := by rw [e]; simp
    have hx : (vs.map In.da)[p.length]? = some [.int .i64 x] := f1q (g := In.da) (by rw [e]; exact f0q)
    have hw : IntKind.wrap .i64 ((p.length : Int) + 1) = ((p.length + 1 : Nat) : Int) := wr1 hlt (by omega)
    have c1 := R0q a x ha
    have c2 := R0q b x hb
    have ih := fun h => H5q s hs a b ha hb vs hv G q (p ++ [x]) (by simp [e]) h
    rw [h1q] at ih
    have hN : a.cnt x < b.cnt x → ¬ G := fun h hg => ((hG.1 hg).1 x (by simp)) h
    have hY : ¬ a.cnt x < b.cnt x → (G ↔ (∀ v ∈ q, ¬ a.cnt v < b.cnt v) ∧ grT s a b) := fun h => by
      rw [hG]
      constructor
      · rintro ⟨h1, h2⟩
        exact ⟨fun v hv => h1 v (List.mem_cons_of_mem _ hv), h2⟩
      · rintro ⟨h1, h2⟩
        refine ⟨fun v hv => ?_, h2⟩
        rcases List.mem_cons.1 hv with rfl | hv
        · exact h
        · exact h1 v hv
    have ih2 := fun h => ih (hY h)
    clear ih hY hG
    generalize a.cnt x = na at *
    generalize b.cnt x = nb at *
    obtain ⟨f, v, ks⟩ := a
    obtain ⟨g, u, ms⟩ := b
    apply D3q
    rw [hw]
    exact b2q (c7q (by simpa using hlt)) ⟨p.length, rfl, _, hx, _, c1, p.length, rfl, _, hx, _, c2, b8q (fun h => d7q (hN (by omega))) fun h => ih2 (by omega)⟩
theorem H2q (s : List Sy) (hs : s.length ≤ 10000000) (a b : Tm) (ha : a.cn ≤ 1200000000000) (hb : b.cn ≤ 1200000000000) : XC Tryz.prog 108 [L (s.map Sy.da), .dat a.da, .dat b.da] [] (B (dB (grt s a b))) [] := by
  have t1 := k0q s a ha
  have t2 := k0q s b hb
  have cv := r5q b hb
  have hvl := Tm.vs_len b []
  have lp := H5q s hs a b ha hb (b.vs []) (by simp at hvl; omega) (grt s a b) (b.vs []) [] rfl
  have e : l8q s a → l8q s b → (grt s a b ↔ (∀ v ∈ b.vs [], ¬ a.cnt v < b.cnt v) ∧ grT s a b) := fun h1 h2 => by unfold grt; simp [h1, h2]
  have n1 : ¬ l8q s a → ¬ grt s a b := fun h h2 => h h2.1
  have n2 : ¬ l8q s b → ¬ grt s a b := fun h h2 => h h2.2.1
  have lp2 := fun h1 h2 => lp (e h1 h2)
  clear lp e
  generalize grt s a b = G at *
  generalize l8q s a = A at *
  generalize l8q s b = B' at *
  generalize b.vs [] = vs at *
  obtain ⟨f, v, ks⟩ := a
  obtain ⟨g, u, ms⟩ := b
  apply a1lq
  refine ⟨_, t1, b9q (fun h => d7q (n1 (d9q.1 (by simpa using h)))) fun h => ⟨_, t2, b9q (fun h2 => d7q (n2 (d9q.1 (by simpa using h2)))) fun h2 => ⟨_, cv, ?_⟩⟩⟩
  exact lp2 (c8q.1 (by simpa using h)) (c8q.1 (by simpa using h2))
theorem J4q (t : Tm) (hc : t.cn ≤ 1200000000000) : XC Tryz.prog 175 [.dat t.da] [] (B (grd t)) [] := by
  have h := r7q t hc
  unfold grd
  obtain ⟨f, v, ks⟩ := t
  apply a2kq
  exact ⟨_, h, rfl, rfl⟩
theorem I9q (s : List Sy) (hs : s.length ≤ 10000000) (a b : Tm) (ha : a.cn ≤ 1200000000000) (hb : b.cn ≤ 1200000000000) (vs : List Int) (hv : vs.length ≤ 5000000000000) (G : Prop) : ∀ (q p : List Int), vs = p ++ q → (G ↔ (∀ v ∈ q, ¬ a.cnt v < b.cnt v) ∧ grT s a b) → m3q (B (dB G)) [] (s.map Sy.da) (vs.length : Int) (p.length : Int) a.f a.v (Tm.das a.ks) b.f b.v (Tm.das b.ks) (vs.map In.da)
  | [], p, e, hG => by
    have w1 := K3q s hs a ha
    have w2 := K3q s hs b hb
    have g1 := J4q a ha
    have g2 := J4q b hb
    have c := z2q b a
    have hG' : G ↔ grT s a b := by rw [hG]; simp
    clear hG
    unfold grT at hG'
    generalize a.wt s = wa at *
    generalize b.wt s = wb at *
    generalize grd a = ga at *
    generalize grd b = gb at *
    generalize Tm.cmp b a = cc at *
    obtain ⟨f, v, ks⟩ := a
    obtain ⟨g, u, ms⟩ := b
    apply D0q
    subst e
    refine a7q (c1q (by simp)) ⟨_, w1, _, w2, b8q (fun h => dB_t (hG'.2 (.inl (by omega)))) fun h => b8q (fun h2 => ⟨_, g1, b9q (fun h3 => ⟨_, g2, b9q (fun h4 => ⟨_, c, t1q ?_⟩) fun h4 => d7q fun hg => ?_⟩) fun h3 => d7q fun hg => ?_⟩) fun h2 => d7q fun hg => ?_⟩
    · rw [hG', decide_eq_true_eq]
      constructor
      · intro h5; exact .inr ⟨by omega, h3, h4, h5⟩
      · rintro (h5 | h5)
        · omega
        · exact h5.2.2.2
    · rcases hG'.1 hg with h5 | h5
      · omega
      · rw [h5.2.2.1] at h4; simp at h4
    · rcases hG'.1 hg with h5 | h5
      · omega
      · rw [h5.2.1] at h3; simp at h3
    · rcases hG'.1 hg with h5 | h5
      · omega
      · omega
  | x :: q, p, e, hG => by
    have hlt : p.length < vs.length := by rw [e]; simp
    have hx : (vs.map In.da)[p.length]? = some [.int .i64 x] := f1q (g := In.da) (by rw [e]; exact f0q)
    have hw : IntKind.wrap .i64 ((p.length : Int) + 1) = ((p.length + 1 : Nat) : Int) := wr1 hlt (by omega)
    have c1 := M5q a x ha
    have c2 := M5q b x hb
    have ih := fun h => I9q s hs a b ha hb vs hv G q (p ++ [x]) (by simp [e]) h
    rw [h1q] at ih
    have hN : a.cnt x < b.cnt x → ¬ G := fun h hg => ((hG.1 hg).1 x (by simp)) h
    have hY : ¬ a.cnt x < b.cnt x → (G ↔ (∀ v ∈ q, ¬ a.cnt v < b.cnt v) ∧ grT s a b) := fun h => by
      rw [hG]
      constructor
      · rintro ⟨h1, h2⟩
        exact ⟨fun v hv => h1 v (List.mem_cons_of_mem _ hv), h2⟩
      · rintro ⟨h1, h2⟩
        refine ⟨fun v hv => ?_, h2⟩
        rcases List.mem_cons.1 hv with rfl | hv
        · exact h
        · exact h1 v hv
    have ih2 := fun h => ih (hY h)
    clear ih hY hG
    generalize a.cnt x = na at *
    generalize b.cnt x = nb at *
    obtain ⟨f, v, ks⟩ := a
    obtain ⟨g, u, ms⟩ := b
    apply D0q
    rw [hw]
    exact b2q (c7q hlt) ⟨p.length, rfl, ⟨by simpa using hlt⟩, p.length, rfl, _, hx, _, c1, _, c2, b8q (fun h => d7q (hN (by omega))) fun h => ih2 (by omega)⟩
theorem H7q (s : List Sy) (hs : s.length ≤ 10000000) (a b : Tm) (ha : a.cn ≤ 1200000000000) (hb : b.cn ≤ 1200000000000) : XC Tryz.prog 118 [L (s.map Sy.da), .dat a.da, .dat b.da] [] (B (dB (grt s a b))) [] := by
  have t1 := j9q s a ha
  have t2 := j9q s b hb
  have cv := r7q b hb
  have hvl := Tm.vs_len b []
  have lp := I9q s hs a b ha hb (b.vs []) (by simp at hvl; omega) (grt s a b) (b.vs []) [] rfl
  have e : l8q s a → l8q s b → (grt s a b ↔ (∀ v ∈ b.vs [], ¬ a.cnt v < b.cnt v) ∧ grT s a b) := fun h1 h2 => by unfold grt; simp [h1, h2]
  have n1 : ¬ l8q s a → ¬ grt s a b := fun h h2 => h h2.1
  have n2 : ¬ l8q s b → ¬ grt s a b := fun h h2 => h h2.2.1
  have lp2 := fun h1 h2 => lp (e h1 h2)
  clear lp e
  generalize grt s a b = G at *
  generalize l8q s a = A at *
  generalize l8q s b = B' at *
  generalize b.vs [] = vs at *
  obtain ⟨f, v, ks⟩ := a
  obtain ⟨g, u, ms⟩ := b
  apply a1Fq
  refine ⟨_, t1, b9q (fun h => d7q (n1 (d9q.1 (by simpa using h)))) fun h => ⟨_, t2, b9q (fun h2 => d7q (n2 (d9q.1 (by simpa using h2)))) fun h2 => ⟨_, cv, ?_⟩⟩⟩
  rw [List.length_map]
  exact lp2 (c8q.1 (by simpa using h)) (c8q.1 (by simpa using h2))
noncomputable def ort (s : List Sy) (a b : Tm) : Tm × Tm × Bool := if dB (grt s b a) then (b, a, true) else (a, b, dB (grt s a b))
theorem a5iq (s : List Sy) (a b : Tm) : (ort s a b).1.cn + (ort s a b).2.1.cn = a.cn + b.cn := by
  unfold ort; split <;> dsimp only <;> omega
theorem Y9q (s : List Sy) (hs : s.length ≤ 10000000) (a b : Tm) (ha : a.cn ≤ 1200000000000) (hb : b.cn ≤ 1200000000000) : XC Tryz.prog 47 [L (s.map Sy.da), .dat a.da, .dat b.da] [] (.tup [.dat (ort s a b).1.da, .dat (ort s a b).2.1.da, B (ort s a b).2.2]) [] := by
  have g1 := H2q s hs a b ha hb
  have g2 := H2q s hs b a hb ha
  have k1 := a05q a ha
  have k2 := a05q b hb
  unfold ort
  generalize dB (grt s a b) = x at *
  generalize dB (grt s b a) = y at *
  obtain ⟨f, v, ks⟩ := a
  obtain ⟨g, u, ms⟩ := b
  apply a0cq
  cases y with
  | true => exact ⟨_, g2, b2q rfl ⟨_, _, _, k2, _, _, _, k1, rfl, rfl⟩⟩
  | false => exact ⟨_, g2, a7q rfl ⟨_, _, _, k1, _, _, _, k2, _, g1, rfl, rfl⟩⟩
theorem Z4q (s : List Sy) (hs : s.length ≤ 10000000) (a b : Tm) (ha : a.cn ≤ 1200000000000) (hb : b.cn ≤ 1200000000000) : XC Tryz.prog 52 [L (s.map Sy.da), .dat a.da, .dat b.da] [] (.tup [.agg [.d (.int .i64 (ort s a b).1.f), .d (.int .i64 (ort s a b).1.v), .ol 0], .agg [.d (.int .i64 (ort s a b).2.1.f), .d (.int .i64 (ort s a b).2.1.v), .ol 1], B (ort s a b).2.2]) [(0, .tr 30 3 (Tm.das (ort s a b).1.ks)), (1, .tr 30 3 (Tm.das (ort s a b).2.1.ks))] := by
  have g1 := H7q s hs a b ha hb
  have g2 := H7q s hs b a hb ha
  have k1 := S5q a ha
  have k2 := S5q b hb
  have hx : dB (grt s a b) = true → dB (grt s b a) = false := fun h => d9q.2 (a8Oq (c8q.1 h))
  unfold ort
  generalize dB (grt s a b) = x at *
  generalize dB (grt s b a) = y at *
  obtain ⟨f, v, ks⟩ := a
  obtain ⟨g, u, ms⟩ := b
  apply a0Oq
  cases x with
  | true =>
    have hx := hx rfl
    subst hx
    exact ⟨_, _, _, k1, _, _, _, k2, _, g1, b2q rfl ⟨rfl, rfl⟩⟩
  | false =>
    cases y with
    | true => exact ⟨_, _, _, k1, _, _, _, k2, _, g1, a7q rfl ⟨_, g2, b2q rfl ⟨rfl, rfl⟩⟩⟩
    | false => exact ⟨_, _, _, k1, _, _, _, k2, _, g1, a7q rfl ⟨_, g2, a7q rfl ⟨rfl, rfl⟩⟩⟩
def noRu : Ru × Bool := (⟨.mk 0 0 [], .mk 0 0 []⟩, false)
noncomputable def rof (s : List Sy) (c : Cl) : Ru × Bool :=
  if dB (H9q s c) then
    match c.ls with
    | [x] => if x.p && (ort s x.l x.r).2.2 && dB (RuOk s ⟨(ort s x.l x.r).1, (ort s x.l x.r).2.1⟩) then (⟨(ort s x.l x.r).1, (ort s x.l x.r).2.1⟩, true) else noRu
    | _ => noRu
  else noRu
theorem a2aq : noRu.1.cn = 0 := rfl
theorem ab4q (s : List Sy) (c : Cl) : (rof s c).1.cn ≤ c.cn := by
  unfold rof
  have hc : c.cn = cnL Li.cn c.ls := rfl
  split
  · split
    · rename_i x hx
      rw [hx] at hc
      have h := a5iq s x.l x.r
      have h0 : x.cn = x.l.cn + x.r.cn := rfl
      have h1 : cnL Li.cn [x] = 1 + x.cn := by simp [cnL]
      split
      · show (ort s x.l x.r).1.cn + (ort s x.l x.r).2.1.cn ≤ _
        omega
      · rw [a2aq]; omega
    · rw [a2aq]; omega
  · rw [a2aq]; omega
theorem a1gq (s : List Sy) (hs : s.length ≤ 10000000) (c : Cl) (hc : c.cn ≤ 1048576) : XC Tryz.prog 11 [L (s.map Sy.da), .dat c.da] [] (.tup [.dat (rof s c).1.da, B (rof s c).2]) [] := by
  have k := Y7q s c (by omega)
  obtain ⟨ls⟩ := c
  unfold rof
  generalize dB (H9q s ⟨ls⟩) = ok at *
  apply a2Sq
  cases ok with
  | false => exact ⟨_, k, b2q rfl ⟨rfl, rfl⟩⟩
  | true =>
    refine ⟨_, k, a7q rfl ?_⟩
    match ls, hc with
    | [], _ => exact b2q (by simp) ⟨rfl, rfl⟩
    | x :: y :: r, _ => exact b2q (by simp; omega) ⟨rfl, rfl⟩
    | [x], hc =>
      have h1 : (Cl.mk [x]).cn = 1 + x.cn := by simp [Cl.cn, cnL]
      have h0 : x.cn = x.l.cn + x.r.cn := rfl
      have o := Y9q s hs x.l x.r (by omega) (by omega)
      have ho := a5iq s x.l x.r
      have ro := a1xq s ⟨(ort s x.l x.r).1, (ort s x.l x.r).2.1⟩ (by show (ort s x.l x.r).1.cn + (ort s x.l x.r).2.1.cn ≤ _; omega)
      have hx : ([x].map Li.da)[0]? = some x.da := rfl
      dsimp only
      generalize ort s x.l x.r = z at *
      obtain ⟨a, b, g⟩ := z
      dsimp only at *
      generalize dB (RuOk s ⟨a, b⟩) = rk at *
      obtain ⟨p, ⟨f, v, ks⟩, ⟨f', v', ks'⟩⟩ := x
      obtain ⟨f1, v1, ks1⟩ := a
      obtain ⟨f2, v2, ks2⟩ := b
      refine a7q (by simp) ⟨0, rfl, _, _, _, _, _, _, _, hx, ?_⟩
      cases p with
      | false => exact b2q rfl ⟨rfl, rfl⟩
      | true =>
        refine a7q rfl ⟨0, rfl, _, _, _, _, _, _, _, hx, 0, rfl, _, _, _, _, _, _, _, hx, _, _, _, _, _, _, _, o, ?_⟩
        cases g with
        | false => exact b2q rfl ⟨rfl, rfl⟩
        | true =>
          refine a7q rfl ⟨_, ro, ?_⟩
          cases rk with
          | false => exact b2q rfl ⟨rfl, rfl⟩
          | true => exact a7q rfl ⟨rfl, rfl⟩
theorem a0Xq (s : List Sy) (hs : s.length ≤ 10000000) (c : Cl) (hc : c.cn ≤ 1048576) : XC Tryz.prog 14 [L (s.map Sy.da), .dat c.da] [] (.tup [.agg [.d (.int .i64 (rof s c).1.l.f), .d (.int .i64 (rof s c).1.l.v), .ol 0, .d (.int .i64 (rof s c).1.r.f), .d (.int .i64 (rof s c).1.r.v), .ol 1], B (rof s c).2]) [(0, .tr 30 3 (Tm.das (rof s c).1.l.ks)), (1, .tr 30 3 (Tm.das (rof s c).1.r.ks))] := by
  have k := Y5q s c (by omega)
  obtain ⟨ls⟩ := c
  unfold rof
  generalize dB (H9q s ⟨ls⟩) = ok at *
  apply a2cq
  cases ok with
  | false => exact ⟨_, k, b2q rfl ⟨rfl, rfl⟩⟩
  | true =>
    refine ⟨_, k, a7q rfl ?_⟩
    match ls, hc with
    | [], _ => exact b2q (by simp) ⟨rfl, rfl⟩
    | x :: y :: r, _ => exact b2q (by simp; omega) ⟨rfl, rfl⟩
    | [x], hc =>
      have h1 : (Cl.mk [x]).cn = 1 + x.cn := by simp [Cl.cn, cnL]
      have h0 : x.cn = x.l.cn + x.r.cn := rfl
      have o := Z4q s hs x.l x.r (by omega) (by omega)
      have ho := a5iq s x.l x.r
      have ro := a21q s ⟨(ort s x.l x.r).1, (ort s x.l x.r).2.1⟩ (by show (ort s x.l x.r).1.cn + (ort s x.l x.r).2.1.cn ≤ _; omega)
      have hx : ([x].map Li.da)[0]? = some x.da := rfl
      dsimp only
      generalize ort s x.l x.r = z at *
      obtain ⟨a, b, g⟩ := z
      dsimp only at *
      generalize dB (RuOk s ⟨a, b⟩) = rk at *
      obtain ⟨p, ⟨f, v, ks⟩, ⟨f', v', ks'⟩⟩ := x
      obtain ⟨f1, v1, ks1⟩ := a
      obtain ⟨f2, v2, ks2⟩ := b
      refine a7q (by simp) ⟨0, rfl, _, _, _, _, _, _, _, hx, ?_⟩
      cases p with
      | false => exact b2q rfl ⟨rfl, rfl⟩
      | true =>
        refine a7q rfl ⟨0, rfl, _, _, _, _, _, _, _, hx, 0, rfl, _, _, _, _, _, _, _, hx, _, _, _, _, _, _, _, o, ?_⟩
        cases g with
        | false => exact b2q rfl ⟨rfl, rfl⟩
        | true =>
          refine a7q rfl ⟨_, ro, ?_⟩
          cases rk with
          | false => exact b2q rfl ⟨rfl, rfl⟩
          | true => exact a7q rfl ⟨rfl, rfl⟩
theorem L4q (ss : List Sy) (kss : ∀ y ∈ ss, Sy.ok y) (c : Cl) (kc : c.ok) : XC Tryz.prog 3 [L (ss.map Sy.da), .dat c.da] [] (B true) [] := by
  have s0 := a5Xq ss 1048576 (by omega) (by omega)
  rcases Int.lt_or_le (lft (cnL Sy.cn ss) 1048576) 0 with g0 | g0
  · obtain ⟨ls_1⟩ := c
    apply n6q
    exact ⟨_, s0, b2q (decide_eq_true g0) ⟨rfl, rfl⟩⟩
  have q0 := a8iq g0
  have s1 := a3Jq c _ g0 (by omega)
  rcases Int.lt_or_le (lft (c.cn) (lft (cnL Sy.cn ss) 1048576)) 0 with g1 | g1
  · obtain ⟨ls_1⟩ := c
    apply n6q
    exact ⟨_, s0, a7q (decide_eq_false (Int.not_lt.2 g0)) ⟨_, s1, b2q (decide_eq_true g1) ⟨rfl, rfl⟩⟩⟩
  have q1 := a8iq g1
  have hlenss := j0q Sy.cn ss
  have hsyss := a5pq ss
  have hccc : c.cn = cnL Li.cn c.ls := rfl
  have hclc := j0q Li.cn c.ls
  have hcmc := aaIq c.ls
  have hu := ab4q ss c
  have t0 := a53q ss (by omega)
  have e0 := a5Oq ss
  have m0 := a44q ss (1) (by omega) (by omega) (by omega)
  have t1 := a27q c (by omega)
  have e1 := a47q c
  have m1 := a1bq c (1 + w8q ss) (by omega) (by omega)
  have c1 := a1gq ss (by omega) c (by omega)
  have c2 := a0Xq ss (by omega) c (by omega)
  have hk : (((1 + w8q ss + mkN c.ls : Nat)) : Int) ≥ 0 := by omega
  generalize rof ss c = ub at *
  obtain ⟨u, bb⟩ := ub
  try dsimp only at hu
  have eu := a6fq u
  have mu := a41q u 1 (by omega)
  have hd := a3Fq u 1 (by omega)
  obtain ⟨ls_1⟩ := c
  obtain ⟨⟨f0, v0, k0⟩, ⟨g0', u0, l0⟩⟩ := u
  apply n6q
  exact ⟨_, s0, a7q (decide_eq_false (Int.not_lt.2 g0)) ⟨_, s1, a7q (decide_eq_false (Int.not_lt.2 g1)) ⟨_, t0, _, t1, _, _, _, _, _, _, _, c1, _, t0, _, t1, _, _, _, _, _, _, _, c2, _, eu, a7q rfl (a7q (by simp) ⟨_, t0, _, e0, a7q rfl ⟨_, t1, _, e1, a7q rfl ⟨_, _, m0, _, _, m1, a7q (decide_eq_false (by omega)) ⟨_, eu, a7q rfl (a7q (by simp) ⟨_, _, _, mu, _, hd, a7q (decide_eq_false (by omega)) (a7q (by simp) ⟨_, t0, _, t1, _, _, _, _, _, _, _, c2, _, eu, a7q rfl (a7q (by simp) ⟨_, hd, a7q (decide_eq_false (by omega)) (a7q (by simp) ⟨rfl, rfl⟩)⟩)⟩)⟩)⟩⟩⟩⟩)⟩⟩⟩
end AM
end Go.Proofs.YtajcoogpmockiaaGreat
set_option linter.unusedSimpArgs false
set_option linter.unusedVariables false
namespace Go.Proofs.YtajcoogpmockiaaGreat
namespace AM
open Go Go.ChangeShapes Go.WideShapes Go.RowKit
set_option maxRecDepth 100000 in
theorem Q9q (os : Os) (started : os.Started) (H : Type) (enc : TypeId × Value → H) :
    ReturnsInHanded {} Tryz.checked os 3 .any (Rows.fnExactRuleOfSpec.pre6 enc Tryz.prog Tryz.f3 Rows.fnExactRuleOfRow.domain false) (Rows.fnExactRuleOfSpec.post enc Tryz.prog Tryz.f3 false true false false) := by
  refine a6Aq (C := Tryz.checked) [22, 81, 9, 3, 4, 25, 23, 142, 107, 105] own started (by kernel_rfl) Tryz.func3
    (ChangeSpec.witness6 (enc := enc) (C := Tryz.checked) false ⟨#[], #[.slice none 0 0, .agg #[.slice none 0 0]], []⟩ 8 (by kernel_rfl) (by kernel_rfl) (by kernel_rfl) (by kernel_rfl))
    a9Rq (by kernel_rfl) (by kernel_rfl) rfl rfl Tryz.underlying4 (fun ds hd => ?_) (fun xs hx => ?_)
  · match ds, hd with
    | [d0, d1], _ => exact ⟨rfl, rfl, rfl⟩
  · have hx2 : a1mq Tryz.prog [22, 25] xs := hx
    match xs, hx2 with
    | [x0, x1], ⟨h0, h1, _⟩ =>
      simp only [X1q, Tryz.underlying22] at h0
      obtain ⟨_, _, rfl, h0⟩ := h0
      obtain ⟨a, e0, k0⟩ := a5Zq _ h0
      cases e0
      simp only [X1q, Tryz.underlying25] at h1
      obtain ⟨_, _, rfl, h1⟩ := h1
      obtain ⟨b, e1, k1⟩ := a59q _ h1
      subst e1
      exact (L4q a k0 b k1).acall
theorem fnExactRuleOf_holds : Rows.FnExactRuleOfSaid :=
  OpenClaim.holds_of_wide 3 Tryz.f3 rfl rfl rfl rfl rfl rfl rfl ⟨rfl, rfl, rfl, rfl, rfl⟩ rfl rfl rfl rfl rfl (by kernel_rfl) Tryz.func3 (by kernel_rfl)
    (of_decide_eq_true (by kernel_rfl)) (by unfold Func.isWrapper; rw [if_neg (by decide +kernel)]; exact ⟨rfl, rfl⟩)
    (fun os started H enc _ => Q9q os started H enc)
end AM
end Go.Proofs.YtajcoogpmockiaaGreat
