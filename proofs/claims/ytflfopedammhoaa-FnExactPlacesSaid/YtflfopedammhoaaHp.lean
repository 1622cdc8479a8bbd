/- Contracts of functions of the program, out of what their texts ask; no conditions. -/
import Derived.Test.YtflfopedammhoaaHl
import Derived.Test.YtflfopedammhoaaDt
import Derived.Test.YtflfopedammhoaaHr
set_option linter.unusedVariables false
set_option linter.unusedSimpArgs false
set_option maxRecDepth 100000
namespace Go.Proofs.Ytflfopedammhoaa
namespace AM
open Go Go.ChangeShapes Go.WideShapes Go.RowKit

/-- A way, as a row. -/
def Wy.da (w : List Int) : List Da := [.sl (w.map In.da)]
mutual
def Tm.plc : Tm → List (List Int)
  | .mk f _ ks => if f = -1 then [] else [] :: Tm.plcs 0 ks
def Tm.plcs : Nat → List Tm → List (List Int)
  | _, [] => []
  | i, t :: r => (Tm.plc t).map (fun w => (i : Int) :: w) ++ Tm.plcs (i + 1) r
end
mutual
theorem Tm.plc_len : ∀ t : Tm, t.plc.length ≤ t.cn + 1
  | .mk f v ks => by
    have h := Tm.plcs_len 0 ks
    simp only [Tm.plc, Tm.cn]
    split
    · simp
    · rw [List.length_cons]; omega
theorem Tm.plcs_len : ∀ (i : Nat) (l : List Tm), (Tm.plcs i l).length ≤ Tm.cns l
  | _, [] => by simp [Tm.plcs]
  | i, t :: r => by
    have h1 := Tm.plc_len t
    have h2 := Tm.plcs_len (i + 1) r
    simp only [Tm.plcs, Tm.cns, List.length_append, List.length_map]
    omega
end
mutual
theorem Tm.plc_way : ∀ (t : Tm), ∀ w ∈ t.plc, w.length ≤ t.cn
  | .mk f v ks => by
    intro w hw
    simp only [Tm.plc, Tm.cn] at hw ⊢
    split at hw
    · simp at hw
    · rcases List.mem_cons.1 hw with rfl | hw
      · simp
      · exact Tm.plcs_way 0 ks w hw
theorem Tm.plcs_way : ∀ (i : Nat) (l : List Tm), ∀ w ∈ Tm.plcs i l, w.length ≤ Tm.cns l
  | _, [] => by simp [Tm.plcs]
  | i, t :: r => by
    intro w hw
    simp only [Tm.plcs, Tm.cns, List.mem_append, List.mem_map] at hw ⊢
    rcases hw with ⟨u, hu, rfl⟩ | hw
    · have := Tm.plc_way t u hu
      rw [List.length_cons]; omega
    · have := Tm.plcs_way (i + 1) r w hw
      omega
end
theorem wy_ext (l : List (List Int)) : l.map Wy.da = l.map fun w => [.sl (w.map In.da)] := rfl
theorem l13Places_loop (f v : Int) (ks : List Tm) (hk : ks.length ≤ 10000000) (way : List Int) (hw : way.length ≤ 10000000) : ∀ (q p : List Tm) (out : List (List Int)), ks = p ++ q → out.length + Tm.cns q ≤ 100000000 → way.length + Tm.cns q ≤ 10000000 → (∀ t ∈ q, ∀ (wa : List Int) (o : List (List Int)), wa.length + t.cn ≤ 10000000 → o.length + t.cn + 1 ≤ 100000000 → XC Try.prog 83 [.dat t.da, L (wa.map In.da), .one (.ol 2000)] [(2000, .tr 55 1 (o.map Wy.da))] (.one (.ol 0)) [(0, .tr 55 1 ((o ++ t.plc.map (wa ++ ·)).map Wy.da))]) → spec_l13Places_L5 (.one (.ol 0)) [(0, .tr 55 1 ((out ++ (Tm.plcs p.length q).map (way ++ ·)).map Wy.da))] (way.map In.da) (p.length : Int) (out.map Wy.da) f v (Tm.das ks)
  | [], p, out, e, _, _, _ => by
    apply spec_l13Places_L5_of
    subst e
    exact ifB_f (lt_decF (by simp [das_len])) ⟨rfl, by simp [Tm.plcs]⟩
  | .mk g u ls :: q, p, out, e, ho, hwq, hc => by
    have hcn : Tm.cns (.mk g u ls :: q) = 1 + (Tm.mk g u ls).cn + Tm.cns q := by simp [Tm.cns]
    have hl := Tm.plc_len (.mk g u ls)
    have ih := l13Places_loop f v ks hk way hw q (p ++ [.mk g u ls]) (out ++ (Tm.mk g u ls).plc.map ((way ++ [(p.length : Int)]) ++ ·)) (by simp [e]) (by simp; omega) (by omega) (fun t ht => hc t (List.mem_cons_of_mem _ ht))
    have c1 := hc (.mk g u ls) (by simp) (way ++ [(p.length : Int)]) out (by simp; omega) (by omega)
    subst e
    rw [len_app1] at ih
    have ew : [] ++ way.map In.da ++ [[.int .i64 (p.length : Int)]] = (way ++ [(p.length : Int)]).map In.da := by simp [In.da]
    apply spec_l13Places_L5_of
    refine ifB_t (lt_dec (by simp [das_len])) ⟨⟨ints_len _⟩, ⟨ints_flat _⟩, ⟨by simp; omega⟩, p.length, rfl, g, u, Tm.das ls, das_app_get, ⟨by simp; omega⟩, _, ew ▸ c1, ?_⟩
    rw [wr1 (n := p.length + 1) (by omega) (by simp at hk; omega)]
    have et : out ++ (Tm.plcs p.length (.mk g u ls :: q)).map (way ++ ·) = out ++ (Tm.mk g u ls).plc.map ((way ++ [(p.length : Int)]) ++ ·) ++ (Tm.plcs (p.length + 1) q).map (way ++ ·) := by
      simp [Tm.plcs, List.append_assoc, Function.comp_def]
    rw [et]
    exact ih
theorem l13Places_call (t : Tm) : ∀ (way : List Int) (out : List (List Int)), way.length + t.cn ≤ 10000000 → out.length + t.cn + 1 ≤ 100000000 → XC Try.prog 83 [.dat t.da, L (way.map In.da), .one (.ol 2000)] [(2000, .tr 55 1 (out.map Wy.da))] (.one (.ol 0)) [(0, .tr 55 1 ((out ++ t.plc.map (way ++ ·)).map Wy.da))] := by
  induction t using Tm.ind with
  | h f v ks ih =>
  intro way out hw ho
  have hcn : (Tm.mk f v ks).cn = Tm.cns ks := by simp [Tm.cn]
  rw [hcn] at hw ho
  have hkl := Tm.cns_cnL ks ▸ cnL_len Tm.cn ks
  apply spec_l13Places_of
  by_cases h : f = -1
  · exact ifB_t (by simpa using h) ⟨rfl, by simp [Tm.plc, h]⟩
  · refine ifB_f (by simpa using h) ⟨⟨ints_len _⟩, ⟨ints_flat _⟩, ⟨by simp; omega⟩, ⟨by simp; omega⟩, ?_⟩
    have := l13Places_loop f v ks (by omega) way (by omega) ks [] (out ++ [way]) rfl (by simp; omega) (by omega) ih
    have e1 : out ++ (Tm.mk f v ks).plc.map (way ++ ·) = out ++ [way] ++ (Tm.plcs 0 ks).map (way ++ ·) := by simp [Tm.plc, h]
    have e2 : (out ++ [way]).map Wy.da = out.map Wy.da ++ [[.sl ([] ++ way.map In.da)]] := by simp [Wy.da]
    rw [e1, ← e2]
    exact this
theorem specPlaces_call (t : Tm) (hc : t.cn ≤ 1048576) : XC Try.prog 16 [.dat t.da] [] (L (t.plc.map Wy.da)) [] := by
  have h := l13Places_call t [] [] (by simp; omega) (by simp; omega)
  obtain ⟨f, v, ks⟩ := t
  apply spec_Places_of
  refine ⟨_, h, ?_, rfl⟩
  simp
theorem implPlaces_in (r : AV) (O : List (Nat × Ob)) (i : Nat) (hi : i ≤ 10000000) (s13 : List (List Da)) (s14 s15 : Int) (ws : List (List Int)) (hws : ws.length ≤ 10000000) (hww : ∀ w ∈ ws, w.length ≤ 10000000) : ∀ (q p out : List (List Int)), ws = p ++ q → out.length + q.length ≤ 100000000 → impl_Places_L5 r O s13 s14 (IntKind.wrap .i64 (s15 + 1)) ((out ++ q.map (fun w => (i : Int) :: w)).map Wy.da) → impl_Places_L8 r O (i : Int) s13 s14 s15 (ws.length : Int) (p.length : Int) (out.map Wy.da) (ws.map Wy.da)
  | [], p, out, e, _, h => by
    apply impl_Places_L8_of
    subst e
    exact ifB_f (lt_decF (by simp)) (by simpa using h)
  | w :: q, p, out, e, ho, h => by
    simp only [List.length_cons] at ho
    have hw := hww w (by simp [e])
    have ih := implPlaces_in r O i hi s13 s14 s15 ws hws hww q (p ++ [w]) (out ++ [(i : Int) :: w]) (by simp [e]) (by simp; omega) (by simpa using h)
    subst e
    rw [len_app1] at ih
    apply impl_Places_L8_of
    refine ifB_t (lt_dec (by simp)) ⟨p.length, rfl, ⟨by simp⟩, p.length, rfl, w.map In.da, map_app_get, ⟨ints_len _⟩, ⟨ints_flat _⟩, ⟨by simp; omega⟩, ⟨by simp; omega⟩, ?_⟩
    rw [wr1 (n := p.length + 1) (by omega) (by simp at hws; omega)]
    have e2 : (out ++ [(i : Int) :: w]).map Wy.da = out.map Wy.da ++ [[.sl ([[.int .i64 (i : Int)]] ++ w.map In.da)]] := by simp [Wy.da, In.da]
    rw [e2] at ih
    exact ih
theorem implPlaces_loop (ks : List Tm) (hk : Tm.cns ks ≤ 1048576) : ∀ (q p : List Tm) (out : List (List Int)), ks = p ++ q → out.length + Tm.cns q ≤ 100000000 → (∀ t ∈ q, t.cn ≤ 1048576 ∧ XC Try.prog 18 [.dat t.da] [] (.one (.ol 0)) [(0, .tr 55 1 (t.plc.map Wy.da))]) → impl_Places_L5 (.one (.ol 0)) [(0, .tr 55 1 ((out ++ Tm.plcs p.length q).map Wy.da))] (Tm.das ks) (ks.length : Int) (p.length : Int) (out.map Wy.da)
  | [], p, out, e, _, _ => by
    apply impl_Places_L5_of
    subst e
    exact ifB_f (lt_decF (by simp)) ⟨rfl, by simp [Tm.plcs]⟩
  | .mk g u ls :: q, p, out, e, ho, hc => by
    have hcn : Tm.cns (.mk g u ls :: q) = 1 + (Tm.mk g u ls).cn + Tm.cns q := by simp [Tm.cns]
    have hkl := Tm.cns_cnL ks ▸ cnL_len Tm.cn ks
    have hl := Tm.plc_len (.mk g u ls)
    have hw := Tm.plc_way (.mk g u ls)
    obtain ⟨hb, c1⟩ := hc (.mk g u ls) (by simp)
    have hpl : p.length ≤ ks.length := by rw [e]; simp
    have ih := implPlaces_loop ks hk q (p ++ [.mk g u ls]) (out ++ (Tm.mk g u ls).plc.map (fun w => (p.length : Int) :: w)) (by simp [e]) (by simp; omega) (fun t ht => hc t (List.mem_cons_of_mem _ ht))
    have c2 := implPlaces_in (.one (.ol 0)) [(0, .tr 55 1 ((out ++ Tm.plcs p.length (.mk g u ls :: q)).map Wy.da))] p.length (by omega) (Tm.das ks) (ks.length : Int) (p.length : Int) (Tm.mk g u ls).plc (by omega) (fun w h => by have := hw w h; omega) (Tm.mk g u ls).plc [] out rfl (by omega)
    subst e
    rw [len_app1] at ih
    rw [wr1 (n := p.length + 1) (by omega) (by simp at hkl; omega)] at c2
    have et : out ++ Tm.plcs p.length (.mk g u ls :: q) = out ++ (Tm.mk g u ls).plc.map (fun w => (p.length : Int) :: w) ++ Tm.plcs (p.length + 1) q := by simp [Tm.plcs, List.append_assoc]
    rw [et] at c2 ⊢
    apply impl_Places_L5_of
    refine ifB_t (lt_dec (by simp)) ⟨p.length, rfl, g, u, Tm.das ls, das_app_get, _, c1, ?_⟩
    rw [List.length_map]
    exact c2 ih
theorem implPlaces_call (t : Tm) : t.cn ≤ 1048576 → XC Try.prog 18 [.dat t.da] [] (.one (.ol 0)) [(0, .tr 55 1 (t.plc.map Wy.da))] := by
  induction t using Tm.ind with
  | h f v ks ih =>
  intro hc
  have hcn : (Tm.mk f v ks).cn = Tm.cns ks := by simp [Tm.cn]
  rw [hcn] at hc
  apply impl_Places_of
  refine ⟨_, isVarK_call (.mk f v ks), ?_⟩
  by_cases h : f = -1
  · exact ifB_t (decide_eq_true h) ⟨rfl, by simp [Tm.plc, h]⟩
  · refine ifB_f (decide_eq_false h) ?_
    have := implPlaces_loop ks hc ks [] [[]] rfl (by simp; omega) (fun t ht => by
      have hb : t.cn ≤ 1048576 := by have := Tm.cns_cnL ks ▸ cnL_mem (cn := Tm.cn) ht; omega
      exact ⟨hb, ih t ht hb⟩)
    rw [das_len]
    have e1 : (Tm.mk f v ks).plc = [[]] ++ Tm.plcs 0 ks := by simp [Tm.plc, h]
    rw [e1]
    exact this
def mkII : Nat → List (List Int) → List (List Int)
  | _, [] => []
  | k, w :: r => mkI k w :: mkII (k + w.length) r
def mkNI (l : List (List Int)) : Nat := (l.map List.length).sum
theorem mkNI_cons (w : List Int) (r : List (List Int)) : mkNI (w :: r) = w.length + mkNI r := by simp [mkNI]
theorem mkNI_le (m : Nat) : ∀ l : List (List Int), (∀ w ∈ l, w.length ≤ m) → mkNI l ≤ l.length * m
  | [], _ => by simp [mkNI]
  | w :: r, h => by
    have h1 := mkNI_le m r fun x hx => h x (by simp [hx])
    have h2 := h w (by simp)
    rw [mkNI_cons, List.length_cons, Nat.add_mul]; omega
theorem eqIntSS_call (l : List (List Int)) (hl : l.length ≤ 100000000) : XC Try.prog 19 [L (l.map Wy.da), L (l.map Wy.da)] [] (B true) [] := by
  apply laws_eqIntSS_of
  refine ifB_f ne_decF ?_
  refine loopUp (p := fun i => laws_eqIntSS_L4 (B true) [] (l.map Wy.da) (l.map Wy.da) (i : Int)) l.length ?_ (fun i hi ih => ?_) 0 (Nat.zero_le _)
  · apply laws_eqIntSS_L4_of
    exact ifB_f (lt_decF (by simp)) ⟨rfl, rfl⟩
  · obtain ⟨x, hx⟩ := get_ex hi
    have hx1 := get_map (g := Wy.da) hx
    apply laws_eqIntSS_L4_of
    refine ifB_t (lt_dec (by simpa using hi)) ⟨i, rfl, _, hx1, i, rfl, _, hx1, _, eqIntS_call x, ifB_f rfl ?_⟩
    rw [wr1 hi (by omega)]
    exact ih
theorem markIntSS_loop : ∀ (l : List (List Int)) (P : List (List Da)) (k : Nat), P.length + l.length ≤ 100000000 → (∀ w ∈ l, w.length ≤ 10000000) → k + mkNI l ≤ 281474976710656 → laws_markIntSS_L2 (Z ((k + mkNI l : Nat) : Int)) [(2000, .mt 55 1 (P ++ (mkII k l).map Wy.da))] (k : Int) (P.length : Int) (P ++ l.map Wy.da)
  | [], P, k, _, _, _ => by
    apply laws_markIntSS_L2_of
    exact ifB_f (decide_eq_false (by simp)) ⟨by simp [mkNI], by simp [mkII]⟩
  | w :: r, P, k, hl, hw, hk => by
    rw [mkNI_cons] at hk ⊢
    simp only [List.length_cons] at hl
    have hw1 := hw w (by simp)
    have hlen : ∀ y : List Da, P.length < (P ++ y :: r.map Wy.da).length := fun y => by simp
    have hm := markIntS_call w k (by omega) (by omega)
    have ih := markIntSS_loop r (P ++ [Wy.da (mkI k w)]) (k + w.length) (by simp; omega) (fun x hx => hw x (by simp [hx])) (by omega)
    have e4 : (P ++ [Wy.da (mkI k w)]).length = P.length + 1 := by simp
    rw [e4, List.append_assoc, List.append_assoc] at ih
    rw [show mkII k (w :: r) = mkI k w :: mkII (k + w.length) r from rfl, ← Nat.add_assoc]
    apply laws_markIntSS_L2_of
    simp only [List.map_cons]
    have wp : IntKind.wrap .i64 ((P.length : Int) + 1) = ((P.length + 1 : Nat) : Int) := wrN (by omega) 1 (by omega)
    rw [wp]
    refine ifB_t (decide_eq_true (by simp; omega)) ⟨P.length, rfl, ⟨hlen _⟩, P.length, rfl, _, get_mid, fun _ _ _ => ⟨by simp, _, get_mid, ⟨ints_len _⟩, _, _, hm, ?_⟩⟩
    rw [set_mid]
    exact ih
theorem markIntSS_call (l : List (List Int)) (k : Nat) (hl : l.length ≤ 100000000) (hw : ∀ w ∈ l, w.length ≤ 10000000) (hk : k + mkNI l ≤ 281474976710656) : XC Try.prog 22 [.one (.ol 2000), Z (k : Int)] [(2000, .mt 55 1 (l.map Wy.da))] (Z ((k + mkNI l : Nat) : Int)) [(2000, .mt 55 1 ((mkII k l).map Wy.da))] := by
  apply laws_markIntSS_of
  simpa using markIntSS_loop l [] k (by simpa using hl) hw hk
theorem heldIntSS_loop : ∀ (l : List (List Int)) (P : List (List Da)) (k : Nat), P.length + l.length ≤ 100000000 → (∀ w ∈ l, w.length ≤ 10000000) → k + mkNI l ≤ 281474976710656 → laws_heldIntSS_L2 (Z ((k + mkNI l : Nat) : Int)) [] (P ++ (mkII k l).map Wy.da) (k : Int) (P.length : Int)
  | [], P, k, _, _, _ => by
    apply laws_heldIntSS_L2_of
    exact ifB_f (decide_eq_false (by simp [mkII])) ⟨by simp [mkNI], rfl⟩
  | w :: r, P, k, hl, hw, hk => by
    rw [mkNI_cons] at hk ⊢
    simp only [List.length_cons] at hl
    have hw1 := hw w (by simp)
    have hm := heldIntS_call w k (by omega) (by omega)
    have ih := heldIntSS_loop r (P ++ [Wy.da (mkI k w)]) (k + w.length) (by simp; omega) (fun x hx => hw x (by simp [hx])) (by omega)
    have e4 : (P ++ [Wy.da (mkI k w)]).length = P.length + 1 := by simp
    rw [e4, List.append_assoc] at ih
    rw [show mkII k (w :: r) = mkI k w :: mkII (k + w.length) r from rfl, ← Nat.add_assoc]
    apply laws_heldIntSS_L2_of
    simp only [List.map_cons]
    have wp : IntKind.wrap .i64 ((P.length : Int) + 1) = ((P.length + 1 : Nat) : Int) := wrN (by omega) 1 (by omega)
    rw [wp]
    exact ifB_t (decide_eq_true (by simp; omega)) ⟨P.length, rfl, _, get_mid, _, hm, ifB_f (decide_eq_false (by omega)) ih⟩
theorem heldIntSS_call (l : List (List Int)) (k : Nat) (hl : l.length ≤ 100000000) (hw : ∀ w ∈ l, w.length ≤ 10000000) (hk : k + mkNI l ≤ 281474976710656) : XC Try.prog 23 [L ((mkII k l).map Wy.da), Z (k : Int)] [] (Z ((k + mkNI l : Nat) : Int)) [] := by
  apply laws_heldIntSS_of
  simpa using heldIntSS_loop l [] k (by simpa using hl) hw hk
theorem laws_FnExactPlaces_law (t : Tm) (kt : t.ok) : XC Try.prog 3 [.dat t.da] [] (B true) [] := by
  have s0 := szTerm_call t 1048576 (by omega) (by omega)
  rcases Int.lt_or_le (lft t.cn 1048576) 0 with g0 | g0
  · obtain ⟨f, v, ks⟩ := t
    apply laws_FnExactPlaces_of
    exact ⟨_, s0, ifB_t (decide_eq_true g0) ⟨rfl, rfl⟩⟩
  have q0 := lft_ok g0
  have hc : t.cn ≤ 1048576 := by omega
  have t0 := toTermO_call t hc
  have c1 := specPlaces_call t hc
  have c2 := implPlaces_call t hc
  have e0 := eqTerm_call t
  have hl := t.plc_len
  have hw := t.plc_way
  have hw2 : ∀ w ∈ t.plc, w.length ≤ 10000000 := fun w h => by have := hw w h; omega
  have hN : mkNI t.plc ≤ 1048577 * 1048576 := Nat.le_trans (mkNI_le 1048576 _ fun w h => by have := hw w h; omega) (Nat.mul_le_mul_right _ (by omega))
  have ei := eqIntSS_call t.plc (by omega)
  have m0 := markTerm_call t 1 (by omega)
  have mi := markIntSS_call t.plc 1 (by omega) hw2 (by omega)
  have hd := heldIntSS_call t.plc 1 (by omega) hw2 (by omega)
  obtain ⟨f, v, ks⟩ := t
  apply laws_FnExactPlaces_of
  exact ⟨_, s0, ifB_f (decide_eq_false (Int.not_lt.2 g0)) ⟨_, _, _, t0, _, c1, _, _, _, t0, _, c2, _, ei, ifB_f rfl ⟨_, _, _, t0, _, e0, ifB_f rfl ⟨_, _, m0, ifB_f (decide_eq_false (by omega)) ⟨_, ei, ifB_f rfl ⟨_, _, mi, _, hd, ifB_f (decide_eq_false (by omega)) (ifB_f (by simp) ⟨_, _, _, t0, _, c2, _, ei, ifB_f rfl ⟨_, hd, ifB_f (decide_eq_false (by omega)) (ifB_f (by simp) ⟨rfl, rfl⟩)⟩⟩)⟩⟩⟩⟩⟩⟩

end AM
end Go.Proofs.Ytflfopedammhoaa
