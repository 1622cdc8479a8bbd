/- Contracts of functions of the program, out of what their texts ask; no conditions. -/
import Derived.Test.YtflfopedammhoaaHl
import Derived.Test.YtflfopedammhoaaDt
import Derived.Test.YtflfopedammhoaaHr
set_option linter.unusedVariables false
set_option linter.unusedSimpArgs false
set_option maxRecDepth 100000
namespace Go.Proofs.Ytflfopedammhoaa
namespace AM
open Go Go.ChangeShapes Go.WideShapes Go.RowKit

theorem szIntS_call (l : List Int) (m : Int) (h0 : 0 ≤ m) (h1 : m ≤ 1048576) : XC Try.prog 181 [L (l.map In.da), Z m] [] (Z (lft l.length m)) [] := by
  refine xc_fit fun hfit => ?_
  have hlen : l.length ≤ 281474976710656 := by have := hfit.one.len; simpa using this
  apply laws_szIntS_of
  rw [List.length_map]
  exact ifB_d (fun h => zw (lft_w h0 h1 hlen h)) fun h => zw (lft_w2 h0 h1 hlen h)
theorem szSym_call (x : Sy) (m : Int) (h0 : 0 ≤ m) (h1 : m ≤ 1048576) : XC Try.prog 88 [.dat x.da, Z m] [] (Z (lft x.cn m)) [] := by
  refine xc_fit fun hfit => ?_
  have hlen : x.nm.size ≤ 281474976710656 := hfit.dat.str
  apply laws_szSym_of
  exact ifB_d (fun h => zw (lft_w h0 h1 hlen h)) fun h => zw (lft_w2 h0 h1 hlen h)
theorem eqSym_call (x : Sy) : XC Try.prog 96 [.dat x.da, .dat x.da] [] (B true) [] := by
  apply laws_eqSym_of
  exact ifB_f ne_decS (ifB_f ne_decF (ifB_f ne_decB ⟨rfl, rfl⟩))
theorem szSymS_call (l : List Sy) (left : Int) (h0 : 0 ≤ left) (h1 : left ≤ 1048576) : XC Try.prog 24 [L (l.map Sy.da), Z left] [] (Z (lft (cnL Sy.cn l) left)) [] := by
  refine xc_fit fun hfit => ?_
  have hlen : l.length ≤ 281474976710656 := by have := hfit.one.len; simpa using this
  apply laws_szSymS_of
  rw [List.length_map, wrI (by omega) (by omega)]
  refine ifB_d (fun h => ⟨?_, rfl⟩) fun h => ?_
  · rw [lft, if_pos (by have := cnL_len Sy.cn l; omega)]
  · have key := loopUp (p := fun i => ∀ m : Int, 0 ≤ m → m ≤ 1048576 → laws_szSymS_L5 (Z (lft ((l.drop i).map Sy.cn).sum m)) [] (l.map Sy.da) m (i : Int)) l.length ?_ ?_ 0 (Nat.zero_le _)
    · have := key (left - l.length) (by omega) (by omega)
      have e : lft ((l.drop 0).map Sy.cn).sum (left - l.length) = lft (cnL Sy.cn l) left := by
        rw [List.drop_zero, cnL]; unfold lft; split <;> split <;> omega
      rw [e] at this
      exact this
    · intro m hm0 hm1
      apply laws_szSymS_L5_of
      refine ifB_f (lt_decF (by simp)) ⟨?_, rfl⟩
      simp [lft]; omega
    · intro i hi ih m hm0 hm1
      obtain ⟨x, hx⟩ := get_ex hi
      have hx1 := get_map (g := Sy.da) hx
      have hxc := szSym_call x m hm0 hm1
      have hdr : ((l.drop i).map Sy.cn).sum = Sy.cn x + ((l.drop (i + 1)).map Sy.cn).sum := by
        obtain ⟨hl, e⟩ := List.getElem?_eq_some_iff.1 hx
        rw [List.drop_eq_getElem_cons hl, e]; simp
      have hle := lft_le (n := Sy.cn x) (l := m) (by omega)
      rw [hdr]
      generalize Sy.cn x = cx at *
      obtain ⟨nm, ar, ac⟩ := x
      apply laws_szSymS_L5_of
      refine ifB_t (lt_dec (by simpa using hi)) ⟨i, rfl, _, _, _, hx1, _, hxc, ?_⟩
      refine ifB_d (fun h => ⟨?_, rfl⟩) fun h => ?_
      · have := lft_neg h hm0
        rw [show lft (cx + ((l.drop (i + 1)).map Sy.cn).sum) m = -1 by unfold lft at h ⊢; split at h <;> split <;> omega]
      · rw [wr1 hi hlen, ← lft_lft (by omega)]
        exact ih _ (by omega) (by omega)
theorem eqSymS_call (l : List Sy) : XC Try.prog 31 [L (l.map Sy.da), L (l.map Sy.da)] [] (B true) [] := by
  refine xc_fit fun hfit => ?_
  have hlen : l.length ≤ 281474976710656 := by have := hfit.one.len; simpa using this
  apply laws_eqSymS_of
  refine ifB_f ne_decF ?_
  refine loopUp (p := fun i => laws_eqSymS_L4 (B true) [] (l.map Sy.da) (l.map Sy.da) (i : Int)) l.length ?_ (fun i hi ih => ?_) 0 (Nat.zero_le _)
  · apply laws_eqSymS_L4_of
    exact ifB_f (lt_decF (by simp)) ⟨rfl, rfl⟩
  · obtain ⟨x, hx⟩ := get_ex hi
    have hx1 := get_map (g := Sy.da) hx
    have hxc := eqSym_call x
    obtain ⟨nm, ar, ac⟩ := x
    apply laws_eqSymS_L4_of
    refine ifB_t (lt_dec (by simpa using hi)) ⟨i, rfl, _, _, _, hx1, i, rfl, _, _, _, hx1, _, hxc, ifB_f rfl ?_⟩
    rw [wr1 hi hlen]
    exact ih
theorem szBind_call (x : Bd) (m : Int) (h0 : 0 ≤ m) (h1 : m ≤ 1048576) : XC Try.prog 129 [.dat x.da, Z m] [] (Z (lft x.cn m)) [] := by
  obtain ⟨v, ⟨f, u, ks⟩⟩ := x
  apply laws_szBind_of
  exact ⟨_, szTerm_call (.mk f u ks) m h0 h1, ifB_d (fun h => zw (lft_lt0 h h0)) fun _ => ⟨rfl, rfl⟩⟩
theorem eqBind_call (x : Bd) : XC Try.prog 133 [.dat x.da, .dat x.da] [] (B true) [] := by
  obtain ⟨v, ⟨f, u, ks⟩⟩ := x
  apply laws_eqBind_of
  exact ifB_f ne_decF ⟨_, eqTerm_call (.mk f u ks), ifB_f rfl ⟨rfl, rfl⟩⟩
theorem szBindS_call (l : List Bd) (left : Int) (h0 : 0 ≤ left) (h1 : left ≤ 1048576) : XC Try.prog 58 [L (l.map Bd.da), Z left] [] (Z (lft (cnL Bd.cn l) left)) [] := by
  refine xc_fit fun hfit => ?_
  have hlen : l.length ≤ 281474976710656 := by have := hfit.one.len; simpa using this
  apply laws_szBindS_of
  rw [List.length_map, wrI (by omega) (by omega)]
  refine ifB_d (fun h => ⟨?_, rfl⟩) fun h => ?_
  · rw [lft, if_pos (by have := cnL_len Bd.cn l; omega)]
  · have key := loopUp (p := fun i => ∀ m : Int, 0 ≤ m → m ≤ 1048576 → laws_szBindS_L5 (Z (lft ((l.drop i).map Bd.cn).sum m)) [] (l.map Bd.da) m (i : Int)) l.length ?_ ?_ 0 (Nat.zero_le _)
    · have := key (left - l.length) (by omega) (by omega)
      have e : lft ((l.drop 0).map Bd.cn).sum (left - l.length) = lft (cnL Bd.cn l) left := by
        rw [List.drop_zero, cnL]; unfold lft; split <;> split <;> omega
      rw [e] at this
      exact this
    · intro m hm0 hm1
      apply laws_szBindS_L5_of
      refine ifB_f (lt_decF (by simp)) ⟨?_, rfl⟩
      simp [lft]; omega
    · intro i hi ih m hm0 hm1
      obtain ⟨x, hx⟩ := get_ex hi
      have hx1 := get_map (g := Bd.da) hx
      have hxc := szBind_call x m hm0 hm1
      have hdr : ((l.drop i).map Bd.cn).sum = Bd.cn x + ((l.drop (i + 1)).map Bd.cn).sum := by
        obtain ⟨hl, e⟩ := List.getElem?_eq_some_iff.1 hx
        rw [List.drop_eq_getElem_cons hl, e]; simp
      have hle := lft_le (n := Bd.cn x) (l := m) (by omega)
      rw [hdr]
      generalize Bd.cn x = cx at *
      obtain ⟨v, ⟨f, u, ks⟩⟩ := x
      apply laws_szBindS_L5_of
      refine ifB_t (lt_dec (by simpa using hi)) ⟨i, rfl, _, _, _, _, hx1, _, hxc, ?_⟩
      refine ifB_d (fun h => ⟨?_, rfl⟩) fun h => ?_
      · have := lft_neg h hm0
        rw [show lft (cx + ((l.drop (i + 1)).map Bd.cn).sum) m = -1 by unfold lft at h ⊢; split at h <;> split <;> omega]
      · rw [wr1 hi hlen, ← lft_lft (by omega)]
        exact ih _ (by omega) (by omega)
theorem eqBindS_call (l : List Bd) : XC Try.prog 64 [L (l.map Bd.da), L (l.map Bd.da)] [] (B true) [] := by
  refine xc_fit fun hfit => ?_
  have hlen : l.length ≤ 281474976710656 := by have := hfit.one.len; simpa using this
  apply laws_eqBindS_of
  refine ifB_f ne_decF ?_
  refine loopUp (p := fun i => laws_eqBindS_L4 (B true) [] (l.map Bd.da) (l.map Bd.da) (i : Int)) l.length ?_ (fun i hi ih => ?_) 0 (Nat.zero_le _)
  · apply laws_eqBindS_L4_of
    exact ifB_f (lt_decF (by simp)) ⟨rfl, rfl⟩
  · obtain ⟨x, hx⟩ := get_ex hi
    have hx1 := get_map (g := Bd.da) hx
    have hxc := eqBind_call x
    obtain ⟨v, ⟨f, u, ks⟩⟩ := x
    apply laws_eqBindS_L4_of
    refine ifB_t (lt_dec (by simpa using hi)) ⟨i, rfl, _, _, _, _, hx1, i, rfl, _, _, _, _, hx1, _, hxc, ifB_f rfl ?_⟩
    rw [wr1 hi hlen]
    exact ih
theorem szRule_call (x : Ru) (m : Int) (h0 : 0 ≤ m) (h1 : m ≤ 1048576) : XC Try.prog 49 [.dat x.da, Z m] [] (Z (lft x.cn m)) [] := by
  obtain ⟨⟨f, u, ks⟩, ⟨g, v, ms⟩⟩ := x
  apply laws_szRule_of
  have hle := lft_le (n := Tm.cn (.mk f u ks)) (l := m) (by omega)
  refine ⟨_, szTerm_call (.mk f u ks) m h0 h1, ifB_d (fun h => zw (lft_lt h h0)) fun h => ⟨_, szTerm_call (.mk g v ms) _ (by omega) (by omega), ifB_d (fun h2 => zw ?_) fun h2 => zw ?_⟩⟩
  · have := lft_lt0 h2 (by omega); rw [lft_lft (by omega)] at this; exact this
  · rw [lft_lft (by omega)]; rfl
theorem eqRule_call (x : Ru) : XC Try.prog 53 [.dat x.da, .dat x.da] [] (B true) [] := by
  obtain ⟨⟨f, u, ks⟩, ⟨g, v, ms⟩⟩ := x
  apply laws_eqRule_of
  exact ⟨_, eqTerm_call (.mk f u ks), ifB_f rfl ⟨_, eqTerm_call (.mk g v ms), ifB_f rfl ⟨rfl, rfl⟩⟩⟩
theorem szStep_call (x : Sp) (m : Int) (h0 : 0 ≤ m) (h1 : m ≤ 1048576) : XC Try.prog 140 [.dat x.da, Z m] [] (Z (lft x.cn m)) [] := by
  have l1 := lft_le (n := x.way.length) (l := m) (by omega)
  have e : x.cn = x.way.length + (cnL Bd.cn x.sub + x.cl.cn) := by unfold Sp.cn; omega
  rw [e]
  apply laws_szStep_of
  refine ⟨_, szIntS_call x.way m h0 h1, ifB_d (fun h => zw (lft_lt h h0)) fun h => ?_⟩
  rw [← lft_lft (by omega)]
  generalize lft x.way.length m = m1 at *
  have l2 := lft_le (n := cnL Bd.cn x.sub) (l := m1) (by omega)
  refine ⟨_, szBindS_call x.sub m1 (by omega) (by omega), ifB_d (fun h => zw (lft_lt h (by omega))) fun h => ?_⟩
  rw [← lft_lft (by omega)]
  generalize lft (cnL Bd.cn x.sub) m1 = m2 at *
  exact ⟨_, szClause_call x.cl m2 (by omega) (by omega), ifB_d (fun h => zw (lft_lt0 h (by omega))) fun h => ⟨rfl, rfl⟩⟩
theorem eqStep_call (x : Sp) : XC Try.prog 147 [.dat x.da, .dat x.da] [] (B true) [] := by
  apply laws_eqStep_of
  exact ifB_f ne_decF (ifB_f ne_decF (ifB_f ne_decF (ifB_f ne_decF (ifB_f ne_decF (ifB_f ne_decB (ifB_f ne_decB ⟨_, eqIntS_call x.way, ifB_f rfl (ifB_f ne_decB ⟨_, eqBindS_call x.sub, ifB_f rfl ⟨_, eqClause_call x.cl, ifB_f rfl ⟨rfl, rfl⟩⟩⟩)⟩))))))
theorem szStepS_call (l : List Sp) (left : Int) (h0 : 0 ≤ left) (h1 : left ≤ 1048576) : XC Try.prog 72 [L (l.map Sp.da), Z left] [] (Z (lft (cnL Sp.cn l) left)) [] := by
  refine xc_fit fun hfit => ?_
  have hlen : l.length ≤ 281474976710656 := by have := hfit.one.len; simpa using this
  apply laws_szStepS_of
  rw [List.length_map, wrI (by omega) (by omega)]
  refine ifB_d (fun h => ⟨?_, rfl⟩) fun h => ?_
  · rw [lft, if_pos (by have := cnL_len Sp.cn l; omega)]
  · have key := loopUp (p := fun i => ∀ m : Int, 0 ≤ m → m ≤ 1048576 → laws_szStepS_L5 (Z (lft ((l.drop i).map Sp.cn).sum m)) [] (l.map Sp.da) m (i : Int)) l.length ?_ ?_ 0 (Nat.zero_le _)
    · have := key (left - l.length) (by omega) (by omega)
      have e : lft ((l.drop 0).map Sp.cn).sum (left - l.length) = lft (cnL Sp.cn l) left := by
        rw [List.drop_zero, cnL]; unfold lft; split <;> split <;> omega
      rw [e] at this
      exact this
    · intro m hm0 hm1
      apply laws_szStepS_L5_of
      refine ifB_f (lt_decF (by simp)) ⟨?_, rfl⟩
      simp [lft]; omega
    · intro i hi ih m hm0 hm1
      obtain ⟨x, hx⟩ := get_ex hi
      have hx1 := get_map (g := Sp.da) hx
      have hxc := szStep_call x m hm0 hm1
      have hdr : ((l.drop i).map Sp.cn).sum = Sp.cn x + ((l.drop (i + 1)).map Sp.cn).sum := by
        obtain ⟨hl, e⟩ := List.getElem?_eq_some_iff.1 hx
        rw [List.drop_eq_getElem_cons hl, e]; simp
      have hle := lft_le (n := Sp.cn x) (l := m) (by omega)
      rw [hdr]
      generalize Sp.cn x = cx at *
      obtain ⟨kd, a, b, i2, k2, lf, sd, wy, ex, sb, ⟨ls⟩⟩ := x
      apply laws_szStepS_L5_of
      refine ifB_t (lt_dec (by simpa using hi)) ⟨i, rfl, _, _, _, _, _, _, _, _, _, _, _, hx1, _, hxc, ?_⟩
      refine ifB_d (fun h => ⟨?_, rfl⟩) fun h => ?_
      · have := lft_neg h hm0
        rw [show lft (cx + ((l.drop (i + 1)).map Sp.cn).sum) m = -1 by unfold lft at h ⊢; split at h <;> split <;> omega]
      · rw [wr1 hi hlen, ← lft_lft (by omega)]
        exact ih _ (by omega) (by omega)
theorem eqStepS_call (l : List Sp) : XC Try.prog 76 [L (l.map Sp.da), L (l.map Sp.da)] [] (B true) [] := by
  refine xc_fit fun hfit => ?_
  have hlen : l.length ≤ 281474976710656 := by have := hfit.one.len; simpa using this
  apply laws_eqStepS_of
  refine ifB_f ne_decF ?_
  refine loopUp (p := fun i => laws_eqStepS_L4 (B true) [] (l.map Sp.da) (l.map Sp.da) (i : Int)) l.length ?_ (fun i hi ih => ?_) 0 (Nat.zero_le _)
  · apply laws_eqStepS_L4_of
    exact ifB_f (lt_decF (by simp)) ⟨rfl, rfl⟩
  · obtain ⟨x, hx⟩ := get_ex hi
    have hx1 := get_map (g := Sp.da) hx
    have hxc := eqStep_call x
    obtain ⟨kd, a, b, i2, k2, lf, sd, wy, ex, sb, ⟨ls⟩⟩ := x
    apply laws_eqStepS_L4_of
    refine ifB_t (lt_dec (by simpa using hi)) ⟨i, rfl, _, _, _, _, _, _, _, _, _, _, _, hx1, i, rfl, _, _, _, _, _, _, _, _, _, _, _, hx1, _, hxc, ifB_f rfl ?_⟩
    rw [wr1 hi hlen]
    exact ih
theorem drop_cons {α : Type} {l : List α} {i : Nat} {x : α} (h : l[i]? = some x) : l.drop i = x :: l.drop (i + 1) := by
  obtain ⟨hl, e⟩ := List.getElem?_eq_some_iff.1 h
  rw [List.drop_eq_getElem_cons hl, e]
theorem drop_end {α : Type} {l : List α} : l.drop l.length = [] := by simp
theorem bF {b : Bool} (h : ¬ b = true) : B false = B b ∧ ([] : List (Nat × Ob)) = [] := ⟨by rw [Bool.eq_false_iff.2 h], rfl⟩
theorem bE {a b : Bool} (h : a = b) : B a = B b ∧ ([] : List (Nat × Ob)) = [] := ⟨by rw [h], rfl⟩
theorem bT {b : Bool} (h : b = true) : B true = B b ∧ ([] : List (Nat × Ob)) = [] := ⟨by rw [h], rfl⟩
theorem ne_i {a b : Int} (h : ¬ a ≠ b) : a = b := by omega
theorem ne_n {a b : Nat} (h : ¬ (a : Int) ≠ (b : Int)) : a = b := by omega
theorem wrM {k : Nat} (h : 0 < k) (hk : k ≤ 281474976710656) : IntKind.wrap .i64 ((k : Int) - 1) = ((k - 1 : Nat) : Int) := by
  rw [wrI (by omega) (by omega)]; omega
/-- One pair of numbers behind another one. -/
def cmp3 (x y : Int) (r : Int) : Int := if x < y then -1 else if x > y then 1 else r
theorem cmp3_zero {x y r : Int} : cmp3 x y r = 0 ↔ x = y ∧ r = 0 := by
  unfold cmp3
  split
  · omega
  · split <;> omega
theorem cmp3_lt {x y r : Int} (h : x ≠ y) : decide (x < y) = decide (cmp3 x y r < 0) := by
  unfold cmp3
  split
  · simp [*]
  · split
    · simp; omega
    · omega
theorem cmp3_eq {x y r : Int} (h : x = y) : cmp3 x y r = r := by unfold cmp3; simp [h]
mutual
/-- The order of terms. -/
def Tm.cmp : Tm → Tm → Int
  | .mk f v ks, .mk g u ls => cmp3 f g (cmp3 v u (cmp3 ks.length ls.length (Tm.cmps ks ls)))
def Tm.cmps : List Tm → List Tm → Int
  | t :: r, u :: s => if Tm.cmp t u = 0 then Tm.cmps r s else Tm.cmp t u
  | _, _ => 0
end
theorem Tm.cmp_mk {f v g u : Int} {ks ls : List Tm} : Tm.cmp (.mk f v ks) (.mk g u ls) = cmp3 f g (cmp3 v u (cmp3 ks.length ls.length (Tm.cmps ks ls))) := rfl
theorem Tm.cmp0 {f v g u : Int} {ks ls : List Tm} : Tm.cmp (.mk f v ks) (.mk g u ls) = 0 ↔ f = g ∧ v = u ∧ ks.length = ls.length ∧ Tm.cmps ks ls = 0 := by
  rw [Tm.cmp_mk, cmp3_zero, cmp3_zero, cmp3_zero]; omega
theorem Tm.cmps_nil : Tm.cmps [] [] = 0 := by simp [Tm.cmps]
theorem Tm.cmps_cons {t u : Tm} {r s : List Tm} : Tm.cmps (t :: r) (u :: s) = if Tm.cmp t u = 0 then Tm.cmps r s else Tm.cmp t u := by simp [Tm.cmps]
theorem Tm.cmps_end {ks ls : List Tm} (h : ks.length = ls.length) : Tm.cmps (ks.drop ks.length) (ls.drop ks.length) = 0 := by
  rw [drop_end, h, drop_end, Tm.cmps_nil]
/-- The order of literals. -/
def Li.cmp (a b : Li) : Int := if a.p = b.p then (if Tm.cmp a.l b.l = 0 then Tm.cmp a.r b.r else Tm.cmp a.l b.l) else if b.p then -1 else 1
def inR (x lo hi : Int) : Bool := decide (lo ≤ x) && decide (x ≤ hi)
theorem l1In_call (x lo hi : Int) : XC Try.prog 141 [Z x, Z lo, Z hi] [] (B (inR x lo hi)) [] := by
  apply spec_l1In_of
  exact ifB_d (fun h => bE (by simp [inR, h])) fun h => bE (by simp [inR, h])
theorem from_call (x lo hi : Int) : XC Try.prog 145 [Z x, Z lo, Z hi] [] (B (inR x lo hi)) [] := by
  apply impl_from_of
  exact ifB_d (fun h => bE (by simp [inR, h])) fun h => bE (by simp [inR, h])
theorem isVar_call (t : Tm) : XC Try.prog 85 [.dat t.da] [] (B (decide (t.f = -1))) [] := by
  obtain ⟨f, v, ks⟩ := t
  apply impl_isVar_of
  exact ⟨rfl, rfl⟩
theorem termSame_call (a b : Tm) : XC Try.prog 89 [.dat a.da, .dat b.da] [] (B (decide (Tm.cmp a b = 0))) [] := by
  induction a using Tm.ind generalizing b with
  | h f v ks ih =>
  obtain ⟨g, u, ls⟩ := b
  refine xc_fit fun hfit => ?_
  have hlen : ks.length ≤ 281474976710656 := by have := hfit.dat.tail.tail.len; rwa [das_len] at this
  apply spec_TermSame_of
  rw [das_len, das_len]
  refine ifB_d (fun h => bF (by simp [Tm.cmp0]; omega)) fun h1 => ifB_d (fun h => bF (by simp [Tm.cmp0]; omega)) fun h2 => ifB_d (fun h => bF (by simp [Tm.cmp0]; omega)) fun h3 => ?_
  have h1 := ne_i h1; have h2 := ne_i h2; have h3 := ne_n h3
  have key := loopUp (p := fun i => spec_TermSame_L4 (B (decide (Tm.cmps (ks.drop i) (ls.drop i) = 0))) [] (i : Int) f v (Tm.das ks) g u (Tm.das ls)) ks.length ?_ (fun i hi ihl => ?_) 0 (Nat.zero_le _)
  · have e : decide (Tm.cmp (.mk f v ks) (.mk g u ls) = 0) = decide (Tm.cmps (ks.drop 0) (ls.drop 0) = 0) := by
      simp [Tm.cmp0, h1, h2, h3]
    rw [e]; exact key
  · apply spec_TermSame_L4_of
    exact ifB_f (lt_decF (by rw [das_len]; exact Nat.le_refl _)) (bT (by rw [Tm.cmps_end h3]; rfl))
  · obtain ⟨x, hx⟩ := get_ex hi
    obtain ⟨y, hy⟩ := get_ex (l := ls) (i := i) (by omega)
    have hx1 := get_das hx
    have hy1 := get_das hy
    have hxy := ih x (List.mem_of_getElem? hx) y
    rw [drop_cons hx, drop_cons hy, Tm.cmps_cons]
    obtain ⟨f', v', ks'⟩ := x
    obtain ⟨g', u', ls'⟩ := y
    apply spec_TermSame_L4_of
    refine ifB_t (lt_dec (by rwa [das_len])) ⟨i, rfl, _, _, _, hx1, i, rfl, _, _, _, hy1, _, hxy, ifB_of (fun h => bF ?_) fun h => ?_⟩
    · simp at h; simp [h]
    · simp at h
      rw [wr1 hi hlen, if_pos h]
      exact ihl
theorem before_call (a b : Tm) : XC Try.prog 104 [.dat a.da, .dat b.da] [] (B (decide (Tm.cmp a b < 0))) [] := by
  induction a using Tm.ind generalizing b with
  | h f v ks ih =>
  obtain ⟨g, u, ls⟩ := b
  refine xc_fit fun hfit => ?_
  have hlen : ks.length ≤ 281474976710656 := by have := hfit.dat.tail.tail.len; rwa [das_len] at this
  apply spec_Before_of
  rw [das_len, das_len, Tm.cmp_mk]
  refine ifB_d (fun h => bE (cmp3_lt h)) fun h1 => ?_
  rw [cmp3_eq (ne_i h1)]
  refine ifB_d (fun h => bE (cmp3_lt h)) fun h2 => ?_
  rw [cmp3_eq (ne_i h2)]
  refine ifB_d (fun h => bE (cmp3_lt h)) fun h3 => ?_
  rw [cmp3_eq (ne_i h3)]
  have h3 := ne_n h3
  have key := loopUp (p := fun i => spec_Before_L8 (B (decide (Tm.cmps (ks.drop i) (ls.drop i) < 0))) [] (i : Int) f v (Tm.das ks) g u (Tm.das ls)) ks.length ?_ (fun i hi ihl => ?_) 0 (Nat.zero_le _)
  · exact key
  · apply spec_Before_L8_of
    exact ifB_f (lt_decF (by rw [das_len]; exact Nat.le_refl _)) (bF (by rw [Tm.cmps_end h3]; simp))
  · obtain ⟨x, hx⟩ := get_ex hi
    obtain ⟨y, hy⟩ := get_ex (l := ls) (i := i) (by omega)
    have hx1 := get_das hx
    have hy1 := get_das hy
    have hxy := ih x (List.mem_of_getElem? hx) y
    have hs := termSame_call x y
    rw [drop_cons hx, drop_cons hy, Tm.cmps_cons]
    obtain ⟨f', v', ks'⟩ := x
    obtain ⟨g', u', ls'⟩ := y
    apply spec_Before_L8_of
    refine ifB_t (lt_dec (by rwa [das_len])) ⟨i, rfl, _, _, _, hx1, i, rfl, _, _, _, hy1, _, hs, ifB_of (fun h => ⟨i, rfl, _, _, _, hx1, i, rfl, _, _, _, hy1, _, hxy, bE ?_⟩) fun h => ?_⟩
    · simp at h; simp [h]
    · simp at h
      rw [wr1 hi hlen, if_pos h]
      exact ihl
theorem compare_call (a b : Tm) : XC Try.prog 155 [.dat a.da, .dat b.da] [] (Z (Tm.cmp a b)) [] := by
  induction a using Tm.ind generalizing b with
  | h f v ks ih =>
  obtain ⟨g, u, ls⟩ := b
  refine xc_fit fun hfit => ?_
  have hlen : ks.length ≤ 281474976710656 := by have := hfit.dat.tail.tail.len; rwa [das_len] at this
  apply impl_compare_of
  rw [das_len, das_len, Tm.cmp_mk]
  apply impl_compare_L2_of
  refine ifB_t rfl ⟨0, rfl, ⟨by simp⟩, 0, rfl, _, _, rfl, ?_⟩
  refine ifB_d (fun h => ⟨by simp [cmp3, h], rfl⟩) fun h1 => ifB_d (fun h => ⟨by unfold cmp3; rw [if_neg (by omega), if_pos (by omega)], rfl⟩) fun h2 => ?_
  rw [cmp3_eq (by omega)]
  apply impl_compare_L2_of
  refine ifB_t rfl ⟨1, rfl, ⟨by simp⟩, 1, rfl, _, _, rfl, ?_⟩
  refine ifB_d (fun h => ⟨by simp [cmp3, h], rfl⟩) fun h3 => ifB_d (fun h => ⟨by unfold cmp3; rw [if_neg (by omega), if_pos (by omega)], rfl⟩) fun h4 => ?_
  rw [cmp3_eq (by omega)]
  apply impl_compare_L2_of
  refine ifB_t rfl ⟨2, rfl, ⟨by simp⟩, 2, rfl, _, _, rfl, ?_⟩
  refine ifB_d (fun h => ⟨by simp only [cmp3, if_pos h], rfl⟩) fun h5 => ifB_d (fun h => ⟨by unfold cmp3; rw [if_neg (by omega), if_pos (by omega)], rfl⟩) fun h6 => ?_
  rw [cmp3_eq (by omega)]
  apply impl_compare_L2_of
  refine ifB_f rfl ?_
  have hl : ks.length = ls.length := by omega
  rw [das_len]
  have key := loopUp (p := fun i => impl_compare_L10 (Z (Tm.cmps (ks.drop i) (ls.drop i))) [] (ks.length : Int) (i : Int) f v (Tm.das ks) g u (Tm.das ls)) ks.length ?_ (fun i hi ihl => ?_) 0 (Nat.zero_le _)
  · exact key
  · apply impl_compare_L10_of
    exact ifB_f (lt_decF (Nat.le_refl _)) ⟨by rw [Tm.cmps_end hl], rfl⟩
  · obtain ⟨x, hx⟩ := get_ex hi
    obtain ⟨y, hy⟩ := get_ex (l := ls) (i := i) (by omega)
    have hx1 := get_das hx
    have hy1 := get_das hy
    have hxy := ih x (List.mem_of_getElem? hx) y
    rw [drop_cons hx, drop_cons hy, Tm.cmps_cons]
    obtain ⟨f', v', ks'⟩ := x
    obtain ⟨g', u', ls'⟩ := y
    apply impl_compare_L10_of
    refine ifB_t (lt_dec hi) ⟨i, rfl, _, _, _, hx1, i, rfl, _, _, _, hy1, _, hxy, ifB_d (fun h => ⟨by rw [if_neg h], rfl⟩) fun h => ?_⟩
    rw [wr1 hi hlen, if_pos (by omega)]
    exact ihl
theorem implBefore_call (a b : Tm) : XC Try.prog 106 [.dat a.da, .dat b.da] [] (B (decide (Tm.cmp a b < 0))) [] := by
  have h := compare_call a b
  obtain ⟨f, v, ks⟩ := a; obtain ⟨g, u, ls⟩ := b
  apply impl_Before_of
  exact ⟨_, h, rfl, rfl⟩
theorem implTermSame_call (a b : Tm) : XC Try.prog 95 [.dat a.da, .dat b.da] [] (B (decide (Tm.cmp a b = 0))) [] := by
  have h := compare_call a b
  obtain ⟨f, v, ks⟩ := a; obtain ⟨g, u, ls⟩ := b
  apply impl_TermSame_of
  exact ⟨_, h, rfl, rfl⟩
open Classical in
/-- A proposition as a Bool. -/
noncomputable def dB (p : Prop) : Bool := decide p
theorem dB_t {p : Prop} (h : p) : B true = B (dB p) ∧ ([] : List (Nat × Ob)) = [] := ⟨by simp [dB, h], rfl⟩
theorem dB_f {p : Prop} (h : ¬ p) : B false = B (dB p) ∧ ([] : List (Nat × Ob)) = [] := ⟨by simp [dB, h], rfl⟩
theorem dB_e {p : Prop} {b : Bool} (h : b = true ↔ p) : B b = B (dB p) ∧ ([] : List (Nat × Ob)) = [] := ⟨by congr 1; rw [Bool.eq_iff_iff]; simp [dB, h], rfl⟩
theorem dB_true {p : Prop} : dB p = true ↔ p := by simp [dB]
theorem dB_false {p : Prop} : dB p = false ↔ ¬ p := by simp [dB]
theorem inR_t {x lo hi : Int} : inR x lo hi = true ↔ lo ≤ x ∧ x ≤ hi := by simp [inR]
theorem not_f {b : Bool} (h : (!b) = false) : b = true := by simpa using h
theorem not_t {b : Bool} (h : (!b) = true) : b = false := by simpa using h
def pSum (l : List Tm) : Nat := (l.map fun t => t.cn + 1).sum
theorem pSum_cns (l : List Tm) : pSum l = Tm.cns l := by
  induction l with
  | nil => rfl
  | cons t r ih => simp [pSum, Tm.cns] at ih ⊢; omega
theorem Tm.cn_mk {f v : Int} {ks : List Tm} : Tm.cn (.mk f v ks) = Tm.cns ks := by simp [Tm.cn]
theorem cn_kid {ks : List Tm} {i : Nat} {x : Tm} (h : ks[i]? = some x) : x.cn + ks.length ≤ Tm.cns ks := Tm.cns_cnL ks ▸ cnL_mem (cn := Tm.cn) (List.mem_of_getElem? h)
theorem cns_len (ks : List Tm) : ks.length ≤ Tm.cns ks := Tm.cns_cnL ks ▸ cnL_len Tm.cn ks
theorem specParts_call (t : Tm) (hc : t.cn ≤ 1048576) : XC Try.prog 171 [.dat t.da] [] (Z ((t.cn + 1 : Nat) : Int)) [] := by
  induction t using Tm.ind with
  | h f v ks ih =>
  rw [Tm.cn_mk] at hc ⊢
  have hl := cns_len ks
  apply spec_Parts_of
  have key := loopUp (p := fun i => ∀ n : Nat, n + pSum (ks.drop i) ≤ 1048577 → spec_Parts_L3 (Z ((n + pSum (ks.drop i) : Nat) : Int)) [] (n : Int) (i : Int) f v (Tm.das ks)) ks.length ?_ (fun i hi ihl => ?_) 0 (Nat.zero_le _)
  · have := key 1 (by rw [List.drop_zero, pSum_cns]; omega)
    rw [List.drop_zero, pSum_cns, Nat.add_comm] at this
    exact this
  · intro n hn
    apply spec_Parts_L3_of
    exact ifB_f (lt_decF (by rw [das_len]; exact Nat.le_refl _)) ⟨by rw [drop_end]; simp [pSum], rfl⟩
  · intro n hn
    obtain ⟨x, hx⟩ := get_ex hi
    have hx1 := get_das hx
    have hk := cn_kid hx
    have hxc := ih x (List.mem_of_getElem? hx) (by omega)
    have e : pSum (ks.drop i) = x.cn + 1 + pSum (ks.drop (i + 1)) := by rw [drop_cons hx]; simp [pSum]
    rw [e] at hn ⊢
    generalize x.cn = c at *
    obtain ⟨f', v', ks'⟩ := x
    apply spec_Parts_L3_of
    refine ifB_t (lt_dec (by rwa [das_len])) ⟨i, rfl, _, _, _, hx1, _, hxc, ?_⟩
    rw [wr1 hi (by omega), wrI (by omega) (by omega)]
    have := ihl (n + (c + 1)) (by omega)
    rw [Nat.add_assoc] at this
    exact this
theorem eachParts_call (t : Tm) (hc : t.cn ≤ 1048576) (n : Nat) (hn : n + t.cn + 1 ≤ 2097152) : XC Try.prog 157 [.dat t.da, .one (.clo 191 [(2000, 0)])] [(2000, .var [.d (.int .i64 (n : Int))])] (.tup []) [(2000, .var [.d (.int .i64 ((n + t.cn + 1 : Nat) : Int))])] := by
  induction t using Tm.ind generalizing n with
  | h f v ks ih =>
  rw [Tm.cn_mk] at hc hn ⊢
  have hl := cns_len ks
  apply impl_each_impl_Parts_1_of
  refine ⟨((n + 1 : Nat) : Int), impl_Parts_1_of ⟨rfl, by rw [wrI (by omega) (by omega)]; rfl⟩, ?_⟩
  have key := loopUp (p := fun i => ∀ m : Nat, m + pSum (ks.drop i) ≤ 2097152 → impl_each_impl_Parts_1_L3 (.tup []) [(2000, .var [.d (.int .i64 ((m + pSum (ks.drop i) : Nat) : Int))])] (Tm.das ks) (ks.length : Int) (i : Int) (m : Int)) ks.length ?_ (fun i hi ihl => ?_) 0 (Nat.zero_le _)
  · have := key (n + 1) (by rw [List.drop_zero, pSum_cns]; omega)
    rw [List.drop_zero, pSum_cns, show n + 1 + Tm.cns ks = n + Tm.cns ks + 1 by omega] at this
    rw [das_len]
    exact this
  · intro m hm
    apply impl_each_impl_Parts_1_L3_of
    exact ifB_f (lt_decF (Nat.le_refl _)) ⟨rfl, by rw [drop_end]; simp [pSum]⟩
  · intro m hm
    obtain ⟨x, hx⟩ := get_ex hi
    have hx1 := get_das hx
    have hk := cn_kid hx
    have e : pSum (ks.drop i) = x.cn + 1 + pSum (ks.drop (i + 1)) := by rw [drop_cons hx]; simp [pSum]
    rw [e] at hm ⊢
    have hxc := ih x (List.mem_of_getElem? hx) (by omega) m (by omega)
    generalize x.cn = c at *
    obtain ⟨f', v', ks'⟩ := x
    apply impl_each_impl_Parts_1_L3_of
    refine ifB_t (lt_dec hi) ⟨i, rfl, _, _, _, hx1, _, hxc, ?_⟩
    rw [wr1 hi (by omega)]
    have := ihl (m + c + 1) (by omega)
    rw [show m + c + 1 + pSum (ks.drop (i + 1)) = m + (c + 1 + pSum (ks.drop (i + 1))) by omega] at this
    exact this
theorem implParts_call (t : Tm) (hc : t.cn ≤ 1048576) : XC Try.prog 175 [.dat t.da] [] (Z ((t.cn + 1 : Nat) : Int)) [] := by
  have h := eachParts_call t hc 0 (by omega)
  rw [Nat.zero_add] at h
  obtain ⟨f, v, ks⟩ := t
  apply impl_Parts_of
  exact ⟨_, h, rfl, rfl⟩
def smB (c : UInt8) : Prop := 97 ≤ c.toNat ∧ c.toNat ≤ 122
def dgB (c : UInt8) : Prop := 48 ≤ c.toNat ∧ c.toNat ≤ 57
def nGood (s : ByteArray) (i : Nat) : Prop := ∀ c, s[i]? = some c → smB c ∨ (0 < i ∧ dgB c)
/-- A name. -/
def nOk (s : ByteArray) : Prop := (∀ i, i < s.size → nGood s i) ∧ 1 ≤ s.size ∧ s.size ≤ 8
theorem byte_ex {t : ByteArray} {i : Nat} (h : i < t.size) : ∃ b, t[i]? = some b := ⟨t[i], by simp [h]⟩
theorem byte_lt {t : ByteArray} {i : Nat} {b : UInt8} (h : t[i]? = some b) : i < t.size := by
  rcases Nat.lt_or_ge i t.size with h1 | h1
  · exact h1
  · simp [show ¬ i < t.size by omega] at h
theorem specNameOk_call (s : ByteArray) : XC Try.prog 187 [T s] [] (B (dB (nOk s))) [] := by
  refine xc_fit fun hfit => ?_
  have hlen : s.size ≤ 281474976710656 := hfit.one.str
  apply spec_NameOk_of
  have key := loopUp (p := fun i => (∀ j, j < i → nGood s j) → spec_NameOk_L2 (B (dB (nOk s))) [] s (i : Int)) s.size ?_ (fun i hi ihl => ?_) 0 (Nat.zero_le _)
  · exact key (by omega)
  · intro hall
    apply spec_NameOk_L2_of
    refine ifB_f (lt_decF (Nat.le_refl _)) ⟨_, l1In_call _ _ _, dB_e ?_⟩
    rw [inR_t]
    exact ⟨fun h => ⟨hall, by omega, by omega⟩, fun h => by have := h.2; omega⟩
  · intro hall
    obtain ⟨b, hb⟩ := byte_ex hi
    have good : nGood s i → spec_NameOk_L2 (B (dB (nOk s))) [] s (IntKind.wrap .i64 ((i : Int) + 1)) := fun h => by
      rw [wr1 hi hlen]
      exact ihl fun j hj => by
        rcases Nat.lt_succ_iff_lt_or_eq.1 hj with hj | rfl
        · exact hall j hj
        · exact h
    have bad : ¬ (smB b ∨ (0 < i ∧ dgB b)) → B false = B (dB (nOk s)) ∧ ([] : List (Nat × Ob)) = [] := fun h => dB_f fun hn => h (hn.1 i hi b hb)
    have rest : ¬ smB b → ifB (decide ((0 : Int) < (i : Int))) (∃ (n : Nat) (b1 : UInt8), (i : Int) = (n : Int) ∧ s[n]? = some b1 ∧ ifB (decide ((48 : Int) ≤ (b1.toNat : Int))) (∃ (n : Nat) (b2 : UInt8), (i : Int) = (n : Int) ∧ s[n]? = some b2 ∧ ifB (!decide ((b2.toNat : Int) ≤ 57)) (B false = B (dB (nOk s)) ∧ ([] : List (Nat × Ob)) = []) (spec_NameOk_L2 (B (dB (nOk s))) [] s (IntKind.wrap .i64 ((i : Int) + 1)))) (B false = B (dB (nOk s)) ∧ ([] : List (Nat × Ob)) = [])) (B false = B (dB (nOk s)) ∧ ([] : List (Nat × Ob)) = []) := by
      intro hns
      refine ifB_d (fun h0 => ⟨i, b, rfl, hb, ifB_d (fun h1 => ⟨i, b, rfl, hb, ifB_of (fun h2 => bad ?_) fun h2 => good ?_⟩) fun h1 => bad ?_⟩) fun h0 => bad ?_
      · have h2 := not_t h2; simp at h2; exact fun h => h.elim hns fun h => by have := h.2; unfold dgB at this; omega
      · have h2 := not_f h2; simp at h2; intro c hc; rw [hb] at hc; cases hc; right; unfold dgB; omega
      · exact fun h => h.elim hns fun h => by have := h.2; unfold dgB at this; omega
      · exact fun h => h.elim hns fun h => by omega
    apply spec_NameOk_L2_of
    refine ifB_t (lt_dec hi) ⟨i, b, rfl, hb, ifB_d (fun h0 => ⟨i, b, rfl, hb, ifB_d (fun h1 => good ?_) fun h1 => ?_⟩) fun h0 => ?_⟩
    · intro c hc; rw [hb] at hc; cases hc; unfold smB; omega
    · exact rest (by unfold smB; omega)
    · exact rest (by unfold smB; omega)
theorem isSmall_call (c : Int) : XC Try.prog 199 [I .u8 c] [] (B (inR c 97 122)) [] := by
  apply impl_isSmall_of
  exact ifB_d (fun h => bE (by simp [inR, h])) fun h => bE (by simp [inR, h])
theorem isDigit_call (c : Int) : XC Try.prog 200 [I .u8 c] [] (B (inR c 48 57)) [] := by
  apply impl_isDigit_of
  exact ifB_d (fun h => bE (by simp [inR, h])) fun h => bE (by simp [inR, h])
theorem implNameOk_call (s : ByteArray) : XC Try.prog 189 [T s] [] (B (dB (nOk s))) [] := by
  refine xc_fit fun hfit => ?_
  have hlen : s.size ≤ 281474976710656 := hfit.one.str
  apply impl_NameOk_of
  have key := loopUp (p := fun i => (∀ j, j < i → ∀ c, s[j]? = some c → smB c ∨ dgB c) → impl_NameOk_L2 (B (dB (nOk s))) [] s (s.size : Int) (i : Int)) s.size ?_ (fun i hi ihl => ?_) 0 (Nat.zero_le _)
  · exact key (by omega)
  · intro hall
    apply impl_NameOk_L2_of
    refine ifB_f (lt_decF (Nat.le_refl _)) ⟨_, from_call _ _ _, ifB_of (fun h => ?_) fun h => dB_f ?_⟩
    · rw [inR_t] at h
      obtain ⟨b, hb⟩ := byte_ex (t := s) (i := 0) (by omega)
      refine ⟨0, b, rfl, hb, _, isSmall_call _, dB_e ?_⟩
      rw [inR_t]
      constructor
      · intro h1
        refine ⟨fun i hi c hc => ?_, by omega, by omega⟩
        rcases Nat.eq_zero_or_pos i with rfl | hp
        · rw [hb] at hc; cases hc; left; unfold smB; omega
        · rcases hall i hi c hc with h | h
          · exact .inl h
          · exact .inr ⟨hp, h⟩
      · intro h1
        rcases h1.1 0 (by omega) b hb with h | h
        · unfold smB at h; omega
        · omega
    · intro hn
      have := hn.2
      rw [Bool.eq_false_iff, Ne, inR_t] at h
      omega
  · intro hall
    obtain ⟨b, hb⟩ := byte_ex hi
    have good : smB b ∨ dgB b → impl_NameOk_L2 (B (dB (nOk s))) [] s (s.size : Int) (IntKind.wrap .i64 ((i : Int) + 1)) := fun h => by
      rw [wr1 hi hlen]
      exact ihl fun j hj c hc => by
        rcases Nat.lt_succ_iff_lt_or_eq.1 hj with hj | rfl
        · exact hall j hj c hc
        · rw [hb] at hc; cases hc; exact h
    apply impl_NameOk_L2_of
    refine ifB_t (lt_dec hi) ⟨i, b, rfl, hb, _, isSmall_call _, ifB_of (fun h1 => ⟨i, b, rfl, hb, _, isDigit_call _, ifB_of (fun h2 => dB_f fun hn => ?_) fun h2 => good ?_⟩) fun h1 => good ?_⟩
    · have h1 := not_t h1
      have h2 := not_t h2
      rw [Bool.eq_false_iff, Ne, inR_t] at h1 h2
      rcases hn.1 i hi b hb with h | h
      · unfold smB at h; omega
      · unfold dgB at h; omega
    · have h2 := not_f h2
      rw [inR_t] at h2
      right; unfold dgB; omega
    · have h1 := not_f h1
      rw [inR_t] at h1
      left; unfold smB; omega
def symAt : List Sy → ByteArray → Nat → Int
  | [], _, _ => -1
  | x :: r, nm, i => if x.nm = nm then i else symAt r nm (i + 1)
theorem specSymOf_call (ss : List Sy) (nm : ByteArray) : XC Try.prog 188 [L (ss.map Sy.da), T nm] [] (Z (symAt ss nm 0)) [] := by
  refine xc_fit fun hfit => ?_
  have hlen : ss.length ≤ 281474976710656 := by have := hfit.one.len; simpa using this
  apply spec_SymOf_of
  have key := loopUp (p := fun i => spec_SymOf_L2 (Z (symAt (ss.drop i) nm i)) [] (ss.map Sy.da) nm (i : Int)) ss.length ?_ (fun i hi ihl => ?_) 0 (Nat.zero_le _)
  · exact key
  · apply spec_SymOf_L2_of
    exact ifB_f (lt_decF (by simp)) ⟨by rw [drop_end]; rfl, rfl⟩
  · obtain ⟨x, hx⟩ := get_ex hi
    have hx1 := get_map (g := Sy.da) hx
    rw [drop_cons hx]
    apply spec_SymOf_L2_of
    refine ifB_t (lt_dec (by simpa using hi)) ⟨i, rfl, _, _, _, hx1, ifB_d (fun h => ⟨by simp [symAt, h], rfl⟩) fun h => ?_⟩
    rw [wr1 hi hlen, symAt, if_neg h]
    exact ihl
theorem implSymOf_call (ss : List Sy) (nm : ByteArray) : XC Try.prog 190 [L (ss.map Sy.da), T nm] [] (Z (symAt ss nm 0)) [] := by
  refine xc_fit fun hfit => ?_
  have hlen : ss.length ≤ 281474976710656 := by have := hfit.one.len; simpa using this
  apply impl_SymOf_of
  refine ⟨_, nm, slices_IndexFunc_Sym_impl_SymOf_1_of ?_, rfl, rfl⟩
  rw [List.length_map]
  have key := loopUp (p := fun i => slices_IndexFunc_Sym_impl_SymOf_1_L2 (Z (symAt (ss.drop i) nm i)) [(2000, .var [.d (.str nm)])] (ss.map Sy.da) (ss.length : Int) (i : Int) nm) ss.length ?_ (fun i hi ihl => ?_) 0 (Nat.zero_le _)
  · exact key
  · apply slices_IndexFunc_Sym_impl_SymOf_1_L2_of
    exact ifB_f (lt_decF (Nat.le_refl _)) ⟨by rw [drop_end]; rfl, rfl⟩
  · obtain ⟨x, hx⟩ := get_ex hi
    have hx1 := get_map (g := Sy.da) hx
    rw [drop_cons hx]
    apply slices_IndexFunc_Sym_impl_SymOf_1_L2_of
    refine ifB_t (lt_dec hi) ⟨i, rfl, _, _, _, hx1, _, nm, impl_SymOf_1_of ⟨rfl, rfl⟩, ifB_d (fun h => ⟨by simp [symAt, h], rfl⟩) fun h => ?_⟩
    rw [wr1 hi hlen, symAt, if_neg h]
    exact ihl
def sgGood (ss : List Sy) (i : Nat) : Prop := ∀ x, ss[i]? = some x → nOk x.nm ∧ symAt ss x.nm 0 = i ∧ (0 ≤ x.ar ∧ x.ar ≤ 3) ∧ (x.ac = true → x.ar = 2)
/-- A list of functions. -/
def sgOk (ss : List Sy) : Prop := (∀ i, i < ss.length → sgGood ss i) ∧ (1 ≤ ss.length ∧ ss.length ≤ 8) ∧ ∃ x, ss[0]? = some x ∧ x.nm = ⟨#[116, 116]⟩ ∧ x.ar = 0
theorem specSigOk_call (ss : List Sy) : XC Try.prog 170 [L (ss.map Sy.da)] [] (B (dB (sgOk ss))) [] := by
  refine xc_fit fun hfit => ?_
  have hlen : ss.length ≤ 281474976710656 := by have := hfit.one.len; simpa using this
  apply spec_SigOk_of
  have key := loopUp (p := fun i => (∀ j, j < i → sgGood ss j) → spec_SigOk_L2 (B (dB (sgOk ss))) [] (ss.map Sy.da) (i : Int)) ss.length ?_ (fun i hi ihl => ?_) 0 (Nat.zero_le _)
  · exact key (by omega)
  · intro hall
    apply spec_SigOk_L2_of
    rw [List.length_map]
    refine ifB_f (lt_decF (Nat.le_refl _)) ⟨_, l1In_call _ _ _, ifB_of (fun h => ?_) fun h => dB_f fun hn => ?_⟩
    · rw [inR_t] at h
      obtain ⟨x, hx⟩ := get_ex (l := ss) (i := 0) (by omega)
      refine ⟨0, rfl, _, _, _, get_map (g := Sy.da) hx, dB_e ?_⟩
      simp only [Bool.and_eq_true, decide_eq_true_eq]
      constructor
      · rintro ⟨h1, h2, h3⟩
        exact ⟨hall, by omega, x, hx, h1, h2⟩
      · rintro ⟨_, _, y, hy, h1, h2⟩
        rw [hx] at hy; cases hy
        refine ⟨h1, h2, ?_⟩
        cases hac : x.ac with
        | false => rfl
        | true => have := (hall 0 (by omega) x hx).2.2.2 hac; omega
    · rw [Bool.eq_false_iff, Ne, inR_t] at h
      have := hn.2.1
      omega
  · intro hall
    obtain ⟨x, hx⟩ := get_ex hi
    have hx1 := get_map (g := Sy.da) hx
    have bad : ¬ (nOk x.nm ∧ symAt ss x.nm 0 = i ∧ (0 ≤ x.ar ∧ x.ar ≤ 3) ∧ (x.ac = true → x.ar = 2)) → B false = B (dB (sgOk ss)) ∧ ([] : List (Nat × Ob)) = [] := fun h => dB_f fun hn => h (hn.1 i hi x hx)
    have good : (nOk x.nm ∧ symAt ss x.nm 0 = i ∧ (0 ≤ x.ar ∧ x.ar ≤ 3) ∧ (x.ac = true → x.ar = 2)) → spec_SigOk_L2 (B (dB (sgOk ss))) [] (ss.map Sy.da) (IntKind.wrap .i64 ((i : Int) + 1)) := fun h => by
      rw [wr1 hi hlen]
      exact ihl fun j hj y hy => by
        rcases Nat.lt_succ_iff_lt_or_eq.1 hj with hj | rfl
        · exact hall j hj y hy
        · rw [hx] at hy; cases hy; exact h
    apply spec_SigOk_L2_of
    refine ifB_t (lt_dec (by simpa using hi)) ⟨i, rfl, _, _, _, hx1, _, specNameOk_call _, ifB_of (fun h1 => bad ?_) fun h1 => ⟨i, rfl, _, _, _, hx1, _, specSymOf_call ss _, ifB_d (fun h2 => bad ?_) fun h2 => ⟨i, rfl, _, _, _, hx1, _, l1In_call _ _ _, ifB_of (fun h3 => bad ?_) fun h3 => ⟨i, rfl, _, _, _, hx1, ifB_of (fun h4 => ⟨i, rfl, _, _, _, hx1, ifB_d (fun h5 => bad ?_) fun h5 => good ?_⟩) fun h4 => good ?_⟩⟩⟩⟩
    · have := dB_false.1 (not_t h1); exact fun h => this h.1
    · exact fun h => h2 h.2.1
    · have := not_t h3; rw [Bool.eq_false_iff, Ne, inR_t] at this; exact fun h => this h.2.2.1
    · exact fun h => h5 (h.2.2.2 h4)
    · have n1 := dB_true.1 (not_f h1); have n3 := not_f h3; rw [inR_t] at n3
      exact ⟨n1, by omega, n3, fun _ => by omega⟩
    · have n1 := dB_true.1 (not_f h1); have n3 := not_f h3; rw [inR_t] at n3
      exact ⟨n1, by omega, n3, fun h => by rw [h4] at h; cases h⟩
theorem implSigOk_call (ss : List Sy) : XC Try.prog 174 [L (ss.map Sy.da)] [] (B (dB (sgOk ss))) [] := by
  refine xc_fit fun hfit => ?_
  have hlen : ss.length ≤ 281474976710656 := by have := hfit.one.len; simpa using this
  apply impl_SigOk_of
  rw [List.length_map]
  have key := loopUp (p := fun i => (∀ j, j < i → sgGood ss j) → impl_SigOk_L2 (B (dB (sgOk ss))) [] (ss.map Sy.da) (ss.map Sy.da) (ss.length : Int) (i : Int)) ss.length ?_ (fun i hi ihl => ?_) 0 (Nat.zero_le _)
  · exact key (by omega)
  · intro hall
    apply impl_SigOk_L2_of
    rw [List.length_map]
    refine ifB_f (lt_decF (Nat.le_refl _)) ⟨_, from_call _ _ _, ifB_of (fun h => ?_) fun h => dB_f fun hn => ?_⟩
    · rw [inR_t] at h
      obtain ⟨x, hx⟩ := get_ex (l := ss) (i := 0) (by omega)
      have hx1 := get_map (g := Sy.da) hx
      refine ⟨0, rfl, _, _, _, hx1, ifB_d (fun h1 => ⟨0, rfl, _, _, _, hx1, dB_e ?_⟩) fun h1 => dB_f fun hn => ?_⟩
      · simp only [decide_eq_true_eq]
        constructor
        · intro h2; exact ⟨hall, by omega, x, hx, h1, h2⟩
        · rintro ⟨_, _, y, hy, _, h2⟩
          rw [hx] at hy; cases hy; exact h2
      · obtain ⟨_, _, y, hy, h2, _⟩ := hn
        rw [hx] at hy; cases hy; exact h1 h2
    · rw [Bool.eq_false_iff, Ne, inR_t] at h
      have := hn.2.1
      omega
  · intro hall
    obtain ⟨x, hx⟩ := get_ex hi
    have hx1 := get_map (g := Sy.da) hx
    have bad : ¬ (nOk x.nm ∧ symAt ss x.nm 0 = i ∧ (0 ≤ x.ar ∧ x.ar ≤ 3) ∧ (x.ac = true → x.ar = 2)) → B false = B (dB (sgOk ss)) ∧ ([] : List (Nat × Ob)) = [] := fun h => dB_f fun hn => h (hn.1 i hi x hx)
    have good : (nOk x.nm ∧ symAt ss x.nm 0 = i ∧ (0 ≤ x.ar ∧ x.ar ≤ 3) ∧ (x.ac = true → x.ar = 2)) → impl_SigOk_L2 (B (dB (sgOk ss))) [] (ss.map Sy.da) (ss.map Sy.da) (ss.length : Int) (IntKind.wrap .i64 ((i : Int) + 1)) := fun h => by
      rw [wr1 hi hlen]
      exact ihl fun j hj y hy => by
        rcases Nat.lt_succ_iff_lt_or_eq.1 hj with hj | rfl
        · exact hall j hj y hy
        · rw [hx] at hy; cases hy; exact h
    apply impl_SigOk_L2_of
    refine ifB_t (lt_dec hi) ⟨i, rfl, _, _, _, hx1, _, implNameOk_call _, ifB_of (fun h1 => bad ?_) fun h1 => ⟨_, implSymOf_call ss _, ifB_d (fun h2 => bad ?_) fun h2 => ⟨_, from_call _ _ _, ifB_of (fun h3 => bad ?_) fun h3 => ifB_of (fun h4 => ifB_d (fun h5 => bad ?_) fun h5 => good ?_) fun h4 => good ?_⟩⟩⟩
    · have := dB_false.1 (not_t h1); exact fun h => this h.1
    · exact fun h => h2 h.2.1
    · have := not_t h3; rw [Bool.eq_false_iff, Ne, inR_t] at this; exact fun h => this h.2.2.1
    · exact fun h => h5 (h.2.2.2 h4)
    · have n1 := dB_true.1 (not_f h1); have n3 := not_f h3; rw [inR_t] at n3
      exact ⟨n1, by omega, n3, fun _ => by omega⟩
    · have n1 := dB_true.1 (not_f h1); have n3 := not_f h3; rw [inR_t] at n3
      exact ⟨n1, by omega, n3, fun h => by rw [h4] at h; cases h⟩
/-- A term as it must be, of any size. -/
inductive TOk (ss : List Sy) : Tm → Prop
  | var {v : Int} : 0 ≤ v → v ≤ 99 → TOk ss (.mk (-1) v [])
  | app {f : Nat} {x : Sy} {ks : List Tm} : ss[f]? = some x → (x.ac = false → (ks.length : Int) = x.ar) → (x.ac = true → 2 ≤ ks.length) → (∀ (i : Nat) k, ks[i]? = some k → TOk ss k) →
      (x.ac = true → ∀ (i : Nat) k, ks[i]? = some k → k.f ≠ (f : Int) ∧ ∀ k', 0 < i → ks[i - 1]? = some k' → ¬ Tm.cmp k k' < 0) → TOk ss (.mk f 0 ks)
theorem TOk.var_iff {ss : List Sy} {v : Int} {ks : List Tm} : TOk ss (.mk (-1) v ks) ↔ (0 ≤ v ∧ v ≤ 99) ∧ ks = [] := by
  constructor
  · intro h
    generalize hf : (-1 : Int) = f at h
    cases h with
    | var h1 h2 => exact ⟨⟨h1, h2⟩, rfl⟩
    | app => omega
  · rintro ⟨⟨h1, h2⟩, rfl⟩; exact .var h1 h2
/-- A kid that is right. -/
def KOk (ss : List Sy) (f : Int) (x : Sy) (ks : List Tm) (i : Nat) (k : Tm) : Prop := TOk ss k ∧ (x.ac = true → k.f ≠ f ∧ ∀ k', 0 < i → ks[i - 1]? = some k' → ¬ Tm.cmp k k' < 0)
theorem TOk.app_iff {ss : List Sy} {f v : Int} {ks : List Tm} (hf : f ≠ -1) : TOk ss (.mk f v ks) ↔ ∃ (n : Nat) (x : Sy), f = (n : Int) ∧ ss[n]? = some x ∧ v = 0 ∧ (x.ac = false → (ks.length : Int) = x.ar) ∧ (x.ac = true → 2 ≤ ks.length) ∧ ∀ (i : Nat) k, ks[i]? = some k → KOk ss f x ks i k := by
  constructor
  · intro h
    cases h with
    | var => exact absurd rfl hf
    | app h1 h2 h3 h4 h5 => exact ⟨_, _, rfl, h1, rfl, h2, h3, fun i k hk => ⟨h4 i k hk, fun hac => h5 hac i k hk⟩⟩
  · rintro ⟨n, x, rfl, h1, rfl, h2, h3, h4⟩
    exact .app h1 h2 h3 (fun i k hk => (h4 i k hk).1) fun hac i k hk => (h4 i k hk).2 hac
theorem l4Right_call (ss : List Sy) (t : Tm) : XC Try.prog 172 [L (ss.map Sy.da), .dat t.da] [] (B (dB (TOk ss t))) [] := by
  induction t using Tm.ind with
  | h f v ks ih =>
  refine xc_fit fun hfit => ?_
  have hls : ss.length ≤ 281474976710656 := by have := hfit.one.len; simpa using this
  have hlen : ks.length ≤ 281474976710656 := by have := hfit.tail.dat.tail.tail.len; rwa [das_len] at this
  apply spec_l4Right_of
  rw [das_len, List.length_map, wrI (by omega) (by omega)]
  refine ifB_d (fun h => ?_) fun hf => ?_
  · subst h
    refine ⟨_, l1In_call _ _ _, ifB_of (fun h => dB_e ?_) fun h => dB_f ?_⟩
    · rw [inR_t] at h
      rw [TOk.var_iff, decide_eq_true_eq]
      exact ⟨fun hk => ⟨h, List.length_eq_zero_iff.1 (by omega)⟩, fun hk => by rw [hk.2]; rfl⟩
    · rw [Bool.eq_false_iff, Ne, inR_t] at h
      rw [TOk.var_iff]
      exact fun hk => h hk.1
  · refine ⟨_, l1In_call _ _ _, ifB_of (fun h => dB_f ?_) fun h => ?_⟩
    · have h := not_t h
      rw [Bool.eq_false_iff, Ne, inR_t] at h
      rw [TOk.app_iff hf]
      rintro ⟨n, x, rfl, hx, _⟩
      have := (List.getElem?_eq_some_iff.1 hx).1
      omega
    · have h := not_f h
      rw [inR_t] at h
      obtain ⟨n, rfl⟩ := Int.eq_ofNat_of_zero_le h.1
      obtain ⟨x, hx⟩ := get_ex (l := ss) (i := n) (by omega)
      have hx1 := get_map (g := Sy.da) hx
      have inv : TOk ss (.mk n v ks) ↔ v = 0 ∧ (x.ac = false → (ks.length : Int) = x.ar) ∧ (x.ac = true → 2 ≤ ks.length) ∧ ∀ (i : Nat) k, ks[i]? = some k → KOk ss n x ks i k := by
        rw [TOk.app_iff hf]
        constructor
        · rintro ⟨m, y, e, hy, h1⟩
          have e : n = m := by omega
          subst e
          rw [hx] at hy; cases hy; exact h1
        · intro h1; exact ⟨n, x, rfl, hx, h1⟩
      have loop : v = 0 → (x.ac = false → (ks.length : Int) = x.ar) → (x.ac = true → 2 ≤ ks.length) → spec_l4Right_L6 (B (dB (TOk ss (.mk n v ks)))) [] (ss.map Sy.da) 0 (n : Int) v (Tm.das ks) := by
        intro g1 g2 g3
        have key := loopUp (p := fun i => (∀ (j : Nat) k, j < i → ks[j]? = some k → KOk ss n x ks j k) → spec_l4Right_L6 (B (dB (TOk ss (.mk n v ks)))) [] (ss.map Sy.da) (i : Int) (n : Int) v (Tm.das ks)) ks.length ?_ (fun i hi ihl => ?_) 0 (Nat.zero_le _)
        · exact key fun j k hj => by omega
        · intro hall
          apply spec_l4Right_L6_of
          exact ifB_f (lt_decF (by rw [das_len]; exact Nat.le_refl _)) (dB_t (inv.2 ⟨g1, g2, g3, fun i k hk => hall i k (List.getElem?_eq_some_iff.1 hk).1 hk⟩))
        · intro hall
          obtain ⟨y, hy⟩ := get_ex hi
          have hy1 := get_das hy
          have hyc := ih y (List.mem_of_getElem? hy)
          have hpr : 0 < i → ∃ z, ks[i - 1]? = some z := fun h => get_ex (by omega)
          have bad : ¬ KOk ss n x ks i y → B false = B (dB (TOk ss (.mk n v ks))) ∧ ([] : List (Nat × Ob)) = [] := fun h => dB_f fun hn => h ((inv.1 hn).2.2.2 i y hy)
          have good : KOk ss n x ks i y → spec_l4Right_L6 (B (dB (TOk ss (.mk n v ks)))) [] (ss.map Sy.da) (IntKind.wrap .i64 ((i : Int) + 1)) (n : Int) v (Tm.das ks) := fun h => by
            rw [wr1 hi hlen]
            exact ihl fun j k hj hk => by
              rcases Nat.lt_succ_iff_lt_or_eq.1 hj with hj | rfl
              · exact hall j k hj hk
              · rw [hy] at hk; cases hk; exact h
          have hcm := fun z => before_call y z
          obtain ⟨f', v', ks'⟩ := y
          have last : (x.ac = true → f' ≠ (n : Int) ∧ ∀ k', 0 < i → ks[i - 1]? = some k' → ¬ Tm.cmp (.mk f' v' ks') k' < 0) → ∃ b, XC Try.prog 172 [L (ss.map Sy.da), .dat (Tm.mk f' v' ks').da] [] (B b) [] ∧ ifB (!b) (B false = B (dB (TOk ss (.mk n v ks))) ∧ ([] : List (Nat × Ob)) = []) (spec_l4Right_L6 (B (dB (TOk ss (.mk n v ks)))) [] (ss.map Sy.da) (IntKind.wrap .i64 ((i : Int) + 1)) (n : Int) v (Tm.das ks)) := by
            intro hk
            refine ⟨_, hyc, ifB_of (fun h => bad fun hh => ?_) fun h => good ?_⟩
            · exact dB_false.1 (not_t h) hh.1
            · exact ⟨dB_true.1 (not_f h), hk⟩
          apply spec_l4Right_L6_of
          refine ifB_t (lt_dec (by rwa [das_len])) ⟨n, rfl, _, _, _, hx1, ifB_of (fun hac => ⟨i, rfl, _, _, _, hy1, ifB_d (fun h1 => bad fun hh => (hh.2 hac).1 h1) fun h1 => ifB_d (fun h2 => ?_) fun h2 => ?_⟩) fun hac => ?_⟩
          · have h2 : 0 < i := by omega
            obtain ⟨z, hz⟩ := hpr h2
            have hz1 := get_das hz
            have hc := hcm z
            refine ⟨i, rfl, _, _, _, hy1, i - 1, wrM h2 (by omega), ?_⟩
            obtain ⟨f2, v2, ks2⟩ := z
            refine ⟨_, _, _, hz1, _, hc, ifB_d (fun h3 => bad fun hh => (hh.2 hac).2 _ h2 hz h3) fun h3 => ⟨i, rfl, _, _, _, hy1, last fun _ => ⟨h1, fun k' _ hk' => ?_⟩⟩⟩
            rw [hz] at hk'; cases hk'; exact h3
          · exact ⟨i, rfl, _, _, _, hy1, last fun _ => ⟨h1, fun k' h _ => by omega⟩⟩
          · exact ⟨i, rfl, _, _, _, hy1, last fun h => by rw [hac] at h; cases h⟩
      refine ifB_d (fun h1 => dB_f fun hn => h1 (inv.1 hn).1) fun h1 => ⟨n, rfl, _, _, _, hx1, ifB_of (fun h2 => ⟨n, rfl, _, _, _, hx1, ifB_d (fun h3 => dB_f fun hn => h3 ((inv.1 hn).2.1 (not_t h2))) fun h3 => ⟨n, rfl, _, _, _, hx1, ifB_f (not_t h2) ?_⟩⟩) fun h2 => ⟨n, rfl, _, _, _, hx1, ifB_t (not_f h2) (ifB_d (fun h3 => dB_f fun hn => ?_) fun h3 => ?_)⟩⟩
      · exact loop (ne_i h1) (fun _ => ne_i h3) fun h => by rw [not_t h2] at h; cases h
      · have := (inv.1 hn).2.2.1 (not_f h2); omega
      · exact loop (ne_i h1) (fun h => by rw [not_f h2] at h; cases h) fun _ => by omega
theorem isSym_call (ss : List Sy) (f : Int) : XC Try.prog 168 [L (ss.map Sy.da), Z f] [] (B (inR f 0 ((ss.length : Int) - 1))) [] := by
  refine xc_fit fun hfit => ?_
  have hls : ss.length ≤ 281474976710656 := by have := hfit.one.len; simpa using this
  apply impl_isSym_of
  rw [List.length_map, wrI (by omega) (by omega)]
  exact ⟨_, from_call _ _ _, rfl, rfl⟩
theorem formOk_call (ss : List Sy) (t : Tm) : XC Try.prog 176 [L (ss.map Sy.da), .dat t.da] [] (B (dB (TOk ss t))) [] := by
  induction t using Tm.ind with
  | h f v ks ih =>
  refine xc_fit fun hfit => ?_
  have hls : ss.length ≤ 281474976710656 := by have := hfit.one.len; simpa using this
  have hlen : ks.length ≤ 281474976710656 := by have := hfit.tail.dat.tail.tail.len; rwa [das_len] at this
  apply impl_formOk_of
  rw [das_len]
  refine ⟨_, isVar_call (.mk f v ks), ifB_d (fun h => ?_) fun hf => ?_⟩
  · have h : f = -1 := h
    subst h
    refine ⟨_, from_call _ _ _, ifB_of (fun h => dB_e ?_) fun h => dB_f ?_⟩
    · rw [inR_t] at h
      rw [TOk.var_iff, decide_eq_true_eq]
      exact ⟨fun hk => ⟨h, List.length_eq_zero_iff.1 (by omega)⟩, fun hk => by rw [hk.2]; rfl⟩
    · rw [Bool.eq_false_iff, Ne, inR_t] at h
      rw [TOk.var_iff]
      exact fun hk => h hk.1
  · have hf : f ≠ -1 := hf
    refine ⟨_, isSym_call ss f, ifB_of (fun h => dB_f ?_) fun h => ?_⟩
    · have h := not_t h
      rw [Bool.eq_false_iff, Ne, inR_t] at h
      rw [TOk.app_iff hf]
      rintro ⟨n, x, rfl, hx, _⟩
      have := (List.getElem?_eq_some_iff.1 hx).1
      omega
    · have h := not_f h
      rw [inR_t] at h
      obtain ⟨n, rfl⟩ := Int.eq_ofNat_of_zero_le h.1
      obtain ⟨x, hx⟩ := get_ex (l := ss) (i := n) (by omega)
      have hx1 := get_map (g := Sy.da) hx
      have inv : TOk ss (.mk n v ks) ↔ v = 0 ∧ (x.ac = false → (ks.length : Int) = x.ar) ∧ (x.ac = true → 2 ≤ ks.length) ∧ ∀ (i : Nat) k, ks[i]? = some k → KOk ss n x ks i k := by
        rw [TOk.app_iff hf]
        constructor
        · rintro ⟨m, y, e, hy, h1⟩
          have e : n = m := by omega
          subst e
          rw [hx] at hy; cases hy; exact h1
        · intro h1; exact ⟨n, x, rfl, hx, h1⟩
      have loop : v = 0 → (x.ac = false → (ks.length : Int) = x.ar) → (x.ac = true → 2 ≤ ks.length) → impl_formOk_L6 (B (dB (TOk ss (.mk n v ks)))) [] (ss.map Sy.da) (Tm.das ks) (ks.length : Int) 0 (n : Int) v (Tm.das ks) := by
        intro g1 g2 g3
        have key := loopUp (p := fun i => (∀ (j : Nat) k, j < i → ks[j]? = some k → KOk ss n x ks j k) → impl_formOk_L6 (B (dB (TOk ss (.mk n v ks)))) [] (ss.map Sy.da) (Tm.das ks) (ks.length : Int) (i : Int) (n : Int) v (Tm.das ks)) ks.length ?_ (fun i hi ihl => ?_) 0 (Nat.zero_le _)
        · exact key fun j k hj => by omega
        · intro hall
          apply impl_formOk_L6_of
          exact ifB_f (lt_decF (Nat.le_refl _)) (dB_t (inv.2 ⟨g1, g2, g3, fun i k hk => hall i k (List.getElem?_eq_some_iff.1 hk).1 hk⟩))
        · intro hall
          obtain ⟨y, hy⟩ := get_ex hi
          have hy1 := get_das hy
          have hyc := ih y (List.mem_of_getElem? hy)
          have hpr : 0 < i → ∃ z, ks[i - 1]? = some z := fun h => get_ex (by omega)
          have bad : ¬ KOk ss n x ks i y → B false = B (dB (TOk ss (.mk n v ks))) ∧ ([] : List (Nat × Ob)) = [] := fun h => dB_f fun hn => h ((inv.1 hn).2.2.2 i y hy)
          have good : KOk ss n x ks i y → impl_formOk_L6 (B (dB (TOk ss (.mk n v ks)))) [] (ss.map Sy.da) (Tm.das ks) (ks.length : Int) (IntKind.wrap .i64 ((i : Int) + 1)) (n : Int) v (Tm.das ks) := fun h => by
            rw [wr1 hi hlen]
            exact ihl fun j k hj hk => by
              rcases Nat.lt_succ_iff_lt_or_eq.1 hj with hj | rfl
              · exact hall j k hj hk
              · rw [hy] at hk; cases hk; exact h
          have hcm := fun z => implBefore_call y z
          obtain ⟨f', v', ks'⟩ := y
          apply impl_formOk_L6_of
          refine ifB_t (lt_dec hi) ⟨i, rfl, _, _, _, hy1, _, hyc, ifB_of (fun h => bad fun hh => dB_false.1 (not_t h) hh.1) fun h0 => ⟨n, rfl, _, _, _, hx1, ifB_of (fun hac => ifB_d (fun h1 => bad fun hh => (hh.2 hac).1 h1) fun h1 => ifB_d (fun h2 => ?_) fun h2 => good ⟨dB_true.1 (not_f h0), fun _ => ⟨h1, fun k' h _ => by omega⟩⟩) fun hac => good ⟨dB_true.1 (not_f h0), fun h => by rw [hac] at h; cases h⟩⟩⟩
          have h2 : 0 < i := by omega
          obtain ⟨z, hz⟩ := hpr h2
          have hz1 := get_das hz
          have hc := hcm z
          refine ⟨i - 1, wrM h2 (by omega), ?_⟩
          obtain ⟨f2, v2, ks2⟩ := z
          refine ⟨_, _, _, hz1, _, hc, ifB_d (fun h3 => bad fun hh => (hh.2 hac).2 _ h2 hz h3) fun h3 => good ⟨dB_true.1 (not_f h0), fun _ => ⟨h1, fun k' _ hk' => ?_⟩⟩⟩
          rw [hz] at hk'; cases hk'; exact h3
      refine ifB_d (fun h1 => dB_f fun hn => h1 (inv.1 hn).1) fun h1 => ⟨n, rfl, _, _, _, hx1, ifB_of (fun h2 => ⟨n, rfl, _, _, _, hx1, ifB_d (fun h3 => dB_f fun hn => h3 ((inv.1 hn).2.1 (not_t h2))) fun h3 => ⟨n, rfl, _, _, _, hx1, ifB_f (not_t h2) ?_⟩⟩) fun h2 => ⟨n, rfl, _, _, _, hx1, ifB_t (not_f h2) (ifB_d (fun h3 => dB_f fun hn => ?_) fun h3 => ?_)⟩⟩
      · exact loop (ne_i h1) (fun _ => ne_i h3) fun h => by rw [not_t h2] at h; cases h
      · have := (inv.1 hn).2.2.1 (not_f h2); omega
      · exact loop (ne_i h1) (fun h => by rw [not_f h2] at h; cases h) fun _ => by omega
def TmOk (ss : List Sy) (t : Tm) : Prop := sgOk ss ∧ t.cn + 1 ≤ 60 ∧ TOk ss t
def LiOk (ss : List Sy) (x : Li) : Prop := TmOk ss x.l ∧ TmOk ss x.r ∧ ¬ Tm.cmp x.l x.r < 0
def ClOk (ss : List Sy) (c : Cl) : Prop := (∀ (i : Nat) x, c.ls[i]? = some x → LiOk ss x ∧ ∀ y, 0 < i → c.ls[i - 1]? = some y → Li.cmp y x < 0) ∧ c.ls.length ≤ 8
theorem specTermOk_call (ss : List Sy) (t : Tm) (hc : t.cn ≤ 1048576) : XC Try.prog 120 [L (ss.map Sy.da), .dat t.da] [] (B (dB (TmOk ss t))) [] := by
  have h1 := specSigOk_call ss
  have h2 := specParts_call t hc
  have h3 := l4Right_call ss t
  have e : TmOk ss t = (sgOk ss ∧ t.cn + 1 ≤ 60 ∧ TOk ss t) := rfl
  rw [e]
  generalize t.cn = c at *
  obtain ⟨f, v, ks⟩ := t
  apply spec_TermOk_of
  refine ⟨_, h1, ifB_of (fun g1 => ⟨_, h2, ifB_d (fun g2 => ⟨_, h3, dB_e ?_⟩) fun g2 => dB_f fun hn => g2 (by have := hn.2.1; omega)⟩) fun g1 => dB_f fun hn => dB_false.1 g1 hn.1⟩
  rw [dB_true]
  exact ⟨fun h => ⟨dB_true.1 g1, by omega, h⟩, fun h => h.2.2⟩
theorem implTermOk_call (ss : List Sy) (t : Tm) (hc : t.cn ≤ 1048576) : XC Try.prog 124 [L (ss.map Sy.da), .dat t.da] [] (B (dB (TmOk ss t))) [] := by
  have h1 := implSigOk_call ss
  have h2 := implParts_call t hc
  have h3 := formOk_call ss t
  have e : TmOk ss t = (sgOk ss ∧ t.cn + 1 ≤ 60 ∧ TOk ss t) := rfl
  rw [e]
  generalize t.cn = c at *
  obtain ⟨f, v, ks⟩ := t
  apply impl_TermOk_of
  refine ⟨_, h1, ifB_of (fun g1 => ⟨_, h2, ifB_d (fun g2 => ⟨_, h3, dB_e ?_⟩) fun g2 => dB_f fun hn => g2 (by have := hn.2.1; omega)⟩) fun g1 => dB_f fun hn => dB_false.1 g1 hn.1⟩
  rw [dB_true]
  exact ⟨fun h => ⟨dB_true.1 g1, by omega, h⟩, fun h => h.2.2⟩

end AM
end Go.Proofs.Ytflfopedammhoaa
