/- Contracts of functions of the program, out of what their texts ask; no conditions. -/
import Derived.Test.YtbgpofimflnabaaPfB
import Derived.Test.YtbgpofimflnabaaDt
set_option linter.unusedVariables false
set_option linter.unusedSimpArgs false
set_option maxRecDepth 100000
namespace Go.Proofs.Ytbgpofimflnabaa
namespace AM
open Go

theorem lft_lt {c d : Nat} {m : Int} (h : lft c m < 0) (hm : 0 ≤ m) : (-1 : Int) = lft (c + d) m := by unfold lft at h ⊢; split at h <;> split <;> omega
theorem lft_lt0 {c : Nat} {m : Int} (h : lft c m < 0) (hm : 0 ≤ m) : (-1 : Int) = lft c m := by unfold lft at h ⊢; split at h <;> omega
theorem lft_w {c : Nat} {m : Int} (h0 : 0 ≤ m) (h1 : m ≤ 1048576) (hc : c ≤ 281474976710656) (h : IntKind.wrap .i64 (m - (c : Int)) < 0) : (-1 : Int) = lft c m := by
  rw [wrI (by omega) (by omega)] at h
  unfold lft; rw [if_pos (by omega)]
theorem lft_w2 {c : Nat} {m : Int} (h0 : 0 ≤ m) (h1 : m ≤ 1048576) (hc : c ≤ 281474976710656) (h : ¬ IntKind.wrap .i64 (m - (c : Int)) < 0) : IntKind.wrap .i64 (m - (c : Int)) = lft c m := by
  rw [wrI (by omega) (by omega)] at h ⊢
  unfold lft; rw [if_neg (by omega)]
theorem zw {a b : Int} (h : a = b) : Z a = Z b ∧ ([] : List (Nat × Ob)) = [] := ⟨by rw [h], rfl⟩
theorem szIntS_call (l : List Int) (m : Int) (h0 : 0 ≤ m) (h1 : m ≤ 1048576) : XC Try.prog 80 [L (l.map In.da), Z m] [] (Z (lft l.length m)) [] := by
  refine xc_fit fun hfit => ?_
  have hlen : l.length ≤ 281474976710656 := by have := hfit.one.len; simpa using this
  apply laws_szIntS_of
  rw [List.length_map]
  exact ifB_d (fun h => zw (lft_w h0 h1 hlen h)) fun h => zw (lft_w2 h0 h1 hlen h)
theorem toIntS_call (l : List Int) (hc : l.length ≤ 1048576) : XC Try.prog 84 [L (l.map In.da)] [] (L (l.map In.da)) [] := by
  apply laws_toIntS_of
  refine ⟨l.length, l.length, by simp, by simp, ⟨by omega, by dsimp only; omega, by omega⟩, ?_⟩
  have key := loopUp (p := fun i => laws_toIntS_L3 (L (l.map In.da)) [] (l.map In.da) (i : Int) ((l.map In.da).take i ++ List.replicate ((l.map In.da).length - i) [.int .i64 0])) l.length ?_ ?_ 0 (Nat.zero_le _)
  · rw [List.take_zero, List.nil_append, Nat.sub_zero, List.length_map] at key
    exact key
  · apply laws_toIntS_L3_of
    refine ifB_f (lt_decF (by simp)) ⟨?_, rfl⟩
    rw [fill_all rfl (by simp)]
  · intro i hi ih
    obtain ⟨x, hx⟩ := get_ex hi
    have hx1 := get_map (g := In.da) hx
    apply laws_toIntS_L3_of
    refine ifB_t (lt_dec (by simpa using hi)) ⟨i, rfl, _, hx1, i, rfl, ⟨by simp; omega⟩, i, by omega, _, fill_get rfl (by simpa using hi), ?_⟩
    rw [wr1 hi (by omega)]
    have he := fill_setE (z := [.int .i64 0]) (n := (l.map In.da).length) rfl hx1 rfl rfl
    exact he ▸ ih
theorem eqIntS_call (l : List Int) : XC Try.prog 61 [L (l.map In.da), L (l.map In.da)] [] (B true) [] := by
  refine xc_fit fun hfit => ?_
  have hlen : l.length ≤ 281474976710656 := by have := hfit.one.len; simpa using this
  apply laws_eqIntS_of
  refine ifB_f ne_decF ?_
  refine loopUp (p := fun i => laws_eqIntS_L4 (B true) [] (l.map In.da) (l.map In.da) (i : Int)) l.length ?_ (fun i hi ih => ?_) 0 (Nat.zero_le _)
  · apply laws_eqIntS_L4_of
    exact ifB_f (lt_decF (by simp)) ⟨rfl, rfl⟩
  · obtain ⟨x, hx⟩ := get_ex hi
    have hx1 := get_map (g := In.da) hx
    apply laws_eqIntS_L4_of
    refine ifB_t (lt_dec (by simpa using hi)) ⟨i, rfl, _, hx1, i, rfl, _, hx1, ifB_f ne_decF ?_⟩
    rw [wr1 hi hlen]
    exact ih
theorem szSym_call (x : Sy) (m : Int) (h0 : 0 ≤ m) (h1 : m ≤ 1048576) : XC Try.prog 68 [.dat x.da, Z m] [] (Z (lft x.cn m)) [] := by
  refine xc_fit fun hfit => ?_
  have hlen : x.nm.size ≤ 281474976710656 := hfit.dat.str
  apply laws_szSym_of
  exact ifB_d (fun h => zw (lft_w h0 h1 hlen h)) fun h => zw (lft_w2 h0 h1 hlen h)
theorem toSym_call (x : Sy) (hc : x.cn ≤ 1048576) : XC Try.prog 71 [.dat x.da] [] (.dat x.da) [] := by
  apply laws_toSym_of
  exact ⟨rfl, rfl⟩
theorem eqSym_call (x : Sy) : XC Try.prog 74 [.dat x.da, .dat x.da] [] (B true) [] := by
  apply laws_eqSym_of
  exact ifB_f ne_decS (ifB_f ne_decF (ifB_f ne_decB ⟨rfl, rfl⟩))
theorem toSymS_call (l : List Sy) (hc : cnL Sy.cn l ≤ 1048576) : XC Try.prog 18 [L (l.map Sy.da)] [] (L (l.map Sy.da)) [] := by
  have hl := cnL_len Sy.cn l
  apply laws_toSymS_of
  refine ⟨l.length, l.length, by simp, by simp, ⟨by omega, by dsimp only; omega, by omega⟩, ?_⟩
  have key := loopUp (p := fun i => laws_toSymS_L3 (L (l.map Sy.da)) [] (l.map Sy.da) (i : Int) ((l.map Sy.da).take i ++ List.replicate ((l.map Sy.da).length - i) [.str ⟨#[]⟩, .int .i64 0, .bool false])) l.length ?_ ?_ 0 (Nat.zero_le _)
  · rw [List.take_zero, List.nil_append, Nat.sub_zero, List.length_map] at key
    exact key
  · apply laws_toSymS_L3_of
    refine ifB_f (lt_decF (by simp)) ⟨?_, rfl⟩
    rw [fill_all rfl (by simp)]
  · intro i hi ih
    obtain ⟨x, hx⟩ := get_ex hi
    have hx1 := get_map (g := Sy.da) hx
    have hm := cnL_mem (cn := Sy.cn) (List.mem_of_getElem? hx)
    have hxc := toSym_call x (by omega)
    have hd := Sy.da_len x
    obtain ⟨nm, ar, ac⟩ := x
    apply laws_toSymS_L3_of
    refine ifB_t (lt_dec (by simpa using hi)) ⟨i, rfl, _, _, _, hx1, _, _, _, hxc, i, rfl, ⟨by simp; omega⟩, i, by omega, _, _, _, fill_get rfl (by simpa using hi), ?_⟩
    rw [wr1 hi (by omega)]
    have he := fill_setE (z := [.str ⟨#[]⟩, .int .i64 0, .bool false]) (n := (l.map Sy.da).length) rfl hx1 hd rfl
    exact he ▸ ih
theorem szSymS_call (l : List Sy) (left : Int) (h0 : 0 ≤ left) (h1 : left ≤ 1048576) : XC Try.prog 15 [L (l.map Sy.da), Z left] [] (Z (lft (cnL Sy.cn l) left)) [] := by
  refine xc_fit fun hfit => ?_
  have hlen : l.length ≤ 281474976710656 := by have := hfit.one.len; simpa using this
  apply laws_szSymS_of
  rw [List.length_map, wrI (by omega) (by omega)]
  refine ifB_d (fun h => ⟨?_, rfl⟩) fun h => ?_
  · rw [lft, if_pos (by have := cnL_len Sy.cn l; omega)]
  · have key := loopUp (p := fun i => ∀ m : Int, 0 ≤ m → m ≤ 1048576 → laws_szSymS_L5 (Z (lft ((l.drop i).map Sy.cn).sum m)) [] (l.map Sy.da) m (i : Int)) l.length ?_ ?_ 0 (Nat.zero_le _)
    · have := key (left - l.length) (by omega) (by omega)
      have e : lft ((l.drop 0).map Sy.cn).sum (left - l.length) = lft (cnL Sy.cn l) left := by
        rw [List.drop_zero, cnL]; unfold lft; split <;> split <;> omega
      rw [e] at this
      exact this
    · intro m hm0 hm1
      apply laws_szSymS_L5_of
      refine ifB_f (lt_decF (by simp)) ⟨?_, rfl⟩
      simp [lft]; omega
    · intro i hi ih m hm0 hm1
      obtain ⟨x, hx⟩ := get_ex hi
      have hx1 := get_map (g := Sy.da) hx
      have hxc := szSym_call x m hm0 hm1
      have hdr : ((l.drop i).map Sy.cn).sum = Sy.cn x + ((l.drop (i + 1)).map Sy.cn).sum := by
        obtain ⟨hl, e⟩ := List.getElem?_eq_some_iff.1 hx
        rw [List.drop_eq_getElem_cons hl, e]; simp
      have hle := lft_le (n := Sy.cn x) (l := m) (by omega)
      rw [hdr]
      generalize Sy.cn x = cx at *
      obtain ⟨nm, ar, ac⟩ := x
      apply laws_szSymS_L5_of
      refine ifB_t (lt_dec (by simpa using hi)) ⟨i, rfl, _, _, _, hx1, _, hxc, ?_⟩
      refine ifB_d (fun h => ⟨?_, rfl⟩) fun h => ?_
      · have := lft_neg h hm0
        rw [show lft (cx + ((l.drop (i + 1)).map Sy.cn).sum) m = -1 by unfold lft at h ⊢; split at h <;> split <;> omega]
      · rw [wr1 hi hlen, ← lft_lft (by omega)]
        exact ih _ (by omega) (by omega)
theorem eqSymS_call (l : List Sy) : XC Try.prog 21 [L (l.map Sy.da), L (l.map Sy.da)] [] (B true) [] := by
  refine xc_fit fun hfit => ?_
  have hlen : l.length ≤ 281474976710656 := by have := hfit.one.len; simpa using this
  apply laws_eqSymS_of
  refine ifB_f ne_decF ?_
  refine loopUp (p := fun i => laws_eqSymS_L4 (B true) [] (l.map Sy.da) (l.map Sy.da) (i : Int)) l.length ?_ (fun i hi ih => ?_) 0 (Nat.zero_le _)
  · apply laws_eqSymS_L4_of
    exact ifB_f (lt_decF (by simp)) ⟨rfl, rfl⟩
  · obtain ⟨x, hx⟩ := get_ex hi
    have hx1 := get_map (g := Sy.da) hx
    have hxc := eqSym_call x
    obtain ⟨nm, ar, ac⟩ := x
    apply laws_eqSymS_L4_of
    refine ifB_t (lt_dec (by simpa using hi)) ⟨i, rfl, _, _, _, hx1, i, rfl, _, _, _, hx1, _, hxc, ifB_f rfl ?_⟩
    rw [wr1 hi hlen]
    exact ih
theorem toTermS_call (l : List Tm) (hc : Tm.cns l ≤ 1048576) (ih0 : ∀ t ∈ l, t.cn ≤ 1048576 → XC Try.prog 72 [.dat t.da] [] (.dat t.da) []) : XC Try.prog 115 [L (Tm.das l)] [] (L (Tm.das l)) [] := by
  have hl := Tm.cns_cnL l ▸ cnL_len Tm.cn l
  apply laws_toTermS_of
  refine ⟨l.length, l.length, by rw [das_len], by rw [das_len], ⟨by omega, by dsimp only; omega, by omega⟩, ?_⟩
  have key := loopUp (p := fun i => laws_toTermS_L3 (L (Tm.das l)) [] (Tm.das l) (i : Int) ((Tm.das l).take i ++ List.replicate ((Tm.das l).length - i) [.int .i64 0, .int .i64 0, .sl []])) l.length ?_ ?_ 0 (Nat.zero_le _)
  · rw [List.take_zero, List.nil_append, Nat.sub_zero, das_len] at key
    exact key
  · apply laws_toTermS_L3_of
    refine ifB_f (lt_decF (by rw [das_len]; exact Nat.le_refl _)) ⟨?_, rfl⟩
    rw [fill_all rfl (by rw [das_len]; exact Nat.le_refl _)]
  · intro i hi ih
    obtain ⟨x, hx⟩ := get_ex hi
    have hx1 := get_das hx
    have hm := Tm.cns_cnL l ▸ cnL_mem (cn := Tm.cn) (List.mem_of_getElem? hx)
    have hxc := ih0 x (List.mem_of_getElem? hx) (by omega)
    have hd := Tm.da_len x
    obtain ⟨f, v, ks⟩ := x
    apply laws_toTermS_L3_of
    refine ifB_t (lt_dec (by rwa [das_len])) ⟨i, rfl, _, _, _, hx1, _, _, _, hxc, i, rfl, ⟨by rw [List.length_append, List.length_take, List.length_replicate, das_len]; omega⟩, i, by omega, _, _, _, fill_get rfl (by rwa [das_len]), ?_⟩
    rw [wr1 hi (by omega)]
    have he := fill_setE (z := [.int .i64 0, .int .i64 0, .sl []]) (n := (Tm.das l).length) rfl hx1 hd rfl
    exact he ▸ ih

theorem toTerm_call (t : Tm) (hc : t.cn ≤ 1048576) : XC Try.prog 72 [.dat t.da] [] (.dat t.da) [] := by
  induction t using Tm.ind with
  | h f v ks ih =>
    apply laws_toTerm_of
    exact ⟨_, toTermS_call ks hc ih, rfl, rfl⟩
theorem szTermS_call (l : List Tm) (ih0 : ∀ t ∈ l, ∀ m : Int, 0 ≤ m → m ≤ 1048576 → XC Try.prog 69 [.dat t.da, Z m] [] (Z (lft t.cn m)) []) (left : Int) (h0 : 0 ≤ left) (h1 : left ≤ 1048576) : XC Try.prog 114 [L (Tm.das l), Z left] [] (Z (lft (Tm.cns l) left)) [] := by
  refine xc_fit fun hfit => ?_
  have hlen : l.length ≤ 281474976710656 := by have := hfit.one.len; rwa [das_len] at this
  apply laws_szTermS_of
  rw [das_len, wrI (by omega) (by omega)]
  refine ifB_d (fun h => ⟨?_, rfl⟩) fun h => ?_
  · rw [lft, if_pos (by have := Tm.cns_cnL l ▸ cnL_len Tm.cn l; omega)]
  · have key := loopUp (p := fun i => ∀ m : Int, 0 ≤ m → m ≤ 1048576 → laws_szTermS_L5 (Z (lft ((l.drop i).map Tm.cn).sum m)) [] (Tm.das l) m (i : Int)) l.length ?_ ?_ 0 (Nat.zero_le _)
    · have := key (left - l.length) (by omega) (by omega)
      have e : lft ((l.drop 0).map Tm.cn).sum (left - l.length) = lft (Tm.cns l) left := by
        rw [List.drop_zero, Tm.cns_cnL, cnL]; unfold lft; split <;> split <;> omega
      rw [e] at this
      exact this
    · intro m hm0 hm1
      apply laws_szTermS_L5_of
      refine ifB_f (lt_decF (by rw [das_len]; exact Nat.le_refl _)) ⟨?_, rfl⟩
      simp [lft]; omega
    · intro i hi ih m hm0 hm1
      obtain ⟨x, hx⟩ := get_ex hi
      have hx1 := get_das hx
      have hxc := ih0 x (List.mem_of_getElem? hx) m hm0 hm1
      have hdr : ((l.drop i).map Tm.cn).sum = Tm.cn x + ((l.drop (i + 1)).map Tm.cn).sum := by
        obtain ⟨hl, e⟩ := List.getElem?_eq_some_iff.1 hx
        rw [List.drop_eq_getElem_cons hl, e]; simp
      have hle := lft_le (n := Tm.cn x) (l := m) (by omega)
      rw [hdr]
      generalize Tm.cn x = cx at *
      obtain ⟨f, v, ks⟩ := x
      apply laws_szTermS_L5_of
      refine ifB_t (lt_dec (by rwa [das_len])) ⟨i, rfl, _, _, _, hx1, _, hxc, ?_⟩
      refine ifB_d (fun h => ⟨?_, rfl⟩) fun h => ?_
      · have := lft_neg h hm0
        rw [show lft (cx + ((l.drop (i + 1)).map Tm.cn).sum) m = -1 by unfold lft at h ⊢; split at h <;> split <;> omega]
      · rw [wr1 hi hlen, ← lft_lft (by omega)]
        exact ih _ (by omega) (by omega)

theorem szTerm_call (t : Tm) (m : Int) (h0 : 0 ≤ m) (h1 : m ≤ 1048576) : XC Try.prog 69 [.dat t.da, Z m] [] (Z (lft t.cn m)) [] := by
  induction t using Tm.ind generalizing m with
  | h f v ks ih =>
    apply laws_szTerm_of
    exact ⟨_, szTermS_call ks (fun t ht m h0 h1 => ih t ht m h0 h1) m h0 h1, ifB_d (fun h => zw (lft_lt0 h h0)) fun _ => ⟨rfl, rfl⟩⟩
theorem eqTermS_call (l : List Tm) (ih0 : ∀ t ∈ l, XC Try.prog 75 [.dat t.da, .dat t.da] [] (B true) []) : XC Try.prog 117 [L (Tm.das l), L (Tm.das l)] [] (B true) [] := by
  refine xc_fit fun hfit => ?_
  have hlen : l.length ≤ 281474976710656 := by have := hfit.one.len; rwa [das_len] at this
  apply laws_eqTermS_of
  refine ifB_f ne_decF ?_
  refine loopUp (p := fun i => laws_eqTermS_L4 (B true) [] (Tm.das l) (Tm.das l) (i : Int)) l.length ?_ (fun i hi ih => ?_) 0 (Nat.zero_le _)
  · apply laws_eqTermS_L4_of
    exact ifB_f (lt_decF (by rw [das_len]; exact Nat.le_refl _)) ⟨rfl, rfl⟩
  · obtain ⟨x, hx⟩ := get_ex hi
    have hx1 := get_das hx
    have hxc := ih0 x (List.mem_of_getElem? hx)
    obtain ⟨f, v, ks⟩ := x
    apply laws_eqTermS_L4_of
    refine ifB_t (lt_dec (by rwa [das_len])) ⟨i, rfl, _, _, _, hx1, i, rfl, _, _, _, hx1, _, hxc, ifB_f rfl ?_⟩
    rw [wr1 hi hlen]
    exact ih

theorem eqTerm_call (t : Tm) : XC Try.prog 75 [.dat t.da, .dat t.da] [] (B true) [] := by
  induction t using Tm.ind with
  | h f v ks ih =>
    apply laws_eqTerm_of
    exact ifB_f ne_decF (ifB_f ne_decF ⟨_, eqTermS_call ks ih, ifB_f rfl ⟨rfl, rfl⟩⟩)
theorem szBind_call (x : Bd) (m : Int) (h0 : 0 ≤ m) (h1 : m ≤ 1048576) : XC Try.prog 126 [.dat x.da, Z m] [] (Z (lft x.cn m)) [] := by
  obtain ⟨v, ⟨f, u, ks⟩⟩ := x
  apply laws_szBind_of
  exact ⟨_, szTerm_call (.mk f u ks) m h0 h1, ifB_d (fun h => zw (lft_lt0 h h0)) fun _ => ⟨rfl, rfl⟩⟩
theorem toBind_call (x : Bd) (hc : x.cn ≤ 1048576) : XC Try.prog 127 [.dat x.da] [] (.dat x.da) [] := by
  obtain ⟨v, ⟨f, u, ks⟩⟩ := x
  apply laws_toBind_of
  exact ⟨_, _, _, toTerm_call (.mk f u ks) hc, rfl, rfl⟩
theorem eqBind_call (x : Bd) : XC Try.prog 128 [.dat x.da, .dat x.da] [] (B true) [] := by
  obtain ⟨v, ⟨f, u, ks⟩⟩ := x
  apply laws_eqBind_of
  exact ifB_f ne_decF ⟨_, eqTerm_call (.mk f u ks), ifB_f rfl ⟨rfl, rfl⟩⟩
theorem toBindS_call (l : List Bd) (hc : cnL Bd.cn l ≤ 1048576) : XC Try.prog 85 [L (l.map Bd.da)] [] (L (l.map Bd.da)) [] := by
  have hl := cnL_len Bd.cn l
  apply laws_toBindS_of
  refine ⟨l.length, l.length, by simp, by simp, ⟨by omega, by dsimp only; omega, by omega⟩, ?_⟩
  have key := loopUp (p := fun i => laws_toBindS_L3 (L (l.map Bd.da)) [] (l.map Bd.da) (i : Int) ((l.map Bd.da).take i ++ List.replicate ((l.map Bd.da).length - i) [.int .i64 0, .int .i64 0, .int .i64 0, .sl []])) l.length ?_ ?_ 0 (Nat.zero_le _)
  · rw [List.take_zero, List.nil_append, Nat.sub_zero, List.length_map] at key
    exact key
  · apply laws_toBindS_L3_of
    refine ifB_f (lt_decF (by simp)) ⟨?_, rfl⟩
    rw [fill_all rfl (by simp)]
  · intro i hi ih
    obtain ⟨x, hx⟩ := get_ex hi
    have hx1 := get_map (g := Bd.da) hx
    have hm := cnL_mem (cn := Bd.cn) (List.mem_of_getElem? hx)
    have hxc := toBind_call x (by omega)
    have hd := Bd.da_len x
    obtain ⟨v, ⟨f, u, ks⟩⟩ := x
    apply laws_toBindS_L3_of
    refine ifB_t (lt_dec (by simpa using hi)) ⟨i, rfl, _, _, _, _, hx1, _, _, _, _, hxc, i, rfl, ⟨by simp; omega⟩, i, by omega, _, _, _, _, fill_get rfl (by simpa using hi), ?_⟩
    rw [wr1 hi (by omega)]
    have he := fill_setE (z := [.int .i64 0, .int .i64 0, .int .i64 0, .sl []]) (n := (l.map Bd.da).length) rfl hx1 hd rfl
    exact he ▸ ih
theorem szBindS_call (l : List Bd) (left : Int) (h0 : 0 ≤ left) (h1 : left ≤ 1048576) : XC Try.prog 81 [L (l.map Bd.da), Z left] [] (Z (lft (cnL Bd.cn l) left)) [] := by
  refine xc_fit fun hfit => ?_
  have hlen : l.length ≤ 281474976710656 := by have := hfit.one.len; simpa using this
  apply laws_szBindS_of
  rw [List.length_map, wrI (by omega) (by omega)]
  refine ifB_d (fun h => ⟨?_, rfl⟩) fun h => ?_
  · rw [lft, if_pos (by have := cnL_len Bd.cn l; omega)]
  · have key := loopUp (p := fun i => ∀ m : Int, 0 ≤ m → m ≤ 1048576 → laws_szBindS_L5 (Z (lft ((l.drop i).map Bd.cn).sum m)) [] (l.map Bd.da) m (i : Int)) l.length ?_ ?_ 0 (Nat.zero_le _)
    · have := key (left - l.length) (by omega) (by omega)
      have e : lft ((l.drop 0).map Bd.cn).sum (left - l.length) = lft (cnL Bd.cn l) left := by
        rw [List.drop_zero, cnL]; unfold lft; split <;> split <;> omega
      rw [e] at this
      exact this
    · intro m hm0 hm1
      apply laws_szBindS_L5_of
      refine ifB_f (lt_decF (by simp)) ⟨?_, rfl⟩
      simp [lft]; omega
    · intro i hi ih m hm0 hm1
      obtain ⟨x, hx⟩ := get_ex hi
      have hx1 := get_map (g := Bd.da) hx
      have hxc := szBind_call x m hm0 hm1
      have hdr : ((l.drop i).map Bd.cn).sum = Bd.cn x + ((l.drop (i + 1)).map Bd.cn).sum := by
        obtain ⟨hl, e⟩ := List.getElem?_eq_some_iff.1 hx
        rw [List.drop_eq_getElem_cons hl, e]; simp
      have hle := lft_le (n := Bd.cn x) (l := m) (by omega)
      rw [hdr]
      generalize Bd.cn x = cx at *
      obtain ⟨v, ⟨f, u, ks⟩⟩ := x
      apply laws_szBindS_L5_of
      refine ifB_t (lt_dec (by simpa using hi)) ⟨i, rfl, _, _, _, _, hx1, _, hxc, ?_⟩
      refine ifB_d (fun h => ⟨?_, rfl⟩) fun h => ?_
      · have := lft_neg h hm0
        rw [show lft (cx + ((l.drop (i + 1)).map Bd.cn).sum) m = -1 by unfold lft at h ⊢; split at h <;> split <;> omega]
      · rw [wr1 hi hlen, ← lft_lft (by omega)]
        exact ih _ (by omega) (by omega)
theorem eqBindS_call (l : List Bd) : XC Try.prog 88 [L (l.map Bd.da), L (l.map Bd.da)] [] (B true) [] := by
  refine xc_fit fun hfit => ?_
  have hlen : l.length ≤ 281474976710656 := by have := hfit.one.len; simpa using this
  apply laws_eqBindS_of
  refine ifB_f ne_decF ?_
  refine loopUp (p := fun i => laws_eqBindS_L4 (B true) [] (l.map Bd.da) (l.map Bd.da) (i : Int)) l.length ?_ (fun i hi ih => ?_) 0 (Nat.zero_le _)
  · apply laws_eqBindS_L4_of
    exact ifB_f (lt_decF (by simp)) ⟨rfl, rfl⟩
  · obtain ⟨x, hx⟩ := get_ex hi
    have hx1 := get_map (g := Bd.da) hx
    have hxc := eqBind_call x
    obtain ⟨v, ⟨f, u, ks⟩⟩ := x
    apply laws_eqBindS_L4_of
    refine ifB_t (lt_dec (by simpa using hi)) ⟨i, rfl, _, _, _, _, hx1, i, rfl, _, _, _, _, hx1, _, hxc, ifB_f rfl ?_⟩
    rw [wr1 hi hlen]
    exact ih
theorem szLit_call (x : Li) (m : Int) (h0 : 0 ≤ m) (h1 : m ≤ 1048576) : XC Try.prog 16 [.dat x.da, Z m] [] (Z (lft x.cn m)) [] := by
  obtain ⟨p, ⟨f, u, ks⟩, ⟨g, v, ms⟩⟩ := x
  apply laws_szLit_of
  have hle := lft_le (n := Tm.cn (.mk f u ks)) (l := m) (by omega)
  refine ⟨_, szTerm_call (.mk f u ks) m h0 h1, ifB_d (fun h => zw (lft_lt h h0)) fun h => ⟨_, szTerm_call (.mk g v ms) _ (by omega) (by omega), ifB_d (fun h2 => zw ?_) fun h2 => zw ?_⟩⟩
  · have := lft_lt0 h2 (by omega); rw [lft_lft (by omega)] at this; exact this
  · rw [lft_lft (by omega)]; rfl
theorem toLit_call (x : Li) (hc : x.cn ≤ 1048576) : XC Try.prog 19 [.dat x.da] [] (.dat x.da) [] := by
  obtain ⟨p, ⟨f, u, ks⟩, ⟨g, v, ms⟩⟩ := x
  have hc2 : Tm.cn (.mk f u ks) + Tm.cn (.mk g v ms) ≤ 1048576 := hc
  apply laws_toLit_of
  exact ⟨_, _, _, toTerm_call (.mk f u ks) (by omega), _, _, _, toTerm_call (.mk g v ms) (by omega), rfl, rfl⟩
theorem eqLit_call (x : Li) : XC Try.prog 22 [.dat x.da, .dat x.da] [] (B true) [] := by
  obtain ⟨p, ⟨f, u, ks⟩, ⟨g, v, ms⟩⟩ := x
  apply laws_eqLit_of
  exact ifB_f ne_decB ⟨_, eqTerm_call (.mk f u ks), ifB_f rfl ⟨_, eqTerm_call (.mk g v ms), ifB_f rfl ⟨rfl, rfl⟩⟩⟩
theorem toLitS_call (l : List Li) (hc : cnL Li.cn l ≤ 1048576) : XC Try.prog 92 [L (l.map Li.da)] [] (L (l.map Li.da)) [] := by
  have hl := cnL_len Li.cn l
  apply laws_toLitS_of
  refine ⟨l.length, l.length, by simp, by simp, ⟨by omega, by dsimp only; omega, by omega⟩, ?_⟩
  have key := loopUp (p := fun i => laws_toLitS_L3 (L (l.map Li.da)) [] (l.map Li.da) (i : Int) ((l.map Li.da).take i ++ List.replicate ((l.map Li.da).length - i) [.bool false, .int .i64 0, .int .i64 0, .sl [], .int .i64 0, .int .i64 0, .sl []])) l.length ?_ ?_ 0 (Nat.zero_le _)
  · rw [List.take_zero, List.nil_append, Nat.sub_zero, List.length_map] at key
    exact key
  · apply laws_toLitS_L3_of
    refine ifB_f (lt_decF (by simp)) ⟨?_, rfl⟩
    rw [fill_all rfl (by simp)]
  · intro i hi ih
    obtain ⟨x, hx⟩ := get_ex hi
    have hx1 := get_map (g := Li.da) hx
    have hm := cnL_mem (cn := Li.cn) (List.mem_of_getElem? hx)
    have hxc := toLit_call x (by omega)
    have hd := Li.da_len x
    obtain ⟨p, ⟨f, v, ks⟩, ⟨g, u, ms⟩⟩ := x
    apply laws_toLitS_L3_of
    refine ifB_t (lt_dec (by simpa using hi)) ⟨i, rfl, _, _, _, _, _, _, _, hx1, _, _, _, _, _, _, _, hxc, i, rfl, ⟨by simp; omega⟩, i, by omega, _, _, _, _, _, _, _, fill_get rfl (by simpa using hi), ?_⟩
    rw [wr1 hi (by omega)]
    have he := fill_setE (z := [.bool false, .int .i64 0, .int .i64 0, .sl [], .int .i64 0, .int .i64 0, .sl []]) (n := (l.map Li.da).length) rfl hx1 hd rfl
    exact he ▸ ih
theorem szLitS_call (l : List Li) (left : Int) (h0 : 0 ≤ left) (h1 : left ≤ 1048576) : XC Try.prog 91 [L (l.map Li.da), Z left] [] (Z (lft (cnL Li.cn l) left)) [] := by
  refine xc_fit fun hfit => ?_
  have hlen : l.length ≤ 281474976710656 := by have := hfit.one.len; simpa using this
  apply laws_szLitS_of
  rw [List.length_map, wrI (by omega) (by omega)]
  refine ifB_d (fun h => ⟨?_, rfl⟩) fun h => ?_
  · rw [lft, if_pos (by have := cnL_len Li.cn l; omega)]
  · have key := loopUp (p := fun i => ∀ m : Int, 0 ≤ m → m ≤ 1048576 → laws_szLitS_L5 (Z (lft ((l.drop i).map Li.cn).sum m)) [] (l.map Li.da) m (i : Int)) l.length ?_ ?_ 0 (Nat.zero_le _)
    · have := key (left - l.length) (by omega) (by omega)
      have e : lft ((l.drop 0).map Li.cn).sum (left - l.length) = lft (cnL Li.cn l) left := by
        rw [List.drop_zero, cnL]; unfold lft; split <;> split <;> omega
      rw [e] at this
      exact this
    · intro m hm0 hm1
      apply laws_szLitS_L5_of
      refine ifB_f (lt_decF (by simp)) ⟨?_, rfl⟩
      simp [lft]; omega
    · intro i hi ih m hm0 hm1
      obtain ⟨x, hx⟩ := get_ex hi
      have hx1 := get_map (g := Li.da) hx
      have hxc := szLit_call x m hm0 hm1
      have hdr : ((l.drop i).map Li.cn).sum = Li.cn x + ((l.drop (i + 1)).map Li.cn).sum := by
        obtain ⟨hl, e⟩ := List.getElem?_eq_some_iff.1 hx
        rw [List.drop_eq_getElem_cons hl, e]; simp
      have hle := lft_le (n := Li.cn x) (l := m) (by omega)
      rw [hdr]
      generalize Li.cn x = cx at *
      obtain ⟨p, ⟨f, v, ks⟩, ⟨g, u, ms⟩⟩ := x
      apply laws_szLitS_L5_of
      refine ifB_t (lt_dec (by simpa using hi)) ⟨i, rfl, _, _, _, _, _, _, _, hx1, _, hxc, ?_⟩
      refine ifB_d (fun h => ⟨?_, rfl⟩) fun h => ?_
      · have := lft_neg h hm0
        rw [show lft (cx + ((l.drop (i + 1)).map Li.cn).sum) m = -1 by unfold lft at h ⊢; split at h <;> split <;> omega]
      · rw [wr1 hi hlen, ← lft_lft (by omega)]
        exact ih _ (by omega) (by omega)
theorem eqLitS_call (l : List Li) : XC Try.prog 94 [L (l.map Li.da), L (l.map Li.da)] [] (B true) [] := by
  refine xc_fit fun hfit => ?_
  have hlen : l.length ≤ 281474976710656 := by have := hfit.one.len; simpa using this
  apply laws_eqLitS_of
  refine ifB_f ne_decF ?_
  refine loopUp (p := fun i => laws_eqLitS_L4 (B true) [] (l.map Li.da) (l.map Li.da) (i : Int)) l.length ?_ (fun i hi ih => ?_) 0 (Nat.zero_le _)
  · apply laws_eqLitS_L4_of
    exact ifB_f (lt_decF (by simp)) ⟨rfl, rfl⟩
  · obtain ⟨x, hx⟩ := get_ex hi
    have hx1 := get_map (g := Li.da) hx
    have hxc := eqLit_call x
    obtain ⟨p, ⟨f, v, ks⟩, ⟨g, u, ms⟩⟩ := x
    apply laws_eqLitS_L4_of
    refine ifB_t (lt_dec (by simpa using hi)) ⟨i, rfl, _, _, _, _, _, _, _, hx1, i, rfl, _, _, _, _, _, _, _, hx1, _, hxc, ifB_f rfl ?_⟩
    rw [wr1 hi hlen]
    exact ih
theorem szClause_call (x : Cl) (m : Int) (h0 : 0 ≤ m) (h1 : m ≤ 1048576) : XC Try.prog 35 [.dat x.da, Z m] [] (Z (lft x.cn m)) [] := by
  apply laws_szClause_of
  exact ⟨_, szLitS_call x.ls m h0 h1, ifB_d (fun h => zw (lft_lt0 h h0)) fun _ => ⟨rfl, rfl⟩⟩
theorem toClause_call (x : Cl) (hc : x.cn ≤ 1048576) : XC Try.prog 37 [.dat x.da] [] (.dat x.da) [] := by
  apply laws_toClause_of
  exact ⟨_, toLitS_call x.ls hc, rfl, rfl⟩
theorem eqClause_call (x : Cl) : XC Try.prog 39 [.dat x.da, .dat x.da] [] (B true) [] := by
  apply laws_eqClause_of
  exact ⟨_, eqLitS_call x.ls, ifB_f rfl ⟨rfl, rfl⟩⟩
theorem toClauseS_call (l : List Cl) (hc : cnL Cl.cn l ≤ 1048576) : XC Try.prog 44 [L (l.map Cl.da)] [] (L (l.map Cl.da)) [] := by
  have hl := cnL_len Cl.cn l
  apply laws_toClauseS_of
  refine ⟨l.length, l.length, by simp, by simp, ⟨by omega, by dsimp only; omega, by omega⟩, ?_⟩
  have key := loopUp (p := fun i => laws_toClauseS_L3 (L (l.map Cl.da)) [] (l.map Cl.da) (i : Int) ((l.map Cl.da).take i ++ List.replicate ((l.map Cl.da).length - i) [.sl []])) l.length ?_ ?_ 0 (Nat.zero_le _)
  · rw [List.take_zero, List.nil_append, Nat.sub_zero, List.length_map] at key
    exact key
  · apply laws_toClauseS_L3_of
    refine ifB_f (lt_decF (by simp)) ⟨?_, rfl⟩
    rw [fill_all rfl (by simp)]
  · intro i hi ih
    obtain ⟨x, hx⟩ := get_ex hi
    have hx1 := get_map (g := Cl.da) hx
    have hm := cnL_mem (cn := Cl.cn) (List.mem_of_getElem? hx)
    have hxc := toClause_call x (by omega)
    have hd := Cl.da_len x
    obtain ⟨ls⟩ := x
    apply laws_toClauseS_L3_of
    refine ifB_t (lt_dec (by simpa using hi)) ⟨i, rfl, _, hx1, _, hxc, i, rfl, ⟨by simp; omega⟩, i, by omega, _, fill_get rfl (by simpa using hi), ?_⟩
    rw [wr1 hi (by omega)]
    have he := fill_setE (z := [.sl []]) (n := (l.map Cl.da).length) rfl hx1 hd rfl
    exact he ▸ ih
theorem szClauseS_call (l : List Cl) (left : Int) (h0 : 0 ≤ left) (h1 : left ≤ 1048576) : XC Try.prog 42 [L (l.map Cl.da), Z left] [] (Z (lft (cnL Cl.cn l) left)) [] := by
  refine xc_fit fun hfit => ?_
  have hlen : l.length ≤ 281474976710656 := by have := hfit.one.len; simpa using this
  apply laws_szClauseS_of
  rw [List.length_map, wrI (by omega) (by omega)]
  refine ifB_d (fun h => ⟨?_, rfl⟩) fun h => ?_
  · rw [lft, if_pos (by have := cnL_len Cl.cn l; omega)]
  · have key := loopUp (p := fun i => ∀ m : Int, 0 ≤ m → m ≤ 1048576 → laws_szClauseS_L5 (Z (lft ((l.drop i).map Cl.cn).sum m)) [] (l.map Cl.da) m (i : Int)) l.length ?_ ?_ 0 (Nat.zero_le _)
    · have := key (left - l.length) (by omega) (by omega)
      have e : lft ((l.drop 0).map Cl.cn).sum (left - l.length) = lft (cnL Cl.cn l) left := by
        rw [List.drop_zero, cnL]; unfold lft; split <;> split <;> omega
      rw [e] at this
      exact this
    · intro m hm0 hm1
      apply laws_szClauseS_L5_of
      refine ifB_f (lt_decF (by simp)) ⟨?_, rfl⟩
      simp [lft]; omega
    · intro i hi ih m hm0 hm1
      obtain ⟨x, hx⟩ := get_ex hi
      have hx1 := get_map (g := Cl.da) hx
      have hxc := szClause_call x m hm0 hm1
      have hdr : ((l.drop i).map Cl.cn).sum = Cl.cn x + ((l.drop (i + 1)).map Cl.cn).sum := by
        obtain ⟨hl, e⟩ := List.getElem?_eq_some_iff.1 hx
        rw [List.drop_eq_getElem_cons hl, e]; simp
      have hle := lft_le (n := Cl.cn x) (l := m) (by omega)
      rw [hdr]
      generalize Cl.cn x = cx at *
      obtain ⟨ls⟩ := x
      apply laws_szClauseS_L5_of
      refine ifB_t (lt_dec (by simpa using hi)) ⟨i, rfl, _, hx1, _, hxc, ?_⟩
      refine ifB_d (fun h => ⟨?_, rfl⟩) fun h => ?_
      · have := lft_neg h hm0
        rw [show lft (cx + ((l.drop (i + 1)).map Cl.cn).sum) m = -1 by unfold lft at h ⊢; split at h <;> split <;> omega]
      · rw [wr1 hi hlen, ← lft_lft (by omega)]
        exact ih _ (by omega) (by omega)
theorem eqClauseS_call (l : List Cl) : XC Try.prog 46 [L (l.map Cl.da), L (l.map Cl.da)] [] (B true) [] := by
  refine xc_fit fun hfit => ?_
  have hlen : l.length ≤ 281474976710656 := by have := hfit.one.len; simpa using this
  apply laws_eqClauseS_of
  refine ifB_f ne_decF ?_
  refine loopUp (p := fun i => laws_eqClauseS_L4 (B true) [] (l.map Cl.da) (l.map Cl.da) (i : Int)) l.length ?_ (fun i hi ih => ?_) 0 (Nat.zero_le _)
  · apply laws_eqClauseS_L4_of
    exact ifB_f (lt_decF (by simp)) ⟨rfl, rfl⟩
  · obtain ⟨x, hx⟩ := get_ex hi
    have hx1 := get_map (g := Cl.da) hx
    have hxc := eqClause_call x
    obtain ⟨ls⟩ := x
    apply laws_eqClauseS_L4_of
    refine ifB_t (lt_dec (by simpa using hi)) ⟨i, rfl, _, hx1, i, rfl, _, hx1, _, hxc, ifB_f rfl ?_⟩
    rw [wr1 hi hlen]
    exact ih
theorem szRule_call (x : Ru) (m : Int) (h0 : 0 ≤ m) (h1 : m ≤ 1048576) : XC Try.prog 54 [.dat x.da, Z m] [] (Z (lft x.cn m)) [] := by
  obtain ⟨⟨f, u, ks⟩, ⟨g, v, ms⟩⟩ := x
  apply laws_szRule_of
  have hle := lft_le (n := Tm.cn (.mk f u ks)) (l := m) (by omega)
  refine ⟨_, szTerm_call (.mk f u ks) m h0 h1, ifB_d (fun h => zw (lft_lt h h0)) fun h => ⟨_, szTerm_call (.mk g v ms) _ (by omega) (by omega), ifB_d (fun h2 => zw ?_) fun h2 => zw ?_⟩⟩
  · have := lft_lt0 h2 (by omega); rw [lft_lft (by omega)] at this; exact this
  · rw [lft_lft (by omega)]; rfl
theorem toRule_call (x : Ru) (hc : x.cn ≤ 1048576) : XC Try.prog 56 [.dat x.da] [] (.dat x.da) [] := by
  obtain ⟨⟨f, u, ks⟩, ⟨g, v, ms⟩⟩ := x
  have hc2 : Tm.cn (.mk f u ks) + Tm.cn (.mk g v ms) ≤ 1048576 := hc
  apply laws_toRule_of
  exact ⟨_, _, _, toTerm_call (.mk f u ks) (by omega), _, _, _, toTerm_call (.mk g v ms) (by omega), rfl, rfl⟩
theorem eqRule_call (x : Ru) : XC Try.prog 58 [.dat x.da, .dat x.da] [] (B true) [] := by
  obtain ⟨⟨f, u, ks⟩, ⟨g, v, ms⟩⟩ := x
  apply laws_eqRule_of
  exact ⟨_, eqTerm_call (.mk f u ks), ifB_f rfl ⟨_, eqTerm_call (.mk g v ms), ifB_f rfl ⟨rfl, rfl⟩⟩⟩
theorem szStep_call (x : Sp) (m : Int) (h0 : 0 ≤ m) (h1 : m ≤ 1048576) : XC Try.prog 25 [.dat x.da, Z m] [] (Z (lft x.cn m)) [] := by
  have l1 := lft_le (n := x.way.length) (l := m) (by omega)
  have e : x.cn = x.way.length + (cnL Bd.cn x.sub + x.cl.cn) := by unfold Sp.cn; omega
  rw [e]
  apply laws_szStep_of
  refine ⟨_, szIntS_call x.way m h0 h1, ifB_d (fun h => zw (lft_lt h h0)) fun h => ?_⟩
  rw [← lft_lft (by omega)]
  generalize lft x.way.length m = m1 at *
  have l2 := lft_le (n := cnL Bd.cn x.sub) (l := m1) (by omega)
  refine ⟨_, szBindS_call x.sub m1 (by omega) (by omega), ifB_d (fun h => zw (lft_lt h (by omega))) fun h => ?_⟩
  rw [← lft_lft (by omega)]
  generalize lft (cnL Bd.cn x.sub) m1 = m2 at *
  exact ⟨_, szClause_call x.cl m2 (by omega) (by omega), ifB_d (fun h => zw (lft_lt0 h (by omega))) fun h => ⟨rfl, rfl⟩⟩
theorem toStep_call (x : Sp) (hc : x.cn ≤ 1048576) : XC Try.prog 27 [.dat x.da] [] (.dat x.da) [] := by
  unfold Sp.cn at hc
  apply laws_toStep_of
  exact ⟨_, toIntS_call x.way (by omega), _, toBindS_call x.sub (by omega), _, toClause_call x.cl (by omega), rfl, rfl⟩
theorem eqStep_call (x : Sp) : XC Try.prog 29 [.dat x.da, .dat x.da] [] (B true) [] := by
  apply laws_eqStep_of
  exact ifB_f ne_decF (ifB_f ne_decF (ifB_f ne_decF (ifB_f ne_decF (ifB_f ne_decF (ifB_f ne_decB (ifB_f ne_decB ⟨_, eqIntS_call x.way, ifB_f rfl (ifB_f ne_decB ⟨_, eqBindS_call x.sub, ifB_f rfl ⟨_, eqClause_call x.cl, ifB_f rfl ⟨rfl, rfl⟩⟩⟩)⟩))))))
theorem toStepS_call (l : List Sp) (hc : cnL Sp.cn l ≤ 1048576) : XC Try.prog 32 [L (l.map Sp.da)] [] (L (l.map Sp.da)) [] := by
  have hl := cnL_len Sp.cn l
  apply laws_toStepS_of
  refine ⟨l.length, l.length, by simp, by simp, ⟨by omega, by dsimp only; omega, by omega⟩, ?_⟩
  have key := loopUp (p := fun i => laws_toStepS_L3 (L (l.map Sp.da)) [] (l.map Sp.da) (i : Int) ((l.map Sp.da).take i ++ List.replicate ((l.map Sp.da).length - i) [.int .i64 0, .int .i64 0, .int .i64 0, .int .i64 0, .int .i64 0, .bool false, .bool false, .sl [], .bool false, .sl [], .sl []])) l.length ?_ ?_ 0 (Nat.zero_le _)
  · rw [List.take_zero, List.nil_append, Nat.sub_zero, List.length_map] at key
    exact key
  · apply laws_toStepS_L3_of
    refine ifB_f (lt_decF (by simp)) ⟨?_, rfl⟩
    rw [fill_all rfl (by simp)]
  · intro i hi ih
    obtain ⟨x, hx⟩ := get_ex hi
    have hx1 := get_map (g := Sp.da) hx
    have hm := cnL_mem (cn := Sp.cn) (List.mem_of_getElem? hx)
    have hxc := toStep_call x (by omega)
    have hd := Sp.da_len x
    obtain ⟨kd, a, b, i2, k2, lf, sd, wy, ex, sb, ⟨ls⟩⟩ := x
    apply laws_toStepS_L3_of
    refine ifB_t (lt_dec (by simpa using hi)) ⟨i, rfl, _, _, _, _, _, _, _, _, _, _, _, hx1, _, _, _, _, _, _, _, _, _, _, _, hxc, i, rfl, ⟨by simp; omega⟩, i, by omega, _, _, _, _, _, _, _, _, _, _, _, fill_get rfl (by simpa using hi), ?_⟩
    rw [wr1 hi (by omega)]
    have he := fill_setE (z := [.int .i64 0, .int .i64 0, .int .i64 0, .int .i64 0, .int .i64 0, .bool false, .bool false, .sl [], .bool false, .sl [], .sl []]) (n := (l.map Sp.da).length) rfl hx1 hd rfl
    exact he ▸ ih
theorem szStepS_call (l : List Sp) (left : Int) (h0 : 0 ≤ left) (h1 : left ≤ 1048576) : XC Try.prog 30 [L (l.map Sp.da), Z left] [] (Z (lft (cnL Sp.cn l) left)) [] := by
  refine xc_fit fun hfit => ?_
  have hlen : l.length ≤ 281474976710656 := by have := hfit.one.len; simpa using this
  apply laws_szStepS_of
  rw [List.length_map, wrI (by omega) (by omega)]
  refine ifB_d (fun h => ⟨?_, rfl⟩) fun h => ?_
  · rw [lft, if_pos (by have := cnL_len Sp.cn l; omega)]
  · have key := loopUp (p := fun i => ∀ m : Int, 0 ≤ m → m ≤ 1048576 → laws_szStepS_L5 (Z (lft ((l.drop i).map Sp.cn).sum m)) [] (l.map Sp.da) m (i : Int)) l.length ?_ ?_ 0 (Nat.zero_le _)
    · have := key (left - l.length) (by omega) (by omega)
      have e : lft ((l.drop 0).map Sp.cn).sum (left - l.length) = lft (cnL Sp.cn l) left := by
        rw [List.drop_zero, cnL]; unfold lft; split <;> split <;> omega
      rw [e] at this
      exact this
    · intro m hm0 hm1
      apply laws_szStepS_L5_of
      refine ifB_f (lt_decF (by simp)) ⟨?_, rfl⟩
      simp [lft]; omega
    · intro i hi ih m hm0 hm1
      obtain ⟨x, hx⟩ := get_ex hi
      have hx1 := get_map (g := Sp.da) hx
      have hxc := szStep_call x m hm0 hm1
      have hdr : ((l.drop i).map Sp.cn).sum = Sp.cn x + ((l.drop (i + 1)).map Sp.cn).sum := by
        obtain ⟨hl, e⟩ := List.getElem?_eq_some_iff.1 hx
        rw [List.drop_eq_getElem_cons hl, e]; simp
      have hle := lft_le (n := Sp.cn x) (l := m) (by omega)
      rw [hdr]
      generalize Sp.cn x = cx at *
      obtain ⟨kd, a, b, i2, k2, lf, sd, wy, ex, sb, ⟨ls⟩⟩ := x
      apply laws_szStepS_L5_of
      refine ifB_t (lt_dec (by simpa using hi)) ⟨i, rfl, _, _, _, _, _, _, _, _, _, _, _, hx1, _, hxc, ?_⟩
      refine ifB_d (fun h => ⟨?_, rfl⟩) fun h => ?_
      · have := lft_neg h hm0
        rw [show lft (cx + ((l.drop (i + 1)).map Sp.cn).sum) m = -1 by unfold lft at h ⊢; split at h <;> split <;> omega]
      · rw [wr1 hi hlen, ← lft_lft (by omega)]
        exact ih _ (by omega) (by omega)
theorem eqStepS_call (l : List Sp) : XC Try.prog 34 [L (l.map Sp.da), L (l.map Sp.da)] [] (B true) [] := by
  refine xc_fit fun hfit => ?_
  have hlen : l.length ≤ 281474976710656 := by have := hfit.one.len; simpa using this
  apply laws_eqStepS_of
  refine ifB_f ne_decF ?_
  refine loopUp (p := fun i => laws_eqStepS_L4 (B true) [] (l.map Sp.da) (l.map Sp.da) (i : Int)) l.length ?_ (fun i hi ih => ?_) 0 (Nat.zero_le _)
  · apply laws_eqStepS_L4_of
    exact ifB_f (lt_decF (by simp)) ⟨rfl, rfl⟩
  · obtain ⟨x, hx⟩ := get_ex hi
    have hx1 := get_map (g := Sp.da) hx
    have hxc := eqStep_call x
    obtain ⟨kd, a, b, i2, k2, lf, sd, wy, ex, sb, ⟨ls⟩⟩ := x
    apply laws_eqStepS_L4_of
    refine ifB_t (lt_dec (by simpa using hi)) ⟨i, rfl, _, _, _, _, _, _, _, _, _, _, _, hx1, i, rfl, _, _, _, _, _, _, _, _, _, _, _, hx1, _, hxc, ifB_f rfl ?_⟩
    rw [wr1 hi hlen]
    exact ih

end AM
end Go.Proofs.Ytbgpofimflnabaa
