/- Contracts of functions of the program, out of what their texts ask; no conditions. -/
import Derived.Test.YtbgpofimflnabaaHu2
import Derived.Test.YtbgpofimflnabaaDt
set_option linter.unusedVariables false
set_option linter.unusedSimpArgs false
set_option maxRecDepth 100000
namespace Go.Proofs.Ytbgpofimflnabaa
namespace AM
open Go

open Classical in
/-- A proposition as a Bool. -/
noncomputable def dB (p : Prop) : Bool := decide p
theorem dB_t {p : Prop} (h : p) : B true = B (dB p) ∧ ([] : List (Nat × Ob)) = [] := ⟨by simp [dB, h], rfl⟩
theorem dB_f {p : Prop} (h : ¬ p) : B false = B (dB p) ∧ ([] : List (Nat × Ob)) = [] := ⟨by simp [dB, h], rfl⟩
theorem dB_e {p : Prop} {b : Bool} (h : b = true ↔ p) : B b = B (dB p) ∧ ([] : List (Nat × Ob)) = [] := ⟨by congr 1; rw [Bool.eq_iff_iff]; simp [dB, h], rfl⟩
theorem dB_true {p : Prop} : dB p = true ↔ p := by simp [dB]
theorem dB_false {p : Prop} : dB p = false ↔ ¬ p := by simp [dB]
theorem inR_t {x lo hi : Int} : inR x lo hi = true ↔ lo ≤ x ∧ x ≤ hi := by simp [inR]
theorem not_f {b : Bool} (h : (!b) = false) : b = true := by simpa using h
theorem not_t {b : Bool} (h : (!b) = true) : b = false := by simpa using h
def pSum (l : List Tm) : Nat := (l.map fun t => t.cn + 1).sum
theorem pSum_cns (l : List Tm) : pSum l = Tm.cns l := by
  induction l with
  | nil => rfl
  | cons t r ih => simp [pSum, Tm.cns] at ih ⊢; omega
theorem Tm.cn_mk {f v : Int} {ks : List Tm} : Tm.cn (.mk f v ks) = Tm.cns ks := by simp [Tm.cn]
theorem cn_kid {ks : List Tm} {i : Nat} {x : Tm} (h : ks[i]? = some x) : x.cn + ks.length ≤ Tm.cns ks := Tm.cns_cnL ks ▸ cnL_mem (cn := Tm.cn) (List.mem_of_getElem? h)
theorem cns_len (ks : List Tm) : ks.length ≤ Tm.cns ks := Tm.cns_cnL ks ▸ cnL_len Tm.cn ks
theorem specParts_call (t : Tm) (hc : t.cn ≤ 1048576) : XC Try.prog 119 [.dat t.da] [] (Z ((t.cn + 1 : Nat) : Int)) [] := by
  induction t using Tm.ind with
  | h f v ks ih =>
  rw [Tm.cn_mk] at hc ⊢
  have hl := cns_len ks
  apply spec_Parts_of
  have key := loopUp (p := fun i => ∀ n : Nat, n + pSum (ks.drop i) ≤ 1048577 → spec_Parts_L3 (Z ((n + pSum (ks.drop i) : Nat) : Int)) [] (n : Int) (i : Int) f v (Tm.das ks)) ks.length ?_ (fun i hi ihl => ?_) 0 (Nat.zero_le _)
  · have := key 1 (by rw [List.drop_zero, pSum_cns]; omega)
    rw [List.drop_zero, pSum_cns, Nat.add_comm] at this
    exact this
  · intro n hn
    apply spec_Parts_L3_of
    exact ifB_f (lt_decF (by rw [das_len]; exact Nat.le_refl _)) ⟨by rw [drop_end]; simp [pSum], rfl⟩
  · intro n hn
    obtain ⟨x, hx⟩ := get_ex hi
    have hx1 := get_das hx
    have hk := cn_kid hx
    have hxc := ih x (List.mem_of_getElem? hx) (by omega)
    have e : pSum (ks.drop i) = x.cn + 1 + pSum (ks.drop (i + 1)) := by rw [drop_cons hx]; simp [pSum]
    rw [e] at hn ⊢
    generalize x.cn = c at *
    obtain ⟨f', v', ks'⟩ := x
    apply spec_Parts_L3_of
    refine ifB_t (lt_dec (by rwa [das_len])) ⟨i, rfl, _, _, _, hx1, _, hxc, ?_⟩
    rw [wr1 hi (by omega), wrI (by omega) (by omega)]
    have := ihl (n + (c + 1)) (by omega)
    rw [Nat.add_assoc] at this
    exact this
theorem eachParts_call (t : Tm) (hc : t.cn ≤ 1048576) (n : Nat) (hn : n + t.cn + 1 ≤ 2097152) : XC Try.prog 134 [.dat t.da, .one (.clo 148 [(2000, 0)])] [(2000, .var [.d (.int .i64 (n : Int))])] (.tup []) [(2000, .var [.d (.int .i64 ((n + t.cn + 1 : Nat) : Int))])] := by
  induction t using Tm.ind generalizing n with
  | h f v ks ih =>
  rw [Tm.cn_mk] at hc hn ⊢
  have hl := cns_len ks
  apply impl_each_impl_Parts_1_of
  refine ⟨((n + 1 : Nat) : Int), impl_Parts_1_of ⟨rfl, by rw [wrI (by omega) (by omega)]; rfl⟩, ?_⟩
  have key := loopUp (p := fun i => ∀ m : Nat, m + pSum (ks.drop i) ≤ 2097152 → impl_each_impl_Parts_1_L3 (.tup []) [(2000, .var [.d (.int .i64 ((m + pSum (ks.drop i) : Nat) : Int))])] (Tm.das ks) (ks.length : Int) (i : Int) (m : Int)) ks.length ?_ (fun i hi ihl => ?_) 0 (Nat.zero_le _)
  · have := key (n + 1) (by rw [List.drop_zero, pSum_cns]; omega)
    rw [List.drop_zero, pSum_cns, show n + 1 + Tm.cns ks = n + Tm.cns ks + 1 by omega] at this
    rw [das_len]
    exact this
  · intro m hm
    apply impl_each_impl_Parts_1_L3_of
    exact ifB_f (lt_decF (Nat.le_refl _)) ⟨rfl, by rw [drop_end]; simp [pSum]⟩
  · intro m hm
    obtain ⟨x, hx⟩ := get_ex hi
    have hx1 := get_das hx
    have hk := cn_kid hx
    have e : pSum (ks.drop i) = x.cn + 1 + pSum (ks.drop (i + 1)) := by rw [drop_cons hx]; simp [pSum]
    rw [e] at hm ⊢
    have hxc := ih x (List.mem_of_getElem? hx) (by omega) m (by omega)
    generalize x.cn = c at *
    obtain ⟨f', v', ks'⟩ := x
    apply impl_each_impl_Parts_1_L3_of
    refine ifB_t (lt_dec hi) ⟨i, rfl, _, _, _, hx1, _, hxc, ?_⟩
    rw [wr1 hi (by omega)]
    have := ihl (m + c + 1) (by omega)
    rw [show m + c + 1 + pSum (ks.drop (i + 1)) = m + (c + 1 + pSum (ks.drop (i + 1))) by omega] at this
    exact this
theorem implParts_call (t : Tm) (hc : t.cn ≤ 1048576) : XC Try.prog 123 [.dat t.da] [] (Z ((t.cn + 1 : Nat) : Int)) [] := by
  have h := eachParts_call t hc 0 (by omega)
  rw [Nat.zero_add] at h
  obtain ⟨f, v, ks⟩ := t
  apply impl_Parts_of
  exact ⟨_, h, rfl, rfl⟩
def smB (c : UInt8) : Prop := 97 ≤ c.toNat ∧ c.toNat ≤ 122
def dgB (c : UInt8) : Prop := 48 ≤ c.toNat ∧ c.toNat ≤ 57
def nGood (s : ByteArray) (i : Nat) : Prop := ∀ c, s[i]? = some c → smB c ∨ (0 < i ∧ dgB c)
/-- A name. -/
def nOk (s : ByteArray) : Prop := (∀ i, i < s.size → nGood s i) ∧ 1 ≤ s.size ∧ s.size ≤ 8
theorem byte_ex {t : ByteArray} {i : Nat} (h : i < t.size) : ∃ b, t[i]? = some b := ⟨t[i], by simp [h]⟩
theorem byte_lt {t : ByteArray} {i : Nat} {b : UInt8} (h : t[i]? = some b) : i < t.size := by
  rcases Nat.lt_or_ge i t.size with h1 | h1
  · exact h1
  · simp [show ¬ i < t.size by omega] at h
theorem specNameOk_call (s : ByteArray) : XC Try.prog 144 [T s] [] (B (dB (nOk s))) [] := by
  refine xc_fit fun hfit => ?_
  have hlen : s.size ≤ 281474976710656 := hfit.one.str
  apply spec_NameOk_of
  have key := loopUp (p := fun i => (∀ j, j < i → nGood s j) → spec_NameOk_L2 (B (dB (nOk s))) [] s (i : Int)) s.size ?_ (fun i hi ihl => ?_) 0 (Nat.zero_le _)
  · exact key (by omega)
  · intro hall
    apply spec_NameOk_L2_of
    refine ifB_f (lt_decF (Nat.le_refl _)) ⟨_, l1In_call _ _ _, dB_e ?_⟩
    rw [inR_t]
    exact ⟨fun h => ⟨hall, by omega, by omega⟩, fun h => by have := h.2; omega⟩
  · intro hall
    obtain ⟨b, hb⟩ := byte_ex hi
    have good : nGood s i → spec_NameOk_L2 (B (dB (nOk s))) [] s (IntKind.wrap .i64 ((i : Int) + 1)) := fun h => by
      rw [wr1 hi hlen]
      exact ihl fun j hj => by
        rcases Nat.lt_succ_iff_lt_or_eq.1 hj with hj | rfl
        · exact hall j hj
        · exact h
    have bad : ¬ (smB b ∨ (0 < i ∧ dgB b)) → B false = B (dB (nOk s)) ∧ ([] : List (Nat × Ob)) = [] := fun h => dB_f fun hn => h (hn.1 i hi b hb)
    have rest : ¬ smB b → ifB (decide ((0 : Int) < (i : Int))) (∃ (n : Nat) (b1 : UInt8), (i : Int) = (n : Int) ∧ s[n]? = some b1 ∧ ifB (decide ((48 : Int) ≤ (b1.toNat : Int))) (∃ (n : Nat) (b2 : UInt8), (i : Int) = (n : Int) ∧ s[n]? = some b2 ∧ ifB (!decide ((b2.toNat : Int) ≤ 57)) (B false = B (dB (nOk s)) ∧ ([] : List (Nat × Ob)) = []) (spec_NameOk_L2 (B (dB (nOk s))) [] s (IntKind.wrap .i64 ((i : Int) + 1)))) (B false = B (dB (nOk s)) ∧ ([] : List (Nat × Ob)) = [])) (B false = B (dB (nOk s)) ∧ ([] : List (Nat × Ob)) = []) := by
      intro hns
      refine ifB_d (fun h0 => ⟨i, b, rfl, hb, ifB_d (fun h1 => ⟨i, b, rfl, hb, ifB_of (fun h2 => bad ?_) fun h2 => good ?_⟩) fun h1 => bad ?_⟩) fun h0 => bad ?_
      · have h2 := not_t h2; simp at h2; exact fun h => h.elim hns fun h => by have := h.2; unfold dgB at this; omega
      · have h2 := not_f h2; simp at h2; intro c hc; rw [hb] at hc; cases hc; right; unfold dgB; omega
      · exact fun h => h.elim hns fun h => by have := h.2; unfold dgB at this; omega
      · exact fun h => h.elim hns fun h => by omega
    apply spec_NameOk_L2_of
    refine ifB_t (lt_dec hi) ⟨i, b, rfl, hb, ifB_d (fun h0 => ⟨i, b, rfl, hb, ifB_d (fun h1 => good ?_) fun h1 => ?_⟩) fun h0 => ?_⟩
    · intro c hc; rw [hb] at hc; cases hc; unfold smB; omega
    · exact rest (by unfold smB; omega)
    · exact rest (by unfold smB; omega)
theorem isSmall_call (c : Int) : XC Try.prog 154 [I .u8 c] [] (B (inR c 97 122)) [] := by
  apply impl_isSmall_of
  exact ifB_d (fun h => bE (by simp [inR, h])) fun h => bE (by simp [inR, h])
theorem isDigit_call (c : Int) : XC Try.prog 155 [I .u8 c] [] (B (inR c 48 57)) [] := by
  apply impl_isDigit_of
  exact ifB_d (fun h => bE (by simp [inR, h])) fun h => bE (by simp [inR, h])
theorem implNameOk_call (s : ByteArray) : XC Try.prog 146 [T s] [] (B (dB (nOk s))) [] := by
  refine xc_fit fun hfit => ?_
  have hlen : s.size ≤ 281474976710656 := hfit.one.str
  apply impl_NameOk_of
  have key := loopUp (p := fun i => (∀ j, j < i → ∀ c, s[j]? = some c → smB c ∨ dgB c) → impl_NameOk_L2 (B (dB (nOk s))) [] s (s.size : Int) (i : Int)) s.size ?_ (fun i hi ihl => ?_) 0 (Nat.zero_le _)
  · exact key (by omega)
  · intro hall
    apply impl_NameOk_L2_of
    refine ifB_f (lt_decF (Nat.le_refl _)) ⟨_, from_call _ _ _, ifB_of (fun h => ?_) fun h => dB_f ?_⟩
    · rw [inR_t] at h
      obtain ⟨b, hb⟩ := byte_ex (t := s) (i := 0) (by omega)
      refine ⟨0, b, rfl, hb, _, isSmall_call _, dB_e ?_⟩
      rw [inR_t]
      constructor
      · intro h1
        refine ⟨fun i hi c hc => ?_, by omega, by omega⟩
        rcases Nat.eq_zero_or_pos i with rfl | hp
        · rw [hb] at hc; cases hc; left; unfold smB; omega
        · rcases hall i hi c hc with h | h
          · exact .inl h
          · exact .inr ⟨hp, h⟩
      · intro h1
        rcases h1.1 0 (by omega) b hb with h | h
        · unfold smB at h; omega
        · omega
    · intro hn
      have := hn.2
      rw [Bool.eq_false_iff, Ne, inR_t] at h
      omega
  · intro hall
    obtain ⟨b, hb⟩ := byte_ex hi
    have good : smB b ∨ dgB b → impl_NameOk_L2 (B (dB (nOk s))) [] s (s.size : Int) (IntKind.wrap .i64 ((i : Int) + 1)) := fun h => by
      rw [wr1 hi hlen]
      exact ihl fun j hj c hc => by
        rcases Nat.lt_succ_iff_lt_or_eq.1 hj with hj | rfl
        · exact hall j hj c hc
        · rw [hb] at hc; cases hc; exact h
    apply impl_NameOk_L2_of
    refine ifB_t (lt_dec hi) ⟨i, b, rfl, hb, _, isSmall_call _, ifB_of (fun h1 => ⟨i, b, rfl, hb, _, isDigit_call _, ifB_of (fun h2 => dB_f fun hn => ?_) fun h2 => good ?_⟩) fun h1 => good ?_⟩
    · have h1 := not_t h1
      have h2 := not_t h2
      rw [Bool.eq_false_iff, Ne, inR_t] at h1 h2
      rcases hn.1 i hi b hb with h | h
      · unfold smB at h; omega
      · unfold dgB at h; omega
    · have h2 := not_f h2
      rw [inR_t] at h2
      right; unfold dgB; omega
    · have h1 := not_f h1
      rw [inR_t] at h1
      left; unfold smB; omega
def symAt : List Sy → ByteArray → Nat → Int
  | [], _, _ => -1
  | x :: r, nm, i => if x.nm = nm then i else symAt r nm (i + 1)
theorem specSymOf_call (ss : List Sy) (nm : ByteArray) : XC Try.prog 145 [L (ss.map Sy.da), T nm] [] (Z (symAt ss nm 0)) [] := by
  refine xc_fit fun hfit => ?_
  have hlen : ss.length ≤ 281474976710656 := by have := hfit.one.len; simpa using this
  apply spec_SymOf_of
  have key := loopUp (p := fun i => spec_SymOf_L2 (Z (symAt (ss.drop i) nm i)) [] (ss.map Sy.da) nm (i : Int)) ss.length ?_ (fun i hi ihl => ?_) 0 (Nat.zero_le _)
  · exact key
  · apply spec_SymOf_L2_of
    exact ifB_f (lt_decF (by simp)) ⟨by rw [drop_end]; rfl, rfl⟩
  · obtain ⟨x, hx⟩ := get_ex hi
    have hx1 := get_map (g := Sy.da) hx
    rw [drop_cons hx]
    apply spec_SymOf_L2_of
    refine ifB_t (lt_dec (by simpa using hi)) ⟨i, rfl, _, _, _, hx1, ifB_d (fun h => ⟨by simp [symAt, h], rfl⟩) fun h => ?_⟩
    rw [wr1 hi hlen, symAt, if_neg h]
    exact ihl
theorem implSymOf_call (ss : List Sy) (nm : ByteArray) : XC Try.prog 147 [L (ss.map Sy.da), T nm] [] (Z (symAt ss nm 0)) [] := by
  refine xc_fit fun hfit => ?_
  have hlen : ss.length ≤ 281474976710656 := by have := hfit.one.len; simpa using this
  apply impl_SymOf_of
  refine ⟨_, nm, slices_IndexFunc_Sym_impl_SymOf_1_of ?_, rfl, rfl⟩
  rw [List.length_map]
  have key := loopUp (p := fun i => slices_IndexFunc_Sym_impl_SymOf_1_L2 (Z (symAt (ss.drop i) nm i)) [(2000, .var [.d (.str nm)])] (ss.map Sy.da) (ss.length : Int) (i : Int) nm) ss.length ?_ (fun i hi ihl => ?_) 0 (Nat.zero_le _)
  · exact key
  · apply slices_IndexFunc_Sym_impl_SymOf_1_L2_of
    exact ifB_f (lt_decF (Nat.le_refl _)) ⟨by rw [drop_end]; rfl, rfl⟩
  · obtain ⟨x, hx⟩ := get_ex hi
    have hx1 := get_map (g := Sy.da) hx
    rw [drop_cons hx]
    apply slices_IndexFunc_Sym_impl_SymOf_1_L2_of
    refine ifB_t (lt_dec hi) ⟨i, rfl, _, _, _, hx1, _, nm, impl_SymOf_1_of ⟨rfl, rfl⟩, ifB_d (fun h => ⟨by simp [symAt, h], rfl⟩) fun h => ?_⟩
    rw [wr1 hi hlen, symAt, if_neg h]
    exact ihl
def sgGood (ss : List Sy) (i : Nat) : Prop := ∀ x, ss[i]? = some x → nOk x.nm ∧ symAt ss x.nm 0 = i ∧ (0 ≤ x.ar ∧ x.ar ≤ 3) ∧ (x.ac = true → x.ar = 2)
/-- A list of functions. -/
def sgOk (ss : List Sy) : Prop := (∀ i, i < ss.length → sgGood ss i) ∧ (1 ≤ ss.length ∧ ss.length ≤ 8) ∧ ∃ x, ss[0]? = some x ∧ x.nm = ⟨#[116, 116]⟩ ∧ x.ar = 0
theorem specSigOk_call (ss : List Sy) : XC Try.prog 118 [L (ss.map Sy.da)] [] (B (dB (sgOk ss))) [] := by
  refine xc_fit fun hfit => ?_
  have hlen : ss.length ≤ 281474976710656 := by have := hfit.one.len; simpa using this
  apply spec_SigOk_of
  have key := loopUp (p := fun i => (∀ j, j < i → sgGood ss j) → spec_SigOk_L2 (B (dB (sgOk ss))) [] (ss.map Sy.da) (i : Int)) ss.length ?_ (fun i hi ihl => ?_) 0 (Nat.zero_le _)
  · exact key (by omega)
  · intro hall
    apply spec_SigOk_L2_of
    rw [List.length_map]
    refine ifB_f (lt_decF (Nat.le_refl _)) ⟨_, l1In_call _ _ _, ifB_of (fun h => ?_) fun h => dB_f fun hn => ?_⟩
    · rw [inR_t] at h
      obtain ⟨x, hx⟩ := get_ex (l := ss) (i := 0) (by omega)
      refine ⟨0, rfl, _, _, _, get_map (g := Sy.da) hx, dB_e ?_⟩
      simp only [Bool.and_eq_true, decide_eq_true_eq]
      constructor
      · rintro ⟨h1, h2, h3⟩
        exact ⟨hall, by omega, x, hx, h1, h2⟩
      · rintro ⟨_, _, y, hy, h1, h2⟩
        rw [hx] at hy; cases hy
        refine ⟨h1, h2, ?_⟩
        cases hac : x.ac with
        | false => rfl
        | true => have := (hall 0 (by omega) x hx).2.2.2 hac; omega
    · rw [Bool.eq_false_iff, Ne, inR_t] at h
      have := hn.2.1
      omega
  · intro hall
    obtain ⟨x, hx⟩ := get_ex hi
    have hx1 := get_map (g := Sy.da) hx
    have bad : ¬ (nOk x.nm ∧ symAt ss x.nm 0 = i ∧ (0 ≤ x.ar ∧ x.ar ≤ 3) ∧ (x.ac = true → x.ar = 2)) → B false = B (dB (sgOk ss)) ∧ ([] : List (Nat × Ob)) = [] := fun h => dB_f fun hn => h (hn.1 i hi x hx)
    have good : (nOk x.nm ∧ symAt ss x.nm 0 = i ∧ (0 ≤ x.ar ∧ x.ar ≤ 3) ∧ (x.ac = true → x.ar = 2)) → spec_SigOk_L2 (B (dB (sgOk ss))) [] (ss.map Sy.da) (IntKind.wrap .i64 ((i : Int) + 1)) := fun h => by
      rw [wr1 hi hlen]
      exact ihl fun j hj y hy => by
        rcases Nat.lt_succ_iff_lt_or_eq.1 hj with hj | rfl
        · exact hall j hj y hy
        · rw [hx] at hy; cases hy; exact h
    apply spec_SigOk_L2_of
    refine ifB_t (lt_dec (by simpa using hi)) ⟨i, rfl, _, _, _, hx1, _, specNameOk_call _, ifB_of (fun h1 => bad ?_) fun h1 => ⟨i, rfl, _, _, _, hx1, _, specSymOf_call ss _, ifB_d (fun h2 => bad ?_) fun h2 => ⟨i, rfl, _, _, _, hx1, _, l1In_call _ _ _, ifB_of (fun h3 => bad ?_) fun h3 => ⟨i, rfl, _, _, _, hx1, ifB_of (fun h4 => ⟨i, rfl, _, _, _, hx1, ifB_d (fun h5 => bad ?_) fun h5 => good ?_⟩) fun h4 => good ?_⟩⟩⟩⟩
    · have := dB_false.1 (not_t h1); exact fun h => this h.1
    · exact fun h => h2 h.2.1
    · have := not_t h3; rw [Bool.eq_false_iff, Ne, inR_t] at this; exact fun h => this h.2.2.1
    · exact fun h => h5 (h.2.2.2 h4)
    · have n1 := dB_true.1 (not_f h1); have n3 := not_f h3; rw [inR_t] at n3
      exact ⟨n1, by omega, n3, fun _ => by omega⟩
    · have n1 := dB_true.1 (not_f h1); have n3 := not_f h3; rw [inR_t] at n3
      exact ⟨n1, by omega, n3, fun h => by rw [h4] at h; cases h⟩
theorem implSigOk_call (ss : List Sy) : XC Try.prog 122 [L (ss.map Sy.da)] [] (B (dB (sgOk ss))) [] := by
  refine xc_fit fun hfit => ?_
  have hlen : ss.length ≤ 281474976710656 := by have := hfit.one.len; simpa using this
  apply impl_SigOk_of
  rw [List.length_map]
  have key := loopUp (p := fun i => (∀ j, j < i → sgGood ss j) → impl_SigOk_L2 (B (dB (sgOk ss))) [] (ss.map Sy.da) (ss.map Sy.da) (ss.length : Int) (i : Int)) ss.length ?_ (fun i hi ihl => ?_) 0 (Nat.zero_le _)
  · exact key (by omega)
  · intro hall
    apply impl_SigOk_L2_of
    rw [List.length_map]
    refine ifB_f (lt_decF (Nat.le_refl _)) ⟨_, from_call _ _ _, ifB_of (fun h => ?_) fun h => dB_f fun hn => ?_⟩
    · rw [inR_t] at h
      obtain ⟨x, hx⟩ := get_ex (l := ss) (i := 0) (by omega)
      have hx1 := get_map (g := Sy.da) hx
      refine ⟨0, rfl, _, _, _, hx1, ifB_d (fun h1 => ⟨0, rfl, _, _, _, hx1, dB_e ?_⟩) fun h1 => dB_f fun hn => ?_⟩
      · simp only [decide_eq_true_eq]
        constructor
        · intro h2; exact ⟨hall, by omega, x, hx, h1, h2⟩
        · rintro ⟨_, _, y, hy, _, h2⟩
          rw [hx] at hy; cases hy; exact h2
      · obtain ⟨_, _, y, hy, h2, _⟩ := hn
        rw [hx] at hy; cases hy; exact h1 h2
    · rw [Bool.eq_false_iff, Ne, inR_t] at h
      have := hn.2.1
      omega
  · intro hall
    obtain ⟨x, hx⟩ := get_ex hi
    have hx1 := get_map (g := Sy.da) hx
    have bad : ¬ (nOk x.nm ∧ symAt ss x.nm 0 = i ∧ (0 ≤ x.ar ∧ x.ar ≤ 3) ∧ (x.ac = true → x.ar = 2)) → B false = B (dB (sgOk ss)) ∧ ([] : List (Nat × Ob)) = [] := fun h => dB_f fun hn => h (hn.1 i hi x hx)
    have good : (nOk x.nm ∧ symAt ss x.nm 0 = i ∧ (0 ≤ x.ar ∧ x.ar ≤ 3) ∧ (x.ac = true → x.ar = 2)) → impl_SigOk_L2 (B (dB (sgOk ss))) [] (ss.map Sy.da) (ss.map Sy.da) (ss.length : Int) (IntKind.wrap .i64 ((i : Int) + 1)) := fun h => by
      rw [wr1 hi hlen]
      exact ihl fun j hj y hy => by
        rcases Nat.lt_succ_iff_lt_or_eq.1 hj with hj | rfl
        · exact hall j hj y hy
        · rw [hx] at hy; cases hy; exact h
    apply impl_SigOk_L2_of
    refine ifB_t (lt_dec hi) ⟨i, rfl, _, _, _, hx1, _, implNameOk_call _, ifB_of (fun h1 => bad ?_) fun h1 => ⟨_, implSymOf_call ss _, ifB_d (fun h2 => bad ?_) fun h2 => ⟨_, from_call _ _ _, ifB_of (fun h3 => bad ?_) fun h3 => ifB_of (fun h4 => ifB_d (fun h5 => bad ?_) fun h5 => good ?_) fun h4 => good ?_⟩⟩⟩
    · have := dB_false.1 (not_t h1); exact fun h => this h.1
    · exact fun h => h2 h.2.1
    · have := not_t h3; rw [Bool.eq_false_iff, Ne, inR_t] at this; exact fun h => this h.2.2.1
    · exact fun h => h5 (h.2.2.2 h4)
    · have n1 := dB_true.1 (not_f h1); have n3 := not_f h3; rw [inR_t] at n3
      exact ⟨n1, by omega, n3, fun _ => by omega⟩
    · have n1 := dB_true.1 (not_f h1); have n3 := not_f h3; rw [inR_t] at n3
      exact ⟨n1, by omega, n3, fun h => by rw [h4] at h; cases h⟩

end AM
end Go.Proofs.Ytbgpofimflnabaa
