/- Contracts of functions of the program, out of what their texts ask; no conditions. -/
import Derived.Test.YtfcmmpmdofejeaaPwA
import Derived.Test.YtfcmmpmdofejeaaDt
set_option linter.unusedVariables false
set_option linter.unusedSimpArgs false
set_option maxRecDepth 100000
namespace Go.Proofs.Ytfcmmpmdofejeaa
namespace AM
open Go

theorem lft_lt {c d : Nat} {m : Int} (h : lft c m < 0) (hm : 0 ≤ m) : (-1 : Int) = lft (c + d) m := by unfold lft at h ⊢; split at h <;> split <;> omega
theorem lft_lt0 {c : Nat} {m : Int} (h : lft c m < 0) (hm : 0 ≤ m) : (-1 : Int) = lft c m := by unfold lft at h ⊢; split at h <;> omega
theorem lft_w {c : Nat} {m : Int} (h0 : 0 ≤ m) (h1 : m ≤ 1048576) (hc : c ≤ 281474976710656) (h : IntKind.wrap .i64 (m - (c : Int)) < 0) : (-1 : Int) = lft c m := by
  rw [wrI (by omega) (by omega)] at h
  unfold lft; rw [if_pos (by omega)]
theorem lft_w2 {c : Nat} {m : Int} (h0 : 0 ≤ m) (h1 : m ≤ 1048576) (hc : c ≤ 281474976710656) (h : ¬ IntKind.wrap .i64 (m - (c : Int)) < 0) : IntKind.wrap .i64 (m - (c : Int)) = lft c m := by
  rw [wrI (by omega) (by omega)] at h ⊢
  unfold lft; rw [if_neg (by omega)]
theorem zw {a b : Int} (h : a = b) : Z a = Z b ∧ ([] : List (Nat × Ob)) = [] := ⟨by rw [h], rfl⟩
theorem drop_cons {α : Type} {l : List α} {i : Nat} {x : α} (h : l[i]? = some x) : l.drop i = x :: l.drop (i + 1) := by
  obtain ⟨hl, e⟩ := List.getElem?_eq_some_iff.1 h
  rw [List.drop_eq_getElem_cons hl, e]
theorem drop_end {α : Type} {l : List α} : l.drop l.length = [] := by simp
theorem bF {b : Bool} (h : ¬ b = true) : B false = B b ∧ ([] : List (Nat × Ob)) = [] := ⟨by rw [Bool.eq_false_iff.2 h], rfl⟩
theorem bE {a b : Bool} (h : a = b) : B a = B b ∧ ([] : List (Nat × Ob)) = [] := ⟨by rw [h], rfl⟩
theorem bT {b : Bool} (h : b = true) : B true = B b ∧ ([] : List (Nat × Ob)) = [] := ⟨by rw [h], rfl⟩
theorem ne_i {a b : Int} (h : ¬ a ≠ b) : a = b := by omega
theorem ne_n {a b : Nat} (h : ¬ (a : Int) ≠ (b : Int)) : a = b := by omega
theorem wrM {k : Nat} (h : 0 < k) (hk : k ≤ 281474976710656) : IntKind.wrap .i64 ((k : Int) - 1) = ((k - 1 : Nat) : Int) := by
  rw [wrI (by omega) (by omega)]; omega
/-- One pair of numbers behind another one. -/
def cmp3 (x y : Int) (r : Int) : Int := if x < y then -1 else if x > y then 1 else r
theorem cmp3_zero {x y r : Int} : cmp3 x y r = 0 ↔ x = y ∧ r = 0 := by
  unfold cmp3
  split
  · omega
  · split <;> omega
theorem cmp3_lt {x y r : Int} (h : x ≠ y) : decide (x < y) = decide (cmp3 x y r < 0) := by
  unfold cmp3
  split
  · simp [*]
  · split
    · simp; omega
    · omega
theorem cmp3_eq {x y r : Int} (h : x = y) : cmp3 x y r = r := by unfold cmp3; simp [h]
mutual
/-- The order of terms. -/
def Tm.cmp : Tm → Tm → Int
  | .mk f v ks, .mk g u ls => cmp3 f g (cmp3 v u (cmp3 ks.length ls.length (Tm.cmps ks ls)))
def Tm.cmps : List Tm → List Tm → Int
  | t :: r, u :: s => if Tm.cmp t u = 0 then Tm.cmps r s else Tm.cmp t u
  | _, _ => 0
end
theorem Tm.cmp_mk {f v g u : Int} {ks ls : List Tm} : Tm.cmp (.mk f v ks) (.mk g u ls) = cmp3 f g (cmp3 v u (cmp3 ks.length ls.length (Tm.cmps ks ls))) := rfl
theorem Tm.cmp0 {f v g u : Int} {ks ls : List Tm} : Tm.cmp (.mk f v ks) (.mk g u ls) = 0 ↔ f = g ∧ v = u ∧ ks.length = ls.length ∧ Tm.cmps ks ls = 0 := by
  rw [Tm.cmp_mk, cmp3_zero, cmp3_zero, cmp3_zero]; omega
theorem Tm.cmps_nil : Tm.cmps [] [] = 0 := by simp [Tm.cmps]
theorem Tm.cmps_cons {t u : Tm} {r s : List Tm} : Tm.cmps (t :: r) (u :: s) = if Tm.cmp t u = 0 then Tm.cmps r s else Tm.cmp t u := by simp [Tm.cmps]
theorem Tm.cmps_end {ks ls : List Tm} (h : ks.length = ls.length) : Tm.cmps (ks.drop ks.length) (ls.drop ks.length) = 0 := by
  rw [drop_end, h, drop_end, Tm.cmps_nil]
/-- The order of literals. -/
def Li.cmp (a b : Li) : Int := if a.p = b.p then (if Tm.cmp a.l b.l = 0 then Tm.cmp a.r b.r else Tm.cmp a.l b.l) else if b.p then -1 else 1
def inR (x lo hi : Int) : Bool := decide (lo ≤ x) && decide (x ≤ hi)
open Classical in
/-- A proposition as a Bool. -/
noncomputable def dB (p : Prop) : Bool := decide p
theorem dB_t {p : Prop} (h : p) : B true = B (dB p) ∧ ([] : List (Nat × Ob)) = [] := ⟨by simp [dB, h], rfl⟩
theorem dB_f {p : Prop} (h : ¬ p) : B false = B (dB p) ∧ ([] : List (Nat × Ob)) = [] := ⟨by simp [dB, h], rfl⟩
theorem dB_e {p : Prop} {b : Bool} (h : b = true ↔ p) : B b = B (dB p) ∧ ([] : List (Nat × Ob)) = [] := ⟨by congr 1; rw [Bool.eq_iff_iff]; simp [dB, h], rfl⟩
theorem dB_true {p : Prop} : dB p = true ↔ p := by simp [dB]
theorem dB_false {p : Prop} : dB p = false ↔ ¬ p := by simp [dB]
theorem inR_t {x lo hi : Int} : inR x lo hi = true ↔ lo ≤ x ∧ x ≤ hi := by simp [inR]
theorem not_f {b : Bool} (h : (!b) = false) : b = true := by simpa using h
theorem not_t {b : Bool} (h : (!b) = true) : b = false := by simpa using h
def pSum (l : List Tm) : Nat := (l.map fun t => t.cn + 1).sum
theorem pSum_cns (l : List Tm) : pSum l = Tm.cns l := by
  induction l with
  | nil => rfl
  | cons t r ih => simp [pSum, Tm.cns] at ih ⊢; omega
theorem Tm.cn_mk {f v : Int} {ks : List Tm} : Tm.cn (.mk f v ks) = Tm.cns ks := by simp [Tm.cn]
theorem cn_kid {ks : List Tm} {i : Nat} {x : Tm} (h : ks[i]? = some x) : x.cn + ks.length ≤ Tm.cns ks := Tm.cns_cnL ks ▸ cnL_mem (cn := Tm.cn) (List.mem_of_getElem? h)
theorem cns_len (ks : List Tm) : ks.length ≤ Tm.cns ks := Tm.cns_cnL ks ▸ cnL_len Tm.cn ks
def smB (c : UInt8) : Prop := 97 ≤ c.toNat ∧ c.toNat ≤ 122
def dgB (c : UInt8) : Prop := 48 ≤ c.toNat ∧ c.toNat ≤ 57
def nGood (s : ByteArray) (i : Nat) : Prop := ∀ c, s[i]? = some c → smB c ∨ (0 < i ∧ dgB c)
/-- A name. -/
def nOk (s : ByteArray) : Prop := (∀ i, i < s.size → nGood s i) ∧ 1 ≤ s.size ∧ s.size ≤ 8
theorem byte_ex {t : ByteArray} {i : Nat} (h : i < t.size) : ∃ b, t[i]? = some b := ⟨t[i], by simp [h]⟩
theorem byte_lt {t : ByteArray} {i : Nat} {b : UInt8} (h : t[i]? = some b) : i < t.size := by
  rcases Nat.lt_or_ge i t.size with h1 | h1
  · exact h1
  · simp [show ¬ i < t.size by omega] at h
theorem isSmall_call (c : Int) : XC Try.prog 20 [I .u8 c] [] (B (inR c 97 122)) [] := by
  apply impl_isSmall_of
  exact ifB_d (fun h => bE (by simp [inR, h])) fun h => bE (by simp [inR, h])
theorem isDigit_call (c : Int) : XC Try.prog 21 [I .u8 c] [] (B (inR c 48 57)) [] := by
  apply impl_isDigit_of
  exact ifB_d (fun h => bE (by simp [inR, h])) fun h => bE (by simp [inR, h])
def symAt : List Sy → ByteArray → Nat → Int
  | [], _, _ => -1
  | x :: r, nm, i => if x.nm = nm then i else symAt r nm (i + 1)
def sgGood (ss : List Sy) (i : Nat) : Prop := ∀ x, ss[i]? = some x → nOk x.nm ∧ symAt ss x.nm 0 = i ∧ (0 ≤ x.ar ∧ x.ar ≤ 3) ∧ (x.ac = true → x.ar = 2)
/-- A list of functions. -/
def sgOk (ss : List Sy) : Prop := (∀ i, i < ss.length → sgGood ss i) ∧ (1 ≤ ss.length ∧ ss.length ≤ 8) ∧ ∃ x, ss[0]? = some x ∧ x.nm = ⟨#[116, 116]⟩ ∧ x.ar = 0
/-- A byte of a word. -/
def wch (b : UInt8) : Bool := (decide (97 ≤ b.toNat) && decide (b.toNat ≤ 122)) || ((decide (48 ≤ b.toNat) && decide (b.toNat ≤ 57)) || (decide (65 ≤ b.toNat) && decide (b.toNat ≤ 90)))
/-- Where a word ends. -/
def wend (p : ByteArray) : Nat → Nat → Nat
  | 0, j => j
  | f + 1, j => match p[j]? with
    | some b => if wch b then wend p f (j + 1) else j
    | none => j
def sepB (b : UInt8) : Bool := decide (b.toNat = 40) || (decide (b.toNat = 41) || (decide (b.toNat = 44) || (decide (b.toNat = 46) || (decide (b.toNat = 61) || (decide (b.toNat = 124) || decide (b.toNat = 126))))))
/-- The words of a text, and where it goes wrong. -/
def wds (p : ByteArray) : Nat → Nat → List (List Da) → List (List Da) × Int
  | 0, _, acc => (acc, -1)
  | f + 1, i, acc => match p[i]? with
    | none => (acc, -1)
    | some b => if b.toNat = 32 ∨ b.toNat = 10 then wds p f (i + 1) acc
      else if sepB b then wds p f (i + 1) (acc ++ [[.str (p.extract i (i + 1))]])
      else if b.toNat = 33 ∧ p[i + 1]?.map UInt8.toNat = some 61 then wds p f (i + 2) (acc ++ [[.str ⟨#[33, 61]⟩]])
      else if wend p (p.size - i) i = i then ([], (i : Int)) else wds p f (wend p (p.size - i) i) (acc ++ [[.str (p.extract i (wend p (p.size - i) i))]])
theorem get_lt {p : ByteArray} {i : Nat} {b : UInt8} (h : p[i]? = some b) : i < p.size := by
  rcases Nat.lt_or_ge i p.size with h1 | h1
  · exact h1
  · rw [getElem?_neg p i (by omega)] at h; cases h
theorem bget_ex {p : ByteArray} {i : Nat} (h : i < p.size) : ∃ b, p[i]? = some b := ⟨p[i], getElem?_pos p i h⟩
theorem wend_le (p : ByteArray) : ∀ f j, j ≤ wend p f j
  | 0, j => Nat.le_refl _
  | f + 1, j => by
    simp only [wend]
    split
    · split
      · exact Nat.le_trans (Nat.le_succ j) (wend_le p f (j + 1))
      · exact Nat.le_refl _
    · exact Nat.le_refl _
theorem wend_sz (p : ByteArray) : ∀ f j, j ≤ p.size → wend p f j ≤ p.size
  | 0, j, h => h
  | f + 1, j, h => by
    simp only [wend]
    split
    · rename_i b hb
      split
      · exact wend_sz p f (j + 1) (get_lt hb)
      · exact h
    · exact h
theorem l12Letter_call (b : UInt8) : XC Try.prog 16 [I .u8 (b.toNat : Int)] [] (B (wch b)) [] := by
  apply spec_l12Letter_of
  repeat' (refine ifB_d (fun h => ?_) fun h => ?_)
  all_goals
    refine ⟨?_, rfl⟩
    refine congrArg B ?_
    rw [Bool.eq_iff_iff]
    simp only [wch, Bool.or_eq_true, Bool.and_eq_true, decide_eq_true_eq, Bool.false_eq_true, true_iff, false_iff]
    omega
theorem isSmallW_call (c : Int) : XC Try.prog 20 [I .u8 c] [] (B (decide (97 ≤ c) && decide (c ≤ 122))) [] := by
  apply impl_isSmall_of
  exact ifB_d (fun h => bE (by simp [h])) fun h => bE (by simp [h])
theorem isDigitW_call (c : Int) : XC Try.prog 21 [I .u8 c] [] (B (decide (48 ≤ c) && decide (c ≤ 57))) [] := by
  apply impl_isDigit_of
  exact ifB_d (fun h => bE (by simp [h])) fun h => bE (by simp [h])
theorem isWordByte_call (b : UInt8) : XC Try.prog 14 [I .u8 (b.toNat : Int)] [] (B (wch b)) [] := by
  apply impl_isWordByte_of
  refine ⟨_, isSmallW_call _, ifB_of (fun h1 => ?_) fun h1 => ⟨_, isDigitW_call _, ifB_of (fun h2 => ?_) fun h2 => ifB_d (fun h3 => ?_) fun h3 => ?_⟩⟩
  all_goals
    refine ⟨?_, rfl⟩
    refine congrArg B ?_
    rw [Bool.eq_iff_iff]
    simp only [wch, Bool.or_eq_true, Bool.and_eq_true, decide_eq_true_eq, Bool.false_eq_true, true_iff, false_iff, Bool.and_eq_false_iff, decide_eq_false_iff_not] at *
    omega
theorem indexByteW_call (q : ByteArray) (c : Int) : XC Try.prog 15 [T q, I .u8 c] [] (Z (firstIdx q c.toNat.toUInt8)) [] := by
  apply strings_IndexByte_of
  exact ⟨_, stringslite_IndexByte_of ⟨rfl, rfl⟩, rfl, rfl⟩
theorem hasPrefixW_call (s q : ByteArray) : XC Try.prog 13 [T s, T q] [] (B (decide (q.size ≤ s.size ∧ s.extract 0 q.size = q))) [] := by
  apply strings_HasPrefix_of
  refine ⟨_, stringslite_HasPrefix_of ?_, rfl, rfl⟩
  refine ifB_d (fun h => ⟨q.size, rfl, ⟨⟨Nat.zero_le _, by omega⟩⟩, ?_, rfl⟩) fun h => ⟨?_, rfl⟩
  · refine congrArg B ?_
    rw [decide_eq_decide]
    exact ⟨fun e => ⟨by omega, e⟩, fun e => e.2⟩
  · refine congrArg B ?_
    symm
    rw [decide_eq_false_iff_not]
    intro e
    exact h (by have := e.1; omega)
theorem specWords_tail (p : ByteArray) (i : Nat) (acc : List (List Da)) {r : AV} {O : List (Nat × Ob)} (hp : p.size ≤ 3000) (hi : i ≤ p.size) (ha : acc.length ≤ i)
    (h1 : wend p (p.size - i) i = i → (.tup [.one (.ol 0), Z (i : Int)]) = r ∧ [(0, .tr 9 1 [])] = O)
    (h2 : wend p (p.size - i) i ≠ i → spec_Words_L6 r O p ((wend p (p.size - i) i : Nat) : Int) [] (acc ++ [[.str (p.extract i (wend p (p.size - i) i))]])) :
    ∀ g j, i ≤ j → j ≤ p.size → p.size - j = g → wend p g j = wend p (p.size - i) i → spec_Words_L17 r O p i j [] acc := by
  have hend : ∀ j : Nat, i ≤ j → j ≤ p.size → j = wend p (p.size - i) i → ifB (decide ((j : Int) = (i : Int))) ((.tup [.one (.ol 0), Z (i : Int)]) = r ∧ [(0, .tr 9 1 [])] = O)
      (∃ n1 : Nat, (i : Int) = (n1 : Int) ∧ ∃ n2 : Nat, (j : Int) = (n2 : Int) ∧ Do (n1 ≤ n2 ∧ n2 ≤ p.size) ∧ Do ((acc.length + List.length [[Da.str (p.extract n1 n2)]]) * 16 ≤ 140737488355328) ∧ spec_Words_L6 r O p (j : Int) [] (acc ++ [[Da.str (p.extract n1 n2)]])) := by
    intro j hij hj e
    refine ifB_d (fun h => h1 (by omega)) fun h => ⟨i, rfl, j, rfl, ⟨⟨hij, hj⟩⟩, ⟨by simp; omega⟩, ?_⟩
    subst e
    exact h2 (by omega)
  intro g
  induction g with
  | zero =>
    intro j hij hj hg e
    apply spec_Words_L17_of
    exact ifB_f (decide_eq_false (by omega)) (hend j hij hj e)
  | succ g ih =>
    intro j hij hj hg e
    apply spec_Words_L17_of
    refine ifB_t (decide_eq_true (by omega)) ?_
    obtain ⟨b, hb⟩ := bget_ex (p := p) (i := j) (by omega)
    simp only [wend, hb] at e
    refine ⟨j, b, rfl, hb, _, l12Letter_call b, ifB_of (fun h => ?_) fun h => ?_⟩
    · rw [if_pos h] at e
      rw [wr1 (n := p.size) (by omega) (by omega)]
      exact ih (j + 1) (by omega) (by omega) (by omega) e
    · rw [if_neg (by simp [h])] at e
      exact hend j hij hj e
theorem specWords_loop (p : ByteArray) (hp : p.size ≤ 3000) : ∀ f i acc, p.size - i < f → i ≤ p.size → acc.length ≤ i → spec_Words_L6 (.tup [.one (.ol 0), Z (wds p f i acc).2]) [(0, .tr 9 1 (wds p f i acc).1)] p i [] acc := by
  intro f
  induction f with
  | zero => intro i acc h; omega
  | succ f ih =>
    intro i acc hf hi ha
    have hone : ∀ b, p[i]? = some b → sepB b = true → b.toNat ≠ 32 → b.toNat ≠ 10 → ∃ n1 : Nat, (i : Int) = (n1 : Int) ∧ ∃ n2 : Nat, IntKind.wrap IntKind.i64 ((i : Int) + 1) = (n2 : Int) ∧ Do (n1 ≤ n2 ∧ n2 ≤ p.size) ∧ Do ((acc.length + List.length [[Da.str (p.extract n1 n2)]]) * 16 ≤ 140737488355328) ∧ spec_Words_L6 (.tup [.one (.ol 0), Z (wds p (f + 1) i acc).2]) [(0, .tr 9 1 (wds p (f + 1) i acc).1)] p (IntKind.wrap IntKind.i64 ((i : Int) + 1)) [] (acc ++ [[Da.str (p.extract n1 n2)]]) := by
      intro b hb hs h1 h2
      have hlt := get_lt hb
      have e : wds p (f + 1) i acc = wds p f (i + 1) (acc ++ [[.str (p.extract i (i + 1))]]) := by
        simp only [wds, hb]
        rw [if_neg (by omega), if_pos hs]
      rw [wr1 (n := p.size) hlt (by omega), e]
      exact ⟨i, rfl, i + 1, rfl, ⟨by omega⟩, ⟨by simp; omega⟩, ih (i + 1) _ (by omega) (by omega) (by simp; omega)⟩
    apply spec_Words_L6_of
    refine ifB_d (fun h => ?_) fun h => ?_
    · obtain ⟨b, hb⟩ := bget_ex (p := p) (i := i) (by omega)
      have hlt := get_lt hb
      refine ⟨i, b, rfl, hb, ?_⟩
      have sp : b.toNat = 32 ∨ b.toNat = 10 → spec_Words_L6 (.tup [.one (.ol 0), Z (wds p (f + 1) i acc).2]) [(0, .tr 9 1 (wds p (f + 1) i acc).1)] p (IntKind.wrap IntKind.i64 ((i : Int) + 1)) [] acc := fun h => by
        have e : wds p (f + 1) i acc = wds p f (i + 1) acc := by simp only [wds, hb]; rw [if_pos h]
        rw [wr1 (n := p.size) hlt (by omega), e]
        exact ih (i + 1) _ (by omega) (by omega) (by omega)
      refine ifB_d (fun h1 => sp (.inl (by omega))) fun h1 => ifB_d (fun h2 => sp (.inr (by omega))) fun h2 => ?_
      refine ifB_d (fun h3 => hone b hb (by simp [sepB]; omega) (by omega) (by omega)) fun h3 => ?_
      refine ifB_d (fun h4 => hone b hb (by simp [sepB]; omega) (by omega) (by omega)) fun h4 => ?_
      refine ifB_d (fun h5 => hone b hb (by simp [sepB]; omega) (by omega) (by omega)) fun h5 => ?_
      refine ifB_d (fun h6 => hone b hb (by simp [sepB]; omega) (by omega) (by omega)) fun h6 => ?_
      refine ifB_d (fun h7 => hone b hb (by simp [sepB]; omega) (by omega) (by omega)) fun h7 => ?_
      refine ifB_d (fun h8 => hone b hb (by simp [sepB]; omega) (by omega) (by omega)) fun h8 => ?_
      refine ifB_d (fun h9 => hone b hb (by simp [sepB]; omega) (by omega) (by omega)) fun h9 => ?_
      have hns : sepB b = false := by
        rw [Bool.eq_false_iff]
        simp only [sepB, ne_eq, Bool.or_eq_true, decide_eq_true_eq]
        omega
      have word : ¬ (b.toNat = 33 ∧ p[i + 1]?.map UInt8.toNat = some 61) → spec_Words_L17 (.tup [.one (.ol 0), Z (wds p (f + 1) i acc).2]) [(0, .tr 9 1 (wds p (f + 1) i acc).1)] p i i [] acc := fun hno => by
        have e : wds p (f + 1) i acc = if wend p (p.size - i) i = i then ([], (i : Int)) else wds p f (wend p (p.size - i) i) (acc ++ [[.str (p.extract i (wend p (p.size - i) i))]]) := by
          simp only [wds, hb]
          rw [if_neg (by omega), if_neg (by simp [hns]), if_neg hno]
        have hle := wend_le p (p.size - i) i
        have hsz := wend_sz p (p.size - i) i hi
        refine specWords_tail p i acc hp hi ha (fun h => ?_) (fun h => ?_) (p.size - i) i (Nat.le_refl _) hi rfl rfl
        · rw [e, if_pos h]; exact ⟨rfl, rfl⟩
        · rw [e, if_neg h]
          exact ih _ _ (by omega) hsz (by simp; omega)
      refine ifB_d (fun h10 => ?_) fun h10 => word (by omega)
      rw [wr1 (n := p.size) hlt (by omega)]
      refine ifB_d (fun h11 => ?_) fun h11 => word (fun hh => ?_)
      · obtain ⟨b1, hb1⟩ := bget_ex (p := p) (i := i + 1) (by omega)
        refine ⟨i + 1, b1, rfl, hb1, ifB_d (fun h12 => ?_) fun h12 => word (fun hh => ?_)⟩
        · have e : wds p (f + 1) i acc = wds p f (i + 2) (acc ++ [[.str ⟨#[33, 61]⟩]]) := by
            simp only [wds, hb]
            rw [if_neg (by omega), if_neg (by simp [hns]), if_pos ⟨by omega, by rw [hb1]; simp; omega⟩]
          have w2 : IntKind.wrap IntKind.i64 ((i : Int) + 2) = ((i + 2 : Nat) : Int) := by rw [wrI (by omega) (by omega)]; omega
          rw [w2, e]
          exact ⟨⟨by simp; omega⟩, ih (i + 2) _ (by omega) (by omega) (by simp; omega)⟩
        · have := hh.2
          rw [hb1] at this
          simp at this
          omega
      · have := hh.2
        rw [getElem?_neg p (i + 1) (by omega)] at this
        simp at this
    · have e : wds p (f + 1) i acc = (acc, -1) := by
        simp only [wds, getElem?_neg p i (by omega)]
      rw [e]
      exact ⟨rfl, rfl⟩
/-- The words of a text as the two functions give them. -/
def wordsOf (p : ByteArray) : List (List Da) × Int := if 3000 < p.size then ([], 0) else wds p (p.size + 1) 0 []
theorem specWords_call (p : ByteArray) : XC Try.prog 7 [T p] [] (.tup [.one (.ol 0), Z (wordsOf p).2]) [(0, .tr 9 1 (wordsOf p).1)] := by
  apply spec_Words_of
  refine ifB_d (fun h => ?_) fun h => ?_
  · simp only [wordsOf]; rw [if_pos (by omega)]; exact ⟨rfl, rfl⟩
  · simp only [wordsOf]; rw [if_neg (by omega)]
    exact specWords_loop p (by omega) _ 0 [] (by omega) (by omega) (by simp)
theorem bget_data {p : ByteArray} {i : Nat} {b : UInt8} (h : p[i]? = some b) : p.data.toList[i]? = some b := by
  have hl := get_lt h
  rw [getElem?_pos p i hl] at h
  have h2 : p.data.toList[i]'(by simpa using hl) = b := by simpa [ByteArray.getElem_eq_getElem_data] using Option.some.inj h
  rw [List.getElem?_eq_getElem (by simpa using hl), h2]
theorem ba_ext2 {a b : ByteArray} (h : a.data.toList = b.data.toList) : a = b := by
  apply ByteArray.ext; exact Array.toList_inj.1 h
theorem ext_two {p : ByteArray} {i : Nat} {b c : UInt8} (hb : p[i]? = some b) (hc : p[i + 1]? = some c) : p.extract i (i + 2) = ⟨#[b, c]⟩ := by
  apply ba_ext2
  have h1 := drop_cons (bget_data hb)
  have h2 := drop_cons (bget_data hc)
  simp only [ByteArray.data_extract, Array.toList_extract, List.extract_eq_take_drop]
  rw [h1, h2]
  simp
theorem ext_ext {p : ByteArray} {i : Nat} (h : i + 2 ≤ p.size) : (p.extract i p.size).extract 0 2 = p.extract i (i + 2) := by
  apply ba_ext2
  simp only [ByteArray.data_extract, Array.toList_extract, List.extract_eq_take_drop, List.drop_zero]
  rw [List.take_take]
  congr 1
  omega
theorem pre_iff {p : ByteArray} {i : Nat} {b : UInt8} (hb : p[i]? = some b) : (2 ≤ (p.extract i p.size).size ∧ (p.extract i p.size).extract 0 2 = ⟨#[33, 61]⟩) ↔ (b.toNat = 33 ∧ p[i + 1]?.map UInt8.toNat = some 61) := by
  have hlt := get_lt hb
  have hsz : (p.extract i p.size).size = p.size - i := by rw [ByteArray.size_extract]; omega
  rw [hsz]
  rcases Nat.lt_or_ge (i + 1) p.size with h | h
  · obtain ⟨c, hc⟩ := bget_ex h
    rw [ext_ext (by omega), ext_two hb hc, hc]
    constructor
    · rintro ⟨_, e⟩
      simp at e
      obtain ⟨rfl, rfl⟩ := e
      exact ⟨rfl, rfl⟩
    · rintro ⟨e1, e2⟩
      simp at e2
      have e1 : b = 33 := UInt8.toNat_inj.1 e1
      have e2 : c = 61 := UInt8.toNat_inj.1 e2
      subst e1; subst e2
      exact ⟨by omega, rfl⟩
  · rw [getElem?_neg p (i + 1) (by omega)]
    constructor
    · rintro ⟨h1, _⟩; omega
    · rintro ⟨_, h2⟩; simp at h2
theorem pre_ext {p : ByteArray} {i : Nat} {b : UInt8} (hb : p[i]? = some b) (h : b.toNat = 33 ∧ p[i + 1]?.map UInt8.toNat = some 61) : p.extract i (i + 2) = ⟨#[33, 61]⟩ ∧ i + 2 ≤ p.size := by
  obtain ⟨h1, h2⟩ := (pre_iff hb).2 h
  have hlt := get_lt hb
  have hsz : (p.extract i p.size).size = p.size - i := by rw [ByteArray.size_extract]; omega
  have h3 : i + 2 ≤ p.size := by omega
  rw [ext_ext h3] at h2
  exact ⟨h2, h3⟩
theorem sep_idx : ∀ b : UInt8, decide (firstIdx ⟨#[40, 41, 44, 46, 61, 124, 126]⟩ b < 0) = !sepB b := by
  have h : ∀ n : Fin 256, decide (firstIdx ⟨#[40, 41, 44, 46, 61, 124, 126]⟩ (UInt8.ofNat n.val) < 0) = !sepB (UInt8.ofNat n.val) := by decide +kernel
  intro b
  have h2 := h ⟨b.toNat, b.toNat_lt⟩
  simpa using h2
theorem implWords_tail (p : ByteArray) (i : Nat) (acc : List (List Da)) {r : AV} {O : List (Nat × Ob)} (hp : p.size ≤ 3000) (hi : i ≤ p.size) (ha : acc.length ≤ i)
    (h2 : impl_Words_L5 r O p ((wend p (p.size - i) i : Nat) : Int) (acc ++ [[.str (p.extract i (wend p (p.size - i) i))]])) :
    ∀ g k, 1 ≤ k → i + k ≤ p.size → p.size - (i + k) = g → wend p g (i + k) = wend p (p.size - i) i → impl_Words_L12 r O p i (k : Int) acc := by
  have hend : ∀ k : Nat, i + k ≤ p.size → i + k = wend p (p.size - i) i → 
      (∃ n1 : Nat, (i : Int) = (n1 : Int) ∧ ∃ n2 : Nat, (((i + k : Nat) : Int)) = (n2 : Int) ∧ Do (n1 ≤ n2 ∧ n2 ≤ p.size) ∧ Do ((acc.length + List.length [[Da.str (p.extract n1 n2)]]) * 16 ≤ 140737488355328) ∧ impl_Words_L5 r O p (((i + k : Nat) : Int)) (acc ++ [[Da.str (p.extract n1 n2)]])) := by
    intro k hk e
    refine ⟨i, rfl, i + k, rfl, ⟨⟨by omega, hk⟩⟩, ⟨by simp; omega⟩, ?_⟩
    rw [e]
    exact h2
  have hw : ∀ k : Nat, i + k ≤ p.size → IntKind.wrap IntKind.i64 ((i : Int) + (k : Int)) = ((i + k : Nat) : Int) := fun k hk => by rw [wrI (by omega) (by omega)]; omega
  intro g
  induction g with
  | zero =>
    intro k h1 hk hg e
    apply impl_Words_L12_of
    rw [hw k hk]
    exact ifB_f (decide_eq_false (by omega)) (hend k hk e)
  | succ g ih =>
    intro k h1 hk hg e
    apply impl_Words_L12_of
    rw [hw k hk]
    refine ifB_t (decide_eq_true (by omega)) ?_
    obtain ⟨b, hb⟩ := bget_ex (p := p) (i := i + k) (by omega)
    simp only [wend, hb] at e
    refine ⟨i + k, b, rfl, hb, _, isWordByte_call b, ifB_of (fun h => ?_) fun h => ?_⟩
    · rw [if_pos h] at e
      rw [wr1 (n := p.size) (by omega) (by omega)]
      exact ih (k + 1) (by omega) (by omega) (by omega) e
    · rw [if_neg (by simp [h])] at e
      exact hend k hk e
theorem implWords_loop (p : ByteArray) (hp : p.size ≤ 3000) : ∀ f i acc, p.size - i < f → i ≤ p.size → acc.length ≤ i → impl_Words_L5 (.tup [.one (.ol 0), Z (wds p f i acc).2]) [(0, .tr 9 1 (wds p f i acc).1)] p i acc := by
  intro f
  induction f with
  | zero => intro i acc h; omega
  | succ f ih =>
    intro i acc hf hi ha
    apply impl_Words_L5_of
    refine ifB_d (fun h => ?_) fun h => ?_
    · obtain ⟨b, hb⟩ := bget_ex (p := p) (i := i) (by omega)
      have hlt := get_lt hb
      have w1 : IntKind.wrap IntKind.i64 ((i : Int) + 1) = ((i + 1 : Nat) : Int) := wr1 (n := p.size) hlt (by omega)
      have w2 : IntKind.wrap IntKind.i64 ((i : Int) + 2) = ((i + 2 : Nat) : Int) := by rw [wrI (by omega) (by omega)]; omega
      rw [w1, w2]
      have sp : b.toNat = 32 ∨ b.toNat = 10 → impl_Words_L5 (.tup [.one (.ol 0), Z (wds p (f + 1) i acc).2]) [(0, .tr 9 1 (wds p (f + 1) i acc).1)] p ((i + 1 : Nat) : Int) acc := fun h => by
        have e : wds p (f + 1) i acc = wds p f (i + 1) acc := by simp only [wds, hb]; rw [if_pos h]
        rw [e]
        exact ih (i + 1) _ (by omega) (by omega) (by omega)
      refine ⟨i, b, rfl, hb, ifB_d (fun h1 => sp (.inl (by omega))) fun h1 => ⟨i, b, rfl, hb, ifB_d (fun h2 => sp (.inr (by omega))) fun h2 => ?_⟩⟩
      refine ⟨i, rfl, ⟨⟨by omega, Nat.le_refl _⟩⟩, _, hasPrefixW_call _ _, ifB_d (fun h3 => ?_) fun h3 => ?_⟩
      · have h3 := (pre_iff hb).1 h3
        obtain ⟨x1, x2⟩ := pre_ext hb h3
        have hns : sepB b = false := by
          rw [Bool.eq_false_iff]
          simp only [sepB, ne_eq, Bool.or_eq_true, decide_eq_true_eq]
          omega
        have e : wds p (f + 1) i acc = wds p f (i + 2) (acc ++ [[.str ⟨#[33, 61]⟩]]) := by
          simp only [wds, hb]
          rw [if_neg (by omega), if_neg (by simp [hns]), if_pos h3]
        refine ⟨i, rfl, i + 2, rfl, ⟨⟨by omega, x2⟩⟩, ⟨by simp; omega⟩, ?_⟩
        rw [e, x1]
        exact ih (i + 2) _ (by omega) (by omega) (by simp; omega)
      · have h3 : ¬ (b.toNat = 33 ∧ p[i + 1]?.map UInt8.toNat = some 61) := fun hh => h3 ((pre_iff hb).2 hh)
        refine ⟨i, b, rfl, hb, _, isWordByte_call b, ifB_of (fun h4 => ?_) fun h4 => ?_⟩
        · have hns : sepB b = false := by
            rw [Bool.eq_false_iff]
            simp only [wch, Bool.or_eq_true, Bool.and_eq_true, decide_eq_true_eq] at h4
            simp only [sepB, ne_eq, Bool.or_eq_true, decide_eq_true_eq]
            omega
          have hle := wend_le p (p.size - (i + 1)) (i + 1)
          have hw : wend p (p.size - i) i = wend p (p.size - (i + 1)) (i + 1) := by
            rw [show p.size - i = (p.size - (i + 1)) + 1 by omega]
            simp only [wend, hb]
            rw [if_pos h4]
          have hsz := wend_sz p (p.size - (i + 1)) (i + 1) (by omega)
          have e : wds p (f + 1) i acc = wds p f (wend p (p.size - i) i) (acc ++ [[.str (p.extract i (wend p (p.size - i) i))]]) := by
            simp only [wds, hb]
            rw [if_neg (by omega), if_neg (by simp [hns]), if_neg h3, if_neg (by omega)]
          refine implWords_tail p i acc hp hi ha ?_ (p.size - (i + 1)) 1 (Nat.le_refl _) (by omega) rfl hw.symm
          rw [e]
          exact ih _ _ (by omega) (by omega) (by simp; omega)
        · have hnw : wend p (p.size - i) i = i := by
            rw [show p.size - i = (p.size - (i + 1)) + 1 by omega]
            simp only [wend, hb]
            rw [if_neg (by simp [h4])]
          refine ⟨i, b, rfl, hb, _, indexByteW_call _ _, ?_⟩
          rw [show ((b.toNat : Int).toNat.toUInt8) = b by simp, sep_idx b]
          refine ifB_of (fun h5 => ?_) fun h5 => ?_
          · have e : wds p (f + 1) i acc = ([], (i : Int)) := by
              simp only [wds, hb]
              rw [if_neg (by omega), if_neg (by simpa using h5), if_neg h3, if_pos hnw]
            rw [e]
            exact ⟨rfl, rfl⟩
          · have e : wds p (f + 1) i acc = wds p f (i + 1) (acc ++ [[.str (p.extract i (i + 1))]]) := by
              simp only [wds, hb]
              rw [if_neg (by omega), if_pos (by simpa using h5)]
            refine ⟨i, rfl, i + 1, rfl, ⟨⟨by omega, by omega⟩⟩, ⟨by simp; omega⟩, ?_⟩
            rw [e]
            exact ih (i + 1) _ (by omega) (by omega) (by simp; omega)
    · have e : wds p (f + 1) i acc = (acc, -1) := by
        simp only [wds, getElem?_neg p i (by omega)]
      rw [e]
      exact ⟨rfl, rfl⟩
theorem implWords_call (p : ByteArray) : XC Try.prog 6 [T p] [] (.tup [.one (.ol 0), Z (wordsOf p).2]) [(0, .tr 9 1 (wordsOf p).1)] := by
  apply impl_Words_of
  refine ifB_d (fun h => ?_) fun h => ?_
  · simp only [wordsOf]; rw [if_pos (by omega)]; exact ⟨rfl, rfl⟩
  · simp only [wordsOf]; rw [if_neg (by omega)]
    exact implWords_loop p (by omega) _ 0 [] (by omega) (by omega) (by simp)
def Tx.da (w : ByteArray) : List Da := [.str w]
theorem wds_rows (p : ByteArray) : ∀ f i acc, acc.length ≤ i → i ≤ p.size → (∃ ws : List ByteArray, acc = ws.map Tx.da) → ∃ ws : List ByteArray, (wds p f i acc).1 = ws.map Tx.da ∧ ws.length ≤ p.size := by
  intro f
  have fin : ∀ i (acc : List (List Da)), acc.length ≤ i → i ≤ p.size → (∃ ws : List ByteArray, acc = ws.map Tx.da) → ∃ ws : List ByteArray, acc = ws.map Tx.da ∧ ws.length ≤ p.size := by
    rintro i acc ha hi ⟨ws, rfl⟩
    exact ⟨ws, rfl, by simp at ha; omega⟩
  induction f with
  | zero => intro i acc ha hi hw; exact fin i acc ha hi hw
  | succ f ih =>
    intro i acc ha hi hw
    simp only [wds]
    split
    · exact fin i acc ha hi hw
    · rename_i b hb
      have hlt := get_lt hb
      have more : ∀ s j, i + 1 ≤ j → j ≤ p.size → ∃ ws : List ByteArray, (wds p f j (acc ++ [[.str s]])).1 = ws.map Tx.da ∧ ws.length ≤ p.size := by
        intro s j h1 h2
        obtain ⟨ws, rfl⟩ := hw
        exact ih j _ (by simp at ha ⊢; omega) h2 ⟨ws ++ [s], by simp [Tx.da]⟩
      split
      · exact ih (i + 1) acc (by omega) (by omega) hw
      · split
        · exact more _ _ (Nat.le_refl _) (by omega)
        · split
          · rename_i hh
            exact more _ _ (by omega) (pre_ext hb hh).2
          · split
            · exact ⟨[], rfl, by simp⟩
            · rename_i hne
              have hle := wend_le p (p.size - i) i
              exact more _ _ (by omega) (wend_sz p _ i hi)
theorem wordsOf_rows (p : ByteArray) : ∃ ws : List ByteArray, (wordsOf p).1 = ws.map Tx.da ∧ ws.length ≤ 3000 := by
  unfold wordsOf
  split
  · exact ⟨[], rfl, by simp⟩
  · obtain ⟨ws, h1, h2⟩ := wds_rows p (p.size + 1) 0 [] (by simp) (by omega) ⟨[], rfl⟩
    exact ⟨ws, h1, by omega⟩

end AM
end Go.Proofs.Ytfcmmpmdofejeaa
