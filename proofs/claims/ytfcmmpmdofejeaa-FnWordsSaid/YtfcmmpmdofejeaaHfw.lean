/- Contracts of functions of the program, out of what their texts ask; no conditions. -/
import Derived.Test.YtfcmmpmdofejeaaHw
import Derived.Test.YtfcmmpmdofejeaaDt
import Derived.Test.YtfcmmpmdofejeaaHr
set_option linter.unusedVariables false
set_option linter.unusedSimpArgs false
set_option maxRecDepth 100000
namespace Go.Proofs.Ytfcmmpmdofejeaa
namespace AM
open Go Go.ChangeShapes Go.WideShapes Go.RowKit

/-- Words that follow one another in a text from a place on, with nothing between them but blanks. -/
def Fol (p : ByteArray) : Nat → List ByteArray → Prop
  | _, [] => True
  | i, w :: r => ∃ j, i ≤ j ∧ (∀ k, i ≤ k → k < j → ∃ b, p[k]? = some b ∧ (b.toNat = 32 ∨ b.toNat = 10)) ∧ (∃ b, p[j]? = some b ∧ ¬ (b.toNat = 32 ∨ b.toNat = 10)) ∧ 0 < w.size ∧ j + w.size ≤ p.size ∧ p.extract j (j + w.size) = w ∧ Fol p (j + w.size) r
theorem fol_space {p : ByteArray} {i : Nat} {ws : List ByteArray} {b : UInt8} (hb : p[i]? = some b) (hs : b.toNat = 32 ∨ b.toNat = 10) (h : Fol p (i + 1) ws) : Fol p i ws := by
  cases ws with
  | nil => trivial
  | cons w r =>
    obtain ⟨j, h1, h2, h3⟩ := h
    refine ⟨j, by omega, fun k hk hk2 => ?_, h3⟩
    by_cases hki : k = i
    · subst hki; exact ⟨b, hb, hs⟩
    · exact h2 k (by omega) hk2
theorem fol_word {p : ByteArray} {i e : Nat} {ws : List ByteArray} {b : UInt8} {w : ByteArray} (hb : p[i]? = some b) (hs : ¬ (b.toNat = 32 ∨ b.toNat = 10)) (hw : p.extract i e = w) (h1 : i < e) (h2 : e ≤ p.size) (h : Fol p e ws) : Fol p i (w :: ws) := by
  have hsz : w.size = e - i := by rw [← hw, ByteArray.size_extract]; omega
  have he : i + w.size = e := by omega
  refine ⟨i, Nat.le_refl _, fun k hk hk2 => by omega, ⟨b, hb, hs⟩, by omega, by omega, ?_, ?_⟩
  · rw [he]; exact hw
  · rw [he]; exact h
theorem wds_fol (p : ByteArray) : ∀ (f i : Nat) (acc : List (List Da)), i ≤ p.size → p.size - i < f → ((wds p f i acc).1 = [] ∧ 0 ≤ (wds p f i acc).2) ∨ ∃ ws : List ByteArray, wds p f i acc = (acc ++ ws.map Tx.da, -1) ∧ Fol p i ws
  | 0, i, acc, hi, hf => by omega
  | f + 1, i, acc, hi, hf => by
    unfold wds
    split
    · exact .inr ⟨[], by simp, trivial⟩
    · rename_i b hb
      have hlt := get_lt hb
      split
      · rename_i hs
        rcases wds_fol p f (i + 1) acc (by omega) (by omega) with h | ⟨ws, h1, h2⟩
        · exact .inl h
        · exact .inr ⟨ws, h1, fol_space hb hs h2⟩
      · rename_i hs
        have go : ∀ (e : Nat) (w : ByteArray), p.extract i e = w → i < e → e ≤ p.size → ((wds p f e (acc ++ [[.str w]])).1 = [] ∧ 0 ≤ (wds p f e (acc ++ [[.str w]])).2) ∨ ∃ ws : List ByteArray, wds p f e (acc ++ [[.str w]]) = (acc ++ ws.map Tx.da, -1) ∧ Fol p i ws := by
          intro e w hw h1 h2
          rcases wds_fol p f e (acc ++ [[.str w]]) h2 (by omega) with h | ⟨ws, h3, h4⟩
          · exact .inl h
          · exact .inr ⟨w :: ws, by rw [h3]; simp [Tx.da], fol_word hb hs hw h1 h2 h4⟩
        split
        · exact go (i + 1) _ rfl (by omega) (by omega)
        · split
          · rename_i h3
            obtain ⟨h4, h5⟩ := pre_ext hb h3
            exact go (i + 2) _ h4 (by omega) h5
          · have h6 := wend_le p (p.size - i) i
            have h7 := wend_sz p (p.size - i) i hi
            split
            · exact .inl ⟨rfl, by omega⟩
            · exact go _ _ rfl (by omega) h7
theorem get_mid' {α : Type} {P : List α} {x : α} {R : List α} : (P ++ x :: R)[P.length]? = some x := by simp
theorem and255 (n : Int) : 0 ≤ bits .and .i64 n 255 ∧ bits .and .i64 n 255 ≤ 255 := by
  have h : (BitVec.ofInt 64 255).toNat = 2 ^ 8 - 1 := by decide
  have key : (BitVec.ofInt 64 n &&& BitVec.ofInt 64 255).toNat = (n % ((2 ^ 64 : Nat) : Int)).toNat % 2 ^ 8 := by
    rw [BitVec.toNat_and, BitVec.toNat_ofInt, h, Nat.and_two_pow_sub_one_eq_mod]
  have e : bits .and .i64 n 255 = IntKind.i64.wrap ((BitVec.ofInt 64 n &&& BitVec.ofInt 64 255).toNat : Nat) := rfl
  rw [e, key, wrI (by omega) (by omega)]
  omega
/-- Rows of a byte each. -/
def U8s (cs : List (List Da)) : Prop := ∀ row ∈ cs, ∃ n : Int, row = [.int .u8 n]
abbrev curO (cs : List (List Da)) (i : Nat) (h : Int) : Ob := .var [.d (.sl cs), .d (.int .i64 (i : Int)), .d (.int .i64 h)]
theorem l1Byte_call {cs : List (List Da)} (hc : U8s cs) (hl : cs.length ≤ 1048576) (i : Nat) (hi : i ≤ cs.length) (h : Int) : ∃ (x : Int) (i' : Nat) (h' : Int), 0 ≤ x ∧ i' ≤ cs.length ∧ XC Try.prog 18 [.one (.op 2000 0)] [(2000, curO cs i h)] (Z x) [(2000, curO cs i' h')] := by
  by_cases hlt : i < cs.length
  · obtain ⟨row, hx⟩ := get_ex hlt
    obtain ⟨n, rfl⟩ := hc row (List.mem_of_getElem? hx)
    have hw : IntKind.wrap .i64 ((i : Int) + 1) = ((i + 1 : Nat) : Int) := wr1 hlt (by omega)
    have key := spec_l1Byte_of (o2000 := cs) (o20001 := (i : Int)) (o20002 := h) (r := _) (O := _) ⟨⟨by decide⟩, ⟨by decide⟩, ifB_t (decide_eq_true (by omega)) ⟨i, rfl, n, hx, rfl, rfl⟩⟩
    rw [hw] at key
    exact ⟨_, i + 1, _, (and255 _).1, by omega, key⟩
  · have key := spec_l1Byte_of (o2000 := cs) (o20001 := (i : Int)) (o20002 := h) (r := _) (O := _) ⟨⟨by decide⟩, ⟨by decide⟩, ifB_f (decide_eq_false (by omega)) ⟨rfl, rfl⟩⟩
    exact ⟨_, i, _, (and255 _).1, hi, key⟩
theorem l1New_loop {cs : List (List Da)} (hc : U8s cs) (hl : cs.length ≤ 1048576) : ∀ (q p : List (List Da)) (h : Int), cs = p ++ q → ∃ h' : Int, spec_l1New_L3 (.one (.op 0 0)) [(0, curO cs 0 h')] cs h (p.length : Int)
  | [], p, h, e => ⟨h, by
    apply spec_l1New_L3_of
    subst e
    exact ifB_f (lt_decF (by simp)) ⟨rfl, rfl⟩⟩
  | x :: q, p, h, e => by
    obtain ⟨n, rfl⟩ := hc x (by simp [e])
    have hlt : p.length < cs.length := by rw [e]; simp
    have hx : cs[p.length]? = some [.int .u8 n] := by rw [e]; exact get_mid'
    have hw : IntKind.wrap .i64 ((p.length : Int) + 1) = ((p.length + 1 : Nat) : Int) := wr1 hlt (by omega)
    by_cases h4 : p.length < 4000
    · obtain ⟨h', ih⟩ := l1New_loop hc hl q (p ++ [[.int .u8 n]]) (bits BinOp.and IntKind.i64 (IntKind.wrap .i64 (IntKind.wrap .i64 (IntKind.wrap .i64 (h * 131) + IntKind.wrap .i64 n) + 7)) 1073741823) (by simp [e])
      refine ⟨h', ?_⟩
      rw [show (p ++ [[Da.int .u8 n]]).length = p.length + 1 by simp] at ih
      apply spec_l1New_L3_of
      rw [hw]
      exact ifB_t (decide_eq_true (by omega)) (ifB_t (decide_eq_true (by omega)) ⟨p.length, rfl, n, hx, ih⟩)
    · refine ⟨h, ?_⟩
      apply spec_l1New_L3_of
      exact ifB_t (decide_eq_true (by omega)) (ifB_f (decide_eq_false (by omega)) ⟨rfl, rfl⟩)
theorem l1New_call {cs : List (List Da)} (hc : U8s cs) (hl : cs.length ≤ 1048576) : ∃ h' : Int, XC Try.prog 8 [L cs] [] (.one (.op 0 0)) [(0, curO cs 0 h')] := by
  obtain ⟨h', h⟩ := l1New_loop hc hl cs [] (IntKind.wrap .i64 (27064 + (cs.length : Int))) rfl
  exact ⟨h', spec_l1New_of h⟩
theorem l1Below_call {cs : List (List Da)} (hc : U8s cs) (hl : cs.length ≤ 1048576) (i : Nat) (hi : i ≤ cs.length) (h : Int) (n : Int) (h0 : 0 < n) (h1 : n ≤ 256) : ∃ (y : Nat) (i' : Nat) (h' : Int), (y : Int) < n ∧ i' ≤ cs.length ∧ XC Try.prog 10 [.one (.op 2000 0), Z n] [(2000, curO cs i h)] (Z (y : Int)) [(2000, curO cs i' h')] := by
  obtain ⟨x, i', h', hx0, hi', hx⟩ := l1Byte_call hc hl i hi h
  have e1 : 0 ≤ x.tmod n := Int.tmod_nonneg n hx0
  have e2 : x.tmod n < n := Int.tmod_lt_of_pos x h0
  have e3 : (((x.tmod n).toNat : Nat) : Int) = x.tmod n := Int.toNat_of_nonneg e1
  refine ⟨(x.tmod n).toNat, i', h', by omega, hi', ?_⟩
  rw [e3]
  apply spec_l1Below_of
  exact ifB_f (decide_eq_false (by omega)) (ifB_t (decide_eq_true h1) ⟨_, _, _, _, hx, ⟨by omega⟩, rfl, rfl⟩)
theorem l1Once_call {cs : List (List Da)} (hc : U8s cs) (hl : cs.length ≤ 1048576) (i : Nat) (hi : i ≤ cs.length) (h : Int) (n : Int) (h0 : 0 < n) (h1 : n ≤ 256) : ∃ (b : Bool) (i' : Nat) (h' : Int), i' ≤ cs.length ∧ XC Try.prog 11 [.one (.op 2000 0), Z n] [(2000, curO cs i h)] (B b) [(2000, curO cs i' h')] := by
  obtain ⟨y, i', h', _, hi', hx⟩ := l1Below_call hc hl i hi h n h0 h1
  exact ⟨_, i', h', hi', spec_l1Once_of ⟨_, _, _, _, hx, rfl, rfl⟩⟩
def strsOk : List (List Da) → Bool
  | [] => true
  | [.str q] :: r => decide (q.size ≤ 200) && strsOk r
  | _ => false
theorem strsOk_get : ∀ {ls : List (List Da)} {m : Nat}, strsOk ls = true → m < ls.length → ∃ q : ByteArray, ls[m]? = some [.str q] ∧ q.size ≤ 200
  | [], m, _, hm => by simp at hm
  | x :: r, m, h, hm => by
    unfold strsOk at h
    split at h
    · rename_i h2; cases h2
    · rename_i q r' h2
      cases h2
      simp only [Bool.and_eq_true, decide_eq_true_eq] at h
      cases m with
      | zero => exact ⟨q, rfl, h.1⟩
      | succ m =>
        obtain ⟨q', h1, h2⟩ := strsOk_get (m := m) h.2 (by simpa using hm)
        exact ⟨q', by simpa using h1, h2⟩
    · simp at h
theorem l1Pick_call {cs : List (List Da)} (hc : U8s cs) (hl : cs.length ≤ 1048576) (i : Nat) (hi : i ≤ cs.length) (h : Int) (ls : List (List Da)) (hs : strsOk ls = true) (h0 : 0 < ls.length) (h1 : ls.length ≤ 256) : ∃ (q : ByteArray) (i' : Nat) (h' : Int), q.size ≤ 200 ∧ i' ≤ cs.length ∧ XC Try.prog 12 [.one (.op 2000 0), L ls] [(2000, curO cs i h)] (T q) [(2000, curO cs i' h')] := by
  obtain ⟨y, i', h', hy, hi', hx⟩ := l1Below_call hc hl i hi h (ls.length : Int) (by omega) (by omega)
  obtain ⟨q, hq, hz⟩ := strsOk_get hs (m := y) (by omega)
  exact ⟨q, i', h', hz, hi', spec_l1Pick_of ⟨_, _, _, _, hx, y, rfl, q, hq, rfl, rfl⟩⟩
theorem l12Problems_call : ∃ ls : List (List Da), strsOk ls = true ∧ ls.length = 10 ∧ XC Try.prog 17 [] [] (L ls) [] := ⟨_, rfl, rfl, spec_l12Problems_of ⟨rfl, rfl⟩⟩
theorem l12DrawText_call {cs : List (List Da)} (hc : U8s cs) (hl : cs.length ≤ 1048576) (i : Nat) (hi : i ≤ cs.length) (h : Int) : ∃ (q : ByteArray) (i' : Nat) (h' : Int), q.size ≤ 200 ∧ i' ≤ cs.length ∧ XC Try.prog 9 [.one (.op 2000 0)] [(2000, curO cs i h)] (T q) [(2000, curO cs i' h')] := by
  obtain ⟨ls, h1, h2, h3⟩ := l12Problems_call
  obtain ⟨q, i', h', hz, hi', hx⟩ := l1Pick_call hc hl i hi h ls h1 (by omega) (by omega)
  exact ⟨q, i', h', hz, hi', spec_l12DrawText_of ⟨_, h3, _, _, _, _, hx, rfl, rfl⟩⟩
theorem drawWords_call {cs : List (List Da)} (hc : U8s cs) (hl : cs.length ≤ 1048576) : ∃ t : ByteArray, t.size ≤ 3000 ∧ XC Try.prog 5 [L cs] [] (T t) [] := by
  obtain ⟨h1, c1⟩ := l1New_call hc hl
  obtain ⟨q, i2, h2, hq, hi2, c2⟩ := l12DrawText_call hc hl 0 (Nat.zero_le _) h1
  have w : IntKind.wrap .i64 ((q.size : Int) + 1) = (q.size : Int) + 1 := wrI (by omega) (by omega)
  obtain ⟨y, i3, h3, hy, hi3, c3⟩ := l1Below_call hc hl i2 hi2 h2 ((q.size : Int) + 1) (by omega) (by omega)
  rw [← w] at c3
  obtain ⟨b, i4, h4, hi4, c4⟩ := l1Once_call hc hl i3 hi3 h3 3 (by omega) (by omega)
  cases b with
  | false => exact ⟨q, by omega, spec_DrawWords_of ⟨_, _, _, c1, _, _, _, _, c2, _, _, _, _, c3, _, _, _, _, c4, ifB_f rfl ⟨rfl, rfl⟩⟩⟩
  | true =>
    obtain ⟨q1, i5, h5, hq1, hi5, c5⟩ := l1Pick_call hc hl i4 hi4 h4 [[.str ⟨#[33]⟩], [.str ⟨#[95]⟩], [.str ⟨#[33, 61]⟩], [.str ⟨#[126]⟩], [.str ⟨#[40]⟩], [.str ⟨#[57]⟩]] rfl (by simp) (by simp)
    have z1 : (q.extract 0 y).size = y := by rw [ByteArray.size_extract]; omega
    have z2 : (q.extract y q.size).size = q.size - y := by rw [ByteArray.size_extract]; omega
    have z3 : (q.extract 0 y ++ q1).size = y + q1.size := by rw [ByteArray.size_append, z1]
    have z4 : (q.extract 0 y ++ q1 ++ q.extract y q.size).size = q.size + q1.size := by rw [ByteArray.size_append, z3, z2]; omega
    refine ⟨q.extract 0 y ++ q1 ++ q.extract y q.size, by omega, ?_⟩
    apply spec_DrawWords_of
    exact ⟨_, _, _, c1, _, _, _, _, c2, _, _, _, _, c3, _, _, _, _, c4, ifB_t rfl ⟨y, rfl, ⟨by omega, by omega⟩, _, _, _, _, c5, ⟨by omega⟩, y, rfl, ⟨by omega, Nat.le_refl _⟩, ⟨by omega⟩, rfl, rfl⟩⟩
theorem fw_in (p : ByteArray) (hp : p.size ≤ 3000) (bad : Int) (ws P : List ByteArray) (w : ByteArray) (q : List ByteArray) (e : ws = P ++ w :: q) (hl : ws.length ≤ 3000) (j : Nat) (b : UInt8) (hb : p[j]? = some b) (hs : ¬ (b.toNat = 32 ∨ b.toNat = 10)) (h3 : j + w.size ≤ p.size) (h4 : p.extract j (j + w.size) = w)
    (hk : laws_FnWords_L10 (B true) [] p bad ((j + w.size : Nat) : Int) ((P.length + 1 : Nat) : Int) (ws.map Tx.da) (ws.map Tx.da)) : ∀ (d i : Nat), j = i + d → (∀ k, i ≤ k → k < j → ∃ b, p[k]? = some b ∧ (b.toNat = 32 ∨ b.toNat = 10)) → laws_FnWords_L14 (B true) [] p bad (i : Int) (P.length : Int) (ws.map Tx.da) (ws.map Tx.da)
  | 0, i, hij, _ => by
    have : i = j := by omega
    subst this
    have hlt := get_lt hb
    have hP : P.length < ws.length := by rw [e]; simp
    have hx : (ws.map Tx.da)[P.length]? = some [.str w] := by rw [e]; simp [Tx.da]
    have w1 : IntKind.wrap .i64 ((i : Int) + (w.size : Int)) = ((i + w.size : Nat) : Int) := by rw [wrI (by omega) (by omega)]; omega
    have w2 : IntKind.wrap .i64 ((P.length : Int) + 1) = ((P.length + 1 : Nat) : Int) := wr1 hP (by omega)
    have hPm : P.length < (ws.map Tx.da).length := by simpa using hP
    apply laws_FnWords_L14_of
    refine ifB_t (decide_eq_true (by omega)) ⟨i, b, rfl, hb, ifB_f (decide_eq_false fun h => hs (.inl (by omega))) ⟨i, b, rfl, hb, ifB_f (decide_eq_false fun h => hs (.inr (by omega))) ⟨P.length, rfl, ⟨hPm⟩, P.length, rfl, w, hx, ?_⟩⟩⟩
    rw [w1]
    refine ifB_f (decide_eq_false (by omega)) ⟨P.length, rfl, ⟨hPm⟩, P.length, rfl, w, hx, i, rfl, i + w.size, w1, ⟨by omega, h3⟩, P.length, rfl, ⟨hPm⟩, P.length, rfl, w, hx, ifB_f (decide_eq_false (by rw [h4]; simp)) ⟨P.length, rfl, ⟨hPm⟩, P.length, rfl, w, hx, ?_⟩⟩
    rw [w1, w2]
    exact hk
  | d + 1, i, hij, hbl => by
    obtain ⟨c, hc, hsp⟩ := hbl i (Nat.le_refl _) (by omega)
    have hlt := get_lt hc
    have ih := fw_in p hp bad ws P w q e hl j b hb hs h3 h4 hk d (i + 1) (by omega) (fun k h1 h2 => hbl k (by omega) h2)
    have w1 : IntKind.wrap .i64 ((i : Int) + 1) = ((i + 1 : Nat) : Int) := wr1 hlt (by omega)
    apply laws_FnWords_L14_of
    rw [w1]
    refine ifB_t (decide_eq_true (by omega)) ⟨i, c, rfl, hc, ?_⟩
    by_cases h32 : c.toNat = 32
    · exact ifB_t (decide_eq_true (by omega)) ih
    · exact ifB_f (decide_eq_false (by omega)) ⟨i, c, rfl, hc, ifB_t (decide_eq_true (by omega)) ih⟩
theorem fw_loop (p : ByteArray) (hp : p.size ≤ 3000) (bad : Int) (ws : List ByteArray) (hl : ws.length ≤ 3000) (hbad : bad < 0 ∨ ws.length = 0) : ∀ (q P : List ByteArray) (i : Nat), ws = P ++ q → Fol p i q → laws_FnWords_L10 (B true) [] p bad (i : Int) (P.length : Int) (ws.map Tx.da) (ws.map Tx.da)
  | [], P, i, e, _ => by
    apply laws_FnWords_L10_of
    have hPl : ws.length = P.length := by rw [e]; simp
    refine ifB_f (decide_eq_false (by rw [List.length_map]; omega)) ?_
    by_cases hb : bad < 0
    · exact ifB_t (decide_eq_true hb) ⟨rfl, rfl⟩
    · refine ifB_f (decide_eq_false hb) ⟨?_, rfl⟩
      have : ws.length = 0 := by omega
      rw [List.length_map, this]; rfl
  | w :: q, P, i, e, hf => by
    obtain ⟨j, h1, h2, ⟨b, hb, hs⟩, h3, h4, h5, h6⟩ := hf
    have ih := fw_loop p hp bad ws hl hbad q (P ++ [w]) (j + w.size) (by simp [e]) h6
    rw [show (P ++ [w]).length = P.length + 1 by simp] at ih
    have hP : P.length < ws.length := by rw [e]; simp
    have hx : (ws.map Tx.da)[P.length]? = some [.str w] := by rw [e]; simp [Tx.da]
    have hPm : P.length < (ws.map Tx.da).length := by simpa using hP
    have hne : w ≠ ⟨#[]⟩ := fun h => by rw [h] at h3; exact absurd h3 (by decide)
    have key := fw_in p hp bad ws P w q e hl j b hb hs h4 h5 ih (j - i) i (by omega) h2
    apply laws_FnWords_L10_of
    exact ifB_t (decide_eq_true (by simpa using hP)) ⟨P.length, rfl, ⟨hPm⟩, P.length, rfl, w, hx, P.length, rfl, ⟨hPm⟩, P.length, rfl, w, hx, ifB_f (decide_eq_false (by simp)) ⟨P.length, rfl, ⟨hPm⟩, P.length, rfl, w, hx, ifB_f (decide_eq_false hne) key⟩⟩
theorem laws_FnWords_law (cs : List (List Da)) (hc : U8s cs) : XC Try.prog 3 [.one (.d (.sl cs))] [] (B true) [] := by
  apply laws_FnWords_of
  by_cases hbig : 1048576 < cs.length
  · exact ⟨_, laws_big_of ⟨rfl, rfl⟩, ifB_t (decide_eq_true (by omega)) ⟨rfl, rfl⟩⟩
  refine ⟨_, laws_big_of ⟨rfl, rfl⟩, ifB_f (decide_eq_false (by omega)) ?_⟩
  obtain ⟨t, ht, c0⟩ := drawWords_call hc (by omega)
  have c1 := implWords_call t
  have c2 := specWords_call t
  have hw : wordsOf t = wds t (t.size + 1) 0 [] := by rw [wordsOf, if_neg (by omega)]
  obtain ⟨ws0, hr, hrl⟩ := wordsOf_rows t
  refine ⟨_, c0, _, _, c1, _, _, c2, ifB_f (decide_eq_false (by simp)) (ifB_f (decide_eq_false (by simp)) ?_)⟩
  rcases wds_fol t (t.size + 1) 0 [] (Nat.zero_le _) (by omega) with ⟨h1, h2⟩ | ⟨ws, h1, h2⟩
  · rw [hw, h1]
    exact fw_loop t ht _ [] (by simp) (.inr rfl) [] [] 0 rfl trivial
  · rw [hw] at hr
    have e : ws.length = ws0.length := by
      rw [h1] at hr
      have := congrArg List.length hr
      simpa using this
    rw [hw, h1]
    exact fw_loop t ht (-1) ws (by omega) (.inl (by omega)) ws [] 0 rfl h2
theorem typed_bytes (n : Nat) {ds : List Da} (h : TypedN Try.prog n 22 ds) : ∃ cs : List (List Da), ds = [.sl cs] ∧ U8s cs := by
  cases n with
  | zero => simp only [TypedN] at h
  | succ n =>
    simp only [TypedN, Try.underlying22] at h
    obtain ⟨xs, rfl, hx⟩ := h
    refine ⟨xs, rfl, fun row hrow => ?_⟩
    have h := hx row hrow
    cases n with
    | zero => simp only [TypedN] at h
    | succ n =>
      simp only [TypedN, Try.underlying5] at h
      obtain ⟨m, e, _⟩ := h
      exact ⟨m, e⟩

end AM
end Go.Proofs.Ytfcmmpmdofejeaa
