/- A quicker look at what is ordered in a region; no conditions. -/
import Derived.Test.YtfcmmpmdofejeaaAm18
import Derived.Test.YtfcmmpmdofejeaaAm21
import Derived.Test.YtfcmmpmdofejeaaAm23
set_option linter.unusedSimpArgs false
set_option linter.unusedVariables false
namespace Go.Proofs.Ytfcmmpmdofejeaa
namespace AM
open Go

def maskOf (M : List Nat) : List Edge → Nat
  | [] => 0
  | e :: r => (match Region.binds .any e with
    | true => 2 ^ e.on ||| M.getD e.on 0
    | false => 0) ||| maskOf M r
def masks : List Oper → List Nat → List Nat
  | [], M => M
  | o :: r, M => masks r (M ++ [maskOf M o.after.toList])

theorem maskOf_spec {M : List Nat} {j : Nat} : ∀ {es : List Edge}, (maskOf M es).testBit j = true → ∃ e ∈ es, Region.binds .any e = true ∧ (e.on = j ∨ (M.getD e.on 0).testBit j = true)
  | [], h => by simp [maskOf] at h
  | e :: r, h => by
    simp only [maskOf, Nat.testBit_or, Bool.or_eq_true] at h
    rcases h with h | h
    · split at h
      · rename_i hb
        simp only [Nat.testBit_or, Bool.or_eq_true, Nat.testBit_two_pow, decide_eq_true_eq] at h
        exact ⟨e, by simp, hb, h⟩
      · simp at h
    · obtain ⟨e', h1, h2⟩ := maskOf_spec h
      exact ⟨e', by simp [h1], h2⟩

theorem masks_spec {ops : Array Oper} : ∀ (l pre : List Oper) (M : List Nat), ops.toList = pre ++ l → M.length = pre.length → (∀ i j, (M.getD i 0).testBit j = true → ∀ f, i < f → reach ops f i j = true) →
    ∀ i j, ((masks l M).getD i 0).testBit j = true → ∀ f, i < f → reach ops f i j = true
  | [], pre, M, _, _, h => h
  | o :: r, pre, M, e, hl, h => by
    refine masks_spec r (pre ++ [o]) _ (by simp [e]) (by simp [hl]) fun i j hb f hf => ?_
    rcases Nat.lt_trichotomy i M.length with h1 | h1 | h1
    · rw [List.getD_eq_getElem?_getD, List.getElem?_append_left h1, ← List.getD_eq_getElem?_getD] at hb
      exact h i j hb f hf
    · subst h1
      rw [List.getD_eq_getElem?_getD, List.getElem?_append_right (Nat.le_refl _)] at hb
      simp only [Nat.sub_self, List.getElem?_cons_zero, Option.getD_some] at hb
      obtain ⟨e', h1, h2, h3⟩ := maskOf_spec hb
      obtain ⟨f, rfl⟩ : ∃ g, f = g + 1 := ⟨f - 1, by omega⟩
      have ho : ops[M.length]? = some o := by
        rw [← Array.getElem?_toList, e, hl, List.getElem?_append_right (Nat.le_refl _)]; simp
      simp only [reach, ho, Array.any_eq_true']
      refine ⟨e', by simpa using h1, ?_⟩
      simp only [Bool.and_eq_true, Bool.or_eq_true, beq_iff_eq]
      refine ⟨h2, h3.imp id fun h3 => ?_⟩
      have hlt : e'.on < M.length := by
        rcases Nat.lt_or_ge e'.on M.length with h4 | h4
        · exact h4
        · rw [List.getD_eq_getElem?_getD, List.getElem?_eq_none h4] at h3; simp at h3
      exact h _ j h3 f (by omega)
    · rw [List.getD_eq_getElem?_getD, List.getElem?_eq_none (by simp; omega)] at hb
      simp at hb

structure ORow where
  d : Option Nat
  n : List Nat
  m : Nat
  lo : Bool
def orows (ops : Array Oper) : List Oper → List Nat → Nat → List ORow
  | o :: r, m :: M, i => ⟨o.dst, namesOf ops o, m, o.after.all fun e => !Region.binds .any e || decide (e.on < i)⟩ :: orows ops r M (i + 1)
  | _, _, _ => []
def offD (d : Option Nat) (n : List Nat) : Bool := match d with
  | none => true
  | some t => !n.contains t
/-- Each row against those ahead of it. -/
def pairsOk (x : ORow) : List ORow → Nat → Bool
  | [], _ => true
  | y :: r, j => ((offD y.d x.n && offD x.d y.n) || x.m.testBit j) && pairsOk x r (j + 1)
def rowsOk (all : List ORow) : List ORow → Nat → Bool
  | [], _ => true
  | x :: r, i => x.lo && pairsOk x (all.take i) 0 && rowsOk all r (i + 1)
def drawOkM (ops : Array Oper) : Bool :=
  let rs := orows ops ops.toList (masks ops.toList []) 0
  decide (rs.length = ops.size) && rowsOk rs rs 0

theorem orows_get {ops : Array Oper} : ∀ {l : List Oper} {M : List Nat} {k i : Nat} {x : ORow}, (orows ops l M k)[i]? = some x → ∃ o m, l[i]? = some o ∧ M[i]? = some m ∧ x = ⟨o.dst, namesOf ops o, m, o.after.all fun e => !Region.binds .any e || decide (e.on < k + i)⟩
  | o :: r, m :: M, k, 0, x, h => by simp [orows] at h; exact ⟨o, m, rfl, rfl, h.symm⟩
  | o :: r, m :: M, k, i + 1, x, h => by
    simp only [orows, List.getElem?_cons_succ] at h
    obtain ⟨o', m', h1, h2, h3⟩ := orows_get h
    exact ⟨o', m', h1, h2, by rw [h3]; simp only [ORow.mk.injEq, true_and]; congr 1; funext e; rw [show k + 1 + i = k + (i + 1) by omega]⟩
  | [], _, _, i, x, h => by simp [orows] at h
  | _ :: _, [], _, i, x, h => by simp [orows] at h
theorem pairsOk_get {x : ORow} : ∀ {l : List ORow} {k j : Nat} {y : ORow}, pairsOk x l k = true → l[j]? = some y → ((offD y.d x.n && offD x.d y.n) || x.m.testBit (k + j)) = true
  | y :: r, k, 0, y', h, hj => by simp [pairsOk] at h hj; subst hj; simpa using h.1
  | y :: r, k, j + 1, y', h, hj => by
    simp only [pairsOk, Bool.and_eq_true] at h
    have := pairsOk_get h.2 (by simpa using hj)
    rwa [show k + 1 + j = k + (j + 1) by omega] at this
  | [], _, j, y, h, hj => by simp at hj
theorem rowsOk_get {all : List ORow} : ∀ {l : List ORow} {k i : Nat} {x : ORow}, rowsOk all l k = true → l[i]? = some x → x.lo = true ∧ pairsOk x (all.take (k + i)) 0 = true
  | x :: r, k, 0, x', h, hj => by simp [rowsOk] at h hj; subst hj; simpa using h.1
  | x :: r, k, i + 1, x', h, hj => by
    simp only [rowsOk, Bool.and_eq_true] at h
    have := rowsOk_get h.2 (by simpa using hj)
    rwa [show k + 1 + i = k + (i + 1) by omega] at this
  | [], _, j, y, h, hj => by simp at hj

theorem offD_spec {d : Option Nat} {n : List Nat} (h : offD d n = true) : (d.toList.all fun t => !n.contains t) = true := by
  cases d with
  | none => rfl
  | some t => simpa [offD] using h
theorem drawOk_of {ops : Array Oper} (h : drawOkM ops = true) : drawOk ops = true := by
  simp only [drawOkM, Bool.and_eq_true, decide_eq_true_eq] at h
  obtain ⟨hlen, h⟩ := h
  have hm := masks_spec (ops := ops) ops.toList [] [] (by simp) rfl (by simp)
  have get : ∀ i, i < ops.size → ∃ x, (orows ops ops.toList (masks ops.toList []) 0)[i]? = some x := fun i hi => ⟨_, List.getElem?_eq_getElem (by rw [hlen]; exact hi)⟩
  unfold drawOk
  rw [List.all_eq_true]
  intro i hi
  have hi := List.mem_range.1 hi
  obtain ⟨x, hx⟩ := get i hi
  obtain ⟨oi, mi, h1, h2, h3⟩ := orows_get hx
  have ho : ops[i]? = some oi := by rw [← Array.getElem?_toList]; exact h1
  obtain ⟨k1, k2⟩ := rowsOk_get h hx
  simp only [ho, Bool.and_eq_true]
  refine ⟨?_, ?_⟩
  · rw [h3] at k1
    simpa using k1
  · rw [List.all_eq_true]
    intro j hj
    have hj := List.mem_range.1 hj
    obtain ⟨y, hy⟩ := get j hj
    obtain ⟨oj, mj, g1, g2, g3⟩ := orows_get hy
    have ho' : ops[j]? = some oj := by rw [← Array.getElem?_toList]; exact g1
    simp only [ho']
    by_cases hji : j < i
    · have := pairsOk_get k2 (j := j) (y := y) (by rw [List.getElem?_take]; simp [hji, hy])
      rw [h3, g3] at this
      simp only [Bool.or_eq_true, Bool.and_eq_true, Nat.zero_add] at this
      rcases this with ⟨t1, t2⟩ | t
      · simp only [Bool.or_eq_true, Bool.and_eq_true]
        exact .inl (.inr ⟨offD_spec t1, offD_spec t2⟩)
      · have hb : ((masks ops.toList []).getD i 0).testBit j = true := by rw [List.getD_eq_getElem?_getD, h2]; exact t
        simp only [Bool.or_eq_true]
        exact .inr (hm i j hb _ hi)
    · simp [hji]

end AM
end Go.Proofs.Ytfcmmpmdofejeaa
