/- Contracts of functions of the program, out of what their texts ask; no conditions. -/
import Derived.Test.YtajcoogpmockiaaDt
import Derived.Test.YtajcoogpmockiaaDt
import Derived.Test.YtajcoogpmockiaaAm13
set_option linter.unusedVariables false
set_option linter.unusedSimpArgs false
set_option maxRecDepth 100000
namespace Go.Proofs.Ytajcoogpmockiaa
namespace AM
open Go Go.ChangeShapes Go.WideShapes Go.RowKit

theorem own : ownKnob Try.prog.godebug = none := by kernel_rfl
theorem laidOut : laidOutB Try.prog = true := by kernel_rfl
def i64 (n : Int) : Prop := -9223372036854775808 ≤ n ∧ n ≤ 9223372036854775807
mutual
def Tm.ok : Tm → Prop
  | .mk f v ks => i64 f ∧ i64 v ∧ Tm.oks ks
def Tm.oks : List Tm → Prop
  | [] => True
  | t :: r => t.ok ∧ Tm.oks r
end
theorem Tm.oks_iff : ∀ {l : List Tm}, Tm.oks l ↔ ∀ t ∈ l, t.ok
  | [] => by simp [Tm.oks]
  | t :: r => by simp [Tm.oks, Tm.oks_iff (l := r)]
def Li.ok (x : Li) : Prop := x.l.ok ∧ x.r.ok
def Cl.ok (x : Cl) : Prop := ∀ y ∈ x.ls, y.ok
def Sy.ok (x : Sy) : Prop := i64 x.ar
def Bd.ok (x : Bd) : Prop := i64 x.v ∧ x.t.ok
def Ru.ok (x : Ru) : Prop := x.l.ok ∧ x.r.ok
def Sp.ok (x : Sp) : Prop := (i64 x.kind ∧ i64 x.a ∧ i64 x.b ∧ i64 x.i ∧ i64 x.k) ∧ (∀ n ∈ x.way, i64 n) ∧ (∀ y ∈ x.sub, y.ok) ∧ x.cl.ok
def Wk.ok (x : Wk) : Prop := (∀ y ∈ x.sig, y.ok) ∧ (∀ y ∈ x.input, y.ok) ∧ (∀ y ∈ x.log, y.ok) ∧ (∀ n ∈ x.active, i64 n) ∧ (∀ n ∈ x.passive, i64 n)
theorem typed_int (n : Nat) {ds : List Da} (h : TypedN Try.prog n 3 ds) : ∃ m, ds = [.int .i64 m] ∧ i64 m := by
  cases n with
  | zero => simp only [TypedN] at h
  | succ n =>
    simp only [TypedN, Try.underlying3] at h
    obtain ⟨m, e, hw⟩ := h
    refine ⟨m, e, ?_⟩
    simp [Lit.wf, IntKind.min, IntKind.max, IntKind.signed, IntKind.bits] at hw
    exact ⟨by omega, by omega⟩
theorem typed_bool (n : Nat) {ds : List Da} (h : TypedN Try.prog n 4 ds) : ∃ b, ds = [.bool b] := by
  cases n with
  | zero => simp only [TypedN] at h
  | succ n => simp only [TypedN, Try.underlying4] at h; exact h
theorem map_of {α : Type} {da : α → List Da} {ok : α → Prop} {xs : List (List Da)} (h : ∀ x ∈ xs, ∃ t : α, x = da t ∧ ok t) : ∃ ks : List α, xs = ks.map da ∧ ∀ k ∈ ks, ok k := by
  induction xs with
  | nil => exact ⟨[], rfl, by simp⟩
  | cons x xs ih =>
    obtain ⟨t, rfl, ht⟩ := h x (by simp)
    obtain ⟨ks, rfl, hk⟩ := ih fun y hy => h y (by simp [hy])
    exact ⟨t :: ks, rfl, by simpa using ⟨ht, hk⟩⟩
theorem typed_str (n : Nat) {ds : List Da} (h : TypedN Try.prog n 9 ds) : ∃ s, ds = [.str s] := by
  cases n with
  | zero => simp only [TypedN] at h
  | succ n => simp only [TypedN, Try.underlying9] at h; exact h
theorem typed_ints (n : Nat) {ds : List Da} (h : TypedN Try.prog n 26 ds) : ∃ l : List Int, ds = [.sl (l.map In.da)] ∧ ∀ k ∈ l, i64 k := by
  cases n with
  | zero => simp only [TypedN] at h
  | succ n =>
    simp only [TypedN, Try.underlying26] at h
    obtain ⟨xs, rfl, hx⟩ := h
    obtain ⟨ks, rfl, hk⟩ : ∃ ks : List Int, xs = ks.map In.da ∧ ∀ k ∈ ks, i64 k := map_of fun x hx' => by
      obtain ⟨m, e, h⟩ := typed_int _ (hx x hx')
      exact ⟨m, e, h⟩
    exact ⟨ks, rfl, hk⟩
theorem typed_term (n : Nat) {ds : List Da} (h : TypedN Try.prog n 25 ds) : ∃ t : Tm, ds = t.da ∧ t.ok := by
  induction n using Nat.strongRecOn generalizing ds with
  | ind n ih =>
  cases n with
  | zero => simp only [TypedN] at h
  | succ n =>
    simp only [TypedN, Try.underlying25, fieldsN] at h
    obtain ⟨d1, r1, rfl, h1, d2, r2, rfl, h2, d3, r3, rfl, h3, rfl⟩ := h
    obtain ⟨f, rfl, hf⟩ := typed_int _ h1
    obtain ⟨v, rfl, hv⟩ := typed_int _ h2
    have h4 : ∃ ks, d3 = [.sl (Tm.das ks)] ∧ ∀ k ∈ ks, Tm.ok k := by
      cases n with
      | zero => simp only [TypedN] at h3
      | succ n =>
        simp only [TypedN, Try.underlying23] at h3
        obtain ⟨xs, rfl, hx⟩ := h3
        obtain ⟨ks, rfl, hk⟩ := map_of (da := Tm.da) (ok := Tm.ok) fun x hx' => ih n (by omega) (hx x hx')
        exact ⟨ks, by rw [Tm.das_map], hk⟩
    obtain ⟨ks, rfl, hk⟩ := h4
    exact ⟨.mk f v ks, rfl, hf, hv, Tm.oks_iff.2 hk⟩
theorem typed_lit (n : Nat) {ds : List Da} (h : TypedN Try.prog n 57 ds) : ∃ l : Li, ds = l.da ∧ l.ok := by
  cases n with
  | zero => simp only [TypedN] at h
  | succ n =>
    simp only [TypedN, Try.underlying57, fieldsN] at h
    obtain ⟨d1, r1, rfl, h1, d2, r2, rfl, h2, d3, r3, rfl, h3, rfl⟩ := h
    obtain ⟨p, rfl⟩ := typed_bool _ h1
    obtain ⟨a, rfl, ha⟩ := typed_term _ h2
    obtain ⟨b, rfl, hb⟩ := typed_term _ h3
    exact ⟨⟨p, a, b⟩, by simp [Li.da], ha, hb⟩
theorem typed_lits (n : Nat) {ds : List Da} (h : TypedN Try.prog n 71 ds) : ∃ ls : List Li, ds = [.sl (ls.map Li.da)] ∧ ∀ k ∈ ls, k.ok := by
  cases n with
  | zero => simp only [TypedN] at h
  | succ n =>
    simp only [TypedN, Try.underlying71] at h
    obtain ⟨xs, rfl, hx⟩ := h
    obtain ⟨ks, rfl, hk⟩ := map_of (da := Li.da) (ok := Li.ok) fun x hx' => typed_lit _ (hx x hx')
    exact ⟨ks, rfl, hk⟩
theorem typed_clause (n : Nat) {ds : List Da} (h : TypedN Try.prog n 84 ds) : ∃ c : Cl, ds = c.da ∧ c.ok := by
  cases n with
  | zero => simp only [TypedN] at h
  | succ n =>
    simp only [TypedN, Try.underlying84, fieldsN] at h
    obtain ⟨d1, r1, rfl, h1, rfl⟩ := h
    obtain ⟨ls, rfl, hl⟩ := typed_lits _ h1
    exact ⟨⟨ls⟩, rfl, hl⟩
theorem typed_sym (n : Nat) {ds : List Da} (h : TypedN Try.prog n 93 ds) : ∃ c : Sy, ds = c.da ∧ c.ok := by
  cases n with
  | zero => simp only [TypedN] at h
  | succ n =>
    simp only [TypedN, Try.underlying93, fieldsN] at h
    obtain ⟨d1, r1, rfl, h1, d2, r2, rfl, h2, d3, r3, rfl, h3, rfl⟩ := h
    obtain ⟨s, rfl⟩ := typed_str _ h1
    obtain ⟨m, rfl, hm⟩ := typed_int _ h2
    obtain ⟨b, rfl⟩ := typed_bool _ h3
    exact ⟨⟨s, m, b⟩, rfl, hm⟩
theorem typed_symsD (n : Nat) {ds : List Da} (h : TypedN Try.prog n 22 ds) : ∃ ls : List Sy, ds = [.sl (ls.map Sy.da)] ∧ ∀ k ∈ ls, k.ok := by
  cases n with
  | zero => simp only [TypedN] at h
  | succ n =>
    simp only [TypedN, Try.underlying22] at h
    obtain ⟨xs, rfl, hx⟩ := h
    obtain ⟨ks, rfl, hk⟩ := map_of (da := Sy.da) (ok := Sy.ok) fun x hx' => typed_sym _ (hx x hx')
    exact ⟨ks, rfl, hk⟩
theorem typed_bind (n : Nat) {ds : List Da} (h : TypedN Try.prog n 113 ds) : ∃ c : Bd, ds = c.da ∧ c.ok := by
  cases n with
  | zero => simp only [TypedN] at h
  | succ n =>
    simp only [TypedN, Try.underlying113, fieldsN] at h
    obtain ⟨d1, r1, rfl, h1, d2, r2, rfl, h2, rfl⟩ := h
    obtain ⟨v, rfl, hv⟩ := typed_int _ h1
    obtain ⟨t, rfl, ht⟩ := typed_term _ h2
    exact ⟨⟨v, t⟩, by simp [Bd.da], hv, ht⟩
theorem typed_binds (n : Nat) {ds : List Da} (h : TypedN Try.prog n 55 ds) : ∃ ls : List Bd, ds = [.sl (ls.map Bd.da)] ∧ ∀ k ∈ ls, k.ok := by
  cases n with
  | zero => simp only [TypedN] at h
  | succ n =>
    simp only [TypedN, Try.underlying55] at h
    obtain ⟨xs, rfl, hx⟩ := h
    obtain ⟨ks, rfl, hk⟩ := map_of (da := Bd.da) (ok := Bd.ok) fun x hx' => typed_bind _ (hx x hx')
    exact ⟨ks, rfl, hk⟩
theorem typed_rule (n : Nat) {ds : List Da} (h : TypedN Try.prog n 45 ds) : ∃ c : Ru, ds = c.da ∧ c.ok := by
  cases n with
  | zero => simp only [TypedN] at h
  | succ n =>
    simp only [TypedN, Try.underlying45, fieldsN] at h
    obtain ⟨d1, r1, rfl, h1, d2, r2, rfl, h2, rfl⟩ := h
    obtain ⟨a, rfl, ha⟩ := typed_term _ h1
    obtain ⟨b, rfl, hb⟩ := typed_term _ h2
    exact ⟨⟨a, b⟩, by simp [Ru.da], ha, hb⟩

end AM
end Go.Proofs.Ytajcoogpmockiaa
