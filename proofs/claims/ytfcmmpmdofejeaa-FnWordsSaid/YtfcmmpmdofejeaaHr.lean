/- Contracts of functions of the program, out of what their texts ask; no conditions. -/
import Derived.Test.YtfcmmpmdofejeaaDt
import Derived.Test.YtfcmmpmdofejeaaDt
import Derived.Test.YtfcmmpmdofejeaaAm13
set_option linter.unusedVariables false
set_option linter.unusedSimpArgs false
set_option maxRecDepth 100000
namespace Go.Proofs.Ytfcmmpmdofejeaa
namespace AM
open Go Go.ChangeShapes Go.WideShapes Go.RowKit

theorem own : ownKnob Try.prog.godebug = none := by kernel_rfl
theorem laidOut : laidOutB Try.prog = true := by kernel_rfl
def i64 (n : Int) : Prop := -9223372036854775808 ≤ n ∧ n ≤ 9223372036854775807
mutual
def Tm.ok : Tm → Prop
  | .mk f v ks => i64 f ∧ i64 v ∧ Tm.oks ks
def Tm.oks : List Tm → Prop
  | [] => True
  | t :: r => t.ok ∧ Tm.oks r
end
theorem Tm.oks_iff : ∀ {l : List Tm}, Tm.oks l ↔ ∀ t ∈ l, t.ok
  | [] => by simp [Tm.oks]
  | t :: r => by simp [Tm.oks, Tm.oks_iff (l := r)]
def Li.ok (x : Li) : Prop := x.l.ok ∧ x.r.ok
def Cl.ok (x : Cl) : Prop := ∀ y ∈ x.ls, y.ok
def Sy.ok (x : Sy) : Prop := i64 x.ar
def Bd.ok (x : Bd) : Prop := i64 x.v ∧ x.t.ok
def Ru.ok (x : Ru) : Prop := x.l.ok ∧ x.r.ok
def Sp.ok (x : Sp) : Prop := (i64 x.kind ∧ i64 x.a ∧ i64 x.b ∧ i64 x.i ∧ i64 x.k) ∧ (∀ n ∈ x.way, i64 n) ∧ (∀ y ∈ x.sub, y.ok) ∧ x.cl.ok
def Wk.ok (x : Wk) : Prop := (∀ y ∈ x.sig, y.ok) ∧ (∀ y ∈ x.input, y.ok) ∧ (∀ y ∈ x.log, y.ok) ∧ (∀ n ∈ x.active, i64 n) ∧ (∀ n ∈ x.passive, i64 n)
theorem typed_int (n : Nat) {ds : List Da} (h : TypedN Try.prog n 3 ds) : ∃ m, ds = [.int .i64 m] ∧ i64 m := by
  cases n with
  | zero => simp only [TypedN] at h
  | succ n =>
    simp only [TypedN, Try.underlying3] at h
    obtain ⟨m, e, hw⟩ := h
    refine ⟨m, e, ?_⟩
    simp [Lit.wf, IntKind.min, IntKind.max, IntKind.signed, IntKind.bits] at hw
    exact ⟨by omega, by omega⟩
theorem typed_bool (n : Nat) {ds : List Da} (h : TypedN Try.prog n 4 ds) : ∃ b, ds = [.bool b] := by
  cases n with
  | zero => simp only [TypedN] at h
  | succ n => simp only [TypedN, Try.underlying4] at h; exact h
theorem map_of {α : Type} {da : α → List Da} {ok : α → Prop} {xs : List (List Da)} (h : ∀ x ∈ xs, ∃ t : α, x = da t ∧ ok t) : ∃ ks : List α, xs = ks.map da ∧ ∀ k ∈ ks, ok k := by
  induction xs with
  | nil => exact ⟨[], rfl, by simp⟩
  | cons x xs ih =>
    obtain ⟨t, rfl, ht⟩ := h x (by simp)
    obtain ⟨ks, rfl, hk⟩ := ih fun y hy => h y (by simp [hy])
    exact ⟨t :: ks, rfl, by simpa using ⟨ht, hk⟩⟩
theorem typed_str (n : Nat) {ds : List Da} (h : TypedN Try.prog n 9 ds) : ∃ s, ds = [.str s] := by
  cases n with
  | zero => simp only [TypedN] at h
  | succ n => simp only [TypedN, Try.underlying9] at h; exact h

end AM
end Go.Proofs.Ytfcmmpmdofejeaa
