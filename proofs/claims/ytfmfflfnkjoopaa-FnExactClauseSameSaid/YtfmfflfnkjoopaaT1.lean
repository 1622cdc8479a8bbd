/- trial -/
import Derived.Test.YtfmfflfnkjoopaaAm10
set_option linter.unusedVariables false
namespace Go.Proofs.Ytfmfflfnkjoopaa
namespace AM
open Go
attribute [local irreducible] aOps awp W OpP OpS ACall RetOk

inductive Tm where
  | mk (f v : Int) (ks : List Tm)
mutual
def Tm.da : Tm → List Da
  | .mk f v ks => [.int .i64 f, .int .i64 v, .sl (Tm.das ks)]
def Tm.das : List Tm → List (List Da)
  | [] => []
  | t :: r => t.da :: Tm.das r
end
def Tm.f : Tm → Int | .mk f _ _ => f
def Tm.v : Tm → Int | .mk _ v _ => v
def Tm.ks : Tm → List Tm | .mk _ _ ks => ks
theorem Tm.das_get : ∀ (l : List Tm) (i : Nat), (Tm.das l)[i]? = (l[i]?).map Tm.da
  | [], i => by simp [Tm.das]
  | t :: r, 0 => by simp [Tm.das]
  | t :: r, i + 1 => by simp [Tm.das, Tm.das_get r i]
theorem Tm.das_len (l : List Tm) : (Tm.das l).length = l.length := by induction l <;> simp_all [Tm.das]
theorem Tm.da_len (t : Tm) : t.da.length = 3 := by cases t; rfl
theorem Tm.ind {p : Tm → Prop} (h : ∀ f v ks, (∀ t ∈ ks, p t) → p (.mk f v ks)) (t : Tm) : p t := by
  refine Tm.rec (motive_1 := p) (motive_2 := fun l => ∀ t ∈ l, p t) (fun f v ks ih => h f v ks ih) (by simp) (fun t l h1 h2 => ?_) t
  intro u hu
  rcases List.mem_cons.1 hu with rfl | hu
  · exact h1
  · exact h2 u hu
mutual
def Tm.same : Tm → Tm → Bool
  | .mk f v ks, .mk g w ls => f == g && (v == w && Tm.sames ks ls)
def Tm.sames : List Tm → List Tm → Bool
  | [], [] => true
  | t :: r, u :: s => Tm.same t u && Tm.sames r s
  | _, _ => false
end
theorem Tm.sames_iff : ∀ (l m : List Tm), Tm.sames l m = true ↔ l.length = m.length ∧ ∀ (i : Nat) t u, l[i]? = some t → m[i]? = some u → Tm.same t u = true
  | [], [] => by simp [Tm.sames]
  | [], _ :: _ => by simp [Tm.sames]
  | _ :: _, [] => by simp [Tm.sames]
  | t :: r, u :: s => by
    have ih := Tm.sames_iff r s
    simp only [Tm.sames, Bool.and_eq_true, ih, List.length_cons, Nat.add_right_cancel_iff]
    constructor
    · rintro ⟨h1, h2, h3⟩
      refine ⟨h2, fun i x y hx hy => ?_⟩
      cases i with
      | zero => simp at hx hy; subst hx; subst hy; exact h1
      | succ i => exact h3 i x y (by simpa using hx) (by simpa using hy)
    · rintro ⟨h1, h2⟩
      exact ⟨h2 0 t u rfl rfl, h1, fun i x y hx hy => h2 (i + 1) x y (by simpa using hx) (by simpa using hy)⟩

theorem Tm.same_len {f v g u : Int} {ks ls : List Tm} (h : ¬ ks.length = ls.length) : false = Tm.same (.mk f v ks) (.mk g u ls) := by
  have : Tm.sames ks ls = false := by
    rw [Bool.eq_false_iff]; intro hs; exact h ((Tm.sames_iff ks ls).1 hs).1
  simp [Tm.same, this]
theorem Tm.same_kid {f v g u : Int} {ks ls : List Tm} {k : Nat} {a b : Tm} (ha : ks[k]? = some a) (hb : ls[k]? = some b) (h : a.same b = false) : false = Tm.same (.mk f v ks) (.mk g u ls) := by
  have : Tm.sames ks ls = false := by
    rw [Bool.eq_false_iff]; intro hs
    have := ((Tm.sames_iff ks ls).1 hs).2 k a b ha hb
    simp [h] at this
  simp [Tm.same, this]
theorem Tm.same_all {f v g u : Int} {ks ls : List Tm} {n : Nat} (h1 : f = g) (h2 : v = u) (h3 : ks.length = ls.length) (h4 : ks.length ≤ n) (hJ : ∀ (i : Nat) t u, i < n → ks[i]? = some t → ls[i]? = some u → Tm.same t u = true) : true = Tm.same (.mk f v ks) (.mk g u ls) := by
  have := (Tm.sames_iff ks ls).2 ⟨h3, fun i t u h1 h2 => hJ i t u (Nat.lt_of_lt_of_le (List.getElem?_eq_some_iff.1 h1).1 h4) h1 h2⟩
  simp [Tm.same, h1, h2, this]

theorem isVar_call (t : Tm) : ACall Try.prog 60 [.dat t.da] (B (decide (t.f = -1))) [] := by
  obtain ⟨f, v, ks⟩ := t
  refine acall_W Try.func60 rfl _ Try.ntmps60 (Nat.le_of_ble_eq_true rfl) fun w0 S0 => ?_
  refine W_seq ?_
  refine W_region ?_
  refine st_op (os_box rfl rfl rfl rfl rfl) rfl rfl rfl ?_
  refine st_op (opS_of (opP_assign rfl rfl)) rfl rfl rfl ?_
  refine aOps_nil ?_
  refine W_seq ?_
  refine W_region ?_
  first
    | refine st_op (os_fieldAddrO tabOk rfl rfl rfl (by decide) rfl) rfl rfl rfl ?_
    | refine st_op (os_fieldAddrE tabOk rfl rfl rfl (by decide) rfl) rfl rfl rfl ?_
  first
    | refine st_op (os_loadO1 tabOk rfl rfl rfl rfl rfl rfl) rfl rfl rfl ?_
    | refine st_op (os_loadE1 tabOk rfl rfl rfl rfl rfl) rfl rfl rfl ?_
    | refine st_op (os_loadES tabOk rfl rfl rfl rfl rfl) rfl rfl rfl ?_
    | refine st_op (os_loadOS tabOk rfl rfl rfl rfl rfl (Nat.le_of_ble_eq_true rfl)) rfl rfl rfl ?_
    | refine st_op (os_loadES tabOk rfl rfl rfl rfl (by assumption)) rfl rfl rfl ?_
    | refine st_op (os_loadLS tabOk rfl rfl rfl rfl rfl (by assumption) rfl (by first | rfl | assumption)) rfl rfl rfl ?_
    | refine st_op (os_loadL1 (q := 0) tabOk rfl rfl rfl rfl rfl (by assumption) rfl rfl) rfl rfl rfl ?_
  first
    | refine st_op (opS_of (opP_eql rfl rfl rfl)) rfl rfl rfl ?_
    | refine st_op (opS_of (opP_strEq rfl rfl rfl)) rfl rfl rfl ?_
    | refine st_op (os_boolEq tabOk rfl rfl rfl rfl rfl) rfl rfl rfl ?_
  refine st_op (opS_of (opP_assign rfl rfl)) rfl rfl rfl ?_
  refine aOps_nil ?_
  refine W_ret ?_
  refine retE_ret ?_
  refine retOk_tmpE Try.results60 rfl ?_ rfl
  rfl

set_option maxHeartbeats 4000000 in
theorem termSame_call (a b : Tm) : ACall Try.prog 64 [.dat a.da, .dat b.da] (B (Tm.same a b)) [] := by
  induction a using Tm.ind generalizing b with
  | h f v ks ih =>
  obtain ⟨g, u, ls⟩ := b
  refine acall_fit fun hfit => ?_
  have hlen : ks.length ≤ 281474976710656 := by have := hfit.dat.tail.tail.len; rwa [Tm.das_len] at this
  refine acall_W Try.func64 rfl _ Try.ntmps64 (Nat.le_of_ble_eq_true rfl) fun w0 S0 => ?_
  refine W_seq ?_
  refine W_region ?_
  refine st_op (os_box rfl rfl rfl rfl rfl) rfl rfl rfl ?_
  refine st_op (os_box rfl rfl rfl rfl rfl) rfl rfl rfl ?_
  refine st_op (opS_of (opP_assign rfl rfl)) rfl rfl rfl ?_
  refine aOps_nil ?_
  refine W_seq ?_
  refine W_seq ?_
  refine W_region ?_
  first
    | refine st_op (os_fieldAddrO tabOk rfl rfl rfl (by decide) rfl) rfl rfl rfl ?_
    | refine st_op (os_fieldAddrE tabOk rfl rfl rfl (by decide) rfl) rfl rfl rfl ?_
  first
    | refine st_op (os_loadO1 tabOk rfl rfl rfl rfl rfl rfl) rfl rfl rfl ?_
    | refine st_op (os_loadE1 tabOk rfl rfl rfl rfl rfl) rfl rfl rfl ?_
    | refine st_op (os_loadES tabOk rfl rfl rfl rfl rfl) rfl rfl rfl ?_
    | refine st_op (os_loadOS tabOk rfl rfl rfl rfl rfl (Nat.le_of_ble_eq_true rfl)) rfl rfl rfl ?_
    | refine st_op (os_loadES tabOk rfl rfl rfl rfl (by assumption)) rfl rfl rfl ?_
    | refine st_op (os_loadLS tabOk rfl rfl rfl rfl rfl (by assumption) rfl (by first | rfl | assumption)) rfl rfl rfl ?_
    | refine st_op (os_loadL1 (q := 0) tabOk rfl rfl rfl rfl rfl (by assumption) rfl rfl) rfl rfl rfl ?_
  first
    | refine st_op (os_fieldAddrO tabOk rfl rfl rfl (by decide) rfl) rfl rfl rfl ?_
    | refine st_op (os_fieldAddrE tabOk rfl rfl rfl (by decide) rfl) rfl rfl rfl ?_
  first
    | refine st_op (os_loadO1 tabOk rfl rfl rfl rfl rfl rfl) rfl rfl rfl ?_
    | refine st_op (os_loadE1 tabOk rfl rfl rfl rfl rfl) rfl rfl rfl ?_
    | refine st_op (os_loadES tabOk rfl rfl rfl rfl rfl) rfl rfl rfl ?_
    | refine st_op (os_loadOS tabOk rfl rfl rfl rfl rfl (Nat.le_of_ble_eq_true rfl)) rfl rfl rfl ?_
    | refine st_op (os_loadES tabOk rfl rfl rfl rfl (by assumption)) rfl rfl rfl ?_
    | refine st_op (os_loadLS tabOk rfl rfl rfl rfl rfl (by assumption) rfl (by first | rfl | assumption)) rfl rfl rfl ?_
    | refine st_op (os_loadL1 (q := 0) tabOk rfl rfl rfl rfl rfl (by assumption) rfl rfl) rfl rfl rfl ?_
  first
    | refine st_op (opS_of (opP_neq rfl rfl rfl)) rfl rfl rfl ?_
    | refine st_op (opS_of (opP_strNe rfl rfl rfl)) rfl rfl rfl ?_
    | refine st_op (os_boolNe tabOk rfl rfl rfl rfl rfl) rfl rfl rfl ?_
  refine st_op (opS_of (opP_move rfl rfl)) rfl rfl rfl ?_
  refine st_gsplit rfl rfl rfl (fun hb11 => ?_) (fun hb11 => ?_)
  · refine st_skip rfl rfl rfl rfl ?_
    refine st_skip rfl rfl rfl rfl ?_
    refine st_skip rfl rfl rfl rfl ?_
    refine st_skip rfl rfl rfl rfl ?_
    refine st_skip rfl rfl rfl rfl ?_
    first
      | refine st_op (opS_of (opP_pickA rfl rfl rfl rfl)) rfl rfl rfl ?_
      | refine st_op (opS_of (opP_pickF rfl rfl rfl rfl)) rfl rfl rfl ?_
      | refine st_op (opS_of (opP_pickA rfl rfl (by assumption) rfl)) rfl rfl rfl ?_
      | refine st_op (opS_of (opP_pickF rfl rfl (by assumption) rfl)) rfl rfl rfl ?_
    refine st_op (opS_of (opP_move rfl rfl)) rfl rfl rfl ?_
    refine st_skip rfl rfl rfl rfl ?_
    refine st_skip rfl rfl rfl rfl ?_
    refine st_skip rfl rfl rfl rfl ?_
    refine st_skip rfl rfl rfl rfl ?_
    refine st_skip rfl rfl rfl rfl ?_
    refine st_skip rfl rfl rfl rfl ?_
    refine st_skip rfl rfl rfl rfl ?_
    first
      | refine st_op (opS_of (opP_pickA rfl rfl rfl rfl)) rfl rfl rfl ?_
      | refine st_op (opS_of (opP_pickF rfl rfl rfl rfl)) rfl rfl rfl ?_
      | refine st_op (opS_of (opP_pickA rfl rfl (by assumption) rfl)) rfl rfl rfl ?_
      | refine st_op (opS_of (opP_pickF rfl rfl (by assumption) rfl)) rfl rfl rfl ?_
    refine aOps_nil ?_
    refine W_condT rfl ?_
    refine W_seq ?_
    refine W_region ?_
    refine st_op (opS_of (opP_assign rfl rfl)) rfl rfl rfl ?_
    refine aOps_nil ?_
    refine W_ret ?_
    refine retE_ret ?_
    refine retOk_tmpE Try.results64 rfl ?_ rfl
    first | (simp_all [Tm.same]; done) | exact congrArg B (Tm.same_len (by have := hc26; simp [Tm.das_len] at this; omega)) | exact congrArg B (Tm.same_kid (by assumption) (by assumption) (by simpa using hc45)) | exact congrArg B (Tm.same_all (by simpa using hb11) (by simpa using hb18) (by have := hc26; simp [Tm.das_len] at this; omega) (by have hK := ofNat_ge hc31; rwa [Tm.das_len] at hK) hJ)
  · first
      | refine st_run (os_fieldAddrO tabOk rfl rfl rfl (by decide) rfl) rfl rfl rfl rfl rfl ?_
      | refine st_run (os_fieldAddrE tabOk rfl rfl rfl (by decide) rfl) rfl rfl rfl rfl rfl ?_
    first
      | refine st_run (os_loadO1 tabOk rfl rfl rfl rfl rfl rfl) rfl rfl rfl rfl rfl ?_
      | refine st_run (os_loadE1 tabOk rfl rfl rfl rfl rfl) rfl rfl rfl rfl rfl ?_
      | refine st_run (os_loadES tabOk rfl rfl rfl rfl rfl) rfl rfl rfl rfl rfl ?_
      | refine st_run (os_loadOS tabOk rfl rfl rfl rfl rfl (Nat.le_of_ble_eq_true rfl)) rfl rfl rfl rfl rfl ?_
      | refine st_run (os_loadES tabOk rfl rfl rfl rfl (by assumption)) rfl rfl rfl rfl rfl ?_
      | refine st_run (os_loadLS tabOk rfl rfl rfl rfl rfl (by assumption) rfl (by first | rfl | assumption)) rfl rfl rfl rfl rfl ?_
      | refine st_run (os_loadL1 (q := 0) tabOk rfl rfl rfl rfl rfl (by assumption) rfl rfl) rfl rfl rfl rfl rfl ?_
    first
      | refine st_run (os_fieldAddrO tabOk rfl rfl rfl (by decide) rfl) rfl rfl rfl rfl rfl ?_
      | refine st_run (os_fieldAddrE tabOk rfl rfl rfl (by decide) rfl) rfl rfl rfl rfl rfl ?_
    first
      | refine st_run (os_loadO1 tabOk rfl rfl rfl rfl rfl rfl) rfl rfl rfl rfl rfl ?_
      | refine st_run (os_loadE1 tabOk rfl rfl rfl rfl rfl) rfl rfl rfl rfl rfl ?_
      | refine st_run (os_loadES tabOk rfl rfl rfl rfl rfl) rfl rfl rfl rfl rfl ?_
      | refine st_run (os_loadOS tabOk rfl rfl rfl rfl rfl (Nat.le_of_ble_eq_true rfl)) rfl rfl rfl rfl rfl ?_
      | refine st_run (os_loadES tabOk rfl rfl rfl rfl (by assumption)) rfl rfl rfl rfl rfl ?_
      | refine st_run (os_loadLS tabOk rfl rfl rfl rfl rfl (by assumption) rfl (by first | rfl | assumption)) rfl rfl rfl rfl rfl ?_
      | refine st_run (os_loadL1 (q := 0) tabOk rfl rfl rfl rfl rfl (by assumption) rfl rfl) rfl rfl rfl rfl rfl ?_
    first
      | refine st_run (opS_of (opP_neq rfl rfl rfl)) rfl rfl rfl rfl rfl ?_
      | refine st_run (opS_of (opP_strNe rfl rfl rfl)) rfl rfl rfl rfl rfl ?_
      | refine st_run (os_boolNe tabOk rfl rfl rfl rfl rfl) rfl rfl rfl rfl rfl ?_
    first
      | refine st_op (opS_of (opP_pickA rfl rfl rfl rfl)) rfl rfl rfl ?_
      | refine st_op (opS_of (opP_pickF rfl rfl rfl rfl)) rfl rfl rfl ?_
      | refine st_op (opS_of (opP_pickA rfl rfl (by assumption) rfl)) rfl rfl rfl ?_
      | refine st_op (opS_of (opP_pickF rfl rfl (by assumption) rfl)) rfl rfl rfl ?_
    refine st_op (opS_of (opP_move rfl rfl)) rfl rfl rfl ?_
    refine st_gsplit rfl rfl rfl (fun hb18 => ?_) (fun hb18 => ?_)
    · refine st_skip rfl rfl rfl rfl ?_
      refine st_skip rfl rfl rfl rfl ?_
      refine st_skip rfl rfl rfl rfl ?_
      refine st_skip rfl rfl rfl rfl ?_
      refine st_skip rfl rfl rfl rfl ?_
      refine st_skip rfl rfl rfl rfl ?_
      refine st_skip rfl rfl rfl rfl ?_
      first
        | refine st_op (opS_of (opP_pickA rfl rfl rfl rfl)) rfl rfl rfl ?_
        | refine st_op (opS_of (opP_pickF rfl rfl rfl rfl)) rfl rfl rfl ?_
        | refine st_op (opS_of (opP_pickA rfl rfl (by assumption) rfl)) rfl rfl rfl ?_
        | refine st_op (opS_of (opP_pickF rfl rfl (by assumption) rfl)) rfl rfl rfl ?_
      refine aOps_nil ?_
      refine W_condT rfl ?_
      refine W_seq ?_
      refine W_region ?_
      refine st_op (opS_of (opP_assign rfl rfl)) rfl rfl rfl ?_
      refine aOps_nil ?_
      refine W_ret ?_
      refine retE_ret ?_
      refine retOk_tmpE Try.results64 rfl ?_ rfl
      first | (simp_all [Tm.same]; done) | exact congrArg B (Tm.same_len (by have := hc26; simp [Tm.das_len] at this; omega)) | exact congrArg B (Tm.same_kid (by assumption) (by assumption) (by simpa using hc45)) | exact congrArg B (Tm.same_all (by simpa using hb11) (by simpa using hb18) (by have := hc26; simp [Tm.das_len] at this; omega) (by have hK := ofNat_ge hc31; rwa [Tm.das_len] at hK) hJ)
    · first
        | refine st_run (os_fieldAddrO tabOk rfl rfl rfl (by decide) rfl) rfl rfl rfl rfl rfl ?_
        | refine st_run (os_fieldAddrE tabOk rfl rfl rfl (by decide) rfl) rfl rfl rfl rfl rfl ?_
      first
        | refine st_run (os_loadO1 tabOk rfl rfl rfl rfl rfl rfl) rfl rfl rfl rfl rfl ?_
        | refine st_run (os_loadE1 tabOk rfl rfl rfl rfl rfl) rfl rfl rfl rfl rfl ?_
        | refine st_run (os_loadES tabOk rfl rfl rfl rfl rfl) rfl rfl rfl rfl rfl ?_
        | refine st_run (os_loadOS tabOk rfl rfl rfl rfl rfl (Nat.le_of_ble_eq_true rfl)) rfl rfl rfl rfl rfl ?_
        | refine st_run (os_loadES tabOk rfl rfl rfl rfl (by assumption)) rfl rfl rfl rfl rfl ?_
        | refine st_run (os_loadLS tabOk rfl rfl rfl rfl rfl (by assumption) rfl (by first | rfl | assumption)) rfl rfl rfl rfl rfl ?_
        | refine st_run (os_loadL1 (q := 0) tabOk rfl rfl rfl rfl rfl (by assumption) rfl rfl) rfl rfl rfl rfl rfl ?_
      first
        | refine st_run (os_lenD tabOk rfl rfl rfl rfl rfl) rfl rfl rfl rfl rfl ?_
        | refine st_run (os_lenO tabOk rfl rfl rfl rfl rfl rfl) rfl rfl rfl rfl rfl ?_
        | refine st_run (os_lenS tabOk rfl rfl rfl rfl) rfl rfl rfl rfl rfl ?_
        | refine st_run (os_len0 tabOk rfl rfl rfl rfl rfl) rfl rfl rfl rfl rfl ?_
      first
        | refine st_run (os_fieldAddrO tabOk rfl rfl rfl (by decide) rfl) rfl rfl rfl rfl rfl ?_
        | refine st_run (os_fieldAddrE tabOk rfl rfl rfl (by decide) rfl) rfl rfl rfl rfl rfl ?_
      first
        | refine st_run (os_loadO1 tabOk rfl rfl rfl rfl rfl rfl) rfl rfl rfl rfl rfl ?_
        | refine st_run (os_loadE1 tabOk rfl rfl rfl rfl rfl) rfl rfl rfl rfl rfl ?_
        | refine st_run (os_loadES tabOk rfl rfl rfl rfl rfl) rfl rfl rfl rfl rfl ?_
        | refine st_run (os_loadOS tabOk rfl rfl rfl rfl rfl (Nat.le_of_ble_eq_true rfl)) rfl rfl rfl rfl rfl ?_
        | refine st_run (os_loadES tabOk rfl rfl rfl rfl (by assumption)) rfl rfl rfl rfl rfl ?_
        | refine st_run (os_loadLS tabOk rfl rfl rfl rfl rfl (by assumption) rfl (by first | rfl | assumption)) rfl rfl rfl rfl rfl ?_
        | refine st_run (os_loadL1 (q := 0) tabOk rfl rfl rfl rfl rfl (by assumption) rfl rfl) rfl rfl rfl rfl rfl ?_
      first
        | refine st_run (os_lenD tabOk rfl rfl rfl rfl rfl) rfl rfl rfl rfl rfl ?_
        | refine st_run (os_lenO tabOk rfl rfl rfl rfl rfl rfl) rfl rfl rfl rfl rfl ?_
        | refine st_run (os_lenS tabOk rfl rfl rfl rfl) rfl rfl rfl rfl rfl ?_
        | refine st_run (os_len0 tabOk rfl rfl rfl rfl rfl) rfl rfl rfl rfl rfl ?_
      first
        | refine st_run (opS_of (opP_neq rfl rfl rfl)) rfl rfl rfl rfl rfl ?_
        | refine st_run (opS_of (opP_strNe rfl rfl rfl)) rfl rfl rfl rfl rfl ?_
        | refine st_run (os_boolNe tabOk rfl rfl rfl rfl rfl) rfl rfl rfl rfl rfl ?_
      first
        | refine st_op (opS_of (opP_pickA rfl rfl rfl rfl)) rfl rfl rfl ?_
        | refine st_op (opS_of (opP_pickF rfl rfl rfl rfl)) rfl rfl rfl ?_
        | refine st_op (opS_of (opP_pickA rfl rfl (by assumption) rfl)) rfl rfl rfl ?_
        | refine st_op (opS_of (opP_pickF rfl rfl (by assumption) rfl)) rfl rfl rfl ?_
      refine aOps_nil ?_
      refine W_cond rfl (fun hc26 => ?_) (fun hc26 => ?_)
      · refine W_seq ?_
        refine W_region ?_
        refine st_op (opS_of (opP_assign rfl rfl)) rfl rfl rfl ?_
        refine aOps_nil ?_
        refine W_ret ?_
        refine retE_ret ?_
        refine retOk_tmpE Try.results64 rfl ?_ rfl
        first | (simp_all [Tm.same]; done) | exact congrArg B (Tm.same_len (by have := hc26; simp [Tm.das_len] at this; omega)) | exact congrArg B (Tm.same_kid (by assumption) (by assumption) (by simpa using hc45)) | exact congrArg B (Tm.same_all (by simpa using hb11) (by simpa using hb18) (by have := hc26; simp [Tm.das_len] at this; omega) (by have hK := ofNat_ge hc31; rwa [Tm.das_len] at hK) hJ)
      · refine W_skip ?_
        refine W_seq ?_
        refine W_seq ?_
        refine W_region ?_
        refine st_op (opS_of (opP_assign rfl rfl)) rfl rfl rfl ?_
        refine aOps_nil ?_
        refine W_block ?_
        refine W_countI (fun k => ⟨[(2, .one (.op 2 0)), (3, .one (.op 3 0)), (5, Z k)], [(2, .var [.d (.int .i64 f), .d (.int .i64 v), .d (.sl (Tm.das ks))]), (3, .var [.d (.int .i64 g), .d (.int .i64 u), .d (.sl (Tm.das ls))])]⟩) (fun k => ∀ (i : Nat) t u, i < k → ks[i]? = some t → ls[i]? = some u → Tm.same t u = true) ks.length 0 (by (refine Ent.of ?_; repeat (first | (refine entOk_tm rfl ?_) | (refine entOk_ob rfl ?_) | exact entOk_nil | (refine entOk_Z rfl (by omega) ?_) | (refine entOk_Z rfl (by simp <;> omega) ?_) | (refine entOk_lst rfl (by assumption) ?_) | (refine entOk_lst rfl (fill_setE rfl (by assumption) (by assumption) rfl) ?_) | (refine entOk_lst rfl (by simp_all; done) ?_) | (refine entOk_var rfl (by simp_all; done) ?_)))) (by simp) (Nat.zero_le _) (fun k _ hk hJ => ?_)
        refine W_seq ?_
        refine W_seq ?_
        refine W_region ?_
        refine st_op (opS_of (opP_move rfl rfl)) rfl rfl rfl ?_
        first
          | refine st_op (os_fieldAddrO tabOk rfl rfl rfl (by decide) rfl) rfl rfl rfl ?_
          | refine st_op (os_fieldAddrE tabOk rfl rfl rfl (by decide) rfl) rfl rfl rfl ?_
        first
          | refine st_op (os_loadO1 tabOk rfl rfl rfl rfl rfl rfl) rfl rfl rfl ?_
          | refine st_op (os_loadE1 tabOk rfl rfl rfl rfl rfl) rfl rfl rfl ?_
          | refine st_op (os_loadES tabOk rfl rfl rfl rfl rfl) rfl rfl rfl ?_
          | refine st_op (os_loadOS tabOk rfl rfl rfl rfl rfl (Nat.le_of_ble_eq_true rfl)) rfl rfl rfl ?_
          | refine st_op (os_loadES tabOk rfl rfl rfl rfl (by assumption)) rfl rfl rfl ?_
          | refine st_op (os_loadLS tabOk rfl rfl rfl rfl rfl (by assumption) rfl (by first | rfl | assumption)) rfl rfl rfl ?_
          | refine st_op (os_loadL1 (q := 0) tabOk rfl rfl rfl rfl rfl (by assumption) rfl rfl) rfl rfl rfl ?_
        first
          | refine st_op (os_lenD tabOk rfl rfl rfl rfl rfl) rfl rfl rfl ?_
          | refine st_op (os_lenO tabOk rfl rfl rfl rfl rfl rfl) rfl rfl rfl ?_
          | refine st_op (os_lenS tabOk rfl rfl rfl rfl) rfl rfl rfl ?_
          | refine st_op (os_len0 tabOk rfl rfl rfl rfl rfl) rfl rfl rfl ?_
        refine st_op (opS_of (opP_lss rfl rfl rfl)) rfl rfl rfl ?_
        refine aOps_nil ?_
        refine W_cond rfl (fun hc31 => ?_) (fun hc31 => ?_)
        · refine W_skip ?_
          refine W_seq ?_
          refine W_block ?_
          refine W_seq ?_
          have hlk := ofNat_lt hc31
          have hll : (Tm.das ks).length = (Tm.das ls).length := by have := hc26; simp at this; omega
          rw [Tm.das_len] at hlk; simp only [Tm.das_len] at hll
          obtain ⟨t', ht⟩ : ∃ t', ks[k]? = some t' := ⟨ks[k], List.getElem?_eq_getElem hlk⟩
          obtain ⟨u', hu⟩ : ∃ u', ls[k]? = some u' := ⟨ls[k], List.getElem?_eq_getElem (by omega)⟩
          have ht' : t' ∈ ks := List.mem_of_getElem? ht
          have hx : (Tm.das ks)[k]? = some t'.da := by rw [Tm.das_get, ht]; rfl
          have hy : (Tm.das ls)[k]? = some u'.da := by rw [Tm.das_get, hu]; rfl
          have h3 := Tm.da_len t'
          have h4 := Tm.da_len u'
          refine W_drawK mixed (by kernel_rfl) ?_
          first
            | refine pq_op (os_fieldAddrO tabOk rfl rfl rfl (by decide) rfl) rfl rfl rfl rfl rfl ?_
            | refine pq_op (os_fieldAddrE tabOk rfl rfl rfl (by decide) rfl) rfl rfl rfl rfl rfl ?_
          first
            | refine pq_op (os_loadO1 tabOk rfl rfl rfl rfl rfl rfl) rfl rfl rfl rfl rfl ?_
            | refine pq_op (os_loadE1 tabOk rfl rfl rfl rfl rfl) rfl rfl rfl rfl rfl ?_
            | refine pq_op (os_loadES tabOk rfl rfl rfl rfl rfl) rfl rfl rfl rfl rfl ?_
            | refine pq_op (os_loadOS tabOk rfl rfl rfl rfl rfl (Nat.le_of_ble_eq_true rfl)) rfl rfl rfl rfl rfl ?_
            | refine pq_op (os_loadES tabOk rfl rfl rfl rfl (by assumption)) rfl rfl rfl rfl rfl ?_
            | refine pq_op (os_loadLS tabOk rfl rfl rfl rfl rfl (by assumption) rfl (by first | rfl | assumption)) rfl rfl rfl rfl rfl ?_
            | refine pq_op (os_loadL1 (q := 0) tabOk rfl rfl rfl rfl rfl (by assumption) rfl rfl) rfl rfl rfl rfl rfl ?_
          refine pq_op (opS_of (opP_move rfl rfl)) rfl rfl rfl rfl rfl ?_
          first
            | refine pq_op (os_indexD tabOk rfl rfl rfl rfl rfl (by decide) rfl rfl (by assumption) (by first | rfl | assumption)) rfl rfl rfl rfl rfl ?_
            | refine pq_op (os_indexO tabOk rfl rfl rfl rfl rfl rfl rfl rfl (by decide) rfl (by first | assumption | (simp; omega))) rfl rfl rfl rfl rfl ?_
          first
            | refine pq_op (os_loadO1 tabOk rfl rfl rfl rfl rfl rfl) rfl rfl rfl rfl rfl ?_
            | refine pq_op (os_loadE1 tabOk rfl rfl rfl rfl rfl) rfl rfl rfl rfl rfl ?_
            | refine pq_op (os_loadES tabOk rfl rfl rfl rfl rfl) rfl rfl rfl rfl rfl ?_
            | refine pq_op (os_loadOS tabOk rfl rfl rfl rfl rfl (Nat.le_of_ble_eq_true rfl)) rfl rfl rfl rfl rfl ?_
            | refine pq_op (os_loadES tabOk rfl rfl rfl rfl (by assumption)) rfl rfl rfl rfl rfl ?_
            | refine pq_op (os_loadLS tabOk rfl rfl rfl rfl rfl (by assumption) rfl (by first | rfl | assumption)) rfl rfl rfl rfl rfl ?_
            | refine pq_op (os_loadL1 (q := 0) tabOk rfl rfl rfl rfl rfl (by assumption) rfl rfl) rfl rfl rfl rfl rfl ?_
          first
            | refine pq_op (os_fieldAddrO tabOk rfl rfl rfl (by decide) rfl) rfl rfl rfl rfl rfl ?_
            | refine pq_op (os_fieldAddrE tabOk rfl rfl rfl (by decide) rfl) rfl rfl rfl rfl rfl ?_
          first
            | refine pq_op (os_loadO1 tabOk rfl rfl rfl rfl rfl rfl) rfl rfl rfl rfl rfl ?_
            | refine pq_op (os_loadE1 tabOk rfl rfl rfl rfl rfl) rfl rfl rfl rfl rfl ?_
            | refine pq_op (os_loadES tabOk rfl rfl rfl rfl rfl) rfl rfl rfl rfl rfl ?_
            | refine pq_op (os_loadOS tabOk rfl rfl rfl rfl rfl (Nat.le_of_ble_eq_true rfl)) rfl rfl rfl rfl rfl ?_
            | refine pq_op (os_loadES tabOk rfl rfl rfl rfl (by assumption)) rfl rfl rfl rfl rfl ?_
            | refine pq_op (os_loadLS tabOk rfl rfl rfl rfl rfl (by assumption) rfl (by first | rfl | assumption)) rfl rfl rfl rfl rfl ?_
            | refine pq_op (os_loadL1 (q := 0) tabOk rfl rfl rfl rfl rfl (by assumption) rfl rfl) rfl rfl rfl rfl rfl ?_
          refine pq_op (opS_of (opP_move rfl rfl)) rfl rfl rfl rfl rfl ?_
          first
            | refine pq_op (os_indexD tabOk rfl rfl rfl rfl rfl (by decide) rfl rfl (by assumption) (by first | rfl | assumption)) rfl rfl rfl rfl rfl ?_
            | refine pq_op (os_indexO tabOk rfl rfl rfl rfl rfl rfl rfl rfl (by decide) rfl (by first | assumption | (simp; omega))) rfl rfl rfl rfl rfl ?_
          first
            | refine pq_op (os_loadO1 tabOk rfl rfl rfl rfl rfl rfl) rfl rfl rfl rfl rfl ?_
            | refine pq_op (os_loadE1 tabOk rfl rfl rfl rfl rfl) rfl rfl rfl rfl rfl ?_
            | refine pq_op (os_loadES tabOk rfl rfl rfl rfl rfl) rfl rfl rfl rfl rfl ?_
            | refine pq_op (os_loadOS tabOk rfl rfl rfl rfl rfl (Nat.le_of_ble_eq_true rfl)) rfl rfl rfl rfl rfl ?_
            | refine pq_op (os_loadES tabOk rfl rfl rfl rfl (by assumption)) rfl rfl rfl rfl rfl ?_
            | refine pq_op (os_loadLS tabOk rfl rfl rfl rfl rfl (by assumption) rfl (by first | rfl | assumption)) rfl rfl rfl rfl rfl ?_
            | refine pq_op (os_loadL1 (q := 0) tabOk rfl rfl rfl rfl rfl (by assumption) rfl rfl) rfl rfl rfl rfl rfl ?_
          refine pq_op (os_call (ag := [(Operand.tmp 38), (Operand.tmp 43)]) (ih t' ht' u') Try.func64 rfl rfl rfl rfl) rfl rfl rfl rfl rfl ?_
          refine pq_op (opS_of (opP_not rfl rfl)) rfl rfl rfl rfl rfl ?_
          refine pq_nil ?_
          refine W_cond rfl (fun hc45 => ?_) (fun hc45 => ?_)
          · refine W_seq ?_
            refine W_region ?_
            refine st_op (opS_of (opP_assign rfl rfl)) rfl rfl rfl ?_
            refine aOps_nil ?_
            refine W_ret ?_
            refine blockE_ret ?_
            refine blockE_ret ?_
            refine retE_ret ?_
            refine retOk_tmpE Try.results64 rfl ?_ rfl
            first | (simp_all [Tm.same]; done) | exact congrArg B (Tm.same_len (by have := hc26; simp [Tm.das_len] at this; omega)) | exact congrArg B (Tm.same_kid (by assumption) (by assumption) (by simpa using hc45)) | exact congrArg B (Tm.same_all (by simpa using hb11) (by simpa using hb18) (by have := hc26; simp [Tm.das_len] at this; omega) (by have hK := ofNat_ge hc31; rwa [Tm.das_len] at hK) hJ)
          · refine W_skip ?_
            refine W_region ?_
            refine st_op (opS_of (opP_move rfl rfl)) rfl rfl rfl ?_
            first
              | refine st_op (opS_of (opP_add64 rfl rfl rfl (by omega))) rfl rfl rfl ?_
              | refine st_op (opS_of (opP_strAdd rfl rfl rfl (by assumption))) rfl rfl rfl ?_
              | refine st_op (opS_of (opP_add rfl rfl rfl)) rfl rfl rfl ?_
            refine st_op (opS_of (opP_assign rfl rfl)) rfl rfl rfl ?_
            refine aOps_nil ?_
            refine ⟨k + 1, by (refine Ent.of ?_; repeat (first | (refine entOk_tm rfl ?_) | (refine entOk_ob rfl ?_) | exact entOk_nil | (refine entOk_Z rfl (by omega) ?_) | (refine entOk_Z rfl (by simp <;> omega) ?_) | (refine entOk_lst rfl (by assumption) ?_) | (refine entOk_lst rfl (fill_setE rfl (by assumption) (by assumption) rfl) ?_) | (refine entOk_lst rfl (by simp_all; done) ?_) | (refine entOk_var rfl (by simp_all; done) ?_))), fun i t u hi h1 h2 => ?_, by omega, by omega⟩
            rcases Nat.lt_succ_iff_lt_or_eq.1 hi with hi | rfl
            · exact hJ i t u hi h1 h2
            · rw [ht] at h1; rw [hu] at h2; cases h1; cases h2; simpa using hc45
        · refine W_exit ?_
          refine blockE_hit ?_
          refine W_seq ?_
          refine W_region ?_
          refine st_op (opS_of (opP_assign rfl rfl)) rfl rfl rfl ?_
          refine aOps_nil ?_
          refine W_ret ?_
          refine retE_ret ?_
          refine retOk_tmpE Try.results64 rfl ?_ rfl
          first | (simp_all [Tm.same]; done) | exact congrArg B (Tm.same_len (by have := hc26; simp [Tm.das_len] at this; omega)) | exact congrArg B (Tm.same_kid (by assumption) (by assumption) (by simpa using hc45)) | exact congrArg B (Tm.same_all (by simpa using hb11) (by simpa using hb18) (by have := hc26; simp [Tm.das_len] at this; omega) (by have hK := ofNat_ge hc31; rwa [Tm.das_len] at hK) hJ)

end AM
end Go.Proofs.Ytfmfflfnkjoopaa
