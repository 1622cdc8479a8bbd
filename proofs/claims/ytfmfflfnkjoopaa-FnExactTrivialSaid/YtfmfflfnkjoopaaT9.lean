/- The exact law of Trivial; no conditions. -/
import Derived.Test.YtfmfflfnkjoopaaT8
set_option linter.unusedVariables false
set_option linter.unusedSimpArgs false
namespace Go.Proofs.Ytfmfflfnkjoopaa
namespace AM
open Go
attribute [local irreducible] aOps awp W OpP OpS ACall RetOk XOp RetX ResOk XCall

/-- An equation of equal sides. -/
def Li.taut (a : Li) : Bool := a.p && decide (Tm.cmp a.l a.r = 0)
def Triv (ls : List Li) : Prop := (∃ a ∈ ls, a.taut = true) ∨ ∃ a ∈ ls, ∃ b ∈ ls, Li.con a b = true
open Classical in
noncomputable def triv (ls : List Li) : Bool := decide (Triv ls)
theorem triv_yes {ls : List Li} (h : Triv ls) : true = triv ls := by unfold triv; simp [h]
theorem triv_no {ls : List Li} (h : ¬ Triv ls) : false = triv ls := by unfold triv; simp [h]
theorem Tm.cmp_zero {a b : Tm} : Tm.cmp a b = 0 ↔ a = b := by
  have key : ∀ a b : Tm, Tm.cmp a b = 0 → a = b := by
    intro a
    induction a using Tm.ind with
    | h f v ks ih =>
    rintro ⟨g, u, ls⟩ h
    rw [Tm.cmp_mk, cmp3_zero, cmp3_zero, cmp3_zero] at h
    obtain ⟨rfl, rfl, hl, h⟩ := h
    have : ks = ls := by
      induction ks generalizing ls with
      | nil => cases ls with
        | nil => rfl
        | cons _ _ => simp at hl; omega
      | cons t r ih2 =>
        cases ls with
        | nil => simp at hl; omega
        | cons x s =>
          simp only [Tm.cmps] at h
          split at h
          · rename_i h0
            rw [ih t (by simp) x h0, ih2 (fun t ht => ih t (by simp [ht])) s (by simp at hl; omega) h]
          · contradiction
    rw [this]
  refine ⟨key a b, ?_⟩
  rintro rfl
  have : Tm.same a a = true := by
    induction a using Tm.ind with
    | h f v ks ih =>
      have : Tm.sames ks ks = true := (Tm.sames_iff ks ks).2 ⟨rfl, fun i t u h1 h2 => by rw [h1] at h2; cases h2; exact ih t (List.mem_of_getElem? h1)⟩
      simp [Tm.same, this]
  simpa [Tm.same_cmp] using this
theorem Li.con_symm {a b : Li} (h : Li.con a b = true) : Li.con b a = true := by
  simp only [Li.con, Bool.and_eq_true, decide_eq_true_eq, Tm.cmp_zero] at h ⊢
  exact ⟨fun e => h.1 e.symm, h.2.1.symm, h.2.2.symm⟩

/-- What has been gone through by the program. -/
def trI (ls : List Li) (k : Nat) : Prop := ∀ (i : Nat) a, i < k → ls[i]? = some a → a.taut = false ∧ ∀ (j : Nat) b, j < i → ls[j]? = some b → Li.con a b = false
theorem trI.next {ls : List Li} {k : Nat} {a : Li} (h : trI ls k) (ha : ls[k]? = some a) (h1 : a.taut = false) (h2 : (ls.take k).any (Li.con a) = false) : trI ls (k + 1) := by
  intro i x hi hx
  rcases Nat.lt_succ_iff_lt_or_eq.1 hi with hi | rfl
  · exact h i x hi hx
  · rw [ha] at hx; cases hx
    refine ⟨h1, fun j b hj hb => ?_⟩
    have := List.any_eq_false.1 h2 b (by rw [List.mem_take_iff_getElem]; obtain ⟨hl, e⟩ := List.getElem?_eq_some_iff.1 hb; exact ⟨j, by have := (List.getElem?_eq_some_iff.1 ha).1; omega, e⟩)
    simpa using this
theorem trI.all {ls : List Li} {k : Nat} (h : trI ls k) (hk : ls.length ≤ k) : ¬ Triv ls := by
  have lt : ∀ {i : Nat} {a : Li}, ls[i]? = some a → i < k := fun h => Nat.lt_of_lt_of_le (List.getElem?_eq_some_iff.1 h).1 hk
  rintro (⟨a, ha, ht⟩ | ⟨a, ha, b, hb, hc⟩)
  · obtain ⟨i, hi⟩ := List.getElem?_of_mem ha
    have := (h i a (lt hi) hi).1
    simp [ht] at this
  · obtain ⟨i, hi⟩ := List.getElem?_of_mem ha
    obtain ⟨j, hj⟩ := List.getElem?_of_mem hb
    rcases Nat.lt_trichotomy i j with hij | rfl | hij
    · have := (h j b (lt hj) hj).2 i a hij hi
      rw [Li.con_symm hc] at this; cases this
    · rw [hi] at hj; cases hj
      simp [Li.con] at hc
    · have := (h i a (lt hi) hi).2 j b hij hj
      rw [hc] at this; cases this
/-- What has been gone through by the reference. -/
def sayNo (a b : Li) : Bool := a.p && (!b.p && (decide (Tm.cmp a.l b.l = 0) && decide (Tm.cmp a.r b.r = 0)))
def trS (ls : List Li) (k : Nat) : Prop := ∀ (i : Nat) a, i < k → ls[i]? = some a → a.taut = false ∧ ∀ b ∈ ls, sayNo a b = false
theorem trS.next {ls : List Li} {k : Nat} {a : Li} (h : trS ls k) (ha : ls[k]? = some a) (h1 : a.taut = false) (h2 : noneTo (sayNo a) ls ls.length) : trS ls (k + 1) := by
  intro i x hi hx
  rcases Nat.lt_succ_iff_lt_or_eq.1 hi with hi | rfl
  · exact h i x hi hx
  · rw [ha] at hx; cases hx
    refine ⟨h1, fun b hb => ?_⟩
    obtain ⟨j, hj⟩ := List.getElem?_of_mem hb
    exact h2 j b (List.getElem?_eq_some_iff.1 hj).1 hj
theorem trS.all {ls : List Li} {k : Nat} (h : trS ls k) (hk : ls.length ≤ k) : ¬ Triv ls := by
  have lt : ∀ {i : Nat} {a : Li}, ls[i]? = some a → i < k := fun h => Nat.lt_of_lt_of_le (List.getElem?_eq_some_iff.1 h).1 hk
  rintro (⟨a, ha, ht⟩ | ⟨a, ha, b, hb, hc⟩)
  · obtain ⟨i, hi⟩ := List.getElem?_of_mem ha
    have := (h i a (lt hi) hi).1
    simp [ht] at this
  · obtain ⟨i, hi⟩ := List.getElem?_of_mem ha
    obtain ⟨j, hj⟩ := List.getElem?_of_mem hb
    have h1 := (h i a (lt hi) hi).2 b hb
    have h2 := (h j b (lt hj) hj).2 a ha
    have hc' := Li.con_symm hc
    cases hp : a.p <;> cases hq : b.p <;> simp_all [Li.con, sayNo]
theorem sayNo_con {a b : Li} (h : sayNo a b = true) : Li.con a b = true := by
  cases hp : a.p <;> cases hq : b.p <;> simp_all [Li.con, sayNo]

section
variable {p p' : Bool} {l r l' r' : Tm}
theorem taut_yes (h1 : p = true) (h2 : Tm.same l r = true) : Li.taut ⟨p, l, r⟩ = true := by subst h1; rw [Tm.same_cmp] at h2; simpa [Li.taut] using h2
theorem taut_no1 (h1 : p = false) : Li.taut ⟨p, l, r⟩ = false := by subst h1; rfl
theorem taut_no2 (h2 : Tm.same l r = false) : Li.taut ⟨p, l, r⟩ = false := by rw [Tm.same_cmp] at h2; simp only [Li.taut, h2, Bool.and_false]
theorem taut_no3 (h2 : decide (Tm.cmp l r = 0) = false) : Li.taut ⟨p, l, r⟩ = false := by simp only [Li.taut, h2, Bool.and_false]
theorem taut_yes2 (h1 : p = true) (h2 : decide (Tm.cmp l r = 0) = true) : Li.taut ⟨p, l, r⟩ = true := by simp only [Li.taut, h1, h2, Bool.and_true]
theorem con_yes {ls : List Li} {k : Nat} {a : Li} (ha : ls[k]? = some a) (h : (ls.take k).any (Li.con a) = true) : Triv ls := by
  obtain ⟨b, hb, hc⟩ := List.any_eq_true.1 h
  exact .inr ⟨a, List.mem_of_getElem? ha, b, List.mem_of_mem_take hb, hc⟩
theorem idsL_data (ds : List Da) : AV.idsL (ds.map .d) = [] := by induction ds with | nil => rfl | cons d r ih => simp [AV.idsL, At.ids, ih]
theorem map_data (f : At → At) (hf : ∀ d, f (.d d) = .d d) (ds : List Da) : (ds.map At.d).map f = ds.map .d := by induction ds with | nil => rfl | cons d r ih => simp only [List.map_cons, hf, ih]
theorem ren_data {l : List (Nat × Nat)} {i j : Nat} (ds : List Da) (h : (look l i).getD i = j := by rfl) : renO l [(i, .var (ds.map .d))] = [(j, .var (ds.map .d))] := by
  subst h
  simp only [renO, Ob.map, map_data (renAt l) (fun d => rfl) ds]
theorem say_yes (h1 : p = true) (h2 : (!p') = true) (h3 : Tm.same l l' = true) (h4 : Tm.same r r' = true) : sayNo ⟨p, l, r⟩ ⟨p', l', r'⟩ = true := by
  rw [Tm.same_cmp] at h3 h4; simp only [sayNo, h1, h2, h3, h4, Bool.and_true]
theorem say_no1 (h1 : p = false) : sayNo ⟨p, l, r⟩ ⟨p', l', r'⟩ = false := by simp only [sayNo, h1, Bool.false_and]
theorem say_no2 (h1 : (!p') = false) : sayNo ⟨p, l, r⟩ ⟨p', l', r'⟩ = false := by simp only [sayNo, h1, Bool.false_and, Bool.and_false]
theorem say_no3 (h1 : Tm.same l l' = false) : sayNo ⟨p, l, r⟩ ⟨p', l', r'⟩ = false := by rw [Tm.same_cmp] at h1; simp only [sayNo, h1, Bool.false_and, Bool.and_false]
theorem say_no4 (h1 : Tm.same r r' = false) : sayNo ⟨p, l, r⟩ ⟨p', l', r'⟩ = false := by rw [Tm.same_cmp] at h1; simp only [sayNo, h1, Bool.and_false]
end

set_option maxHeartbeats 4000000 in
theorem specTrivial_call (ss : List Sy) (c : Cl) : ACall Try.prog 43 [L (Sy.das ss), .dat c.da] (B (triv c.ls)) [] := by
  refine acall_fit fun hfit => ?_
  have hlen : c.ls.length ≤ 281474976710656 := by have := hfit.tail.dat.len; rwa [Li.das_len] at this
  obtain ⟨ls⟩ := c
  have hlen' : ls.length ≤ 281474976710656 := hlen
  have hdl := Li.das_len ls
  refine acall_W Try.func43 rfl _ Try.ntmps43 (Nat.le_of_ble_eq_true rfl) fun w0 S0 => ?_
  refine W_seq ?_
  refine W_region ?_
  refine st_op (os_box rfl rfl rfl rfl rfl) rfl rfl rfl ?_
  refine st_op (opS_of (opP_assign rfl rfl)) rfl rfl rfl ?_
  refine aOps_nil ?_
  refine W_seq ?_
  refine W_seq ?_
  refine W_region ?_
  refine st_op (opS_of (opP_assign rfl rfl)) rfl rfl rfl ?_
  refine aOps_nil ?_
  refine W_block ?_
  refine W_countI (fun k => ⟨[(3, .one (.op 3 0)), (5, Z k)], [(3, .var [.d (.sl (Li.das ls))])]⟩) (trS ls) ls.length 0 (by (refine Ent.of ?_; repeat (first | (refine entOk_tm rfl ?_) | (refine entOk_ob rfl ?_) | exact entOk_nil | (refine entOk_Z rfl (by omega) ?_) | (refine entOk_Z rfl (by simp <;> omega) ?_) | (refine entOk_lst rfl (by assumption) ?_) | (refine entOk_lst rfl (fill_setE rfl (by assumption) (by assumption) rfl) ?_) | (refine entOk_lst rfl (by simp_all; done) ?_) | (refine entOk_var rfl (by simp_all; done) ?_)))) (fun i a h => by omega) (Nat.zero_le _) (fun k _ hk hJ => ?_)
  refine W_seq ?_
  refine W_seq ?_
  refine W_region ?_
  refine st_op (opS_of (opP_move rfl rfl)) rfl rfl rfl ?_
  first
    | refine st_op (os_fieldAddrO tabOk rfl rfl rfl (by decide) rfl) rfl rfl rfl ?_
    | refine st_op (os_fieldAddrE tabOk rfl rfl rfl (by decide) rfl) rfl rfl rfl ?_
  first
    | refine st_op (os_loadO1 tabOk rfl rfl rfl rfl rfl rfl) rfl rfl rfl ?_
    | refine st_op (os_loadE1 tabOk rfl rfl rfl rfl rfl) rfl rfl rfl ?_
    | refine st_op (os_loadES tabOk rfl rfl rfl rfl rfl) rfl rfl rfl ?_
    | refine st_op (os_loadOS tabOk rfl rfl rfl rfl rfl (Nat.le_of_ble_eq_true rfl)) rfl rfl rfl ?_
    | refine st_op (os_loadES tabOk rfl rfl rfl rfl (by assumption)) rfl rfl rfl ?_
    | refine st_op (os_loadLS tabOk rfl rfl rfl rfl rfl (by assumption) rfl (by first | rfl | assumption)) rfl rfl rfl ?_
    | refine st_op (os_loadL1 (q := 0) tabOk rfl rfl rfl rfl rfl (by assumption) rfl rfl) rfl rfl rfl ?_
  first
    | refine st_op (os_lenD tabOk rfl rfl rfl rfl rfl) rfl rfl rfl ?_
    | refine st_op (os_lenO tabOk rfl rfl rfl rfl rfl rfl) rfl rfl rfl ?_
    | refine st_op (os_lenS tabOk rfl rfl rfl rfl) rfl rfl rfl ?_
    | refine st_op (os_len0 tabOk rfl rfl rfl rfl rfl) rfl rfl rfl ?_
  refine st_op (opS_of (opP_lss rfl rfl rfl)) rfl rfl rfl ?_
  refine aOps_nil ?_
  refine W_cond rfl (fun hc13 => ?_) (fun hc13 => ?_)
  · refine W_skip ?_
    refine W_seq ?_
    refine W_block ?_
    refine W_seq ?_
    have hlk := ofNat_lt hc13
    rw [Li.das_len] at hlk
    obtain ⟨x, hx⟩ : ∃ x, ls[k]? = some x := ⟨ls[k], List.getElem?_eq_getElem hlk⟩
    have hx1 : (Li.das ls)[k]? = some x.da := by rw [Li.das_get, hx]; rfl
    have hx7 := Li.da_len x
    obtain ⟨p, ⟨f, v, ks⟩, ⟨g, u, ms⟩⟩ := x
    refine W_region ?_
    first
      | refine st_op (os_fieldAddrO tabOk rfl rfl rfl (by decide) rfl) rfl rfl rfl ?_
      | refine st_op (os_fieldAddrE tabOk rfl rfl rfl (by decide) rfl) rfl rfl rfl ?_
    first
      | refine st_op (os_loadO1 tabOk rfl rfl rfl rfl rfl rfl) rfl rfl rfl ?_
      | refine st_op (os_loadE1 tabOk rfl rfl rfl rfl rfl) rfl rfl rfl ?_
      | refine st_op (os_loadES tabOk rfl rfl rfl rfl rfl) rfl rfl rfl ?_
      | refine st_op (os_loadOS tabOk rfl rfl rfl rfl rfl (Nat.le_of_ble_eq_true rfl)) rfl rfl rfl ?_
      | refine st_op (os_loadES tabOk rfl rfl rfl rfl (by assumption)) rfl rfl rfl ?_
      | refine st_op (os_loadLS tabOk rfl rfl rfl rfl rfl (by assumption) rfl (by first | rfl | assumption)) rfl rfl rfl ?_
      | refine st_op (os_loadL1 (q := 0) tabOk rfl rfl rfl rfl rfl (by assumption) rfl rfl) rfl rfl rfl ?_
    refine st_op (opS_of (opP_move rfl rfl)) rfl rfl rfl ?_
    first
      | refine st_op (os_indexD tabOk rfl rfl rfl rfl rfl (by decide) rfl rfl (by assumption) (by first | rfl | assumption)) rfl rfl rfl ?_
      | refine st_op (os_indexO tabOk rfl rfl rfl rfl rfl rfl rfl rfl (by decide) rfl (by first | assumption | (simp; omega))) rfl rfl rfl ?_
    first
      | refine st_op (os_loadO1 tabOk rfl rfl rfl rfl rfl rfl) rfl rfl rfl ?_
      | refine st_op (os_loadE1 tabOk rfl rfl rfl rfl rfl) rfl rfl rfl ?_
      | refine st_op (os_loadES tabOk rfl rfl rfl rfl rfl) rfl rfl rfl ?_
      | refine st_op (os_loadOS tabOk rfl rfl rfl rfl rfl (Nat.le_of_ble_eq_true rfl)) rfl rfl rfl ?_
      | refine st_op (os_loadES tabOk rfl rfl rfl rfl (by assumption)) rfl rfl rfl ?_
      | refine st_op (os_loadLS tabOk rfl rfl rfl rfl rfl (by assumption) rfl (by first | rfl | assumption)) rfl rfl rfl ?_
      | refine st_op (os_loadL1 (q := 0) tabOk rfl rfl rfl rfl rfl (by assumption) rfl rfl) rfl rfl rfl ?_
    refine st_op (os_alloc z51 rfl rfl) rfl rfl rfl ?_
    refine st_store tabOk rfl rfl rfl rfl rfl rfl rfl rfl rfl (Nat.le_of_ble_eq_true rfl) rfl ?_
    refine aOps_nil ?_
    refine W_seq ?_
    refine W_seq ?_
    refine W_region ?_
    first
      | refine st_op (os_fieldAddrO tabOk rfl rfl rfl (by decide) rfl) rfl rfl rfl ?_
      | refine st_op (os_fieldAddrE tabOk rfl rfl rfl (by decide) rfl) rfl rfl rfl ?_
    first
      | refine st_op (os_loadO1 tabOk rfl rfl rfl rfl rfl rfl) rfl rfl rfl ?_
      | refine st_op (os_loadE1 tabOk rfl rfl rfl rfl rfl) rfl rfl rfl ?_
      | refine st_op (os_loadES tabOk rfl rfl rfl rfl rfl) rfl rfl rfl ?_
      | refine st_op (os_loadOS tabOk rfl rfl rfl rfl rfl (Nat.le_of_ble_eq_true rfl)) rfl rfl rfl ?_
      | refine st_op (os_loadES tabOk rfl rfl rfl rfl (by assumption)) rfl rfl rfl ?_
      | refine st_op (os_loadLS tabOk rfl rfl rfl rfl rfl (by assumption) rfl (by first | rfl | assumption)) rfl rfl rfl ?_
      | refine st_op (os_loadL1 (q := 0) tabOk rfl rfl rfl rfl rfl (by assumption) rfl rfl) rfl rfl rfl ?_
    refine st_op (opS_of (opP_move rfl rfl)) rfl rfl rfl ?_
    refine st_gsplit rfl rfl rfl (fun hb23 => ?_) (fun hb23 => ?_)
    · first
        | refine st_run (os_fieldAddrO tabOk rfl rfl rfl (by decide) rfl) rfl rfl rfl rfl rfl ?_
        | refine st_run (os_fieldAddrE tabOk rfl rfl rfl (by decide) rfl) rfl rfl rfl rfl rfl ?_
      first
        | refine st_run (os_loadO1 tabOk rfl rfl rfl rfl rfl rfl) rfl rfl rfl rfl rfl ?_
        | refine st_run (os_loadE1 tabOk rfl rfl rfl rfl rfl) rfl rfl rfl rfl rfl ?_
        | refine st_run (os_loadES tabOk rfl rfl rfl rfl rfl) rfl rfl rfl rfl rfl ?_
        | refine st_run (os_loadOS tabOk rfl rfl rfl rfl rfl (Nat.le_of_ble_eq_true rfl)) rfl rfl rfl rfl rfl ?_
        | refine st_run (os_loadES tabOk rfl rfl rfl rfl (by assumption)) rfl rfl rfl rfl rfl ?_
        | refine st_run (os_loadLS tabOk rfl rfl rfl rfl rfl (by assumption) rfl (by first | rfl | assumption)) rfl rfl rfl rfl rfl ?_
        | refine st_run (os_loadL1 (q := 0) tabOk rfl rfl rfl rfl rfl (by assumption) rfl rfl) rfl rfl rfl rfl rfl ?_
      first
        | refine st_run (os_fieldAddrO tabOk rfl rfl rfl (by decide) rfl) rfl rfl rfl rfl rfl ?_
        | refine st_run (os_fieldAddrE tabOk rfl rfl rfl (by decide) rfl) rfl rfl rfl rfl rfl ?_
      first
        | refine st_run (os_loadO1 tabOk rfl rfl rfl rfl rfl rfl) rfl rfl rfl rfl rfl ?_
        | refine st_run (os_loadE1 tabOk rfl rfl rfl rfl rfl) rfl rfl rfl rfl rfl ?_
        | refine st_run (os_loadES tabOk rfl rfl rfl rfl rfl) rfl rfl rfl rfl rfl ?_
        | refine st_run (os_loadOS tabOk rfl rfl rfl rfl rfl (Nat.le_of_ble_eq_true rfl)) rfl rfl rfl rfl rfl ?_
        | refine st_run (os_loadES tabOk rfl rfl rfl rfl (by assumption)) rfl rfl rfl rfl rfl ?_
        | refine st_run (os_loadLS tabOk rfl rfl rfl rfl rfl (by assumption) rfl (by first | rfl | assumption)) rfl rfl rfl rfl rfl ?_
        | refine st_run (os_loadL1 (q := 0) tabOk rfl rfl rfl rfl rfl (by assumption) rfl rfl) rfl rfl rfl rfl rfl ?_
      refine st_run (os_call (ag := [(Operand.tmp 25), (Operand.tmp 27)]) (termSame_call (.mk f v ks) (.mk g u ms)) Try.func64 rfl rfl rfl rfl) rfl rfl rfl rfl rfl ?_
      first
        | refine st_op (opS_of (opP_pickA rfl rfl rfl rfl)) rfl rfl rfl ?_
        | refine st_op (opS_of (opP_pickF rfl rfl rfl rfl)) rfl rfl rfl ?_
        | refine st_op (opS_of (opP_pickA rfl rfl (by assumption) rfl)) rfl rfl rfl ?_
        | refine st_op (opS_of (opP_pickF rfl rfl (by assumption) rfl)) rfl rfl rfl ?_
      refine aOps_nil ?_
      refine W_cond rfl (fun hc29 => ?_) (fun hc29 => ?_)
      · refine W_seq ?_
        refine W_region ?_
        refine st_op (opS_of (opP_assign rfl rfl)) rfl rfl rfl ?_
        refine aOps_nil ?_
        refine W_ret ?_
        refine blockE_ret ?_
        refine blockE_ret ?_
        refine retE_ret ?_
        refine retOk_tmpE Try.results43 rfl (congrArg B ?_) rfl
        first | exact triv_no (hJ.all (by have h9 := ofNat_ge hc13; omega)) | exact triv_yes (.inr ⟨_, List.mem_of_getElem? hx, _, List.mem_of_getElem? hy, sayNo_con (say_yes hb44 hb49 hb56 hc62)⟩) | exact triv_yes (.inl ⟨_, List.mem_of_getElem? hx, taut_yes hb23 hc29⟩) | exact absurd hc29 Bool.false_ne_true | exact absurd hc62 Bool.false_ne_true
      · refine W_skip ?_
        refine W_seq ?_
        refine W_region ?_
        refine st_op (opS_of (opP_assign rfl rfl)) rfl rfl rfl ?_
        refine aOps_nil ?_
        refine W_block ?_
        have hta : Li.taut ⟨p, .mk f v ks, .mk g u ms⟩ = false := by first | exact taut_no1 hb23 | exact taut_no2 hc29
        refine W_countI (fun k2 => ⟨[(3, .one (.op 3 0)), (5, Z k), (6, .one (.op 6 0)), (7, Z k2)], [(3, .var [.d (.sl (Li.das ls))]), (6, .var ((Li.mk p (.mk f v ks) (.mk g u ms)).da.map .d))]⟩) (noneTo (sayNo ⟨p, .mk f v ks, .mk g u ms⟩) ls) ls.length 0 (by (refine Ent.of ?_; repeat (first | (refine entOk_tm rfl ?_) | (refine entOk_ob rfl ?_) | exact entOk_nil | (refine entOk_Z rfl (by omega) ?_) | (refine entOk_Z rfl (by simp <;> omega) ?_) | (refine entOk_lst rfl (by assumption) ?_) | (refine entOk_lst rfl (fill_setE rfl (by assumption) (by assumption) rfl) ?_) | (refine entOk_lst rfl (by simp_all; done) ?_) | (refine entOk_var rfl (by simp_all; done) ?_)))) (fun i a h => by omega) (Nat.zero_le _) (fun k2 _ hk2 hJ2 => ?_)
        refine W_seq ?_
        refine W_seq ?_
        refine W_region ?_
        refine st_op (opS_of (opP_move rfl rfl)) rfl rfl rfl ?_
        first
          | refine st_op (os_fieldAddrO tabOk rfl rfl rfl (by decide) rfl) rfl rfl rfl ?_
          | refine st_op (os_fieldAddrE tabOk rfl rfl rfl (by decide) rfl) rfl rfl rfl ?_
        first
          | refine st_op (os_loadO1 tabOk rfl rfl rfl rfl rfl rfl) rfl rfl rfl ?_
          | refine st_op (os_loadE1 tabOk rfl rfl rfl rfl rfl) rfl rfl rfl ?_
          | refine st_op (os_loadES tabOk rfl rfl rfl rfl rfl) rfl rfl rfl ?_
          | refine st_op (os_loadOS tabOk rfl rfl rfl rfl rfl (Nat.le_of_ble_eq_true rfl)) rfl rfl rfl ?_
          | refine st_op (os_loadES tabOk rfl rfl rfl rfl (by assumption)) rfl rfl rfl ?_
          | refine st_op (os_loadLS tabOk rfl rfl rfl rfl rfl (by assumption) rfl (by first | rfl | assumption)) rfl rfl rfl ?_
          | refine st_op (os_loadL1 (q := 0) tabOk rfl rfl rfl rfl rfl (by assumption) rfl rfl) rfl rfl rfl ?_
        first
          | refine st_op (os_lenD tabOk rfl rfl rfl rfl rfl) rfl rfl rfl ?_
          | refine st_op (os_lenO tabOk rfl rfl rfl rfl rfl rfl) rfl rfl rfl ?_
          | refine st_op (os_lenS tabOk rfl rfl rfl rfl) rfl rfl rfl ?_
          | refine st_op (os_len0 tabOk rfl rfl rfl rfl rfl) rfl rfl rfl ?_
        refine st_op (opS_of (opP_lss rfl rfl rfl)) rfl rfl rfl ?_
        refine aOps_nil ?_
        refine W_cond rfl (fun hc34 => ?_) (fun hc34 => ?_)
        · refine W_skip ?_
          refine W_seq ?_
          refine W_block ?_
          refine W_seq ?_
          have hlk2 := ofNat_lt hc34
          rw [Li.das_len] at hlk2
          obtain ⟨y, hy⟩ : ∃ y, ls[k2]? = some y := ⟨ls[k2], List.getElem?_eq_getElem hlk2⟩
          have hy1 : (Li.das ls)[k2]? = some y.da := by rw [Li.das_get, hy]; rfl
          have hy7 := Li.da_len y
          obtain ⟨p', ⟨f', v', ks'⟩, ⟨g', u', ms'⟩⟩ := y
          refine W_region ?_
          first
            | refine st_op (os_fieldAddrO tabOk rfl rfl rfl (by decide) rfl) rfl rfl rfl ?_
            | refine st_op (os_fieldAddrE tabOk rfl rfl rfl (by decide) rfl) rfl rfl rfl ?_
          first
            | refine st_op (os_loadO1 tabOk rfl rfl rfl rfl rfl rfl) rfl rfl rfl ?_
            | refine st_op (os_loadE1 tabOk rfl rfl rfl rfl rfl) rfl rfl rfl ?_
            | refine st_op (os_loadES tabOk rfl rfl rfl rfl rfl) rfl rfl rfl ?_
            | refine st_op (os_loadOS tabOk rfl rfl rfl rfl rfl (Nat.le_of_ble_eq_true rfl)) rfl rfl rfl ?_
            | refine st_op (os_loadES tabOk rfl rfl rfl rfl (by assumption)) rfl rfl rfl ?_
            | refine st_op (os_loadLS tabOk rfl rfl rfl rfl rfl (by assumption) rfl (by first | rfl | assumption)) rfl rfl rfl ?_
            | refine st_op (os_loadL1 (q := 0) tabOk rfl rfl rfl rfl rfl (by assumption) rfl rfl) rfl rfl rfl ?_
          refine st_op (opS_of (opP_move rfl rfl)) rfl rfl rfl ?_
          first
            | refine st_op (os_indexD tabOk rfl rfl rfl rfl rfl (by decide) rfl rfl (by assumption) (by first | rfl | assumption)) rfl rfl rfl ?_
            | refine st_op (os_indexO tabOk rfl rfl rfl rfl rfl rfl rfl rfl (by decide) rfl (by first | assumption | (simp; omega))) rfl rfl rfl ?_
          first
            | refine st_op (os_loadO1 tabOk rfl rfl rfl rfl rfl rfl) rfl rfl rfl ?_
            | refine st_op (os_loadE1 tabOk rfl rfl rfl rfl rfl) rfl rfl rfl ?_
            | refine st_op (os_loadES tabOk rfl rfl rfl rfl rfl) rfl rfl rfl ?_
            | refine st_op (os_loadOS tabOk rfl rfl rfl rfl rfl (Nat.le_of_ble_eq_true rfl)) rfl rfl rfl ?_
            | refine st_op (os_loadES tabOk rfl rfl rfl rfl (by assumption)) rfl rfl rfl ?_
            | refine st_op (os_loadLS tabOk rfl rfl rfl rfl rfl (by assumption) rfl (by first | rfl | assumption)) rfl rfl rfl ?_
            | refine st_op (os_loadL1 (q := 0) tabOk rfl rfl rfl rfl rfl (by assumption) rfl rfl) rfl rfl rfl ?_
          refine st_op (os_alloc z51 rfl rfl) rfl rfl rfl ?_
          refine st_store tabOk rfl rfl rfl rfl rfl rfl rfl rfl rfl (Nat.le_of_ble_eq_true rfl) rfl ?_
          refine aOps_nil ?_
          refine W_seq ?_
          refine W_region ?_
          first
            | refine st_op (os_fieldAddrO tabOk rfl rfl rfl (by decide) rfl) rfl rfl rfl ?_
            | refine st_op (os_fieldAddrE tabOk rfl rfl rfl (by decide) rfl) rfl rfl rfl ?_
          first
            | refine st_op (os_loadO1 tabOk rfl rfl rfl rfl rfl rfl) rfl rfl rfl ?_
            | refine st_op (os_loadE1 tabOk rfl rfl rfl rfl rfl) rfl rfl rfl ?_
            | refine st_op (os_loadES tabOk rfl rfl rfl rfl rfl) rfl rfl rfl ?_
            | refine st_op (os_loadOS tabOk rfl rfl rfl rfl rfl (Nat.le_of_ble_eq_true rfl)) rfl rfl rfl ?_
            | refine st_op (os_loadES tabOk rfl rfl rfl rfl (by assumption)) rfl rfl rfl ?_
            | refine st_op (os_loadLS tabOk rfl rfl rfl rfl rfl (by assumption) rfl (by first | rfl | assumption)) rfl rfl rfl ?_
            | refine st_op (os_loadL1 (q := 0) tabOk rfl rfl rfl rfl rfl (by assumption) rfl rfl) rfl rfl rfl ?_
          refine st_op (opS_of (opP_move rfl rfl)) rfl rfl rfl ?_
          refine st_gsplit rfl rfl rfl (fun hb44 => ?_) (fun hb44 => ?_)
          · first
              | refine st_run (os_fieldAddrO tabOk rfl rfl rfl (by decide) rfl) rfl rfl rfl rfl rfl ?_
              | refine st_run (os_fieldAddrE tabOk rfl rfl rfl (by decide) rfl) rfl rfl rfl rfl rfl ?_
            first
              | refine st_run (os_loadO1 tabOk rfl rfl rfl rfl rfl rfl) rfl rfl rfl rfl rfl ?_
              | refine st_run (os_loadE1 tabOk rfl rfl rfl rfl rfl) rfl rfl rfl rfl rfl ?_
              | refine st_run (os_loadES tabOk rfl rfl rfl rfl rfl) rfl rfl rfl rfl rfl ?_
              | refine st_run (os_loadOS tabOk rfl rfl rfl rfl rfl (Nat.le_of_ble_eq_true rfl)) rfl rfl rfl rfl rfl ?_
              | refine st_run (os_loadES tabOk rfl rfl rfl rfl (by assumption)) rfl rfl rfl rfl rfl ?_
              | refine st_run (os_loadLS tabOk rfl rfl rfl rfl rfl (by assumption) rfl (by first | rfl | assumption)) rfl rfl rfl rfl rfl ?_
              | refine st_run (os_loadL1 (q := 0) tabOk rfl rfl rfl rfl rfl (by assumption) rfl rfl) rfl rfl rfl rfl rfl ?_
            refine st_run (opS_of (opP_not rfl rfl)) rfl rfl rfl rfl rfl ?_
            first
              | refine st_op (opS_of (opP_pickA rfl rfl rfl rfl)) rfl rfl rfl ?_
              | refine st_op (opS_of (opP_pickF rfl rfl rfl rfl)) rfl rfl rfl ?_
              | refine st_op (opS_of (opP_pickA rfl rfl (by assumption) rfl)) rfl rfl rfl ?_
              | refine st_op (opS_of (opP_pickF rfl rfl (by assumption) rfl)) rfl rfl rfl ?_
            refine st_op (opS_of (opP_move rfl rfl)) rfl rfl rfl ?_
            refine st_gsplit rfl rfl rfl (fun hb49 => ?_) (fun hb49 => ?_)
            · first
                | refine st_run (os_fieldAddrO tabOk rfl rfl rfl (by decide) rfl) rfl rfl rfl rfl rfl ?_
                | refine st_run (os_fieldAddrE tabOk rfl rfl rfl (by decide) rfl) rfl rfl rfl rfl rfl ?_
              first
                | refine st_run (os_loadO1 tabOk rfl rfl rfl rfl rfl rfl) rfl rfl rfl rfl rfl ?_
                | refine st_run (os_loadE1 tabOk rfl rfl rfl rfl rfl) rfl rfl rfl rfl rfl ?_
                | refine st_run (os_loadES tabOk rfl rfl rfl rfl rfl) rfl rfl rfl rfl rfl ?_
                | refine st_run (os_loadOS tabOk rfl rfl rfl rfl rfl (Nat.le_of_ble_eq_true rfl)) rfl rfl rfl rfl rfl ?_
                | refine st_run (os_loadES tabOk rfl rfl rfl rfl (by assumption)) rfl rfl rfl rfl rfl ?_
                | refine st_run (os_loadLS tabOk rfl rfl rfl rfl rfl (by assumption) rfl (by first | rfl | assumption)) rfl rfl rfl rfl rfl ?_
                | refine st_run (os_loadL1 (q := 0) tabOk rfl rfl rfl rfl rfl (by assumption) rfl rfl) rfl rfl rfl rfl rfl ?_
              first
                | refine st_run (os_fieldAddrO tabOk rfl rfl rfl (by decide) rfl) rfl rfl rfl rfl rfl ?_
                | refine st_run (os_fieldAddrE tabOk rfl rfl rfl (by decide) rfl) rfl rfl rfl rfl rfl ?_
              first
                | refine st_run (os_loadO1 tabOk rfl rfl rfl rfl rfl rfl) rfl rfl rfl rfl rfl ?_
                | refine st_run (os_loadE1 tabOk rfl rfl rfl rfl rfl) rfl rfl rfl rfl rfl ?_
                | refine st_run (os_loadES tabOk rfl rfl rfl rfl rfl) rfl rfl rfl rfl rfl ?_
                | refine st_run (os_loadOS tabOk rfl rfl rfl rfl rfl (Nat.le_of_ble_eq_true rfl)) rfl rfl rfl rfl rfl ?_
                | refine st_run (os_loadES tabOk rfl rfl rfl rfl (by assumption)) rfl rfl rfl rfl rfl ?_
                | refine st_run (os_loadLS tabOk rfl rfl rfl rfl rfl (by assumption) rfl (by first | rfl | assumption)) rfl rfl rfl rfl rfl ?_
                | refine st_run (os_loadL1 (q := 0) tabOk rfl rfl rfl rfl rfl (by assumption) rfl rfl) rfl rfl rfl rfl rfl ?_
              refine st_run (os_call (ag := [(Operand.tmp 51), (Operand.tmp 53)]) (termSame_call (.mk f v ks) (.mk f' v' ks')) Try.func64 rfl rfl rfl rfl) rfl rfl rfl rfl rfl ?_
              first
                | refine st_op (opS_of (opP_pickA rfl rfl rfl rfl)) rfl rfl rfl ?_
                | refine st_op (opS_of (opP_pickF rfl rfl rfl rfl)) rfl rfl rfl ?_
                | refine st_op (opS_of (opP_pickA rfl rfl (by assumption) rfl)) rfl rfl rfl ?_
                | refine st_op (opS_of (opP_pickF rfl rfl (by assumption) rfl)) rfl rfl rfl ?_
              refine st_op (opS_of (opP_move rfl rfl)) rfl rfl rfl ?_
              refine st_gsplit rfl rfl rfl (fun hb56 => ?_) (fun hb56 => ?_)
              · first
                  | refine st_run (os_fieldAddrO tabOk rfl rfl rfl (by decide) rfl) rfl rfl rfl rfl rfl ?_
                  | refine st_run (os_fieldAddrE tabOk rfl rfl rfl (by decide) rfl) rfl rfl rfl rfl rfl ?_
                first
                  | refine st_run (os_loadO1 tabOk rfl rfl rfl rfl rfl rfl) rfl rfl rfl rfl rfl ?_
                  | refine st_run (os_loadE1 tabOk rfl rfl rfl rfl rfl) rfl rfl rfl rfl rfl ?_
                  | refine st_run (os_loadES tabOk rfl rfl rfl rfl rfl) rfl rfl rfl rfl rfl ?_
                  | refine st_run (os_loadOS tabOk rfl rfl rfl rfl rfl (Nat.le_of_ble_eq_true rfl)) rfl rfl rfl rfl rfl ?_
                  | refine st_run (os_loadES tabOk rfl rfl rfl rfl (by assumption)) rfl rfl rfl rfl rfl ?_
                  | refine st_run (os_loadLS tabOk rfl rfl rfl rfl rfl (by assumption) rfl (by first | rfl | assumption)) rfl rfl rfl rfl rfl ?_
                  | refine st_run (os_loadL1 (q := 0) tabOk rfl rfl rfl rfl rfl (by assumption) rfl rfl) rfl rfl rfl rfl rfl ?_
                first
                  | refine st_run (os_fieldAddrO tabOk rfl rfl rfl (by decide) rfl) rfl rfl rfl rfl rfl ?_
                  | refine st_run (os_fieldAddrE tabOk rfl rfl rfl (by decide) rfl) rfl rfl rfl rfl rfl ?_
                first
                  | refine st_run (os_loadO1 tabOk rfl rfl rfl rfl rfl rfl) rfl rfl rfl rfl rfl ?_
                  | refine st_run (os_loadE1 tabOk rfl rfl rfl rfl rfl) rfl rfl rfl rfl rfl ?_
                  | refine st_run (os_loadES tabOk rfl rfl rfl rfl rfl) rfl rfl rfl rfl rfl ?_
                  | refine st_run (os_loadOS tabOk rfl rfl rfl rfl rfl (Nat.le_of_ble_eq_true rfl)) rfl rfl rfl rfl rfl ?_
                  | refine st_run (os_loadES tabOk rfl rfl rfl rfl (by assumption)) rfl rfl rfl rfl rfl ?_
                  | refine st_run (os_loadLS tabOk rfl rfl rfl rfl rfl (by assumption) rfl (by first | rfl | assumption)) rfl rfl rfl rfl rfl ?_
                  | refine st_run (os_loadL1 (q := 0) tabOk rfl rfl rfl rfl rfl (by assumption) rfl rfl) rfl rfl rfl rfl rfl ?_
                refine st_run (os_call (ag := [(Operand.tmp 58), (Operand.tmp 60)]) (termSame_call (.mk g u ms) (.mk g' u' ms')) Try.func64 rfl rfl rfl rfl) rfl rfl rfl rfl rfl ?_
                first
                  | refine st_op (opS_of (opP_pickA rfl rfl rfl rfl)) rfl rfl rfl ?_
                  | refine st_op (opS_of (opP_pickF rfl rfl rfl rfl)) rfl rfl rfl ?_
                  | refine st_op (opS_of (opP_pickA rfl rfl (by assumption) rfl)) rfl rfl rfl ?_
                  | refine st_op (opS_of (opP_pickF rfl rfl (by assumption) rfl)) rfl rfl rfl ?_
                refine aOps_nil ?_
                refine W_cond rfl (fun hc62 => ?_) (fun hc62 => ?_)
                · refine W_seq ?_
                  refine W_region ?_
                  refine st_op (opS_of (opP_assign rfl rfl)) rfl rfl rfl ?_
                  refine aOps_nil ?_
                  refine W_ret ?_
                  refine blockE_ret ?_
                  refine blockE_ret ?_
                  refine blockE_ret ?_
                  refine blockE_ret ?_
                  refine retE_ret ?_
                  refine retOk_tmpE Try.results43 rfl (congrArg B ?_) rfl
                  first | exact triv_no (hJ.all (by have h9 := ofNat_ge hc13; omega)) | exact triv_yes (.inr ⟨_, List.mem_of_getElem? hx, _, List.mem_of_getElem? hy, sayNo_con (say_yes hb44 hb49 hb56 hc62)⟩) | exact triv_yes (.inl ⟨_, List.mem_of_getElem? hx, taut_yes hb23 hc29⟩) | exact absurd hc29 Bool.false_ne_true | exact absurd hc62 Bool.false_ne_true
                · refine W_skip ?_
                  refine W_region ?_
                  refine st_op (opS_of (opP_move rfl rfl)) rfl rfl rfl ?_
                  first
                    | refine st_op (opS_of (opP_add64 rfl rfl rfl (by omega))) rfl rfl rfl ?_
                    | refine st_op (opS_of (opP_strAdd rfl rfl rfl (by assumption))) rfl rfl rfl ?_
                    | refine st_op (opS_of (opP_add rfl rfl rfl)) rfl rfl rfl ?_
                  refine st_op (opS_of (opP_assign rfl rfl)) rfl rfl rfl ?_
                  refine aOps_nil ?_
                  refine ⟨k2 + 1, by (refine Ent.of ?_; repeat (first | (refine entOk_tm rfl ?_) | (refine entOk_ob rfl ?_) | exact entOk_nil | (refine entOk_Z rfl (by omega) ?_) | (refine entOk_Z rfl (by simp <;> omega) ?_) | (refine entOk_lst rfl (by assumption) ?_) | (refine entOk_lst rfl (fill_setE rfl (by assumption) (by assumption) rfl) ?_) | (refine entOk_lst rfl (by simp_all; done) ?_) | (refine entOk_var rfl (by simp_all; done) ?_))), hJ2.next hy (by first | exact say_no1 hb44 | exact say_no2 hb49 | exact say_no3 hb56 | exact say_no4 hc62), by omega, by omega⟩
              · refine st_skipJ rfl rfl rfl rfl ?_
                refine st_skipJ rfl rfl rfl rfl ?_
                refine st_skipJ rfl rfl rfl rfl ?_
                refine st_skipJ rfl rfl rfl rfl ?_
                refine st_skipJ rfl rfl rfl rfl ?_
                first
                  | refine st_op (opS_of (opP_pickA rfl rfl rfl rfl)) rfl rfl rfl ?_
                  | refine st_op (opS_of (opP_pickF rfl rfl rfl rfl)) rfl rfl rfl ?_
                  | refine st_op (opS_of (opP_pickA rfl rfl (by assumption) rfl)) rfl rfl rfl ?_
                  | refine st_op (opS_of (opP_pickF rfl rfl (by assumption) rfl)) rfl rfl rfl ?_
                refine aOps_nil ?_
                refine W_condF rfl ?_
                refine W_skip ?_
                refine W_region ?_
                refine st_op (opS_of (opP_move rfl rfl)) rfl rfl rfl ?_
                first
                  | refine st_op (opS_of (opP_add64 rfl rfl rfl (by omega))) rfl rfl rfl ?_
                  | refine st_op (opS_of (opP_strAdd rfl rfl rfl (by assumption))) rfl rfl rfl ?_
                  | refine st_op (opS_of (opP_add rfl rfl rfl)) rfl rfl rfl ?_
                refine st_op (opS_of (opP_assign rfl rfl)) rfl rfl rfl ?_
                refine aOps_nil ?_
                refine ⟨k2 + 1, by (refine Ent.of ?_; repeat (first | (refine entOk_tm rfl ?_) | (refine entOk_ob rfl ?_) | exact entOk_nil | (refine entOk_Z rfl (by omega) ?_) | (refine entOk_Z rfl (by simp <;> omega) ?_) | (refine entOk_lst rfl (by assumption) ?_) | (refine entOk_lst rfl (fill_setE rfl (by assumption) (by assumption) rfl) ?_) | (refine entOk_lst rfl (by simp_all; done) ?_) | (refine entOk_var rfl (by simp_all; done) ?_))), hJ2.next hy (by first | exact say_no1 hb44 | exact say_no2 hb49 | exact say_no3 hb56 | exact say_no4 hc62), by omega, by omega⟩
            · refine st_skipJ rfl rfl rfl rfl ?_
              refine st_skipJ rfl rfl rfl rfl ?_
              refine st_skipJ rfl rfl rfl rfl ?_
              refine st_skipJ rfl rfl rfl rfl ?_
              refine st_skipJ rfl rfl rfl rfl ?_
              first
                | refine st_op (opS_of (opP_pickA rfl rfl rfl rfl)) rfl rfl rfl ?_
                | refine st_op (opS_of (opP_pickF rfl rfl rfl rfl)) rfl rfl rfl ?_
                | refine st_op (opS_of (opP_pickA rfl rfl (by assumption) rfl)) rfl rfl rfl ?_
                | refine st_op (opS_of (opP_pickF rfl rfl (by assumption) rfl)) rfl rfl rfl ?_
              refine st_op (opS_of (opP_move rfl rfl)) rfl rfl rfl ?_
              refine st_skipJ rfl rfl rfl rfl ?_
              refine st_skipJ rfl rfl rfl rfl ?_
              refine st_skipJ rfl rfl rfl rfl ?_
              refine st_skipJ rfl rfl rfl rfl ?_
              refine st_skipJ rfl rfl rfl rfl ?_
              first
                | refine st_op (opS_of (opP_pickA rfl rfl rfl rfl)) rfl rfl rfl ?_
                | refine st_op (opS_of (opP_pickF rfl rfl rfl rfl)) rfl rfl rfl ?_
                | refine st_op (opS_of (opP_pickA rfl rfl (by assumption) rfl)) rfl rfl rfl ?_
                | refine st_op (opS_of (opP_pickF rfl rfl (by assumption) rfl)) rfl rfl rfl ?_
              refine aOps_nil ?_
              refine W_condF rfl ?_
              refine W_skip ?_
              refine W_region ?_
              refine st_op (opS_of (opP_move rfl rfl)) rfl rfl rfl ?_
              first
                | refine st_op (opS_of (opP_add64 rfl rfl rfl (by omega))) rfl rfl rfl ?_
                | refine st_op (opS_of (opP_strAdd rfl rfl rfl (by assumption))) rfl rfl rfl ?_
                | refine st_op (opS_of (opP_add rfl rfl rfl)) rfl rfl rfl ?_
              refine st_op (opS_of (opP_assign rfl rfl)) rfl rfl rfl ?_
              refine aOps_nil ?_
              refine ⟨k2 + 1, by (refine Ent.of ?_; repeat (first | (refine entOk_tm rfl ?_) | (refine entOk_ob rfl ?_) | exact entOk_nil | (refine entOk_Z rfl (by omega) ?_) | (refine entOk_Z rfl (by simp <;> omega) ?_) | (refine entOk_lst rfl (by assumption) ?_) | (refine entOk_lst rfl (fill_setE rfl (by assumption) (by assumption) rfl) ?_) | (refine entOk_lst rfl (by simp_all; done) ?_) | (refine entOk_var rfl (by simp_all; done) ?_))), hJ2.next hy (by first | exact say_no1 hb44 | exact say_no2 hb49 | exact say_no3 hb56 | exact say_no4 hc62), by omega, by omega⟩
          · refine st_skipJ rfl rfl rfl rfl ?_
            refine st_skipJ rfl rfl rfl rfl ?_
            refine st_skipJ rfl rfl rfl rfl ?_
            first
              | refine st_op (opS_of (opP_pickA rfl rfl rfl rfl)) rfl rfl rfl ?_
              | refine st_op (opS_of (opP_pickF rfl rfl rfl rfl)) rfl rfl rfl ?_
              | refine st_op (opS_of (opP_pickA rfl rfl (by assumption) rfl)) rfl rfl rfl ?_
              | refine st_op (opS_of (opP_pickF rfl rfl (by assumption) rfl)) rfl rfl rfl ?_
            refine st_op (opS_of (opP_move rfl rfl)) rfl rfl rfl ?_
            refine st_skipJ rfl rfl rfl rfl ?_
            refine st_skipJ rfl rfl rfl rfl ?_
            refine st_skipJ rfl rfl rfl rfl ?_
            refine st_skipJ rfl rfl rfl rfl ?_
            refine st_skipJ rfl rfl rfl rfl ?_
            first
              | refine st_op (opS_of (opP_pickA rfl rfl rfl rfl)) rfl rfl rfl ?_
              | refine st_op (opS_of (opP_pickF rfl rfl rfl rfl)) rfl rfl rfl ?_
              | refine st_op (opS_of (opP_pickA rfl rfl (by assumption) rfl)) rfl rfl rfl ?_
              | refine st_op (opS_of (opP_pickF rfl rfl (by assumption) rfl)) rfl rfl rfl ?_
            refine st_op (opS_of (opP_move rfl rfl)) rfl rfl rfl ?_
            refine st_skipJ rfl rfl rfl rfl ?_
            refine st_skipJ rfl rfl rfl rfl ?_
            refine st_skipJ rfl rfl rfl rfl ?_
            refine st_skipJ rfl rfl rfl rfl ?_
            refine st_skipJ rfl rfl rfl rfl ?_
            first
              | refine st_op (opS_of (opP_pickA rfl rfl rfl rfl)) rfl rfl rfl ?_
              | refine st_op (opS_of (opP_pickF rfl rfl rfl rfl)) rfl rfl rfl ?_
              | refine st_op (opS_of (opP_pickA rfl rfl (by assumption) rfl)) rfl rfl rfl ?_
              | refine st_op (opS_of (opP_pickF rfl rfl (by assumption) rfl)) rfl rfl rfl ?_
            refine aOps_nil ?_
            refine W_condF rfl ?_
            refine W_skip ?_
            refine W_region ?_
            refine st_op (opS_of (opP_move rfl rfl)) rfl rfl rfl ?_
            first
              | refine st_op (opS_of (opP_add64 rfl rfl rfl (by omega))) rfl rfl rfl ?_
              | refine st_op (opS_of (opP_strAdd rfl rfl rfl (by assumption))) rfl rfl rfl ?_
              | refine st_op (opS_of (opP_add rfl rfl rfl)) rfl rfl rfl ?_
            refine st_op (opS_of (opP_assign rfl rfl)) rfl rfl rfl ?_
            refine aOps_nil ?_
            refine ⟨k2 + 1, by (refine Ent.of ?_; repeat (first | (refine entOk_tm rfl ?_) | (refine entOk_ob rfl ?_) | exact entOk_nil | (refine entOk_Z rfl (by omega) ?_) | (refine entOk_Z rfl (by simp <;> omega) ?_) | (refine entOk_lst rfl (by assumption) ?_) | (refine entOk_lst rfl (fill_setE rfl (by assumption) (by assumption) rfl) ?_) | (refine entOk_lst rfl (by simp_all; done) ?_) | (refine entOk_var rfl (by simp_all; done) ?_))), hJ2.next hy (by first | exact say_no1 hb44 | exact say_no2 hb49 | exact say_no3 hb56 | exact say_no4 hc62), by omega, by omega⟩
        · refine W_exit ?_
          refine blockE_hit ?_
          refine W_region ?_
          refine st_op (opS_of (opP_move rfl rfl)) rfl rfl rfl ?_
          first
            | refine st_op (opS_of (opP_add64 rfl rfl rfl (by omega))) rfl rfl rfl ?_
            | refine st_op (opS_of (opP_strAdd rfl rfl rfl (by assumption))) rfl rfl rfl ?_
            | refine st_op (opS_of (opP_add rfl rfl rfl)) rfl rfl rfl ?_
          refine st_op (opS_of (opP_assign rfl rfl)) rfl rfl rfl ?_
          refine aOps_nil ?_
          refine ⟨k + 1, by (refine Ent.of ?_; repeat (first | (refine entOk_tm rfl ?_) | (refine entOk_ob rfl ?_) | exact entOk_nil | (refine entOk_Z rfl (by omega) ?_) | (refine entOk_Z rfl (by simp <;> omega) ?_) | (refine entOk_lst rfl (by assumption) ?_) | (refine entOk_lst rfl (fill_setE rfl (by assumption) (by assumption) rfl) ?_) | (refine entOk_lst rfl (by simp_all; done) ?_) | (refine entOk_var rfl (by simp_all; done) ?_))), hJ.next hx hta (fun i y h => hJ2 i y (by have h9 := ofNat_ge hc34; omega)), by omega, by omega⟩
    · refine st_skipJ rfl rfl rfl rfl ?_
      refine st_skipJ rfl rfl rfl rfl ?_
      refine st_skipJ rfl rfl rfl rfl ?_
      refine st_skipJ rfl rfl rfl rfl ?_
      refine st_skipJ rfl rfl rfl rfl ?_
      first
        | refine st_op (opS_of (opP_pickA rfl rfl rfl rfl)) rfl rfl rfl ?_
        | refine st_op (opS_of (opP_pickF rfl rfl rfl rfl)) rfl rfl rfl ?_
        | refine st_op (opS_of (opP_pickA rfl rfl (by assumption) rfl)) rfl rfl rfl ?_
        | refine st_op (opS_of (opP_pickF rfl rfl (by assumption) rfl)) rfl rfl rfl ?_
      refine aOps_nil ?_
      refine W_condF rfl ?_
      refine W_skip ?_
      refine W_seq ?_
      refine W_region ?_
      refine st_op (opS_of (opP_assign rfl rfl)) rfl rfl rfl ?_
      refine aOps_nil ?_
      refine W_block ?_
      have hta : Li.taut ⟨p, .mk f v ks, .mk g u ms⟩ = false := by first | exact taut_no1 hb23 | exact taut_no2 hc29
      refine W_countI (fun k2 => ⟨[(3, .one (.op 3 0)), (5, Z k), (6, .one (.op 6 0)), (7, Z k2)], [(3, .var [.d (.sl (Li.das ls))]), (6, .var ((Li.mk p (.mk f v ks) (.mk g u ms)).da.map .d))]⟩) (noneTo (sayNo ⟨p, .mk f v ks, .mk g u ms⟩) ls) ls.length 0 (by (refine Ent.of ?_; repeat (first | (refine entOk_tm rfl ?_) | (refine entOk_ob rfl ?_) | exact entOk_nil | (refine entOk_Z rfl (by omega) ?_) | (refine entOk_Z rfl (by simp <;> omega) ?_) | (refine entOk_lst rfl (by assumption) ?_) | (refine entOk_lst rfl (fill_setE rfl (by assumption) (by assumption) rfl) ?_) | (refine entOk_lst rfl (by simp_all; done) ?_) | (refine entOk_var rfl (by simp_all; done) ?_)))) (fun i a h => by omega) (Nat.zero_le _) (fun k2 _ hk2 hJ2 => ?_)
      refine W_seq ?_
      refine W_seq ?_
      refine W_region ?_
      refine st_op (opS_of (opP_move rfl rfl)) rfl rfl rfl ?_
      first
        | refine st_op (os_fieldAddrO tabOk rfl rfl rfl (by decide) rfl) rfl rfl rfl ?_
        | refine st_op (os_fieldAddrE tabOk rfl rfl rfl (by decide) rfl) rfl rfl rfl ?_
      first
        | refine st_op (os_loadO1 tabOk rfl rfl rfl rfl rfl rfl) rfl rfl rfl ?_
        | refine st_op (os_loadE1 tabOk rfl rfl rfl rfl rfl) rfl rfl rfl ?_
        | refine st_op (os_loadES tabOk rfl rfl rfl rfl rfl) rfl rfl rfl ?_
        | refine st_op (os_loadOS tabOk rfl rfl rfl rfl rfl (Nat.le_of_ble_eq_true rfl)) rfl rfl rfl ?_
        | refine st_op (os_loadES tabOk rfl rfl rfl rfl (by assumption)) rfl rfl rfl ?_
        | refine st_op (os_loadLS tabOk rfl rfl rfl rfl rfl (by assumption) rfl (by first | rfl | assumption)) rfl rfl rfl ?_
        | refine st_op (os_loadL1 (q := 0) tabOk rfl rfl rfl rfl rfl (by assumption) rfl rfl) rfl rfl rfl ?_
      first
        | refine st_op (os_lenD tabOk rfl rfl rfl rfl rfl) rfl rfl rfl ?_
        | refine st_op (os_lenO tabOk rfl rfl rfl rfl rfl rfl) rfl rfl rfl ?_
        | refine st_op (os_lenS tabOk rfl rfl rfl rfl) rfl rfl rfl ?_
        | refine st_op (os_len0 tabOk rfl rfl rfl rfl rfl) rfl rfl rfl ?_
      refine st_op (opS_of (opP_lss rfl rfl rfl)) rfl rfl rfl ?_
      refine aOps_nil ?_
      refine W_cond rfl (fun hc34 => ?_) (fun hc34 => ?_)
      · refine W_skip ?_
        refine W_seq ?_
        refine W_block ?_
        refine W_seq ?_
        have hlk2 := ofNat_lt hc34
        rw [Li.das_len] at hlk2
        obtain ⟨y, hy⟩ : ∃ y, ls[k2]? = some y := ⟨ls[k2], List.getElem?_eq_getElem hlk2⟩
        have hy1 : (Li.das ls)[k2]? = some y.da := by rw [Li.das_get, hy]; rfl
        have hy7 := Li.da_len y
        obtain ⟨p', ⟨f', v', ks'⟩, ⟨g', u', ms'⟩⟩ := y
        refine W_region ?_
        first
          | refine st_op (os_fieldAddrO tabOk rfl rfl rfl (by decide) rfl) rfl rfl rfl ?_
          | refine st_op (os_fieldAddrE tabOk rfl rfl rfl (by decide) rfl) rfl rfl rfl ?_
        first
          | refine st_op (os_loadO1 tabOk rfl rfl rfl rfl rfl rfl) rfl rfl rfl ?_
          | refine st_op (os_loadE1 tabOk rfl rfl rfl rfl rfl) rfl rfl rfl ?_
          | refine st_op (os_loadES tabOk rfl rfl rfl rfl rfl) rfl rfl rfl ?_
          | refine st_op (os_loadOS tabOk rfl rfl rfl rfl rfl (Nat.le_of_ble_eq_true rfl)) rfl rfl rfl ?_
          | refine st_op (os_loadES tabOk rfl rfl rfl rfl (by assumption)) rfl rfl rfl ?_
          | refine st_op (os_loadLS tabOk rfl rfl rfl rfl rfl (by assumption) rfl (by first | rfl | assumption)) rfl rfl rfl ?_
          | refine st_op (os_loadL1 (q := 0) tabOk rfl rfl rfl rfl rfl (by assumption) rfl rfl) rfl rfl rfl ?_
        refine st_op (opS_of (opP_move rfl rfl)) rfl rfl rfl ?_
        first
          | refine st_op (os_indexD tabOk rfl rfl rfl rfl rfl (by decide) rfl rfl (by assumption) (by first | rfl | assumption)) rfl rfl rfl ?_
          | refine st_op (os_indexO tabOk rfl rfl rfl rfl rfl rfl rfl rfl (by decide) rfl (by first | assumption | (simp; omega))) rfl rfl rfl ?_
        first
          | refine st_op (os_loadO1 tabOk rfl rfl rfl rfl rfl rfl) rfl rfl rfl ?_
          | refine st_op (os_loadE1 tabOk rfl rfl rfl rfl rfl) rfl rfl rfl ?_
          | refine st_op (os_loadES tabOk rfl rfl rfl rfl rfl) rfl rfl rfl ?_
          | refine st_op (os_loadOS tabOk rfl rfl rfl rfl rfl (Nat.le_of_ble_eq_true rfl)) rfl rfl rfl ?_
          | refine st_op (os_loadES tabOk rfl rfl rfl rfl (by assumption)) rfl rfl rfl ?_
          | refine st_op (os_loadLS tabOk rfl rfl rfl rfl rfl (by assumption) rfl (by first | rfl | assumption)) rfl rfl rfl ?_
          | refine st_op (os_loadL1 (q := 0) tabOk rfl rfl rfl rfl rfl (by assumption) rfl rfl) rfl rfl rfl ?_
        refine st_op (os_alloc z51 rfl rfl) rfl rfl rfl ?_
        refine st_store tabOk rfl rfl rfl rfl rfl rfl rfl rfl rfl (Nat.le_of_ble_eq_true rfl) rfl ?_
        refine aOps_nil ?_
        refine W_seq ?_
        refine W_region ?_
        first
          | refine st_op (os_fieldAddrO tabOk rfl rfl rfl (by decide) rfl) rfl rfl rfl ?_
          | refine st_op (os_fieldAddrE tabOk rfl rfl rfl (by decide) rfl) rfl rfl rfl ?_
        first
          | refine st_op (os_loadO1 tabOk rfl rfl rfl rfl rfl rfl) rfl rfl rfl ?_
          | refine st_op (os_loadE1 tabOk rfl rfl rfl rfl rfl) rfl rfl rfl ?_
          | refine st_op (os_loadES tabOk rfl rfl rfl rfl rfl) rfl rfl rfl ?_
          | refine st_op (os_loadOS tabOk rfl rfl rfl rfl rfl (Nat.le_of_ble_eq_true rfl)) rfl rfl rfl ?_
          | refine st_op (os_loadES tabOk rfl rfl rfl rfl (by assumption)) rfl rfl rfl ?_
          | refine st_op (os_loadLS tabOk rfl rfl rfl rfl rfl (by assumption) rfl (by first | rfl | assumption)) rfl rfl rfl ?_
          | refine st_op (os_loadL1 (q := 0) tabOk rfl rfl rfl rfl rfl (by assumption) rfl rfl) rfl rfl rfl ?_
        refine st_op (opS_of (opP_move rfl rfl)) rfl rfl rfl ?_
        refine st_gsplit rfl rfl rfl (fun hb44 => ?_) (fun hb44 => ?_)
        · first
            | refine st_run (os_fieldAddrO tabOk rfl rfl rfl (by decide) rfl) rfl rfl rfl rfl rfl ?_
            | refine st_run (os_fieldAddrE tabOk rfl rfl rfl (by decide) rfl) rfl rfl rfl rfl rfl ?_
          first
            | refine st_run (os_loadO1 tabOk rfl rfl rfl rfl rfl rfl) rfl rfl rfl rfl rfl ?_
            | refine st_run (os_loadE1 tabOk rfl rfl rfl rfl rfl) rfl rfl rfl rfl rfl ?_
            | refine st_run (os_loadES tabOk rfl rfl rfl rfl rfl) rfl rfl rfl rfl rfl ?_
            | refine st_run (os_loadOS tabOk rfl rfl rfl rfl rfl (Nat.le_of_ble_eq_true rfl)) rfl rfl rfl rfl rfl ?_
            | refine st_run (os_loadES tabOk rfl rfl rfl rfl (by assumption)) rfl rfl rfl rfl rfl ?_
            | refine st_run (os_loadLS tabOk rfl rfl rfl rfl rfl (by assumption) rfl (by first | rfl | assumption)) rfl rfl rfl rfl rfl ?_
            | refine st_run (os_loadL1 (q := 0) tabOk rfl rfl rfl rfl rfl (by assumption) rfl rfl) rfl rfl rfl rfl rfl ?_
          refine st_run (opS_of (opP_not rfl rfl)) rfl rfl rfl rfl rfl ?_
          first
            | refine st_op (opS_of (opP_pickA rfl rfl rfl rfl)) rfl rfl rfl ?_
            | refine st_op (opS_of (opP_pickF rfl rfl rfl rfl)) rfl rfl rfl ?_
            | refine st_op (opS_of (opP_pickA rfl rfl (by assumption) rfl)) rfl rfl rfl ?_
            | refine st_op (opS_of (opP_pickF rfl rfl (by assumption) rfl)) rfl rfl rfl ?_
          refine st_op (opS_of (opP_move rfl rfl)) rfl rfl rfl ?_
          refine st_gsplit rfl rfl rfl (fun hb49 => ?_) (fun hb49 => ?_)
          · first
              | refine st_run (os_fieldAddrO tabOk rfl rfl rfl (by decide) rfl) rfl rfl rfl rfl rfl ?_
              | refine st_run (os_fieldAddrE tabOk rfl rfl rfl (by decide) rfl) rfl rfl rfl rfl rfl ?_
            first
              | refine st_run (os_loadO1 tabOk rfl rfl rfl rfl rfl rfl) rfl rfl rfl rfl rfl ?_
              | refine st_run (os_loadE1 tabOk rfl rfl rfl rfl rfl) rfl rfl rfl rfl rfl ?_
              | refine st_run (os_loadES tabOk rfl rfl rfl rfl rfl) rfl rfl rfl rfl rfl ?_
              | refine st_run (os_loadOS tabOk rfl rfl rfl rfl rfl (Nat.le_of_ble_eq_true rfl)) rfl rfl rfl rfl rfl ?_
              | refine st_run (os_loadES tabOk rfl rfl rfl rfl (by assumption)) rfl rfl rfl rfl rfl ?_
              | refine st_run (os_loadLS tabOk rfl rfl rfl rfl rfl (by assumption) rfl (by first | rfl | assumption)) rfl rfl rfl rfl rfl ?_
              | refine st_run (os_loadL1 (q := 0) tabOk rfl rfl rfl rfl rfl (by assumption) rfl rfl) rfl rfl rfl rfl rfl ?_
            first
              | refine st_run (os_fieldAddrO tabOk rfl rfl rfl (by decide) rfl) rfl rfl rfl rfl rfl ?_
              | refine st_run (os_fieldAddrE tabOk rfl rfl rfl (by decide) rfl) rfl rfl rfl rfl rfl ?_
            first
              | refine st_run (os_loadO1 tabOk rfl rfl rfl rfl rfl rfl) rfl rfl rfl rfl rfl ?_
              | refine st_run (os_loadE1 tabOk rfl rfl rfl rfl rfl) rfl rfl rfl rfl rfl ?_
              | refine st_run (os_loadES tabOk rfl rfl rfl rfl rfl) rfl rfl rfl rfl rfl ?_
              | refine st_run (os_loadOS tabOk rfl rfl rfl rfl rfl (Nat.le_of_ble_eq_true rfl)) rfl rfl rfl rfl rfl ?_
              | refine st_run (os_loadES tabOk rfl rfl rfl rfl (by assumption)) rfl rfl rfl rfl rfl ?_
              | refine st_run (os_loadLS tabOk rfl rfl rfl rfl rfl (by assumption) rfl (by first | rfl | assumption)) rfl rfl rfl rfl rfl ?_
              | refine st_run (os_loadL1 (q := 0) tabOk rfl rfl rfl rfl rfl (by assumption) rfl rfl) rfl rfl rfl rfl rfl ?_
            refine st_run (os_call (ag := [(Operand.tmp 51), (Operand.tmp 53)]) (termSame_call (.mk f v ks) (.mk f' v' ks')) Try.func64 rfl rfl rfl rfl) rfl rfl rfl rfl rfl ?_
            first
              | refine st_op (opS_of (opP_pickA rfl rfl rfl rfl)) rfl rfl rfl ?_
              | refine st_op (opS_of (opP_pickF rfl rfl rfl rfl)) rfl rfl rfl ?_
              | refine st_op (opS_of (opP_pickA rfl rfl (by assumption) rfl)) rfl rfl rfl ?_
              | refine st_op (opS_of (opP_pickF rfl rfl (by assumption) rfl)) rfl rfl rfl ?_
            refine st_op (opS_of (opP_move rfl rfl)) rfl rfl rfl ?_
            refine st_gsplit rfl rfl rfl (fun hb56 => ?_) (fun hb56 => ?_)
            · first
                | refine st_run (os_fieldAddrO tabOk rfl rfl rfl (by decide) rfl) rfl rfl rfl rfl rfl ?_
                | refine st_run (os_fieldAddrE tabOk rfl rfl rfl (by decide) rfl) rfl rfl rfl rfl rfl ?_
              first
                | refine st_run (os_loadO1 tabOk rfl rfl rfl rfl rfl rfl) rfl rfl rfl rfl rfl ?_
                | refine st_run (os_loadE1 tabOk rfl rfl rfl rfl rfl) rfl rfl rfl rfl rfl ?_
                | refine st_run (os_loadES tabOk rfl rfl rfl rfl rfl) rfl rfl rfl rfl rfl ?_
                | refine st_run (os_loadOS tabOk rfl rfl rfl rfl rfl (Nat.le_of_ble_eq_true rfl)) rfl rfl rfl rfl rfl ?_
                | refine st_run (os_loadES tabOk rfl rfl rfl rfl (by assumption)) rfl rfl rfl rfl rfl ?_
                | refine st_run (os_loadLS tabOk rfl rfl rfl rfl rfl (by assumption) rfl (by first | rfl | assumption)) rfl rfl rfl rfl rfl ?_
                | refine st_run (os_loadL1 (q := 0) tabOk rfl rfl rfl rfl rfl (by assumption) rfl rfl) rfl rfl rfl rfl rfl ?_
              first
                | refine st_run (os_fieldAddrO tabOk rfl rfl rfl (by decide) rfl) rfl rfl rfl rfl rfl ?_
                | refine st_run (os_fieldAddrE tabOk rfl rfl rfl (by decide) rfl) rfl rfl rfl rfl rfl ?_
              first
                | refine st_run (os_loadO1 tabOk rfl rfl rfl rfl rfl rfl) rfl rfl rfl rfl rfl ?_
                | refine st_run (os_loadE1 tabOk rfl rfl rfl rfl rfl) rfl rfl rfl rfl rfl ?_
                | refine st_run (os_loadES tabOk rfl rfl rfl rfl rfl) rfl rfl rfl rfl rfl ?_
                | refine st_run (os_loadOS tabOk rfl rfl rfl rfl rfl (Nat.le_of_ble_eq_true rfl)) rfl rfl rfl rfl rfl ?_
                | refine st_run (os_loadES tabOk rfl rfl rfl rfl (by assumption)) rfl rfl rfl rfl rfl ?_
                | refine st_run (os_loadLS tabOk rfl rfl rfl rfl rfl (by assumption) rfl (by first | rfl | assumption)) rfl rfl rfl rfl rfl ?_
                | refine st_run (os_loadL1 (q := 0) tabOk rfl rfl rfl rfl rfl (by assumption) rfl rfl) rfl rfl rfl rfl rfl ?_
              refine st_run (os_call (ag := [(Operand.tmp 58), (Operand.tmp 60)]) (termSame_call (.mk g u ms) (.mk g' u' ms')) Try.func64 rfl rfl rfl rfl) rfl rfl rfl rfl rfl ?_
              first
                | refine st_op (opS_of (opP_pickA rfl rfl rfl rfl)) rfl rfl rfl ?_
                | refine st_op (opS_of (opP_pickF rfl rfl rfl rfl)) rfl rfl rfl ?_
                | refine st_op (opS_of (opP_pickA rfl rfl (by assumption) rfl)) rfl rfl rfl ?_
                | refine st_op (opS_of (opP_pickF rfl rfl (by assumption) rfl)) rfl rfl rfl ?_
              refine aOps_nil ?_
              refine W_cond rfl (fun hc62 => ?_) (fun hc62 => ?_)
              · refine W_seq ?_
                refine W_region ?_
                refine st_op (opS_of (opP_assign rfl rfl)) rfl rfl rfl ?_
                refine aOps_nil ?_
                refine W_ret ?_
                refine blockE_ret ?_
                refine blockE_ret ?_
                refine blockE_ret ?_
                refine blockE_ret ?_
                refine retE_ret ?_
                refine retOk_tmpE Try.results43 rfl (congrArg B ?_) rfl
                first | exact triv_no (hJ.all (by have h9 := ofNat_ge hc13; omega)) | exact triv_yes (.inr ⟨_, List.mem_of_getElem? hx, _, List.mem_of_getElem? hy, sayNo_con (say_yes hb44 hb49 hb56 hc62)⟩) | exact triv_yes (.inl ⟨_, List.mem_of_getElem? hx, taut_yes hb23 hc29⟩) | exact absurd hc29 Bool.false_ne_true | exact absurd hc62 Bool.false_ne_true
              · refine W_skip ?_
                refine W_region ?_
                refine st_op (opS_of (opP_move rfl rfl)) rfl rfl rfl ?_
                first
                  | refine st_op (opS_of (opP_add64 rfl rfl rfl (by omega))) rfl rfl rfl ?_
                  | refine st_op (opS_of (opP_strAdd rfl rfl rfl (by assumption))) rfl rfl rfl ?_
                  | refine st_op (opS_of (opP_add rfl rfl rfl)) rfl rfl rfl ?_
                refine st_op (opS_of (opP_assign rfl rfl)) rfl rfl rfl ?_
                refine aOps_nil ?_
                refine ⟨k2 + 1, by (refine Ent.of ?_; repeat (first | (refine entOk_tm rfl ?_) | (refine entOk_ob rfl ?_) | exact entOk_nil | (refine entOk_Z rfl (by omega) ?_) | (refine entOk_Z rfl (by simp <;> omega) ?_) | (refine entOk_lst rfl (by assumption) ?_) | (refine entOk_lst rfl (fill_setE rfl (by assumption) (by assumption) rfl) ?_) | (refine entOk_lst rfl (by simp_all; done) ?_) | (refine entOk_var rfl (by simp_all; done) ?_))), hJ2.next hy (by first | exact say_no1 hb44 | exact say_no2 hb49 | exact say_no3 hb56 | exact say_no4 hc62), by omega, by omega⟩
            · refine st_skipJ rfl rfl rfl rfl ?_
              refine st_skipJ rfl rfl rfl rfl ?_
              refine st_skipJ rfl rfl rfl rfl ?_
              refine st_skipJ rfl rfl rfl rfl ?_
              refine st_skipJ rfl rfl rfl rfl ?_
              first
                | refine st_op (opS_of (opP_pickA rfl rfl rfl rfl)) rfl rfl rfl ?_
                | refine st_op (opS_of (opP_pickF rfl rfl rfl rfl)) rfl rfl rfl ?_
                | refine st_op (opS_of (opP_pickA rfl rfl (by assumption) rfl)) rfl rfl rfl ?_
                | refine st_op (opS_of (opP_pickF rfl rfl (by assumption) rfl)) rfl rfl rfl ?_
              refine aOps_nil ?_
              refine W_condF rfl ?_
              refine W_skip ?_
              refine W_region ?_
              refine st_op (opS_of (opP_move rfl rfl)) rfl rfl rfl ?_
              first
                | refine st_op (opS_of (opP_add64 rfl rfl rfl (by omega))) rfl rfl rfl ?_
                | refine st_op (opS_of (opP_strAdd rfl rfl rfl (by assumption))) rfl rfl rfl ?_
                | refine st_op (opS_of (opP_add rfl rfl rfl)) rfl rfl rfl ?_
              refine st_op (opS_of (opP_assign rfl rfl)) rfl rfl rfl ?_
              refine aOps_nil ?_
              refine ⟨k2 + 1, by (refine Ent.of ?_; repeat (first | (refine entOk_tm rfl ?_) | (refine entOk_ob rfl ?_) | exact entOk_nil | (refine entOk_Z rfl (by omega) ?_) | (refine entOk_Z rfl (by simp <;> omega) ?_) | (refine entOk_lst rfl (by assumption) ?_) | (refine entOk_lst rfl (fill_setE rfl (by assumption) (by assumption) rfl) ?_) | (refine entOk_lst rfl (by simp_all; done) ?_) | (refine entOk_var rfl (by simp_all; done) ?_))), hJ2.next hy (by first | exact say_no1 hb44 | exact say_no2 hb49 | exact say_no3 hb56 | exact say_no4 hc62), by omega, by omega⟩
          · refine st_skipJ rfl rfl rfl rfl ?_
            refine st_skipJ rfl rfl rfl rfl ?_
            refine st_skipJ rfl rfl rfl rfl ?_
            refine st_skipJ rfl rfl rfl rfl ?_
            refine st_skipJ rfl rfl rfl rfl ?_
            first
              | refine st_op (opS_of (opP_pickA rfl rfl rfl rfl)) rfl rfl rfl ?_
              | refine st_op (opS_of (opP_pickF rfl rfl rfl rfl)) rfl rfl rfl ?_
              | refine st_op (opS_of (opP_pickA rfl rfl (by assumption) rfl)) rfl rfl rfl ?_
              | refine st_op (opS_of (opP_pickF rfl rfl (by assumption) rfl)) rfl rfl rfl ?_
            refine st_op (opS_of (opP_move rfl rfl)) rfl rfl rfl ?_
            refine st_skipJ rfl rfl rfl rfl ?_
            refine st_skipJ rfl rfl rfl rfl ?_
            refine st_skipJ rfl rfl rfl rfl ?_
            refine st_skipJ rfl rfl rfl rfl ?_
            refine st_skipJ rfl rfl rfl rfl ?_
            first
              | refine st_op (opS_of (opP_pickA rfl rfl rfl rfl)) rfl rfl rfl ?_
              | refine st_op (opS_of (opP_pickF rfl rfl rfl rfl)) rfl rfl rfl ?_
              | refine st_op (opS_of (opP_pickA rfl rfl (by assumption) rfl)) rfl rfl rfl ?_
              | refine st_op (opS_of (opP_pickF rfl rfl (by assumption) rfl)) rfl rfl rfl ?_
            refine aOps_nil ?_
            refine W_condF rfl ?_
            refine W_skip ?_
            refine W_region ?_
            refine st_op (opS_of (opP_move rfl rfl)) rfl rfl rfl ?_
            first
              | refine st_op (opS_of (opP_add64 rfl rfl rfl (by omega))) rfl rfl rfl ?_
              | refine st_op (opS_of (opP_strAdd rfl rfl rfl (by assumption))) rfl rfl rfl ?_
              | refine st_op (opS_of (opP_add rfl rfl rfl)) rfl rfl rfl ?_
            refine st_op (opS_of (opP_assign rfl rfl)) rfl rfl rfl ?_
            refine aOps_nil ?_
            refine ⟨k2 + 1, by (refine Ent.of ?_; repeat (first | (refine entOk_tm rfl ?_) | (refine entOk_ob rfl ?_) | exact entOk_nil | (refine entOk_Z rfl (by omega) ?_) | (refine entOk_Z rfl (by simp <;> omega) ?_) | (refine entOk_lst rfl (by assumption) ?_) | (refine entOk_lst rfl (fill_setE rfl (by assumption) (by assumption) rfl) ?_) | (refine entOk_lst rfl (by simp_all; done) ?_) | (refine entOk_var rfl (by simp_all; done) ?_))), hJ2.next hy (by first | exact say_no1 hb44 | exact say_no2 hb49 | exact say_no3 hb56 | exact say_no4 hc62), by omega, by omega⟩
        · refine st_skipJ rfl rfl rfl rfl ?_
          refine st_skipJ rfl rfl rfl rfl ?_
          refine st_skipJ rfl rfl rfl rfl ?_
          first
            | refine st_op (opS_of (opP_pickA rfl rfl rfl rfl)) rfl rfl rfl ?_
            | refine st_op (opS_of (opP_pickF rfl rfl rfl rfl)) rfl rfl rfl ?_
            | refine st_op (opS_of (opP_pickA rfl rfl (by assumption) rfl)) rfl rfl rfl ?_
            | refine st_op (opS_of (opP_pickF rfl rfl (by assumption) rfl)) rfl rfl rfl ?_
          refine st_op (opS_of (opP_move rfl rfl)) rfl rfl rfl ?_
          refine st_skipJ rfl rfl rfl rfl ?_
          refine st_skipJ rfl rfl rfl rfl ?_
          refine st_skipJ rfl rfl rfl rfl ?_
          refine st_skipJ rfl rfl rfl rfl ?_
          refine st_skipJ rfl rfl rfl rfl ?_
          first
            | refine st_op (opS_of (opP_pickA rfl rfl rfl rfl)) rfl rfl rfl ?_
            | refine st_op (opS_of (opP_pickF rfl rfl rfl rfl)) rfl rfl rfl ?_
            | refine st_op (opS_of (opP_pickA rfl rfl (by assumption) rfl)) rfl rfl rfl ?_
            | refine st_op (opS_of (opP_pickF rfl rfl (by assumption) rfl)) rfl rfl rfl ?_
          refine st_op (opS_of (opP_move rfl rfl)) rfl rfl rfl ?_
          refine st_skipJ rfl rfl rfl rfl ?_
          refine st_skipJ rfl rfl rfl rfl ?_
          refine st_skipJ rfl rfl rfl rfl ?_
          refine st_skipJ rfl rfl rfl rfl ?_
          refine st_skipJ rfl rfl rfl rfl ?_
          first
            | refine st_op (opS_of (opP_pickA rfl rfl rfl rfl)) rfl rfl rfl ?_
            | refine st_op (opS_of (opP_pickF rfl rfl rfl rfl)) rfl rfl rfl ?_
            | refine st_op (opS_of (opP_pickA rfl rfl (by assumption) rfl)) rfl rfl rfl ?_
            | refine st_op (opS_of (opP_pickF rfl rfl (by assumption) rfl)) rfl rfl rfl ?_
          refine aOps_nil ?_
          refine W_condF rfl ?_
          refine W_skip ?_
          refine W_region ?_
          refine st_op (opS_of (opP_move rfl rfl)) rfl rfl rfl ?_
          first
            | refine st_op (opS_of (opP_add64 rfl rfl rfl (by omega))) rfl rfl rfl ?_
            | refine st_op (opS_of (opP_strAdd rfl rfl rfl (by assumption))) rfl rfl rfl ?_
            | refine st_op (opS_of (opP_add rfl rfl rfl)) rfl rfl rfl ?_
          refine st_op (opS_of (opP_assign rfl rfl)) rfl rfl rfl ?_
          refine aOps_nil ?_
          refine ⟨k2 + 1, by (refine Ent.of ?_; repeat (first | (refine entOk_tm rfl ?_) | (refine entOk_ob rfl ?_) | exact entOk_nil | (refine entOk_Z rfl (by omega) ?_) | (refine entOk_Z rfl (by simp <;> omega) ?_) | (refine entOk_lst rfl (by assumption) ?_) | (refine entOk_lst rfl (fill_setE rfl (by assumption) (by assumption) rfl) ?_) | (refine entOk_lst rfl (by simp_all; done) ?_) | (refine entOk_var rfl (by simp_all; done) ?_))), hJ2.next hy (by first | exact say_no1 hb44 | exact say_no2 hb49 | exact say_no3 hb56 | exact say_no4 hc62), by omega, by omega⟩
      · refine W_exit ?_
        refine blockE_hit ?_
        refine W_region ?_
        refine st_op (opS_of (opP_move rfl rfl)) rfl rfl rfl ?_
        first
          | refine st_op (opS_of (opP_add64 rfl rfl rfl (by omega))) rfl rfl rfl ?_
          | refine st_op (opS_of (opP_strAdd rfl rfl rfl (by assumption))) rfl rfl rfl ?_
          | refine st_op (opS_of (opP_add rfl rfl rfl)) rfl rfl rfl ?_
        refine st_op (opS_of (opP_assign rfl rfl)) rfl rfl rfl ?_
        refine aOps_nil ?_
        refine ⟨k + 1, by (refine Ent.of ?_; repeat (first | (refine entOk_tm rfl ?_) | (refine entOk_ob rfl ?_) | exact entOk_nil | (refine entOk_Z rfl (by omega) ?_) | (refine entOk_Z rfl (by simp <;> omega) ?_) | (refine entOk_lst rfl (by assumption) ?_) | (refine entOk_lst rfl (fill_setE rfl (by assumption) (by assumption) rfl) ?_) | (refine entOk_lst rfl (by simp_all; done) ?_) | (refine entOk_var rfl (by simp_all; done) ?_))), hJ.next hx hta (fun i y h => hJ2 i y (by have h9 := ofNat_ge hc34; omega)), by omega, by omega⟩
  · refine W_exit ?_
    refine blockE_hit ?_
    refine W_seq ?_
    refine W_region ?_
    refine st_op (opS_of (opP_assign rfl rfl)) rfl rfl rfl ?_
    refine aOps_nil ?_
    refine W_ret ?_
    refine retE_ret ?_
    refine retOk_tmpE Try.results43 rfl (congrArg B ?_) rfl
    first | exact triv_no (hJ.all (by have h9 := ofNat_ge hc13; omega)) | exact triv_yes (.inr ⟨_, List.mem_of_getElem? hx, _, List.mem_of_getElem? hy, sayNo_con (say_yes hb44 hb49 hb56 hc62)⟩) | exact triv_yes (.inl ⟨_, List.mem_of_getElem? hx, taut_yes hb23 hc29⟩) | exact absurd hc29 Bool.false_ne_true | exact absurd hc62 Bool.false_ne_true

set_option maxHeartbeats 4000000 in
theorem implTrivial_call (ss : List Sy) (c : Cl) : ACall Try.prog 45 [L (Sy.das ss), .dat c.da] (B (triv c.ls)) [] := by
  refine acall_fit fun hfit => ?_
  have hlen : c.ls.length ≤ 281474976710656 := by have := hfit.tail.dat.len; rwa [Li.das_len] at this
  obtain ⟨ls⟩ := c
  have hlen' : ls.length ≤ 281474976710656 := hlen
  have hdl := Li.das_len ls
  have hes : ∀ c ∈ Li.das ls, c.length = 7 := by
    intro c hc
    obtain ⟨x, _, rfl⟩ := List.mem_map.1 hc
    exact Li.da_len x
  refine acall_W Try.func45 rfl _ Try.ntmps45 (Nat.le_of_ble_eq_true rfl) fun w0 S0 => ?_
  refine W_seq ?_
  refine W_region ?_
  refine st_op (os_box rfl rfl rfl rfl rfl) rfl rfl rfl ?_
  refine st_op (opS_of (opP_assign rfl rfl)) rfl rfl rfl ?_
  refine aOps_nil ?_
  refine W_seq ?_
  refine W_seq ?_
  refine W_region ?_
  first
    | refine st_op (os_fieldAddrO tabOk rfl rfl rfl (by decide) rfl) rfl rfl rfl ?_
    | refine st_op (os_fieldAddrE tabOk rfl rfl rfl (by decide) rfl) rfl rfl rfl ?_
  first
    | refine st_op (os_loadO1 tabOk rfl rfl rfl rfl rfl rfl) rfl rfl rfl ?_
    | refine st_op (os_loadE1 tabOk rfl rfl rfl rfl rfl) rfl rfl rfl ?_
    | refine st_op (os_loadES tabOk rfl rfl rfl rfl rfl) rfl rfl rfl ?_
    | refine st_op (os_loadOS tabOk rfl rfl rfl rfl rfl (Nat.le_of_ble_eq_true rfl)) rfl rfl rfl ?_
    | refine st_op (os_loadES tabOk rfl rfl rfl rfl (by assumption)) rfl rfl rfl ?_
    | refine st_op (os_loadLS tabOk rfl rfl rfl rfl rfl (by assumption) rfl (by first | rfl | assumption)) rfl rfl rfl ?_
    | refine st_op (os_loadL1 (q := 0) tabOk rfl rfl rfl rfl rfl (by assumption) rfl rfl) rfl rfl rfl ?_
  first
    | refine st_op (os_lenD tabOk rfl rfl rfl rfl rfl) rfl rfl rfl ?_
    | refine st_op (os_lenO tabOk rfl rfl rfl rfl rfl rfl) rfl rfl rfl ?_
    | refine st_op (os_lenS tabOk rfl rfl rfl rfl) rfl rfl rfl ?_
    | refine st_op (os_len0 tabOk rfl rfl rfl rfl rfl) rfl rfl rfl ?_
  refine st_op (opS_of (opP_move rfl rfl)) rfl rfl rfl ?_
  refine aOps_nil ?_
  refine W_block ?_
  refine W_countI (fun k => ⟨[(3, .one (.op 3 0)), (8, L (Li.das ls)), (9, Z ls.length), (10, Z k)], [(3, .var [.d (.sl (Li.das ls))])]⟩) (trI ls) ls.length 0 (by (refine Ent.of ?_; repeat (first | (refine entOk_tm rfl ?_) | (refine entOk_ob rfl ?_) | exact entOk_nil | (refine entOk_Z rfl (by omega) ?_) | (refine entOk_Z rfl (by simp <;> omega) ?_) | (refine entOk_lst rfl (by assumption) ?_) | (refine entOk_lst rfl (fill_setE rfl (by assumption) (by assumption) rfl) ?_) | (refine entOk_lst rfl (by simp_all; done) ?_) | (refine entOk_var rfl (by simp_all; done) ?_)))) (fun i a h => by omega) (Nat.zero_le _) (fun k _ hk hJ => ?_)
  refine W_seq ?_
  refine W_region ?_
  refine st_op (opS_of (opP_lss rfl rfl rfl)) rfl rfl rfl ?_
  refine aOps_nil ?_
  refine W_seq ?_
  refine W_cond rfl (fun hc11 => ?_) (fun hc11 => ?_)
  · refine W_skip ?_
    refine W_seq ?_
    refine W_block ?_
    refine W_seq ?_
    have hlk := ofNat_lt hc11
    obtain ⟨x, hx⟩ : ∃ x, ls[k]? = some x := ⟨ls[k], List.getElem?_eq_getElem hlk⟩
    have hx1 : (Li.das ls)[k]? = some x.da := by rw [Li.das_get, hx]; rfl
    have hx7 := Li.da_len x
    have hct := xcall_ren (ys := [L (Li.das (ls.take k)), .one (.clo 82 [(6, 0)])]) (I' := [(6, .var (x.da.map .d))]) (O' := [(6, .var (x.da.map .d))]) (r' := B ((ls.take k).any (Li.con x))) (mv' := []) [(6, 2000)] [(2000, 6)] (containsFunc_call (Li.con x) (.one (.clo 82 [(2000, 0)])) (ls.take k) [(2000, .var (x.da.map .d))] (.one (by decide) (idsL_data _)) (by simp [AV.ids, At.ids]) (by simp; omega) fun y _ => vcall_clo (trivClo_call x y) rfl Try.func82 rfl rfl) rfl (ren_data _) rfl (ren_data _) rfl rfl
    have htk : Li.das (ls.take k) = ((Li.das ls).take k).drop 0 := by simp [Li.das, List.map_take]
    rw [htk] at hct
    obtain ⟨p, ⟨f, v, ks⟩, ⟨g, u, ms⟩⟩ := x
    refine W_region ?_
    refine st_op (opS_of (opP_move rfl rfl)) rfl rfl rfl ?_
    first
      | refine st_op (os_indexD tabOk rfl rfl rfl rfl rfl (by decide) rfl rfl (by assumption) (by first | rfl | assumption)) rfl rfl rfl ?_
      | refine st_op (os_indexO tabOk rfl rfl rfl rfl rfl rfl rfl rfl (by decide) rfl (by first | assumption | (simp; omega))) rfl rfl rfl ?_
    first
      | refine st_op (os_loadO1 tabOk rfl rfl rfl rfl rfl rfl) rfl rfl rfl ?_
      | refine st_op (os_loadE1 tabOk rfl rfl rfl rfl rfl) rfl rfl rfl ?_
      | refine st_op (os_loadES tabOk rfl rfl rfl rfl rfl) rfl rfl rfl ?_
      | refine st_op (os_loadOS tabOk rfl rfl rfl rfl rfl (Nat.le_of_ble_eq_true rfl)) rfl rfl rfl ?_
      | refine st_op (os_loadES tabOk rfl rfl rfl rfl (by assumption)) rfl rfl rfl ?_
      | refine st_op (os_loadLS tabOk rfl rfl rfl rfl rfl (by assumption) rfl (by first | rfl | assumption)) rfl rfl rfl ?_
      | refine st_op (os_loadL1 (q := 0) tabOk rfl rfl rfl rfl rfl (by assumption) rfl rfl) rfl rfl rfl ?_
    refine st_op (os_alloc z51 rfl rfl) rfl rfl rfl ?_
    refine st_op (opS_of (opP_assign rfl rfl)) rfl rfl rfl ?_
    refine st_store tabOk rfl rfl rfl rfl rfl rfl rfl rfl rfl (Nat.le_of_ble_eq_true rfl) rfl ?_
    refine aOps_nil ?_
    refine W_seq ?_
    refine W_seq ?_
    refine W_region ?_
    first
      | refine st_op (os_fieldAddrO tabOk rfl rfl rfl (by decide) rfl) rfl rfl rfl ?_
      | refine st_op (os_fieldAddrE tabOk rfl rfl rfl (by decide) rfl) rfl rfl rfl ?_
    first
      | refine st_op (os_loadO1 tabOk rfl rfl rfl rfl rfl rfl) rfl rfl rfl ?_
      | refine st_op (os_loadE1 tabOk rfl rfl rfl rfl rfl) rfl rfl rfl ?_
      | refine st_op (os_loadES tabOk rfl rfl rfl rfl rfl) rfl rfl rfl ?_
      | refine st_op (os_loadOS tabOk rfl rfl rfl rfl rfl (Nat.le_of_ble_eq_true rfl)) rfl rfl rfl ?_
      | refine st_op (os_loadES tabOk rfl rfl rfl rfl (by assumption)) rfl rfl rfl ?_
      | refine st_op (os_loadLS tabOk rfl rfl rfl rfl rfl (by assumption) rfl (by first | rfl | assumption)) rfl rfl rfl ?_
      | refine st_op (os_loadL1 (q := 0) tabOk rfl rfl rfl rfl rfl (by assumption) rfl rfl) rfl rfl rfl ?_
    refine st_op (opS_of (opP_move rfl rfl)) rfl rfl rfl ?_
    refine st_gsplit rfl rfl rfl (fun hb17 => ?_) (fun hb17 => ?_)
    · first
        | refine st_run (os_fieldAddrO tabOk rfl rfl rfl (by decide) rfl) rfl rfl rfl rfl rfl ?_
        | refine st_run (os_fieldAddrE tabOk rfl rfl rfl (by decide) rfl) rfl rfl rfl rfl rfl ?_
      first
        | refine st_run (os_loadO1 tabOk rfl rfl rfl rfl rfl rfl) rfl rfl rfl rfl rfl ?_
        | refine st_run (os_loadE1 tabOk rfl rfl rfl rfl rfl) rfl rfl rfl rfl rfl ?_
        | refine st_run (os_loadES tabOk rfl rfl rfl rfl rfl) rfl rfl rfl rfl rfl ?_
        | refine st_run (os_loadOS tabOk rfl rfl rfl rfl rfl (Nat.le_of_ble_eq_true rfl)) rfl rfl rfl rfl rfl ?_
        | refine st_run (os_loadES tabOk rfl rfl rfl rfl (by assumption)) rfl rfl rfl rfl rfl ?_
        | refine st_run (os_loadLS tabOk rfl rfl rfl rfl rfl (by assumption) rfl (by first | rfl | assumption)) rfl rfl rfl rfl rfl ?_
        | refine st_run (os_loadL1 (q := 0) tabOk rfl rfl rfl rfl rfl (by assumption) rfl rfl) rfl rfl rfl rfl rfl ?_
      first
        | refine st_run (os_fieldAddrO tabOk rfl rfl rfl (by decide) rfl) rfl rfl rfl rfl rfl ?_
        | refine st_run (os_fieldAddrE tabOk rfl rfl rfl (by decide) rfl) rfl rfl rfl rfl rfl ?_
      first
        | refine st_run (os_loadO1 tabOk rfl rfl rfl rfl rfl rfl) rfl rfl rfl rfl rfl ?_
        | refine st_run (os_loadE1 tabOk rfl rfl rfl rfl rfl) rfl rfl rfl rfl rfl ?_
        | refine st_run (os_loadES tabOk rfl rfl rfl rfl rfl) rfl rfl rfl rfl rfl ?_
        | refine st_run (os_loadOS tabOk rfl rfl rfl rfl rfl (Nat.le_of_ble_eq_true rfl)) rfl rfl rfl rfl rfl ?_
        | refine st_run (os_loadES tabOk rfl rfl rfl rfl (by assumption)) rfl rfl rfl rfl rfl ?_
        | refine st_run (os_loadLS tabOk rfl rfl rfl rfl rfl (by assumption) rfl (by first | rfl | assumption)) rfl rfl rfl rfl rfl ?_
        | refine st_run (os_loadL1 (q := 0) tabOk rfl rfl rfl rfl rfl (by assumption) rfl rfl) rfl rfl rfl rfl rfl ?_
      refine st_run (os_call (ag := [(Operand.tmp 19), (Operand.tmp 21)]) (implTermSame_call (.mk f v ks) (.mk g u ms)) Try.func80 rfl rfl rfl rfl) rfl rfl rfl rfl rfl ?_
      first
        | refine st_op (opS_of (opP_pickA rfl rfl rfl rfl)) rfl rfl rfl ?_
        | refine st_op (opS_of (opP_pickF rfl rfl rfl rfl)) rfl rfl rfl ?_
        | refine st_op (opS_of (opP_pickA rfl rfl (by assumption) rfl)) rfl rfl rfl ?_
        | refine st_op (opS_of (opP_pickF rfl rfl (by assumption) rfl)) rfl rfl rfl ?_
      refine aOps_nil ?_
      refine W_cond rfl (fun hc23 => ?_) (fun hc23 => ?_)
      · refine W_seq ?_
        refine W_region ?_
        refine st_op (opS_of (opP_assign rfl rfl)) rfl rfl rfl ?_
        refine aOps_nil ?_
        refine W_ret ?_
        refine blockE_ret ?_
        refine blockE_ret ?_
        refine retE_ret ?_
        refine retOk_tmpE Try.results45 rfl (congrArg B ?_) rfl
        first | exact triv_no (hJ.all (by have h9 := ofNat_ge hc11; omega)) | exact triv_yes (con_yes hx hc29) | exact triv_yes (.inl ⟨_, List.mem_of_getElem? hx, taut_yes2 hb17 hc23⟩) | exact absurd hc23 Bool.false_ne_true
      · refine W_skip ?_
        refine W_seq ?_
        refine W_region ?_
        first
          | refine st_op (os_fieldAddrO tabOk rfl rfl rfl (by decide) rfl) rfl rfl rfl ?_
          | refine st_op (os_fieldAddrE tabOk rfl rfl rfl (by decide) rfl) rfl rfl rfl ?_
        first
          | refine st_op (os_loadO1 tabOk rfl rfl rfl rfl rfl rfl) rfl rfl rfl ?_
          | refine st_op (os_loadE1 tabOk rfl rfl rfl rfl rfl) rfl rfl rfl ?_
          | refine st_op (os_loadES tabOk rfl rfl rfl rfl rfl) rfl rfl rfl ?_
          | refine st_op (os_loadOS tabOk rfl rfl rfl rfl rfl (Nat.le_of_ble_eq_true rfl)) rfl rfl rfl ?_
          | refine st_op (os_loadES tabOk rfl rfl rfl rfl (by assumption)) rfl rfl rfl ?_
          | refine st_op (os_loadLS tabOk rfl rfl rfl rfl rfl (by assumption) rfl (by first | rfl | assumption)) rfl rfl rfl ?_
          | refine st_op (os_loadL1 (q := 0) tabOk rfl rfl rfl rfl rfl (by assumption) rfl rfl) rfl rfl rfl ?_
        refine st_op (opS_of (opP_move rfl rfl)) rfl rfl rfl ?_
        refine st_op (os_cutD (k := .i64) (k' := .i64) (l := 0) (h := k) tabOk rfl rfl rfl rfl rfl hes rfl (.inl ⟨rfl, rfl⟩) (.inr ⟨_, rfl, rfl⟩) (by omega) (by omega)) rfl rfl rfl ?_
        refine st_op (os_makeFunc (cap := [(Operand.tmp 6)]) rfl rfl) rfl rfl rfl ?_
        refine st_x (xop_ro' (c := .func 81) (ag := [.tmp 27, .tmp 28]) (vcall_fn hct Try.func81 rfl (by kernel_rfl)) rfl rfl rfl rfl ⟨rfl, trivial⟩) rfl ?_
        refine aOps_nil ?_
        refine W_cond rfl (fun hc29 => ?_) (fun hc29 => ?_)
        · refine W_seq ?_
          refine W_region ?_
          refine st_op (opS_of (opP_assign rfl rfl)) rfl rfl rfl ?_
          refine aOps_nil ?_
          refine W_ret ?_
          refine blockE_ret ?_
          refine blockE_ret ?_
          refine retE_ret ?_
          refine retOk_tmpE Try.results45 rfl (congrArg B ?_) rfl
          first | exact triv_no (hJ.all (by have h9 := ofNat_ge hc11; omega)) | exact triv_yes (con_yes hx hc29) | exact triv_yes (.inl ⟨_, List.mem_of_getElem? hx, taut_yes2 hb17 hc23⟩) | exact absurd hc23 Bool.false_ne_true
        · refine W_skip ?_
          refine W_region ?_
          first
            | refine st_op (opS_of (opP_add64 rfl rfl rfl (by omega))) rfl rfl rfl ?_
            | refine st_op (opS_of (opP_strAdd rfl rfl rfl (by assumption))) rfl rfl rfl ?_
            | refine st_op (opS_of (opP_add rfl rfl rfl)) rfl rfl rfl ?_
          refine st_op (opS_of (opP_move rfl rfl)) rfl rfl rfl ?_
          refine aOps_nil ?_
          have hta : Li.taut ⟨p, .mk f v ks, .mk g u ms⟩ = false := by first | exact taut_no1 hb17 | exact taut_no3 hc23
          refine ⟨k + 1, by (refine Ent.of ?_; repeat (first | (refine entOk_tm rfl ?_) | (refine entOk_ob rfl ?_) | exact entOk_nil | (refine entOk_Z rfl (by omega) ?_) | (refine entOk_Z rfl (by simp <;> omega) ?_) | (refine entOk_lst rfl (by assumption) ?_) | (refine entOk_lst rfl (fill_setE rfl (by assumption) (by assumption) rfl) ?_) | (refine entOk_lst rfl (by simp_all; done) ?_) | (refine entOk_var rfl (by simp_all; done) ?_))), hJ.next hx hta hc29, by omega, by omega⟩
    · refine st_skipJ rfl rfl rfl rfl ?_
      refine st_skipJ rfl rfl rfl rfl ?_
      refine st_skipJ rfl rfl rfl rfl ?_
      refine st_skipJ rfl rfl rfl rfl ?_
      refine st_skipJ rfl rfl rfl rfl ?_
      first
        | refine st_op (opS_of (opP_pickA rfl rfl rfl rfl)) rfl rfl rfl ?_
        | refine st_op (opS_of (opP_pickF rfl rfl rfl rfl)) rfl rfl rfl ?_
        | refine st_op (opS_of (opP_pickA rfl rfl (by assumption) rfl)) rfl rfl rfl ?_
        | refine st_op (opS_of (opP_pickF rfl rfl (by assumption) rfl)) rfl rfl rfl ?_
      refine aOps_nil ?_
      refine W_condF rfl ?_
      refine W_skip ?_
      refine W_seq ?_
      refine W_region ?_
      first
        | refine st_op (os_fieldAddrO tabOk rfl rfl rfl (by decide) rfl) rfl rfl rfl ?_
        | refine st_op (os_fieldAddrE tabOk rfl rfl rfl (by decide) rfl) rfl rfl rfl ?_
      first
        | refine st_op (os_loadO1 tabOk rfl rfl rfl rfl rfl rfl) rfl rfl rfl ?_
        | refine st_op (os_loadE1 tabOk rfl rfl rfl rfl rfl) rfl rfl rfl ?_
        | refine st_op (os_loadES tabOk rfl rfl rfl rfl rfl) rfl rfl rfl ?_
        | refine st_op (os_loadOS tabOk rfl rfl rfl rfl rfl (Nat.le_of_ble_eq_true rfl)) rfl rfl rfl ?_
        | refine st_op (os_loadES tabOk rfl rfl rfl rfl (by assumption)) rfl rfl rfl ?_
        | refine st_op (os_loadLS tabOk rfl rfl rfl rfl rfl (by assumption) rfl (by first | rfl | assumption)) rfl rfl rfl ?_
        | refine st_op (os_loadL1 (q := 0) tabOk rfl rfl rfl rfl rfl (by assumption) rfl rfl) rfl rfl rfl ?_
      refine st_op (opS_of (opP_move rfl rfl)) rfl rfl rfl ?_
      refine st_op (os_cutD (k := .i64) (k' := .i64) (l := 0) (h := k) tabOk rfl rfl rfl rfl rfl hes rfl (.inl ⟨rfl, rfl⟩) (.inr ⟨_, rfl, rfl⟩) (by omega) (by omega)) rfl rfl rfl ?_
      refine st_op (os_makeFunc (cap := [(Operand.tmp 6)]) rfl rfl) rfl rfl rfl ?_
      refine st_x (xop_ro' (c := .func 81) (ag := [.tmp 27, .tmp 28]) (vcall_fn hct Try.func81 rfl (by kernel_rfl)) rfl rfl rfl rfl ⟨rfl, trivial⟩) rfl ?_
      refine aOps_nil ?_
      refine W_cond rfl (fun hc29 => ?_) (fun hc29 => ?_)
      · refine W_seq ?_
        refine W_region ?_
        refine st_op (opS_of (opP_assign rfl rfl)) rfl rfl rfl ?_
        refine aOps_nil ?_
        refine W_ret ?_
        refine blockE_ret ?_
        refine blockE_ret ?_
        refine retE_ret ?_
        refine retOk_tmpE Try.results45 rfl (congrArg B ?_) rfl
        first | exact triv_no (hJ.all (by have h9 := ofNat_ge hc11; omega)) | exact triv_yes (con_yes hx hc29) | exact triv_yes (.inl ⟨_, List.mem_of_getElem? hx, taut_yes2 hb17 hc23⟩) | exact absurd hc23 Bool.false_ne_true
      · refine W_skip ?_
        refine W_region ?_
        first
          | refine st_op (opS_of (opP_add64 rfl rfl rfl (by omega))) rfl rfl rfl ?_
          | refine st_op (opS_of (opP_strAdd rfl rfl rfl (by assumption))) rfl rfl rfl ?_
          | refine st_op (opS_of (opP_add rfl rfl rfl)) rfl rfl rfl ?_
        refine st_op (opS_of (opP_move rfl rfl)) rfl rfl rfl ?_
        refine aOps_nil ?_
        have hta : Li.taut ⟨p, .mk f v ks, .mk g u ms⟩ = false := by first | exact taut_no1 hb17 | exact taut_no3 hc23
        refine ⟨k + 1, by (refine Ent.of ?_; repeat (first | (refine entOk_tm rfl ?_) | (refine entOk_ob rfl ?_) | exact entOk_nil | (refine entOk_Z rfl (by omega) ?_) | (refine entOk_Z rfl (by simp <;> omega) ?_) | (refine entOk_lst rfl (by assumption) ?_) | (refine entOk_lst rfl (fill_setE rfl (by assumption) (by assumption) rfl) ?_) | (refine entOk_lst rfl (by simp_all; done) ?_) | (refine entOk_var rfl (by simp_all; done) ?_))), hJ.next hx hta hc29, by omega, by omega⟩
  · refine W_exit ?_
    refine blockE_hit ?_
    refine W_seq ?_
    refine W_region ?_
    refine st_op (opS_of (opP_assign rfl rfl)) rfl rfl rfl ?_
    refine aOps_nil ?_
    refine W_ret ?_
    refine retE_ret ?_
    refine retOk_tmpE Try.results45 rfl (congrArg B ?_) rfl
    first | exact triv_no (hJ.all (by have h9 := ofNat_ge hc11; omega)) | exact triv_yes (con_yes hx hc29) | exact triv_yes (.inl ⟨_, List.mem_of_getElem? hx, taut_yes2 hb17 hc23⟩) | exact absurd hc23 Bool.false_ne_true

theorem trivial_law (ss : List Sy) (c : Cl) : ACall Try.prog 9 [L (Sy.das ss), .dat c.da] (B true) [] := by
  have h1 := szSymS_call ss 1048576 (by omega)
  have h2 := fun hc => szClause_call c (lft (Sy.cns ss) 1048576) hc
  have ha := toSymS_call ss
  have hb := toClause_call c
  have hg := implTrivial_call ss c
  have hw := specTrivial_call ss c
  have hea := eqSymS_call ss
  have heb := eqClause_call c
  have l1 := lft_le (n := Sy.cns ss) (l := 1048576) (by omega)
  have c1 : 0 ≤ lft (Sy.cns ss) 1048576 → Sy.cns ss ≤ 1048576 := by unfold lft; split <;> omega
  have c2 : 0 ≤ lft c.cn (lft (Sy.cns ss) 1048576) → c.cn ≤ 1048576 := by unfold lft; split <;> omega
  generalize Sy.cns ss = na at *
  generalize c.cn = nb at *
  generalize triv c.ls = cab at *
  obtain ⟨l⟩ := c
  refine acall_W Try.func9 rfl _ Try.ntmps9 (Nat.le_of_ble_eq_true rfl) fun w0 S0 => ?_
  refine W_seq ?_
  refine W_region ?_
  refine st_op (os_box rfl rfl rfl rfl rfl) rfl rfl rfl ?_
  refine st_op (opS_of (opP_assign rfl rfl)) rfl rfl rfl ?_
  refine aOps_nil ?_
  refine W_seq ?_
  refine W_region ?_
  refine st_op (opS_of (opP_assign rfl rfl)) rfl rfl rfl ?_
  refine aOps_nil ?_
  refine W_seq ?_
  refine W_region ?_
  refine st_op (opS_of (opP_move rfl rfl)) rfl rfl rfl ?_
  refine st_op (opS_of (opP_move rfl rfl)) rfl rfl rfl ?_
  refine st_op (os_call (ag := [(Operand.tmp 10), (Operand.tmp 11)]) (h1) Try.func42 rfl rfl rfl rfl) rfl rfl rfl ?_
  refine st_op (opS_of (opP_assign rfl rfl)) rfl rfl rfl ?_
  refine aOps_nil ?_
  refine W_seq ?_
  refine W_seq ?_
  refine W_region ?_
  refine st_op (opS_of (opP_move rfl rfl)) rfl rfl rfl ?_
  refine st_op (opS_of (opP_lss rfl rfl rfl)) rfl rfl rfl ?_
  refine aOps_nil ?_
  refine W_cond rfl (fun hc14 => ?_) (fun hc14 => ?_)
  · refine W_seq ?_
    refine W_region ?_
    refine st_op (opS_of (opP_assign rfl rfl)) rfl rfl rfl ?_
    refine aOps_nil ?_
    refine W_ret ?_
    refine retE_ret ?_
    exact retOk_tmpE Try.results9 rfl rfl rfl
  · refine W_skip ?_
    refine W_seq ?_
    refine W_region ?_
    first
      | refine st_op (os_loadO1 tabOk rfl rfl rfl rfl rfl rfl) rfl rfl rfl ?_
      | refine st_op (os_loadE1 tabOk rfl rfl rfl rfl rfl) rfl rfl rfl ?_
      | refine st_op (os_loadES tabOk rfl rfl rfl rfl rfl) rfl rfl rfl ?_
      | refine st_op (os_loadOS tabOk rfl rfl rfl rfl rfl (Nat.le_of_ble_eq_true rfl)) rfl rfl rfl ?_
      | refine st_op (os_loadES tabOk rfl rfl rfl rfl (by assumption)) rfl rfl rfl ?_
      | refine st_op (os_loadLS tabOk rfl rfl rfl rfl rfl (by assumption) rfl (by first | rfl | assumption)) rfl rfl rfl ?_
      | refine st_op (os_loadL1 (q := 0) tabOk rfl rfl rfl rfl rfl (by assumption) rfl rfl) rfl rfl rfl ?_
    refine st_op (opS_of (opP_move rfl rfl)) rfl rfl rfl ?_
    refine st_op (os_call (ag := [(Operand.tmp 15), (Operand.tmp 16)]) (h2 (by omega)) Try.func37 rfl rfl rfl rfl) rfl rfl rfl ?_
    refine st_op (opS_of (opP_assign rfl rfl)) rfl rfl rfl ?_
    refine aOps_nil ?_
    refine W_seq ?_
    refine W_seq ?_
    refine W_region ?_
    refine st_op (opS_of (opP_move rfl rfl)) rfl rfl rfl ?_
    refine st_op (opS_of (opP_lss rfl rfl rfl)) rfl rfl rfl ?_
    refine aOps_nil ?_
    refine W_cond rfl (fun hc19 => ?_) (fun hc19 => ?_)
    · refine W_seq ?_
      refine W_region ?_
      refine st_op (opS_of (opP_assign rfl rfl)) rfl rfl rfl ?_
      refine aOps_nil ?_
      refine W_ret ?_
      refine retE_ret ?_
      exact retOk_tmpE Try.results9 rfl rfl rfl
    · refine W_skip ?_
      refine W_seq ?_
      refine W_drawK mixed (by kernel_rfl) ?_
      refine pq_op (opS_of (opP_move rfl rfl)) rfl rfl rfl rfl rfl ?_
      refine pq_op (os_call (ag := [(Operand.tmp 20)]) (ha (c1 (by simpa using hc14))) Try.func44 rfl rfl rfl rfl) rfl rfl rfl rfl rfl ?_
      first
        | refine pq_op (os_loadO1 tabOk rfl rfl rfl rfl rfl rfl) rfl rfl rfl rfl rfl ?_
        | refine pq_op (os_loadE1 tabOk rfl rfl rfl rfl rfl) rfl rfl rfl rfl rfl ?_
        | refine pq_op (os_loadES tabOk rfl rfl rfl rfl rfl) rfl rfl rfl rfl rfl ?_
        | refine pq_op (os_loadOS tabOk rfl rfl rfl rfl rfl (Nat.le_of_ble_eq_true rfl)) rfl rfl rfl rfl rfl ?_
        | refine pq_op (os_loadES tabOk rfl rfl rfl rfl (by assumption)) rfl rfl rfl rfl rfl ?_
        | refine pq_op (os_loadLS tabOk rfl rfl rfl rfl rfl (by assumption) rfl (by first | rfl | assumption)) rfl rfl rfl rfl rfl ?_
        | refine pq_op (os_loadL1 (q := 0) tabOk rfl rfl rfl rfl rfl (by assumption) rfl rfl) rfl rfl rfl rfl rfl ?_
      refine pq_op (os_call (ag := [(Operand.tmp 22)]) (hb (c2 (by simpa using hc19))) Try.func39 rfl rfl rfl rfl) rfl rfl rfl rfl rfl ?_
      refine pq_op (os_call (ag := [(Operand.tmp 21), (Operand.tmp 23)]) (hw) Try.func43 rfl rfl rfl rfl) rfl rfl rfl rfl rfl ?_
      refine pq_op (opS_of (opP_assign rfl rfl)) rfl rfl rfl rfl rfl ?_
      refine pq_nil ?_
      refine W_seq ?_
      refine W_region ?_
      refine st_op (opS_of (opP_move rfl rfl)) rfl rfl rfl ?_
      refine st_op (os_call (ag := [(Operand.tmp 25)]) (ha (c1 (by simpa using hc14))) Try.func44 rfl rfl rfl rfl) rfl rfl rfl ?_
      refine st_op (opS_of (opP_assign rfl rfl)) rfl rfl rfl ?_
      refine aOps_nil ?_
      refine W_seq ?_
      refine W_region ?_
      first
        | refine st_op (os_loadO1 tabOk rfl rfl rfl rfl rfl rfl) rfl rfl rfl ?_
        | refine st_op (os_loadE1 tabOk rfl rfl rfl rfl rfl) rfl rfl rfl ?_
        | refine st_op (os_loadES tabOk rfl rfl rfl rfl rfl) rfl rfl rfl ?_
        | refine st_op (os_loadOS tabOk rfl rfl rfl rfl rfl (Nat.le_of_ble_eq_true rfl)) rfl rfl rfl ?_
        | refine st_op (os_loadES tabOk rfl rfl rfl rfl (by assumption)) rfl rfl rfl ?_
        | refine st_op (os_loadLS tabOk rfl rfl rfl rfl rfl (by assumption) rfl (by first | rfl | assumption)) rfl rfl rfl ?_
        | refine st_op (os_loadL1 (q := 0) tabOk rfl rfl rfl rfl rfl (by assumption) rfl rfl) rfl rfl rfl ?_
      refine st_op (os_call (ag := [(Operand.tmp 27)]) (hb (c2 (by simpa using hc19))) Try.func39 rfl rfl rfl rfl) rfl rfl rfl ?_
      refine st_op (os_alloc z68 rfl rfl) rfl rfl rfl ?_
      refine st_store tabOk rfl rfl rfl rfl rfl rfl rfl rfl rfl (Nat.le_of_ble_eq_true rfl) rfl ?_
      refine aOps_nil ?_
      refine W_seq ?_
      refine W_region ?_
      refine st_op (opS_of (opP_move rfl rfl)) rfl rfl rfl ?_
      first
        | refine st_op (os_loadO1 tabOk rfl rfl rfl rfl rfl rfl) rfl rfl rfl ?_
        | refine st_op (os_loadE1 tabOk rfl rfl rfl rfl rfl) rfl rfl rfl ?_
        | refine st_op (os_loadES tabOk rfl rfl rfl rfl rfl) rfl rfl rfl ?_
        | refine st_op (os_loadOS tabOk rfl rfl rfl rfl rfl (Nat.le_of_ble_eq_true rfl)) rfl rfl rfl ?_
        | refine st_op (os_loadES tabOk rfl rfl rfl rfl (by assumption)) rfl rfl rfl ?_
        | refine st_op (os_loadLS tabOk rfl rfl rfl rfl rfl (by assumption) rfl (by first | rfl | assumption)) rfl rfl rfl ?_
        | refine st_op (os_loadL1 (q := 0) tabOk rfl rfl rfl rfl rfl (by assumption) rfl rfl) rfl rfl rfl ?_
      refine st_op (os_call (ag := [(Operand.tmp 29), (Operand.tmp 30)]) (hg) Try.func45 rfl rfl rfl rfl) rfl rfl rfl ?_
      refine st_op (opS_of (opP_assign rfl rfl)) rfl rfl rfl ?_
      refine aOps_nil ?_
      refine W_seq ?_
      refine W_seq ?_
      refine W_region ?_
      refine st_op (opS_of (opP_move rfl rfl)) rfl rfl rfl ?_
      refine st_op (opS_of (opP_move rfl rfl)) rfl rfl rfl ?_
      first
        | refine st_op (opS_of (opP_neq rfl rfl rfl)) rfl rfl rfl ?_
        | refine st_op (opS_of (opP_strNe rfl rfl rfl)) rfl rfl rfl ?_
        | refine st_op (os_boolNe tabOk rfl rfl rfl rfl rfl) rfl rfl rfl ?_
      refine aOps_nil ?_
      refine W_cond rfl (fun hc34 => ?_) (fun hc34 => ?_)
      · simp at hc34
      · refine W_skip ?_
        refine W_seq ?_
        refine W_seq ?_
        refine W_region ?_
        refine st_op (opS_of (opP_move rfl rfl)) rfl rfl rfl ?_
        refine st_op (opS_of (opP_move rfl rfl)) rfl rfl rfl ?_
        refine st_op (os_call (ag := [(Operand.tmp 36)]) (ha (c1 (by simpa using hc14))) Try.func44 rfl rfl rfl rfl) rfl rfl rfl ?_
        refine st_op (os_call (ag := [(Operand.tmp 35), (Operand.tmp 37)]) (hea) Try.func46 rfl rfl rfl rfl) rfl rfl rfl ?_
        refine st_op (opS_of (opP_not rfl rfl)) rfl rfl rfl ?_
        refine aOps_nil ?_
        refine W_cond rfl (fun hc39 => ?_) (fun hc39 => ?_)
        · simp at hc39
        · refine W_skip ?_
          refine W_seq ?_
          refine W_seq ?_
          refine W_drawK mixed (by kernel_rfl) ?_
          first
            | refine pq_op (os_loadO1 tabOk rfl rfl rfl rfl rfl rfl) rfl rfl rfl rfl rfl ?_
            | refine pq_op (os_loadE1 tabOk rfl rfl rfl rfl rfl) rfl rfl rfl rfl rfl ?_
            | refine pq_op (os_loadES tabOk rfl rfl rfl rfl rfl) rfl rfl rfl rfl rfl ?_
            | refine pq_op (os_loadOS tabOk rfl rfl rfl rfl rfl (Nat.le_of_ble_eq_true rfl)) rfl rfl rfl rfl rfl ?_
            | refine pq_op (os_loadES tabOk rfl rfl rfl rfl (by assumption)) rfl rfl rfl rfl rfl ?_
            | refine pq_op (os_loadLS tabOk rfl rfl rfl rfl rfl (by assumption) rfl (by first | rfl | assumption)) rfl rfl rfl rfl rfl ?_
            | refine pq_op (os_loadL1 (q := 0) tabOk rfl rfl rfl rfl rfl (by assumption) rfl rfl) rfl rfl rfl rfl rfl ?_
          first
            | refine pq_op (os_loadO1 tabOk rfl rfl rfl rfl rfl rfl) rfl rfl rfl rfl rfl ?_
            | refine pq_op (os_loadE1 tabOk rfl rfl rfl rfl rfl) rfl rfl rfl rfl rfl ?_
            | refine pq_op (os_loadES tabOk rfl rfl rfl rfl rfl) rfl rfl rfl rfl rfl ?_
            | refine pq_op (os_loadOS tabOk rfl rfl rfl rfl rfl (Nat.le_of_ble_eq_true rfl)) rfl rfl rfl rfl rfl ?_
            | refine pq_op (os_loadES tabOk rfl rfl rfl rfl (by assumption)) rfl rfl rfl rfl rfl ?_
            | refine pq_op (os_loadLS tabOk rfl rfl rfl rfl rfl (by assumption) rfl (by first | rfl | assumption)) rfl rfl rfl rfl rfl ?_
            | refine pq_op (os_loadL1 (q := 0) tabOk rfl rfl rfl rfl rfl (by assumption) rfl rfl) rfl rfl rfl rfl rfl ?_
          refine pq_op (os_call (ag := [(Operand.tmp 41)]) (hb (c2 (by simpa using hc19))) Try.func39 rfl rfl rfl rfl) rfl rfl rfl rfl rfl ?_
          refine pq_op (os_call (ag := [(Operand.tmp 40), (Operand.tmp 42)]) (heb) Try.func41 rfl rfl rfl rfl) rfl rfl rfl rfl rfl ?_
          refine pq_op (opS_of (opP_not rfl rfl)) rfl rfl rfl rfl rfl ?_
          refine pq_nil ?_
          refine W_cond rfl (fun hc44 => ?_) (fun hc44 => ?_)
          · simp at hc44
          · refine W_skip ?_
            refine W_seq ?_
            refine W_region ?_
            refine st_op (opS_of (opP_assign rfl rfl)) rfl rfl rfl ?_
            refine aOps_nil ?_
            refine W_ret ?_
            refine retE_ret ?_
            exact retOk_tmpE Try.results9 rfl rfl rfl

end AM
end Go.Proofs.Ytfmfflfnkjoopaa
