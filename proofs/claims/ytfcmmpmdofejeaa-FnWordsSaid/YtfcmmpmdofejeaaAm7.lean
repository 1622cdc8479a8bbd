/- Regions whose order the machine draws: what their operations make does not hang on the order; no conditions. -/
import Derived.Test.YtfcmmpmdofejeaaAm6
set_option linter.unusedSimpArgs false
set_option linter.unusedVariables false
namespace Go.Proofs.Ytfcmmpmdofejeaa
namespace AM
open Go

/-- Some of the first n writers applied, each overwriting what those ahead wrote. -/
def fold {α : Type} (φ : Nat → Nat → Option α) (D : Nat → Bool) (g : Nat → α) : Nat → Nat → α
  | 0, t => g t
  | n + 1, t => match (if D n then φ n t else none) with
    | some v => v
    | none => fold φ D g n t

section
variable {α : Type} {φ : Nat → Nat → Option α} {g : Nat → α}
theorem fold_agree {D D' : Nat → Bool} {t : Nat} : ∀ n, (∀ j, j < n → φ j t ≠ none → D j = D' j) → fold φ D g n t = fold φ D' g n t := by
  intro n
  induction n with
  | zero => intro _; rfl
  | succ n ih =>
    intro h
    have ih' := ih fun j hj => h j (by omega)
    simp only [fold]
    cases hφ : φ n t with
    | none => simp [ih']
    | some v => rw [h n (by omega) (by simp [hφ]), ih']
theorem fold_prefix {t : Nat} (i : Nat) : ∀ n, i ≤ n → fold φ (fun j => decide (j < i)) g n t = fold φ (fun _ => true) g i t := by
  intro n
  induction n with
  | zero => intro h; have : i = 0 := by omega
            subst this; rfl
  | succ n ih =>
    intro h
    by_cases hi : i = n + 1
    · subst hi
      exact fold_agree _ fun j hj _ => by simp [hj]
    · have := ih (by omega)
      simp only [fold]
      have hf : decide (n < i) = false := by simp; omega
      simp [hf, this]
theorem fold_last {D : Nat → Bool} {t i : Nat} {v : α} (hD : D i = true) (hv : φ i t = some v) : ∀ n, i < n → (∀ j, i < j → j < n → φ j t ≠ none → D j = false) → fold φ D g n t = v := by
  intro n
  induction n with
  | zero => intro h; omega
  | succ n ih =>
    intro h hno
    simp only [fold]
    by_cases hi : i = n
    · subst hi; simp [hD, hv]
    · have ih' := ih (by omega) fun j h1 h2 => hno j h1 (by omega)
      cases hφ : φ n t with
      | none => simp [ih']
      | some u => simp [hno n (by omega) (by omega) (by simp [hφ]), ih']
theorem fold_from {D : Nat → Bool} {t : Nat} : ∀ n, fold φ D g n t = g t ∨ ∃ j, j < n ∧ D j = true ∧ φ j t = some (fold φ D g n t) := by
  intro n
  induction n with
  | zero => exact .inl rfl
  | succ n ih =>
    simp only [fold]
    cases hD : D n with
    | false =>
      simp only [Bool.false_eq_true, if_false]
      exact ih.imp id fun ⟨j, h1, h2, h3⟩ => ⟨j, by omega, h2, h3⟩
    | true =>
      cases hφ : φ n t with
      | some u => simp only [if_true]; exact .inr ⟨n, by omega, hD, hφ⟩
      | none => simp only [if_true]; exact ih.imp id fun ⟨j, h1, h2, h3⟩ => ⟨j, by omega, h2, h3⟩
end

inductive Eff where
  | run (y : AV) (nob : List (Nat × Ob))
  | skip

def Eff.val : Eff → Option AV
  | .run y _ => some y
  | .skip => some (.tup [])
def Eff.nob : Eff → List (Nat × Ob)
  | .run _ nob => nob
  | .skip => []

def opTmps (o : Oper) : List Nat := o.op.operands.toList.filterMap fun | .tmp t => some t | _ => none
def guardTmp (ops : Array Oper) (o : Oper) : List Nat := match o.guard with
  | some (j, _) => ((ops[j]?).bind (·.dst)).toList
  | none => []
def namesOf (ops : Array Oper) (o : Oper) : List Nat := o.dst.toList ++ opTmps o ++ guardTmp ops o

/-- Does j stand ahead of i, by the edges that bind? -/
def reach (ops : Array Oper) : Nat → Nat → Nat → Bool
  | 0, _, _ => false
  | f + 1, i, j => match ops[i]? with
    | none => false
    | some o => o.after.any fun e => Region.binds .any e && (e.on == j || reach ops f e.on j)

/-- Whatever two operations share is ordered. -/
def drawOk (ops : Array Oper) : Bool :=
  (List.range ops.size).all fun i => match ops[i]? with
    | none => true
    | some oi => oi.after.all (fun e => !Region.binds .any e || decide (e.on < i)) && (List.range ops.size).all fun j => match ops[j]? with
      | none => true
      | some oj => !decide (j < i) || ((oj.dst.toList.all fun t => !(namesOf ops oi).contains t) && (oi.dst.toList.all fun t => !(namesOf ops oj).contains t)) || reach ops ops.size i j

def idsOk (s0 : St) (y : AV) (nob : List (Nat × Ob)) : Bool :=
  y.ids.all (fun o => (idsTm s0.tm).contains o || (idsOb s0.ob).contains o || (nob.map (·.1)).contains o) &&
  nob.all fun p => p.2.ids.all fun o => (idsTm s0.tm).contains o || (idsOb s0.ob).contains o || (nob.map (·.1)).contains o

/-- The operations in the order of the text, and what each makes. -/
inductive PRun (Γ : Cx) (P : Program) (ops : Array Oper) (s0 : St) : List Oper → St → List Eff → St → Prop
  | nil {s} : PRun Γ P ops s0 [] s [] s
  | run {o rest s y nob us es s'} : (o.guard = none ∨ ∃ j want d, o.guard = some (j, want) ∧ (ops[j]?).bind (·.dst) = some d ∧ s.get d = some (B want)) → OpP P o s.ev us y nob → (∀ p ∈ us, s0.gob p.1 = some p.2) → s.fresh nob = true → s0.fresh nob = true →
      o.dst.all (· < Γ.n) = true → idsOk s0 y nob = true → PRun Γ P ops s0 rest (s.upd o.dst y nob) es s' → PRun Γ P ops s0 (o :: rest) s (.run y nob :: es) s'
  | skip {o rest s j want d es s'} : o.guard = some (j, want) → (ops[j]?).bind (·.dst) = some d → (s.get d = some (B (!want)) ∨ s.get d = some (.tup [])) → o.dst.all (· < Γ.n) = true → PRun Γ P ops s0 rest (s.upd o.dst (.tup []) []) es s' → PRun Γ P ops s0 (o :: rest) s (.skip :: es) s'
  | same {l s d x es s'} : s.get d = some x → PRun Γ P ops s0 l (s.upd (some d) x []) es s' → PRun Γ P ops s0 l s es s'

def evF (g : Nat → Option AV) : Operand → Option AV
  | .tmp t => g t
  | .const v => constAV v
  | .func f => some (.one (.d (.fn f)))
  | .global _ => none

/-- What is known of operation i, in the order of the text. -/
structure Fact (Γ : Cx) (P : Program) (ops : Array Oper) (s0 : St) (g : Nat → Option AV) (T : Nat → Option Ob) (o : Oper) (e : Eff) : Prop where
  run : ∀ y nob, e = .run y nob → (o.guard = none ∨ ∃ j want d, o.guard = some (j, want) ∧ (ops[j]?).bind (·.dst) = some d ∧ g d = some (B want)) ∧ (∃ us, OpP P o (evF g) us y nob ∧ ∀ p ∈ us, s0.gob p.1 = some p.2) ∧
    (∀ p ∈ nob, T p.1 = none) ∧ s0.fresh nob = true ∧ o.dst.all (· < Γ.n) = true ∧ idsOk s0 y nob = true
  skip : e = .skip → ∃ j want d, o.guard = some (j, want) ∧ (ops[j]?).bind (·.dst) = some d ∧ (g d = some (B (!want)) ∨ g d = some (.tup [])) ∧ o.dst.all (· < Γ.n) = true

def phiT (l : List Oper) (es : List Eff) (j t : Nat) : Option (Option AV) := match l[j]?, es[j]? with
  | some o, some e => if o.dst = some t then some e.val else none
  | _, _ => none
def phiO (es : List Eff) (j o : Nat) : Option (Option Ob) := match es[j]? with
  | some e => match look e.nob o with
    | some X => some (some X)
    | none => none
  | none => none

theorem fold_shift {α : Type} (φ φ' : Nat → Nat → Option α) (g g' : Nat → α) (h1 : ∀ j t, φ (j + 1) t = φ' j t) (h0 : ∀ t, (match φ 0 t with | some v => v | none => g t) = g' t) : ∀ n t, fold φ (fun _ => true) g (n + 1) t = fold φ' (fun _ => true) g' n t := by
  intro n
  induction n with
  | zero => intro t; simp only [fold, if_true]; exact h0 t
  | succ n ih =>
    intro t
    rw [fold]
    simp only [if_true, h1]
    cases hφ : φ' n t with
    | some v => simp [fold, hφ]
    | none => simp only [fold, hφ, if_true]; rw [← ih]; rfl

theorem evF_get (s : St) : evF s.get = s.ev := by funext x; cases x <;> rfl

theorem PRun.facts {Γ : Cx} {P : Program} {ops : Array Oper} {s0 : St} {l : List Oper} {s s' : St} {es : List Eff} (h : PRun Γ P ops s0 l s es s') :
    es.length = l.length ∧ (s'.get = fold (phiT l es) (fun _ => true) s.get l.length) ∧ (s'.gob = fold (phiO es) (fun _ => true) s.gob l.length) ∧
    ∀ i o e, l[i]? = some o → es[i]? = some e → Fact Γ P ops s0 (fold (phiT l es) (fun _ => true) s.get i) (fold (phiO es) (fun _ => true) s.gob i) o e := by
  induction h with
  | nil => exact ⟨rfl, rfl, rfl, by simp⟩
  | @run o rest s y nob us es s' hg hop hus hf hf0 hd hid _ ih =>
    obtain ⟨h1, h2, h3, h4⟩ := ih
    have sh1 : ∀ n t, fold (phiT (o :: rest) (.run y nob :: es)) (fun _ => true) s.get (n + 1) t = fold (phiT rest es) (fun _ => true) (s.upd o.dst y nob).get n t :=
      fold_shift _ _ _ _ (fun j t => rfl) fun t => by
        rw [get_upd]
        by_cases hh : o.dst = some t <;> simp [phiT, hh, Eff.val]
    have sh2 : ∀ n t, fold (phiO (.run y nob :: es)) (fun _ => true) s.gob (n + 1) t = fold (phiO es) (fun _ => true) (s.upd o.dst y nob).gob n t :=
      fold_shift _ _ _ _ (fun j t => rfl) fun t => by
        rw [gob_upd]
        cases hh : look nob t <;> simp [phiO, Eff.nob, hh]
    refine ⟨by simp [h1], ?_, ?_, fun i o' e hi he => ?_⟩
    · rw [h2]; funext t; exact (sh1 _ t).symm
    · rw [h3]; funext t; exact (sh2 _ t).symm
    · cases i with
      | zero =>
        simp at hi he
        subst hi; subst he
        refine ⟨fun y' nob' e => ?_, fun e => by cases e⟩
        cases e
        refine ⟨hg, ⟨us, ?_, hus⟩, fun p hp => ?_, hf0, hd, hid⟩
        · show OpP P o (evF s.get) us y nob
          rw [evF_get]; exact hop
        · show s.gob p.1 = none
          cases hX : s.gob p.1 with
          | none => rfl
          | some X => exact absurd rfl ((fresh_ob hf hX).1 p hp)
      | succ i =>
        have hh := h4 i o' e (by simpa using hi) (by simpa using he)
        have e1 : fold (phiT (o :: rest) (.run y nob :: es)) (fun _ => true) s.get (i + 1) = fold (phiT rest es) (fun _ => true) (s.upd o.dst y nob).get i := funext (sh1 i)
        have e2 : fold (phiO (.run y nob :: es)) (fun _ => true) s.gob (i + 1) = fold (phiO es) (fun _ => true) (s.upd o.dst y nob).gob i := funext (sh2 i)
        rw [e1, e2]; exact hh
  | @same l s d x es s' hx _ ih =>
    have e1 : (s.upd (some d) x []).get = s.get := funext fun i => by
      rw [get_upd]
      split
      · rename_i e; simp at e; subst e; exact hx.symm
      · rfl
    have e2 : (s.upd (some d) x []).gob = s.gob := funext fun i => by rw [gob_upd]; simp [look]
    rw [e1, e2] at ih
    exact ih
  | @skip o rest s j want d es s' hg hj hs hd _ ih =>
    obtain ⟨h1, h2, h3, h4⟩ := ih
    have sh1 : ∀ n t, fold (phiT (o :: rest) (.skip :: es)) (fun _ => true) s.get (n + 1) t = fold (phiT rest es) (fun _ => true) (s.upd o.dst (.tup []) []).get n t :=
      fold_shift _ _ _ _ (fun j t => rfl) fun t => by
        rw [get_upd]
        by_cases hh : o.dst = some t <;> simp [phiT, hh, Eff.val]
    have sh2 : ∀ n t, fold (phiO (.skip :: es)) (fun _ => true) s.gob (n + 1) t = fold (phiO es) (fun _ => true) (s.upd o.dst (.tup []) []).gob n t :=
      fold_shift _ _ _ _ (fun j t => rfl) fun t => by
        rw [gob_upd]; simp [phiO, Eff.nob, look]
    refine ⟨by simp [h1], ?_, ?_, fun i o' e hi he => ?_⟩
    · rw [h2]; funext t; exact (sh1 _ t).symm
    · rw [h3]; funext t; exact (sh2 _ t).symm
    · cases i with
      | zero =>
        simp at hi he
        subst hi; subst he
        exact ⟨fun y' nob' e => (by cases e), fun _ => ⟨j, want, d, hg, hj, hs, hd⟩⟩
      | succ i =>
        have hh := h4 i o' e (by simpa using hi) (by simpa using he)
        have e1 : fold (phiT (o :: rest) (.skip :: es)) (fun _ => true) s.get (i + 1) = fold (phiT rest es) (fun _ => true) (s.upd o.dst (.tup []) []).get i := funext (sh1 i)
        have e2 : fold (phiO (.skip :: es)) (fun _ => true) s.gob (i + 1) = fold (phiO es) (fun _ => true) (s.upd o.dst (.tup []) []).gob i := funext (sh2 i)
        rw [e1, e2]; exact hh

/-- What has run is closed under 'ahead of'. -/
def Closed (ops : Array Oper) (D : Nat → Bool) : Prop := ∀ i o, D i = true → ops[i]? = some o → ∀ e ∈ o.after, Region.binds .any e = true → D e.on = true

theorem reach_closed {ops : Array Oper} {D : Nat → Bool} (hc : Closed ops D) : ∀ (f i j : Nat), reach ops f i j = true → (∀ o, ops[i]? = some o → ∀ e ∈ o.after, Region.binds .any e = true → D e.on = true) → D j = true := by
  intro f
  induction f with
  | zero => intro i j h; simp [reach] at h
  | succ f ih =>
    intro i j h hp
    simp only [reach] at h
    split at h
    · simp at h
    · rename_i o ho
      obtain ⟨e, he, hb⟩ := Array.any_eq_true'.1 h
      simp only [Bool.and_eq_true, Bool.or_eq_true, beq_iff_eq] at hb
      have hD := hp o ho e he hb.1
      rcases hb.2 with rfl | hr
      · exact hD
      · exact ih e.on j hr fun o' ho' e' he' hb' => hc e.on o' hD ho' e' he' hb'

theorem mem_opTmps {o : Oper} {t : Nat} (h : Operand.tmp t ∈ o.op.operands) : t ∈ opTmps o := by
  simp only [opTmps, List.mem_filterMap]
  exact ⟨.tmp t, by simpa using h, rfl⟩

theorem SimF.dropF {Γ : Cx} {g : Nat → Option AV} {T : Nat → Option Ob} {a : Act} {w : World} {S : Nat → Prop} {β : Nat → OLoc} {dst : Option Nat} (h : SimF Γ g T a w S β) : SimF Γ (fun i => if dst = some i then none else g i) T (a.put dst undef) w S β := by
  refine ⟨?_, ?_, ?_, h.mem⟩
  · cases dst <;> simp [Act.put, h.defers]
  · cases dst <;> simp [Act.put, h.sz]
  · intro i x hi
    by_cases hdi : dst = some i
    · rw [if_pos hdi] at hi; simp at hi
    · rw [if_neg hdi] at hi
      obtain ⟨u, hu, hr⟩ := h.tm i x hi
      refine ⟨u, ?_, hr⟩
      cases dst with
      | none => exact hu
      | some d =>
        simp only [Act.put]
        rw [Array.getElem?_setIfInBounds_ne (fun e => hdi (by rw [e]))]
        exact hu

theorem look_some_of_mem {p : Nat × Ob} : ∀ (r : List (Nat × Ob)), p ∈ r → look r p.1 ≠ none := by
  intro r
  induction r with
  | nil => simp
  | cons q r ih =>
    intro hq
    simp only [look]
    split
    · simp
    · rename_i hne
      rcases List.mem_cons.1 hq with rfl | hq
      · simp at hne
      · exact ih hq

/-- A region of drawn order, by its run in the order of the text. -/
theorem awp_draw {Γ : Cx} {P : Program} {l : List Oper} {s s' : St} {es : List Eff} {id : Nat} {Q : Exit → St → Prop} (hm : P.follows .mixedOrders = true) (hok : drawOk l.toArray = true) (hrun : PRun Γ P l.toArray s l s es s') (hQ : Q .normal s') : awp Γ P (.region id l.toArray true) Q s := by
  intro a w S β hs
  obtain ⟨hel, hget, hgob, hfact⟩ := hrun.facts
  have hn : l.toArray.size = l.length := by simp
  simp only [drawOk, List.all_eq_true, List.mem_range, hn] at hok
  -- what the check says
  have hlow : ∀ (i : Nat) (o : Oper), l[i]? = some o → ∀ e ∈ o.after, Region.binds .any e = true → e.on < i := by
    intro i o hi e he hb
    have h1 := hok i (List.getElem?_eq_some_iff.1 hi).1
    simp only [List.getElem?_toArray, hi, Bool.and_eq_true] at h1
    have h2 := Array.all_eq_true_iff_forall_mem.1 h1.1 e he
    simpa [hb] using h2
  have hord : ∀ (i j : Nat) (oi oj : Oper), l[i]? = some oi → l[j]? = some oj → j < i → ((∃ t, oj.dst = some t ∧ t ∈ namesOf l.toArray oi) ∨ ∃ t, oi.dst = some t ∧ t ∈ namesOf l.toArray oj) → reach l.toArray l.length i j = true := by
    intro i j oi oj hi hj hji hsh
    have h1 := hok i (List.getElem?_eq_some_iff.1 hi).1
    simp only [List.getElem?_toArray, hi, Bool.and_eq_true, List.all_eq_true, List.mem_range] at h1
    have h2 := h1.2 j (List.getElem?_eq_some_iff.1 hj).1
    simp only [hj, Bool.or_eq_true, Bool.not_eq_true', decide_eq_false_iff_not, Bool.and_eq_true, List.all_eq_true, List.contains_eq_mem] at h2
    rcases h2 with (h2 | h2) | h2
    · exact absurd hji h2
    · exfalso
      rcases hsh with ⟨t, ht, hm⟩ | ⟨t, ht, hm⟩
      · exact h2.1 t (by simp [ht]) hm
      · exact h2.2 t (by simp [ht]) hm
    · exact h2
  let φ := phiT l es
  let ψ := phiO es
  have hφ : ∀ j t, φ j t ≠ none → ∃ o, l[j]? = some o ∧ o.dst = some t := by
    intro j t h
    simp only [φ, phiT] at h
    split at h
    · rename_i o e ho he
      split at h
      · rename_i hd; exact ⟨o, ho, hd⟩
      · exact absurd rfl h
    · exact absurd rfl h
  -- keys of new objects
  have hkey : ∀ (i : Nat) (e : Eff), es[i]? = some e → ∀ p ∈ e.nob, s.fresh e.nob = true ∧ ∀ j e', es[j]? = some e' → j ≠ i → look e'.nob p.1 = none := by
    have hlt : ∀ (i j : Nat) (e e' : Eff), es[i]? = some e → es[j]? = some e' → j < i → ∀ p ∈ e.nob, look e'.nob p.1 = none := by
      intro i j e e' he he' hji p hp
      cases e with
      | skip => simp [Eff.nob] at hp
      | run y nob =>
        have hil : i < l.length := by rw [← hel]; exact (List.getElem?_eq_some_iff.1 he).1
        have hf := (hfact i _ _ (List.getElem?_eq_getElem hil) he).run y nob rfl
        have hT := hf.2.2.1 p hp
        cases hlk : look e'.nob p.1 with
        | none => rfl
        | some X =>
          exfalso
          have : fold ψ (fun _ => true) s.gob i p.1 ≠ none := by
            intro hnone
            rcases fold_from (φ := ψ) (g := s.gob) (D := fun _ => true) (t := p.1) i with h | ⟨q, hq, _, hq2⟩
            · have h2 : fold ψ (fun _ => true) s.gob i p.1 ≠ s.gob p.1 ∨ True := .inr trivial
              -- the last writer is j or a later one; either way some object stands there
              have hψ : ∀ m, j < m → m ≤ i → fold ψ (fun _ => true) s.gob m p.1 ≠ none := by
                intro m hjm
                induction m with
                | zero => omega
                | succ m ih =>
                  intro hmi
                  simp only [fold, if_true]
                  cases hψm : ψ m p.1 with
                  | some v =>
                    simp only [ψ, phiO] at hψm
                    split at hψm
                    · split at hψm
                      · simp at hψm; subst hψm; simp
                      · simp at hψm
                    · simp at hψm
                  | none =>
                    by_cases hmj : m = j
                    · subst hmj
                      simp [ψ, phiO, he', hlk] at hψm
                    · exact ih (by omega) (by omega)
              exact hψ i hji (Nat.le_refl i) hnone
            · rw [hnone] at hq2
              simp only [ψ, phiO] at hq2
              split at hq2
              · split at hq2 <;> simp at hq2
              · simp at hq2
          exact this hT
    intro i e he p hp
    refine ⟨?_, fun j e' he' hji => ?_⟩
    · cases e with
      | skip => simp [Eff.nob] at hp
      | run y nob =>
        have hil : i < l.length := by rw [← hel]; exact (List.getElem?_eq_some_iff.1 he).1
        exact ((hfact i _ _ (List.getElem?_eq_getElem hil) he).run y nob rfl).2.2.2.1
    · rcases Nat.lt_or_ge j i with h | h
      · exact hlt i j e e' he he' h p hp
      · cases hlk : look e'.nob p.1 with
        | none => rfl
        | some X =>
          exfalso
          have h1 := hlt j i e' e he' he (by omega) (p.1, X) (look_mem hlk)
          have h2 : look e.nob p.1 ≠ none := by
            intro h3
            have : ∀ (r : List (Nat × Ob)), p ∈ r → look r p.1 ≠ none := by
              intro r
              induction r with
              | nil => simp
              | cons q r ih =>
                intro hq
                simp only [look]
                split
                · simp
                · rename_i hne
                  rcases List.mem_cons.1 hq with rfl | hq
                  · simp at hne
                  · exact ih hq
            exact this _ hp h3
          exact h2 h1
  refine wp_region_any hm ?_
  have hcontains : ∀ {L : List Nat} {o : Nat}, L.contains o = true → o ∈ L := by intro L o h; simpa using h
  -- the end
  have hdone : ∀ (listed : Array Bool) (a : Act) (w : World) (S : Nat → Prop) (β : Nat → OLoc), (∀ j, j < l.length → listed.getD j false = true) →
      SimF Γ (fold φ (fun j => listed.getD j false) s.get l.length) (fold ψ (fun j => listed.getD j false) s.gob l.length) a w S β → ∃ s' S' β', Q .normal s' ∧ Sim Γ s' a w S' β' := by
    intro listed a w S β hall hsim
    refine ⟨s', S, β, hQ, ?_⟩
    rw [Sim, hget, hgob]
    have e1 : fold φ (fun j => listed.getD j false) s.get l.length = fold φ (fun _ => true) s.get l.length := funext fun t => fold_agree _ fun j hj _ => hall j hj
    have e2 : fold ψ (fun j => listed.getD j false) s.gob l.length = fold ψ (fun _ => true) s.gob l.length := funext fun t => fold_agree _ fun j hj _ => hall j hj
    rw [← e1, ← e2]
    exact hsim
  have hready : ∀ (listed : Array Bool), listed.size = l.length → Region.ready .any l.toArray listed = [] → ∀ j, j < l.length → listed.getD j false = true := by
    intro listed hsz hr j hj
    apply Classical.byContradiction
    intro hne
    obtain ⟨m, ⟨hm1, hm2⟩, hmin⟩ := least (fun j => j < l.length ∧ listed.getD j false ≠ true) ⟨j, hj, hne⟩
    have hmem : m ∈ Region.ready .any l.toArray listed := by
      rw [mem_ready]
      refine ⟨?_, l[m], by simp [hm1], fun e he hb => ?_⟩
      · have : m < listed.size := by omega
        simp only [Array.getD_eq_getD_getElem?, Array.getElem?_eq_getElem this, Option.getD_some] at hm2 ⊢
        simpa using hm2
      · have hlt := hlow m l[m] (List.getElem?_eq_getElem hm1) e he hb
        apply Classical.byContradiction
        intro hn2
        have := hmin e.on ⟨by omega, hn2⟩
        omega
    rw [hr] at hmem
    simp at hmem
  -- the walk, in whatever order
  have key : ∀ (fuel : Nat) (listed : Array Bool) (a : Act) (w : World) (S : Nat → Prop) (β : Nat → OLoc), listed.size = l.length → Closed l.toArray (fun j => listed.getD j false) →
      SimF Γ (fold φ (fun j => listed.getD j false) s.get l.length) (fold ψ (fun j => listed.getD j false) s.gob l.length) a w S β → (((List.range l.length).filter fun j => !listed.getD j false).length ≤ fuel) →
      wpAny P .any l.toArray (fun e a' w' => ∃ s' S' β', Q e s' ∧ Sim Γ s' a' w' S' β') fuel listed a w := by
    intro fuel
    induction fuel with
    | zero =>
      intro listed a w S β hsz hc hsim hfu
      have hall : ∀ j, j < l.length → listed.getD j false = true := by
        intro j hj
        have := List.eq_nil_of_length_eq_zero (Nat.le_zero.1 hfu)
        rw [List.filter_eq_nil_iff] at this
        simpa using this j (by simpa using hj)
      refine ⟨?_, hdone listed a w S β hall hsim⟩
      simp only [Region.ready]
      rw [List.filter_eq_nil_iff]
      intro j hj
      simp only [List.mem_range, hn] at hj
      have h1 := hall j hj
      have h2 : listed.getD j true = true := by
        simp only [Array.getD_eq_getD_getElem?] at h1 ⊢
        cases hx : listed[j]? with
        | none => rw [hx] at h1; simp at h1
        | some b => rw [hx] at h1; simpa using h1
      simp [h2]
    | succ fuel ih =>
      intro listed a w S β hsz hc hsim hfu
      refine ⟨fun hr => hdone listed a w S β (hready listed hsz hr) hsim, fun i hi => ?_⟩
      rw [mem_ready] at hi
      obtain ⟨hil, o, ho, hpre⟩ := hi
      have ho' : l[i]? = some o := by simpa using ho
      have hin : i < l.length := (List.getElem?_eq_some_iff.1 ho').1
      have hisz : i < listed.size := by omega
      have hDi : listed.getD i false = false := by
        simp only [Array.getD_eq_getD_getElem?, Array.getElem?_eq_getElem hisz, Option.getD_some] at hil ⊢
        exact hil
      obtain ⟨e, he⟩ : ∃ e, es[i]? = some e := ⟨es[i]'(by omega), List.getElem?_eq_getElem (by omega)⟩
      have hF := hfact i o e ho' he
      have hpre' : ∀ o', l.toArray[i]? = some o' → ∀ e ∈ o'.after, Region.binds .any e = true → listed.getD e.on false = true := by
        intro o' h; rw [ho] at h; simp at h; subst h; exact hpre
      -- what i names stands as in the text's order
      have hname : ∀ t ∈ namesOf l.toArray o, fold φ (fun j => listed.getD j false) s.get l.length t = fold φ (fun _ => true) s.get i t := by
        intro t ht
        rw [← fold_prefix i l.length (by omega)]
        refine fold_agree _ fun j hj hjt => ?_
        obtain ⟨oj, hoj, hdj⟩ := hφ j t hjt
        rcases Nat.lt_trichotomy j i with h | h | h
        · have := hord i j o oj ho' hoj h (.inl ⟨t, hdj, ht⟩)
          have hD := reach_closed hc _ i j this hpre'
          simp only [h, decide_true]; exact hD
        · subst h; simp only [Nat.lt_irrefl, decide_false]; exact hDi
        · have hr := hord j i oj o hoj ho' h (.inr ⟨t, hdj, ht⟩)
          have : decide (j < i) = false := by simp; omega
          rw [this]
          cases hDj : listed.getD j false with
          | false => rfl
          | true =>
            exfalso
            have : listed.getD i false = true := reach_closed hc _ j i hr fun o'' ho'' e' he' hb' => hc j o'' hDj ho'' e' he' hb'
            rw [hDi] at this
            cases this
      -- the set that has run, with i
      have hset : ∀ j, (listed.setIfInBounds i true).getD j false = if j = i then true else listed.getD j false := by
        intro j
        by_cases h : j = i
        · subst h; simp [Array.getD_eq_getD_getElem?, hisz]
        · simp only [Array.getD_eq_getD_getElem?, if_neg h]; rw [Array.getElem?_setIfInBounds_ne (Ne.symm h)]
      have hfoldT : fold φ (fun j => (listed.setIfInBounds i true).getD j false) s.get l.length = fun t => if o.dst = some t then e.val else fold φ (fun j => listed.getD j false) s.get l.length t := by
        funext t
        by_cases ht : o.dst = some t
        · rw [if_pos ht]
          refine fold_last (i := i) (by rw [hset]; simp) (by simp [φ, phiT, ho', he, ht]) _ hin fun j hij hjn hjt => ?_
          rw [hset, if_neg (by omega)]
          obtain ⟨oj, hoj, hdj⟩ := hφ j t hjt
          have hr := hord j i oj o hoj ho' hij (.inl ⟨t, ht, by simp [namesOf, hdj]⟩)
          cases hDj : listed.getD j false with
          | false => rfl
          | true =>
            exfalso
            have : listed.getD i false = true := reach_closed hc _ j i hr fun o'' ho'' e' he' hb' => hc j o'' hDj ho'' e' he' hb'
            rw [hDi] at this
            cases this
        · rw [if_neg ht]
          refine fold_agree _ fun j hj hjt => ?_
          rw [hset]
          by_cases hji : j = i
          · subst hji
            obtain ⟨oj, hoj, hdj⟩ := hφ j t hjt
            rw [ho'] at hoj; simp at hoj; subst hoj
            exact absurd hdj ht
          · rw [if_neg hji]
      have hfoldO : fold ψ (fun j => (listed.setIfInBounds i true).getD j false) s.gob l.length = fun q => (look e.nob q).or (fold ψ (fun j => listed.getD j false) s.gob l.length q) := by
        funext q
        cases hq : look e.nob q with
        | some X =>
          simp only [Option.some_or]
          refine fold_last (i := i) (by rw [hset]; simp) (by simp [ψ, phiO, he, hq]) _ hin fun j hij hjn hjt => ?_
          exfalso
          simp only [ψ, phiO] at hjt
          split at hjt
          · rename_i e' he'
            have := (hkey i e he (q, X) (look_mem hq)).2 j e' he' (by omega)
            dsimp only at this
            rw [this] at hjt
            simp at hjt
          · exact hjt rfl
        | none =>
          simp only [Option.none_or]
          refine fold_agree _ fun j hj hjt => ?_
          rw [hset]
          by_cases hji : j = i
          · subst hji
            exfalso
            simp [ψ, phiO, he, hq] at hjt
          · rw [if_neg hji]
      have hclosed' : Closed l.toArray (fun j => (listed.setIfInBounds i true).getD j false) := by
        intro j oj hj hoj e' he' hb'
        dsimp only at hj ⊢
        rw [hset] at hj ⊢
        by_cases hji : j = i
        · subst hji
          have := hpre' oj hoj e' he' hb'
          rw [this]; simp
        · rw [if_neg hji] at hj
          have := hc j oj hj hoj e' he' hb'
          dsimp only at this
          rw [this]; simp
      have hfuel' : ((List.range l.length).filter fun j => !(listed.setIfInBounds i true).getD j false).length ≤ fuel := by
        have h1 : ((List.range l.length).filter fun j => !(listed.setIfInBounds i true).getD j false) = ((List.range l.length).filter fun j => !listed.getD j false).filter (· != i) := by
          rw [List.filter_filter]
          apply List.filter_congr
          intro j hj
          rw [hset]
          by_cases h : j = i
          · subst h; simp
          · simp [h]
        rw [h1]
        have h2 : i ∈ (List.range l.length).filter fun j => !listed.getD j false := List.mem_filter.2 ⟨List.mem_range.2 hin, by rw [hDi]; rfl⟩
        have h3 : ∀ (L : List Nat), i ∈ L → (L.filter (· != i)).length < L.length := by
          intro L hL
          have := List.length_filter_lt_length_iff_exists (p := (· != i)) (l := L)
          exact this.2 ⟨i, hL, by simp⟩
        have := h3 _ h2
        omega
      have hsize' : (listed.setIfInBounds i true).size = l.length := by simpa using hsz
      unfold wpOp
      simp only [ho]
      have hyield : ∀ (j : Nat) (d : Nat) (b want : Bool), o.guard = some (j, want) → (l.toArray[j]?).bind (·.dst) = some d → fold φ (fun _ => true) s.get i d = some (B b) → yielded l.toArray a.tmps j = some b := by
        intro j d b want hg hj hv
        have hmem : d ∈ namesOf l.toArray o := by simp only [namesOf, guardTmp, hg, hj]; simp
        rw [← hname d hmem] at hv
        obtain ⟨v, hv1, hv2⟩ := hsim.tm d _ hv
        rw [hv2.bool_inv] at hv1
        simp only [yielded, hj, Option.bind_some, hv1]
      cases e with
      | skip =>
        obtain ⟨j, want, d, hg, hj, hv, hd⟩ := hF.skip rfl
        have hw : Region.wanted o (yielded l.toArray a.tmps) = false := by
          rcases hv with hv | hv
          · have hy := hyield j d _ want hg hj hv
            simp only [Region.wanted, hg, hy]; cases want <;> rfl
          · have hmem : d ∈ namesOf l.toArray o := by simp only [namesOf, guardTmp, hg, hj]; simp
            rw [← hname d hmem] at hv
            obtain ⟨v, hv1, hv2⟩ := hsim.tm d _ hv
            obtain ⟨us, rfl, hu⟩ := hv2.tup_inv
            cases hu
            have hyl : yielded l.toArray a.tmps j = none := by simp only [yielded, hj, Option.bind_some, hv1]
            simp only [Region.wanted, hg, hyl]; rfl
        rw [hw, if_neg (by simp)]
        refine ih _ _ _ S β hsize' hclosed' ?_ hfuel'
        rw [hfoldT, hfoldO]
        have := (Grow.refl hsim.mem.lt).sim (v := undef) (y := .tup []) (by simp) (RepVs.tup .nil .nil) hsim hd (by simp) (by simp)
        simpa [Eff.val, Eff.nob, look] using this
      | run y nob =>
        obtain ⟨hg, ⟨us, hop, hus⟩, _, hf0, hd, hid⟩ := hF.run y nob rfl
        have hw : Region.wanted o (yielded l.toArray a.tmps) = true := by
          rcases hg with hg | ⟨j, want, d, hg, hj, hv⟩
          · simp [Region.wanted, hg]
          · have hy := hyield j d _ want hg hj hv
            simp [Region.wanted, hg, hy]
        rw [hw, if_pos rfl]
        left
        simp only [idsOk, Bool.and_eq_true, List.all_eq_true] at hid
        have hfr : ∀ p ∈ nob, p.1 ∉ idsTm s.tm ∧ p.1 ∉ idsOb s.ob := by
          intro p hp
          simp only [St.fresh, List.all_eq_true, Bool.and_eq_true, Bool.not_eq_true', List.contains_eq_mem, decide_eq_false_iff_not, decide_eq_true_eq] at hf0
          exact (hf0 p hp).1
        have hother : ∀ (j : Nat) (e' : Eff), es[j]? = some e' → listed.getD j false = true → ∀ p ∈ nob, ∀ p' ∈ e'.nob, p'.1 ≠ p.1 := by
          intro j e' he' hDj p hp p' hp' heq
          have hji : j ≠ i := by rintro rfl; rw [hDi] at hDj; cases hDj
          have h1 := (hkey i _ he p hp).2 j e' he' hji
          rw [← heq] at h1
          exact look_some_of_mem _ hp' h1
        refine hop a w S β hsim.mem.lt (fun x X hx hxm => ?_) (fun p hp => ?_) _ _ fun v w' S' β' hG hy => ?_
        · cases x with
          | tmp t =>
            have hmem : t ∈ namesOf l.toArray o := by simp only [namesOf, List.mem_append]; exact .inl (.inr (mem_opTmps hxm))
            simp only [evF] at hx
            rw [← hname t hmem] at hx
            obtain ⟨v, hv, hr⟩ := hsim.tm t X hx
            have : a.eval (.tmp t) = v := by simp [Act.eval, Array.getD_eq_getD_getElem?, hv]
            rw [this]; exact hr
          | const v => exact constAV_rep hx
          | func f => simp only [evF, Option.some.injEq] at hx; subst hx; exact RepV.one (.d (.fn_ f))
          | global g => simp [evF] at hx
        · refine hsim.mem.ob p.1 p.2 ?_
          rcases fold_from (φ := ψ) (g := s.gob) (D := fun j => listed.getD j false) (t := p.1) l.length with h | ⟨j, hj, hDj, hψj⟩
          · rw [h]; exact hus p hp
          · exfalso
            simp only [ψ, phiO] at hψj
            split at hψj
            · rename_i e' he'
              split at hψj
              · rename_i X hX
                have hfr2 := (hkey j e' he' (p.1, X) (look_mem hX)).1
                exact (fresh_ob hfr2 (hus p hp)).1 (p.1, X) (look_mem hX) rfl
              · cases hψj
            · cases hψj
        · refine ih _ _ _ S' β' hsize' hclosed' ?_ hfuel'
          rw [hfoldT, hfoldO]
          refine hG.sim (fresh_lt hf0) hy hsim hd (fun t x hx q hq p hp heq => ?_) (fun q X hX => ?_)
          · rcases fold_from (φ := φ) (g := s.get) (D := fun j => listed.getD j false) (t := t) l.length with h | ⟨j, hj, hDj, hφj⟩
            · rw [h] at hx
              exact (hfr p hp).1 (heq ▸ ids_of_get hx q hq)
            · rw [hx] at hφj
              simp only [φ, phiT] at hφj
              split at hφj
              · rename_i oj ej hoj hej
                split at hφj
                · simp at hφj
                  cases ej with
                  | skip =>
                    simp [Eff.val] at hφj
                    subst hφj
                    simp [AV.ids, AV.idsT] at hq
                  | run yj nobj =>
                    simp [Eff.val] at hφj
                    subst hφj
                    have hidj := ((hfact j oj _ hoj hej).run _ nobj rfl).2.2.2.2.2
                    simp only [idsOk, Bool.and_eq_true, List.all_eq_true] at hidj
                    have := hidj.1 q hq
                    simp only [Bool.or_eq_true] at this
                    rcases this with (h1 | h1) | h1
                    · exact (hfr p hp).1 (heq ▸ hcontains h1)
                    · exact (hfr p hp).2 (heq ▸ hcontains h1)
                    · obtain ⟨p', hp', he'⟩ := List.mem_map.1 (hcontains h1)
                      exact hother j _ hej hDj p hp p' hp' (he'.trans heq.symm)
                · cases hφj
              · cases hφj
          · rcases fold_from (φ := ψ) (g := s.gob) (D := fun j => listed.getD j false) (t := q) l.length with h | ⟨j, hj, hDj, hψj⟩
            · rw [h] at hX
              obtain ⟨m1, m2⟩ := ids_of_gob hX
              exact ⟨fun p hp heq => (hfr p hp).2 (heq ▸ m1), fun q' hq' p hp heq => (hfr p hp).2 (heq ▸ m2 q' hq')⟩
            · rw [hX] at hψj
              simp only [ψ, phiO] at hψj
              split at hψj
              · rename_i ej hej
                split at hψj
                · rename_i Y hY
                  simp at hψj
                  subst hψj
                  refine ⟨fun p hp heq => hother j _ hej hDj p hp _ (look_mem hY) heq.symm, fun q' hq' p hp heq => ?_⟩
                  cases ej with
                  | skip => simp [Eff.nob, look] at hY
                  | run yj nobj =>
                    have hjl : j < l.length := hj
                    have hidj := ((hfact j _ _ (List.getElem?_eq_getElem hjl) hej).run _ nobj rfl).2.2.2.2.2
                    simp only [idsOk, Bool.and_eq_true, List.all_eq_true] at hidj
                    have := hidj.2 (q, Y) (look_mem hY) q' hq'
                    simp only [Bool.or_eq_true] at this
                    rcases this with (h1 | h1) | h1
                    · exact (hfr p hp).1 (heq ▸ hcontains h1)
                    · exact (hfr p hp).2 (heq ▸ hcontains h1)
                    · obtain ⟨p', hp', he'⟩ := List.mem_map.1 (hcontains h1)
                      exact hother j _ hej hDj p hp p' hp' (he'.trans heq.symm)
                · cases hψj
              · cases hψj
  have h0 : ∀ j, (Array.replicate l.length false).getD j false = false := by
    intro j
    simp only [Array.getD_eq_getD_getElem?, Array.getElem?_replicate]
    split <;> rfl
  have e1 : fold φ (fun j => (Array.replicate l.length false).getD j false) s.get l.length = s.get := by
    funext t
    rw [fold_agree (D' := fun j => decide (j < 0)) _ (fun j _ _ => by rw [h0]; simp), fold_prefix 0 _ (Nat.zero_le _)]; rfl
  have e2 : fold ψ (fun j => (Array.replicate l.length false).getD j false) s.gob l.length = s.gob := by
    funext t
    rw [fold_agree (D' := fun j => decide (j < 0)) _ (fun j _ _ => by rw [h0]; simp), fold_prefix 0 _ (Nat.zero_le _)]; rfl
  rw [hn]
  refine key l.length (Array.replicate l.length false) a _ S β (by simp) (fun i o h => by dsimp only at h; rw [h0] at h; cases h) ?_ (Nat.le_trans (List.length_filter_le _ _) (by simp))
  rw [e1, e2]
  exact ⟨hs.defers, hs.sz, fun i x hi => by
    obtain ⟨v, hv, hr⟩ := hs.tm i x hi
    exact ⟨v, hv, hr.mono (fun _ _ => rfl) (fun _ h => h) fun _ _ => rfl⟩,
    ⟨hs.mem.lt, fun o X ho => (hs.mem.ob o X ho).mono (fun _ _ => rfl) (fun _ _ => rfl) (fun _ h => h) fun _ _ => rfl, hs.mem.own, hs.mem.sep, hs.mem.os, hs.mem.tape, hs.mem.output, hs.mem.size, hs.mem.block, hs.mem.sub, hs.mem.sup, hs.mem.fix, hs.mem.clm, hs.mem.sepc⟩⟩

end AM
end Go.Proofs.Ytfcmmpmdofejeaa
