/- Two structs of single cells held against each other; no conditions. -/
import Derived.Test.YtfcmmpmdofejeaaEv0
import Derived.Laws.StructEq
set_option linter.unusedSimpArgs false
set_option linter.unusedVariables false
namespace Go.Proofs.Ytfcmmpmdofejeaa
namespace AM
open Go

def eqDa : Da → Da → Option Bool
  | .int k m, .int k' n => if k = k' then some (decide (m = n)) else none
  | .bool b, .bool c => some (decide (b = c))
  | .str p, .str q => some (decide (p = q))
  | _, _ => none
def eqDas : List Da → List Da → Option Bool
  | [], [] => some true
  | [x], [y] => eqDa x y
  | x :: xs, y :: ys => match eqDa x y, eqDas xs ys with
    | some a, some b => some (a && b)
    | _, _ => none
  | _, _ => none
def fldOk (P : Program) (t : TypeId) : Bool := match P.underlying t with
  | some (.int _) => true
  | some .bool => true
  | some .string => true
  | _ => false
def fldsOk (P : Program) : List Field → Nat → Bool
  | [], _ => true
  | f :: r, i => f.name != "_" && (f.offset == i && (fldOk P f.type && fldsOk P r (i + 1)))
/-- A struct whose fields are single cells. -/
def eqOk (P : Program) (t : TypeId) : Bool := match P.underlying t with
  | some (.struct fs) => !P.stoodInHeld t && (!P.eqGuardType P.depth t && fldsOk P fs.toList 0)
  | _ => false

theorem eqDa_run {P : Program} {w : World} {S S' : Nat → Prop} {x y : Da} {u v : Value} {b : Bool} {t : TypeId} {d : Nat} (hx : RepDs w S [x] [u]) (hy : RepDs w S' [y] [v]) (h : eqDa x y = some b) (hf : fldOk P t = true) : (Op.equalIn (d + 1) t u v).run P w = .ok b w ∨ ¬ (∃ k m, x = .int k m ∧ ∃ k', P.underlying t = some (.int k')) ∧ ¬ (∃ c, x = .bool c ∧ P.underlying t = some .bool) ∧ ¬ (∃ q, x = .str q ∧ P.underlying t = some .string) := by
  unfold eqDa at h
  split at h
  · rename_i k m k' n
    split at h
    · rename_i hk
      subst hk
      simp at h
      subst h
      rw [hx.int_inv, hy.int_inv]
      by_cases hu : ∃ k', P.underlying t = some (.int k')
      · obtain ⟨k', hu⟩ := hu
        left
        rw [run_equalIn_int w d t k k' m n hu]
        congr 1
      · exact .inr ⟨fun ⟨_, _, _, hh⟩ => hu hh, fun ⟨_, e, _⟩ => (by cases e), fun ⟨_, e, _⟩ => (by cases e)⟩
    · simp at h
  · rename_i p q
    simp at h
    subst h
    rw [hx.bool_inv, hy.bool_inv]
    by_cases hu : P.underlying t = some .bool
    · left
      rw [run_equalIn_bool' w d t p q hu]
      congr 1
    · exact .inr ⟨fun ⟨_, _, e, _⟩ => (by cases e), fun ⟨_, _, e⟩ => hu e, fun ⟨_, e, _⟩ => (by cases e)⟩
  · rename_i p q
    simp at h
    subst h
    rw [hx.str_inv.1, hy.str_inv.1]
    by_cases hu : P.underlying t = some .string
    · left
      rw [run_equalIn_string w d t p q hu, ← beq_toListBytes]
      congr 1
      by_cases e : p = q
      · subst e; rw [beq_toListBytes]; simp
      · simp only [e, decide_false]
        rw [beq_toListBytes]
        simp only [beq_eq_false_iff_ne, ne_eq]
        intro h
        rw [ByteArray.toList_eq, ByteArray.toList_eq] at h
        exact e (ByteArray.ext (Array.ext' h))
    · exact .inr ⟨fun ⟨_, _, e, _⟩ => (by cases e), fun ⟨_, e, _⟩ => (by cases e), fun ⟨_, _, e⟩ => hu e⟩
  · simp at h

/-- The kinds of the cells fit the fields' types. -/
def fitsD (P : Program) : List Field → List Da → Bool
  | [], [] => true
  | f :: r, .int _ _ :: xs => (match P.underlying f.type with | some (.int _) => true | _ => false) && fitsD P r xs
  | f :: r, .bool _ :: xs => (match P.underlying f.type with | some .bool => true | _ => false) && fitsD P r xs
  | f :: r, .str _ :: xs => (match P.underlying f.type with | some .string => true | _ => false) && fitsD P r xs
  | _, _ => false
theorem fits_one {P : Program} {f : Field} {r : List Field} {x : Da} {xs : List Da} (h : fitsD P (f :: r) (x :: xs) = true) : fitsD P r xs = true ∧ ((∃ k m, x = .int k m ∧ ∃ k', P.underlying f.type = some (.int k')) ∨ (∃ c, x = .bool c ∧ P.underlying f.type = some .bool) ∨ (∃ q, x = .str q ∧ P.underlying f.type = some .string)) := by
  cases x with
  | int k m =>
    simp only [fitsD, Bool.and_eq_true] at h
    refine ⟨h.2, .inl ⟨k, m, rfl, ?_⟩⟩
    have := h.1
    split at this
    · rename_i k' hk; exact ⟨k', hk⟩
    · simp at this
  | bool c =>
    simp only [fitsD, Bool.and_eq_true] at h
    refine ⟨h.2, .inr (.inl ⟨c, rfl, ?_⟩)⟩
    have := h.1
    split at this
    · assumption
    · simp at this
  | str q =>
    simp only [fitsD, Bool.and_eq_true] at h
    refine ⟨h.2, .inr (.inr ⟨q, rfl, ?_⟩)⟩
    have := h.1
    split at this
    · assumption
    · simp at this
  | sl _ => simp [fitsD] at h
  | fn _ => simp [fitsD] at h
  | tg _ _ => simp [fitsD] at h

theorem eqFields_run {P : Program} {w : World} {S S' : Nat → Prop} {d : Nat} : ∀ (fs : List Field) (k : Nat) (xs ys : List Da) (us vs : List Value) (U V : Array Value) (b : Bool), fldsOk P fs k = true → fitsD P fs xs = true → eqDas xs ys = some b → RepDs w S xs us → RepDs w S' ys vs → (∀ i : Nat, U[k + i]? = us[i]?) → (∀ i : Nat, V[k + i]? = vs[i]?) →
    (Op.eqFields (d + 1) U V fs).run P w = .ok b w := by
  intro fs
  induction fs with
  | nil =>
    intro k xs ys us vs U V b _ hfit he _ _ _ _
    cases xs with
    | nil => cases ys <;> simp [eqDas] at he; subst he; simp [Op.eqFields]
    | cons x r => cases x <;> simp [fitsD] at hfit
  | cons f fs ih =>
    intro k xs ys us vs U V b hok hfit he hx hy hU hV
    simp only [fldsOk, Bool.and_eq_true, bne_iff_ne, ne_eq, beq_iff_eq] at hok
    obtain ⟨hn, ho, ht, hok⟩ := hok
    cases xs with
    | nil => simp [fitsD] at hfit
    | cons x xs =>
      obtain ⟨hfit, hk⟩ := fits_one hfit
      cases ys with
      | nil => cases xs <;> simp [eqDas] at he
      | cons y ys =>
        obtain ⟨u, us', rfl, hu, hus⟩ := hx.cons_inv
        obtain ⟨v, vs', rfl, hv, hvs⟩ := hy.cons_inv
        have hna : ∃ d, P.underlying f.type = some d ∧ aggD d = false := by
          unfold fldOk at ht
          split at ht
          · rename_i e; exact ⟨_, e, rfl⟩
          · rename_i e; exact ⟨_, e, rfl⟩
          · rename_i e; exact ⟨_, e, rfl⟩
          · simp at ht
        obtain ⟨dd, hd, hag⟩ := hna
        have hpU : (part f.type U f.offset).run P w = .ok u w := by
          have := hU 0
          simp only [Nat.add_zero, List.getElem?_cons_zero] at this
          simp [part, run_isAgg hd, hag, ho, this]
        have hpV : (part f.type V f.offset).run P w = .ok v w := by
          have := hV 0
          simp only [Nat.add_zero, List.getElem?_cons_zero] at this
          simp [part, run_isAgg hd, hag, ho, this]
        have hb : ∃ b1, eqDa x y = some b1 ∧ ((xs = [] ∧ ys = [] ∧ b = b1) ∨ ∃ b2, eqDas xs ys = some b2 ∧ b = (b1 && b2)) := by
          cases xs with
          | nil => cases ys with
            | nil => simp only [eqDas] at he; exact ⟨b, he, .inl ⟨rfl, rfl, rfl⟩⟩
            | cons _ _ =>
              simp only [eqDas] at he
              split at he
              · rename_i h1 h2; simp [eqDas] at h2
              · simp at he
          | cons x2 xs2 =>
            simp only [eqDas] at he
            split at he
            · rename_i b1 b2 h1 h2; simp at he; exact ⟨b1, h1, .inr ⟨b2, h2, he.symm⟩⟩
            · simp at he
        obtain ⟨b1, hb1, hb⟩ := hb
        have hrun : (Op.equalIn (d + 1) f.type u v).run P w = .ok b1 w := by
          rcases eqDa_run (d := d) hu hv hb1 ht with h | ⟨n1, n2, n3⟩
          · exact h
          · rcases hk with hk | hk | hk
            · exact absurd hk n1
            · exact absurd hk n2
            · exact absurd hk n3
        have hrest : b1 = true → (Op.eqFields (d + 1) U V fs).run P w = .ok b w := by
          intro hb1t
          have hU' : ∀ i : Nat, U[(k + 1) + i]? = us'[i]? := fun i => by have := hU (i + 1); simp at this; rw [← this]; congr 1; omega
          have hV' : ∀ i : Nat, V[(k + 1) + i]? = vs'[i]? := fun i => by have := hV (i + 1); simp at this; rw [← this]; congr 1; omega
          rcases hb with ⟨rfl, rfl, rfl⟩ | ⟨b2, h2, rfl⟩
          · subst hb1t
            exact ih (k + 1) [] [] us' vs' U V true hok hfit rfl hus hvs hU' hV'
          · subst hb1t
            exact ih (k + 1) xs ys us' vs' U V _ hok hfit (by simpa using h2) hus hvs hU' hV'
        simp only [Op.eqFields, hn, ne_eq, not_false_eq_true, if_true, Sem.run_bind, hpU, hpV, Result.andThen_ok, hrun, Sem.run_ite]
        cases b1 with
        | true => simpa using hrest rfl
        | false =>
          have : b = false := by
            rcases hb with ⟨_, _, h⟩ | ⟨b2, _, h⟩
            · exact h
            · simpa using h
          simp [this]

theorem opP_structEq {P : Program} {o : Oper} {av : Operand → Option AV} {x y : Operand} {t t' : TypeId} {fs : Array Field} {xs ys : List Da} {b : Bool} (ho : o.op = .binOp .eql t x y t') (hok : eqOk P t = true) (ht : P.underlying t = some (.struct fs)) (hfit : fitsD P fs.toList xs = true) (hx : av x = some (.dat xs)) (hy : av y = some (.dat ys)) (he : eqDas xs ys = some b) : OpP P o av [] (B b) [] := by
  refine opP_val fun a w S β _ hr _ => ⟨.bool b, ?_, RepV.bool _⟩
  obtain ⟨us, e1, h1⟩ := (hr x _ hx (by simp [ho, Op.operands])).dat_inv
  obtain ⟨vs, e2, h2⟩ := (hr y _ hy (by simp [ho, Op.operands])).dat_inv
  simp only [eqOk, ht, Bool.and_eq_true, Bool.not_eq_true'] at hok
  have hff : P.fieldsOf t = fs := by simp [Program.fieldsOf, ht]
  have hrun : (Op.equalIn 10000 t (.agg us.toArray) (.agg vs.toArray)).run P w = .ok b w := by
    rw [show (10000 : Nat) = 9999 + 1 from rfl, run_equalIn_agg w 9999 t _ _ (by rw [hff]; exact ht) hok.1, hff]
    exact eqFields_run (d := 9998) fs.toList 0 xs ys us vs _ _ b hok.2.2 hfit he h1 h2 (by simp) (by simp)
  simp [execOp, ho, e1, e2, run_eqGuard_agg w .eql t x y _ _ hok.2.1, run_eql_struct, hrun]

end AM
end Go.Proofs.Ytfcmmpmdofejeaa
