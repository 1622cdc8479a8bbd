/- An abstract state of a frame, what it says of the machine, and the rules by which code is walked over it; no conditions. -/
import Derived.Test.YtfcmmpmdofejeaaAm1
namespace Go.Proofs.Ytfcmmpmdofejeaa
namespace AM
open Go

/-- What is known of the slots, and of the objects of the call's own. -/
structure St where
  tm : List (Nat × AV)
  ob : List (Nat × Ob)

def look {α : Type} (l : List (Nat × α)) (i : Nat) : Option α :=
  match l with
  | [] => none
  | (k, x) :: r => if k == i then some x else look r i

def St.get (s : St) (i : Nat) : Option AV := look s.tm i
def St.gob (s : St) (o : Nat) : Option Ob := look s.ob o

def without {α : Type} (l : List (Nat × α)) (i : Nat) : List (Nat × α) :=
  match l with
  | [] => []
  | (k, x) :: r => if k == i then without r i else (k, x) :: without r i

def only {α : Type} (l : List (Nat × α)) (ks : List Nat) : List (Nat × α) :=
  match l with
  | [] => []
  | (k, x) :: r => if ks.contains k then (k, x) :: only r ks else only r ks

def St.drop (s : St) : Option Nat → St
  | some d => { s with tm := without s.tm d }
  | none => s

def St.upd (s : St) (dst : Option Nat) (y : AV) (nob : List (Nat × Ob)) : St :=
  { tm := match dst with | some d => (d, y) :: s.tm | none => s.tm, ob := nob ++ s.ob }

def idsTm : List (Nat × AV) → List Nat
  | [] => []
  | (_, x) :: r => x.ids ++ idsTm r
def idsOb : List (Nat × Ob) → List Nat
  | [] => []
  | (k, x) :: r => k :: (x.ids ++ idsOb r)

/-- None of these numbers is an object's, or is spoken of. -/
def St.fresh (s : St) (nob : List (Nat × Ob)) : Bool := nob.all fun p => !(idsTm s.tm).contains p.1 && !(idsOb s.ob).contains p.1 && decide (p.1 < 2000)

theorem look_append {α : Type} (l r : List (Nat × α)) (i : Nat) : look (l ++ r) i = (look l i).or (look r i) := by
  induction l with
  | nil => simp [look]
  | cons p l ih =>
    simp only [List.cons_append, look]
    split
    · simp
    · exact ih

theorem look_mem {α : Type} {l : List (Nat × α)} {i : Nat} {x : α} (h : look l i = some x) : (i, x) ∈ l := by
  induction l with
  | nil => simp [look] at h
  | cons p l ih =>
    obtain ⟨k, y⟩ := p
    simp only [look] at h
    split at h
    · rename_i hk; simp at hk h; subst hk; subst h; exact List.mem_cons_self ..
    · exact List.mem_cons_of_mem _ (ih h)

theorem look_none_of {α : Type} {l : List (Nat × α)} {i : Nat} (h : ∀ p ∈ l, p.1 ≠ i) : look l i = none := by
  induction l with
  | nil => rfl
  | cons p l ih =>
    obtain ⟨k, y⟩ := p
    simp only [look]
    rw [if_neg (by have := h (k, y) (List.mem_cons_self ..); simpa using this)]
    exact ih fun q hq => h q (List.mem_cons_of_mem _ hq)

theorem look_without {α : Type} (l : List (Nat × α)) (i j : Nat) : look (without l i) j = if i = j then none else look l j := by
  induction l with
  | nil => simp [without, look]
  | cons p l ih =>
    obtain ⟨k, y⟩ := p
    simp only [without]
    by_cases hk : k = i
    · subst hk
      simp only [beq_self_eq_true, if_true, ih]
      by_cases hj : k = j <;> simp [look, hj]
    · rw [if_neg (by simpa using hk)]
      simp only [look, ih]
      by_cases hj : k = j
      · subst hj; simp [Ne.symm hk]
      · simp [hj]

theorem look_only {α : Type} (l : List (Nat × α)) (ks : List Nat) (j : Nat) {x : α} (h : look (only l ks) j = some x) : look l j = some x := by
  induction l with
  | nil => simp [only, look] at h
  | cons p l ih =>
    obtain ⟨k, y⟩ := p
    simp only [only] at h
    by_cases hk : ks.contains k = true
    · rw [if_pos hk] at h
      simp only [look] at h ⊢
      split at h
      · rename_i e; rw [if_pos e]; exact h
      · rename_i e; rw [if_neg e]; exact ih h
    · rw [if_neg hk] at h
      simp only [look]
      by_cases e : (k == j) = true
      · exfalso
        have hx := look_mem h
        have : ∀ q ∈ only l ks, ks.contains q.1 = true := by
          intro q hq
          clear h ih hx
          induction l with
          | nil => simp [only] at hq
          | cons p l ih =>
            simp only [only] at hq
            split at hq
            · rename_i hc
              rcases List.mem_cons.1 hq with rfl | hq
              · exact hc
              · exact ih hq
            · exact ih hq
        have := this _ hx
        simp at e
        subst e
        exact hk this
      · rw [if_neg e]; exact ih h

theorem ids_of_get {s : St} {i : Nat} {x : AV} (h : s.get i = some x) : ∀ o ∈ x.ids, o ∈ idsTm s.tm := by
  intro o ho
  have hm := look_mem h
  generalize s.tm = l at hm
  induction l with
  | nil => simp at hm
  | cons p l ih =>
    simp only [idsTm, List.mem_append]
    rcases List.mem_cons.1 hm with rfl | hm
    · exact .inl ho
    · exact .inr (ih hm)

theorem ids_of_gob {s : St} {i : Nat} {x : Ob} (h : s.gob i = some x) : i ∈ idsOb s.ob ∧ ∀ o ∈ x.ids, o ∈ idsOb s.ob := by
  have hm := look_mem h
  generalize s.ob = l at hm
  induction l with
  | nil => simp at hm
  | cons p l ih =>
    simp only [idsOb, List.mem_append, List.mem_cons]
    rcases List.mem_cons.1 hm with rfl | hm
    · exact ⟨.inl rfl, fun o ho => .inr (.inl ho)⟩
    · obtain ⟨h1, h2⟩ := ih hm
      exact ⟨.inr (.inr h1), fun o ho => .inr (.inr (h2 o ho))⟩

/-- What a call stands in: how many slots, and the world, the data's blocks and the objects handed in as it began. -/
structure Cx where
  n : Nat
  w0 : World
  S0 : Nat → Prop
  pass : Nat → Prop
  fix : Nat → OLoc → Prop
  pc : Nat → Prop

structure Mem (Γ : Cx) (T : Nat → Option Ob) (w : World) (S : Nat → Prop) (β : Nat → OLoc) : Prop where
  lt : ∀ b, S b → b < w.heap.size
  ob : ∀ o X, T o = some X → ObRep w S β (β o) X
  own : ∀ o X, T o = some X → ∀ b, (β o).Own b → b < w.heap.size ∧ ¬ S b ∧ (Γ.w0.heap.size ≤ b ∨ Γ.pass b)
  sep : ∀ o o' X X', T o = some X → T o' = some X' → ∀ b, (β o).Own b → (β o').Own b → o = o'
  os : w.os = Γ.w0.os
  tape : w.tape = Γ.w0.tape
  output : w.output = Γ.w0.output
  size : Γ.w0.heap.size ≤ w.heap.size
  block : ∀ b, b < Γ.w0.heap.size → ¬ Γ.pass b → w.heap[b]? = Γ.w0.heap[b]?
  sub : ∀ b, Γ.S0 b → S b
  sup : ∀ b, S b → Γ.S0 b ∨ Γ.w0.heap.size ≤ b ∨ Γ.pass b
  fix : ∀ o l, Γ.fix o l → 2000 ≤ o ∧ β o = l
  clm : ∀ o X, T o = some X → ∀ b ∈ (β o).clm, S b ∧ (Γ.w0.heap.size ≤ b ∨ Γ.pass b ∨ Γ.pc b)
  sepc : ∀ o o' X X', T o = some X → T o' = some X' → ∀ b ∈ (β o).clm, b ∈ (β o').clm → o = o'

structure SimF (Γ : Cx) (g : Nat → Option AV) (T : Nat → Option Ob) (a : Act) (w : World) (S : Nat → Prop) (β : Nat → OLoc) : Prop where
  defers : a.defers = []
  sz : a.tmps.size = Γ.n
  tm : ∀ i x, g i = some x → ∃ v, a.tmps[i]? = some v ∧ RepV w S β x v
  mem : Mem Γ T w S β

abbrev Sim (Γ : Cx) (s : St) := SimF Γ s.get s.gob

theorem SimF.weaken {Γ : Cx} {g g' : Nat → Option AV} {T T' : Nat → Option Ob} {a : Act} {w : World} {S : Nat → Prop} {β : Nat → OLoc} (h : SimF Γ g T a w S β)
    (hg : ∀ i x, g' i = some x → g i = some x) (hT : ∀ o X, T' o = some X → T o = some X) : SimF Γ g' T' a w S β :=
  ⟨h.defers, h.sz, fun i x hi => h.tm i x (hg i x hi), ⟨h.mem.lt, fun o X ho => h.mem.ob o X (hT o X ho), fun o X ho => h.mem.own o X (hT o X ho),
    fun o o' X X' ho ho' => h.mem.sep o o' X X' (hT o X ho) (hT o' X' ho'), h.mem.os, h.mem.tape, h.mem.output, h.mem.size, h.mem.block, h.mem.sub, h.mem.sup, h.mem.fix,
    fun o X ho => h.mem.clm o X (hT o X ho), fun o o' X X' ho ho' => h.mem.sepc o o' X X' (hT o X ho) (hT o' X' ho')⟩⟩

/-- What one operation that writes nothing old may do to the world. -/
structure Grow (w : World) (S : Nat → Prop) (β : Nat → OLoc) (nob : List (Nat × Ob)) (w' : World) (S' : Nat → Prop) (β' : Nat → OLoc) : Prop where
  os : w'.os = w.os
  tape : w'.tape = w.tape
  output : w'.output = w.output
  size : w.heap.size ≤ w'.heap.size
  block : ∀ b, b < w.heap.size → w'.heap[b]? = w.heap[b]?
  sub : ∀ b, S b → S' b
  sup : ∀ b, S' b → b < w'.heap.size ∧ (S b ∨ w.heap.size ≤ b)
  loc : ∀ o, (∀ p ∈ nob, p.1 ≠ o) → β' o = β o
  ob : ∀ p ∈ nob, ObRep w' S' β' (β' p.1) p.2
  own : ∀ p ∈ nob, ∀ b, (β' p.1).Own b → w.heap.size ≤ b ∧ b < w'.heap.size ∧ ¬ S' b
  sep : ∀ p ∈ nob, ∀ q ∈ nob, ∀ b, (β' p.1).Own b → (β' q.1).Own b → p.1 = q.1
  clm : ∀ p ∈ nob, ∀ b ∈ (β' p.1).clm, S' b ∧ w.heap.size ≤ b
  sepc : ∀ p ∈ nob, ∀ q ∈ nob, ∀ b ∈ (β' p.1).clm, b ∈ (β' q.1).clm → p.1 = q.1

theorem Grow.refl {w : World} {S : Nat → Prop} {β : Nat → OLoc} (h : ∀ b, S b → b < w.heap.size) : Grow w S β [] w S β :=
  ⟨rfl, rfl, rfl, Nat.le_refl _, fun _ _ => rfl, fun _ h => h, fun b hb => ⟨h b hb, .inl hb⟩, fun _ _ => rfl, by simp, by simp, by simp, by simp, by simp⟩

def constAt : Value → Option At
  | .int k n => some (.d (.int k n))
  | .bool b => some (.d (.bool b))
  | .string s => if s.size ≤ 281474976710656 then some (.d (.str s)) else none
  | .slice none 0 0 => some .e0
  | .pointer none => some .junk
  | _ => none

def constAV (v : Value) : Option AV := (constAt v).map .one

def St.ev (s : St) : Operand → Option AV
  | .tmp t => s.get t
  | .const v => constAV v
  | .func f => some (.one (.d (.fn f)))
  | .global _ => none

theorem constAV_rep {w : World} {S : Nat → Prop} {β : Nat → OLoc} {v : Value} {x : AV} (h : constAV v = some x) : RepV w S β x v := by
  unfold constAV at h
  cases hc : constAt v with
  | none => simp [hc] at h
  | some y =>
    simp only [hc, Option.map_some, Option.some.injEq] at h
    subst h
    refine RepV.one ?_
    unfold constAt at hc
    split at hc <;> simp at hc
    · subst hc; exact .d (.int_ _ _)
    · subst hc; exact .d (.bool_ _)
    · obtain ⟨h1, rfl⟩ := hc; exact .d (.str_ _ h1)
    · subst hc; exact .e0
    · subst hc; exact .junk

theorem SimF.eval {Γ : Cx} {s : St} {T : Nat → Option Ob} {a : Act} {w : World} {S : Nat → Prop} {β : Nat → OLoc} (h : SimF Γ s.get T a w S β) {x : Operand} {X : AV} (hx : s.ev x = some X) : RepV w S β X (a.eval x) := by
  cases x with
  | tmp t =>
    obtain ⟨v, hv, hr⟩ := h.tm t X hx
    have : a.eval (.tmp t) = v := by simp [Act.eval, Array.getD_eq_getD_getElem?, hv]
    rw [this]; exact hr
  | const v => exact constAV_rep hx
  | func f => simp only [St.ev, Option.some.injEq] at hx; subst hx; exact RepV.one (.d (.fn_ f))
  | global g => simp [St.ev] at hx

/-- An operation that writes nothing old: what it makes of what its operands read as. -/
def OpP (P : Program) (o : Oper) (av : Operand → Option AV) (us : List (Nat × Ob)) (y : AV) (nob : List (Nat × Ob)) : Prop :=
  ∀ (a : Act) (w : World) (S : Nat → Prop) (β : Nat → OLoc), (∀ b, S b → b < w.heap.size) →
    (∀ x X, av x = some X → x ∈ o.op.operands → RepV w S β X (a.eval x)) →
    (∀ p ∈ us, ObRep w S β (β p.1) p.2) →
    ∀ (K : Act → World → Prop) (Q : Exit → Act → World → Prop),
      (∀ v w' S' β', Grow w S β nob w' S' β' → RepV w' S' β' y v → K (a.put o.dst v) w') → o.wp P a w K Q

/-- The walk of operations in the order of the text. -/
def aOps (Γ : Cx) (P : Program) (ops : Array Oper) (l : List Oper) (K : St → Prop) (s : St) : Prop :=
  ∀ (a : Act) (w : World) (S : Nat → Prop) (β : Nat → OLoc) (R : Exit → Act → World → Prop), Sim Γ s a w S β →
    (∀ a' w' s' S' β', K s' → Sim Γ s' a' w' S' β' → R .normal a' w') → wpList P ops R l a w

/-- The walk of code. -/
def awp (Γ : Cx) (P : Program) (c : Code) (Q : Exit → St → Prop) (s : St) : Prop :=
  ∀ (a : Act) (w : World) (S : Nat → Prop) (β : Nat → OLoc), Sim Γ s a w S β →
    c.wp P (fun e a' w' => ∃ s' S' β', Q e s' ∧ Sim Γ s' a' w' S' β') a w

section
variable {Γ : Cx} {P : Program} {ops : Array Oper} {rest : List Oper} {o : Oper} {K : St → Prop} {s : St} {Q : Exit → St → Prop}

theorem Grow.sim {g : Nat → Option AV} {T : Nat → Option Ob} {a : Act} {w w' : World} {S S' : Nat → Prop} {β β' : Nat → OLoc} {nob : List (Nat × Ob)} {y : AV} {v : Value} {dst : Option Nat}
    (hG : Grow w S β nob w' S' β') (hlo : ∀ p ∈ nob, p.1 < 2000) (hy : RepV w' S' β' y v) (h : SimF Γ g T a w S β)
    (hd : dst.all (· < Γ.n) = true) (hfg : ∀ i x, g i = some x → ∀ o ∈ x.ids, ∀ p ∈ nob, p.1 ≠ o) (hfT : ∀ o X, T o = some X → (∀ p ∈ nob, p.1 ≠ o) ∧ ∀ o' ∈ X.ids, ∀ p ∈ nob, p.1 ≠ o') :
    SimF Γ (fun i => if dst = some i then some y else g i) (fun o => (look nob o).or (T o)) (a.put dst v) w' S' β' := by
  have hS : ∀ b, S b → w'.heap[b]? = w.heap[b]? := fun b hb => hG.block b (h.mem.lt b hb)
  have hT : ∀ o X, (look nob o).or (T o) = some X → (o, X) ∈ nob ∨ ((∀ p ∈ nob, p.1 ≠ o) ∧ T o = some X) := by
    intro o X ho
    cases hl : look nob o with
    | some Y => rw [hl] at ho; simp at ho; subst ho; exact .inl (look_mem hl)
    | none => rw [hl] at ho; simp at ho; exact .inr ⟨(hfT o X ho).1, ho⟩
  refine ⟨?_, ?_, ?_, ?_⟩
  · cases dst <;> simp [Act.put, h.defers]
  · cases dst <;> simp [Act.put, h.sz]
  · intro i x hi
    by_cases hdi : dst = some i
    · rw [if_pos hdi] at hi
      simp at hi
      subst hi
      subst hdi
      simp at hd
      refine ⟨v, ?_, hy⟩
      simp [Act.put, h.sz, hd]
    · rw [if_neg hdi] at hi
      obtain ⟨u, hu, hr⟩ := h.tm i x hi
      refine ⟨u, ?_, hr.mono hS hG.sub fun o ho => hG.loc o (hfg i x hi o ho)⟩
      cases dst with
      | none => exact hu
      | some d =>
        simp only [Act.put]
        rw [Array.getElem?_setIfInBounds_ne (fun e => hdi (by rw [e]))]
        exact hu
  · refine ⟨fun b hb => (hG.sup b hb).1, ?_, ?_, ?_, hG.os.trans h.mem.os, hG.tape.trans h.mem.tape, hG.output.trans h.mem.output, Nat.le_trans h.mem.size hG.size, ?_, fun b hb => hG.sub b (h.mem.sub b hb), ?_, fun o l hl => ?_, fun o X ho b hh => ?_, fun o o' X X' ho ho' b hh hh' => ?_⟩
    · intro o X ho
      rcases hT o X ho with hm | ⟨hne, ho⟩
      · exact hG.ob _ hm
      · rw [hG.loc o hne]
        exact (h.mem.ob o X ho).mono (fun b hh => hG.block _ (h.mem.own o X ho b hh).1) hS hG.sub fun o' ho' => hG.loc o' ((hfT o X ho).2 o' ho')
    · intro o X ho b hh
      rcases hT o X ho with hm | ⟨hne, ho⟩
      · obtain ⟨h1, h2, h3⟩ := hG.own _ hm b hh
        exact ⟨h2, h3, .inl (Nat.le_trans h.mem.size h1)⟩
      · rw [hG.loc o hne] at hh
        obtain ⟨h1, h2, h3⟩ := h.mem.own o X ho b hh
        refine ⟨Nat.lt_of_lt_of_le h1 hG.size, fun hs => ?_, h3⟩
        rcases (hG.sup _ hs).2 with hs | hs
        · exact h2 hs
        · omega
    · intro o o' X X' ho ho' b hh hh'
      rcases hT o X ho with hm | ⟨hne, ho⟩ <;> rcases hT o' X' ho' with hm' | ⟨hne', ho'⟩
      · exact hG.sep _ hm _ hm' b hh hh'
      · exfalso
        have h1 := (hG.own _ hm b hh).1
        rw [hG.loc o' hne'] at hh'
        have h2 := (h.mem.own o' X' ho' b hh').1
        omega
      · exfalso
        have h1 := (hG.own _ hm' b hh').1
        rw [hG.loc o hne] at hh
        have h2 := (h.mem.own o X ho b hh).1
        omega
      · rw [hG.loc o hne] at hh
        rw [hG.loc o' hne'] at hh'
        exact h.mem.sep o o' X X' ho ho' b hh hh'
    · intro b hb hp
      exact (hG.block b (Nat.lt_of_lt_of_le hb h.mem.size)).trans (h.mem.block b hb hp)
    · intro b hb
      rcases (hG.sup b hb).2 with hb | hb
      · exact h.mem.sup b hb
      · exact .inr (.inl (Nat.le_trans h.mem.size hb))
    · obtain ⟨h1, h2⟩ := h.mem.fix o l hl
      exact ⟨h1, (hG.loc o fun p hp e => by have := hlo p hp; omega).trans h2⟩
    · rcases hT o X ho with hm | ⟨hne, ho⟩
      · obtain ⟨h1, h2⟩ := hG.clm _ hm b hh
        exact ⟨h1, .inl (Nat.le_trans h.mem.size h2)⟩
      · rw [hG.loc o hne] at hh
        obtain ⟨h1, h2⟩ := h.mem.clm o X ho b hh
        exact ⟨hG.sub b h1, h2⟩
    · rcases hT o X ho with hm | ⟨hne, ho⟩ <;> rcases hT o' X' ho' with hm' | ⟨hne', ho'⟩
      · exact hG.sepc _ hm _ hm' b hh hh'
      · exfalso
        have h1 := (hG.clm _ hm b hh).2
        rw [hG.loc o' hne'] at hh'
        have h2 := h.mem.lt b (h.mem.clm o' X' ho' b hh').1
        omega
      · exfalso
        have h1 := (hG.clm _ hm' b hh').2
        rw [hG.loc o hne] at hh
        have h2 := h.mem.lt b (h.mem.clm o X ho b hh).1
        omega
      · rw [hG.loc o hne] at hh
        rw [hG.loc o' hne'] at hh'
        exact h.mem.sepc o o' X X' ho ho' b hh hh'

theorem get_upd (dst : Option Nat) (y : AV) (nob : List (Nat × Ob)) (i : Nat) : (s.upd dst y nob).get i = if dst = some i then some y else s.get i := by
  cases dst with
  | none => simp [St.upd, St.get]
  | some d =>
    simp only [St.upd, St.get, look, Option.some.injEq]
    by_cases h : d = i <;> simp [h]

theorem gob_upd (dst : Option Nat) (y : AV) (nob : List (Nat × Ob)) (o : Nat) : (s.upd dst y nob).gob o = (look nob o).or (s.gob o) := by
  simp [St.upd, St.gob, look_append]

theorem get_drop (dst : Option Nat) (i : Nat) : (s.drop dst).get i = if dst = some i then none else s.get i := by
  cases dst with
  | none => simp [St.drop]
  | some d => simp [St.drop, St.get, look_without]

theorem gob_drop (dst : Option Nat) (o : Nat) : (s.drop dst).gob o = s.gob o := by cases dst <;> rfl

theorem fresh_tm {nob : List (Nat × Ob)} (h : s.fresh nob = true) {i : Nat} {x : AV} (hi : s.get i = some x) : ∀ o ∈ x.ids, ∀ p ∈ nob, p.1 ≠ o := by
  intro o ho p hp he
  simp only [St.fresh, List.all_eq_true, Bool.and_eq_true, Bool.not_eq_true', List.contains_eq_mem, decide_eq_false_iff_not, decide_eq_true_eq] at h
  exact (h p hp).1.1 (he ▸ ids_of_get hi o ho)

theorem fresh_ob {nob : List (Nat × Ob)} (h : s.fresh nob = true) {o : Nat} {X : Ob} (ho : s.gob o = some X) : (∀ p ∈ nob, p.1 ≠ o) ∧ ∀ o' ∈ X.ids, ∀ p ∈ nob, p.1 ≠ o' := by
  simp only [St.fresh, List.all_eq_true, Bool.and_eq_true, Bool.not_eq_true', List.contains_eq_mem, decide_eq_false_iff_not, decide_eq_true_eq] at h
  obtain ⟨h1, h2⟩ := ids_of_gob ho
  exact ⟨fun p hp he => (h p hp).1.2 (he ▸ h1), fun o' ho' p hp he => (h p hp).1.2 (he ▸ h2 o' ho')⟩
theorem fresh_lt {nob : List (Nat × Ob)} (h : s.fresh nob = true) : ∀ p ∈ nob, p.1 < 2000 := by
  simp only [St.fresh, List.all_eq_true, Bool.and_eq_true, decide_eq_true_eq] at h
  exact fun p hp => (h p hp).2

theorem Sim.upd {a : Act} {w w' : World} {S S' : Nat → Prop} {β β' : Nat → OLoc} {nob : List (Nat × Ob)} {y : AV} {v : Value} {dst : Option Nat}
    (h : Sim Γ s a w S β) (hG : Grow w S β nob w' S' β') (hy : RepV w' S' β' y v) (hd : dst.all (· < Γ.n) = true) (hf : s.fresh nob = true) :
    Sim Γ (s.upd dst y nob) (a.put dst v) w' S' β' := by
  have := hG.sim (fresh_lt hf) hy h hd (fun i x hi => fresh_tm hf hi) (fun o X ho => fresh_ob hf ho)
  have e1 : (s.upd dst y nob).get = fun i => if dst = some i then some y else s.get i := funext fun i => get_upd ..
  have e2 : (s.upd dst y nob).gob = fun o => (look nob o).or (s.gob o) := funext fun o => gob_upd ..
  rw [Sim, e1, e2]
  exact this

theorem Sim.drop {a : Act} {w : World} {S : Nat → Prop} {β : Nat → OLoc} {dst : Option Nat} (h : Sim Γ s a w S β) : Sim Γ (s.drop dst) (a.put dst undef) w S β := by
  refine ⟨?_, ?_, ?_, ?_⟩
  · cases dst <;> simp [Act.put, h.defers]
  · cases dst <;> simp [Act.put, h.sz]
  · intro i x hi
    rw [get_drop] at hi
    by_cases hdi : dst = some i
    · rw [if_pos hdi] at hi; simp at hi
    · rw [if_neg hdi] at hi
      obtain ⟨u, hu, hr⟩ := h.tm i x hi
      refine ⟨u, ?_, hr⟩
      cases dst with
      | none => exact hu
      | some d =>
        simp only [Act.put]
        rw [Array.getElem?_setIfInBounds_ne (fun e => hdi (by rw [e]))]
        exact hu
  · have : (s.drop dst).gob = s.gob := funext fun o => gob_drop ..
    rw [this]; exact h.mem

theorem aOps_nil (h : K s) : aOps Γ P ops [] K s := fun _ _ _ _ _ hs hR => wpList_nil (hR _ _ _ _ _ h hs)

theorem aOps_op {us nob : List (Nat × Ob)} {y : AV} (hop : OpP P o s.ev us y nob) (hg : o.guard = none) (hd : o.dst.all (· < Γ.n) = true) (hus : ∀ p ∈ us, s.gob p.1 = some p.2) (hf : s.fresh nob = true)
    (h : aOps Γ P ops rest K (s.upd o.dst y nob)) : aOps Γ P ops (o :: rest) K s := by
  intro a w S β R hs hR
  refine wpList_plain hg fun K' hK => hop a w S β hs.mem.lt (fun x X hx _ => hs.eval hx) (fun p hp => hs.mem.ob _ _ (hus p hp)) K' R fun v w' S' β' hG hy => hK _ _ ?_
  exact h _ _ _ _ R (hs.upd hG hy hd hf) hR

theorem yielded_of {j d : Nat} {b : Bool} {a : Act} {w : World} {S : Nat → Prop} {β : Nat → OLoc} (hj : (ops[j]?).bind (·.dst) = some d) (hs : SimF Γ s.get (fun _ => none) a w S β ∨ Sim Γ s a w S β) (hb : s.get d = some (.one (.d (.bool b)))) :
    yielded ops a.tmps j = some b := by
  have : ∃ v, a.tmps[d]? = some v ∧ RepV w S β (.one (.d (.bool b))) v := by
    rcases hs with hs | hs
    · exact hs.tm d _ hb
    · exact hs.tm d _ hb
  obtain ⟨v, hv, hr⟩ := this
  rw [hr.bool_inv] at hv
  simp [yielded, hj, hv]

/-- A guarded operation. -/
theorem aOps_opg {us nob : List (Nat × Ob)} {y : AV} {j d : Nat} {want b : Bool} (hg : o.guard = some (j, want)) (hj : (ops[j]?).bind (·.dst) = some d) (hb : s.get d = some (.one (.d (.bool b)))) (hd : o.dst.all (· < Γ.n) = true)
    (hy : b = want → OpP P o s.ev us y nob ∧ (∀ p ∈ us, s.gob p.1 = some p.2) ∧ s.fresh nob = true ∧ aOps Γ P ops rest K (s.upd o.dst y nob))
    (hn : b = !want → aOps Γ P ops rest K (s.drop o.dst)) : aOps Γ P ops (o :: rest) K s := by
  intro a w S β R hs hR
  have hyl := yielded_of (Γ := Γ) hj (.inr hs) hb
  refine wpList_step fun K' hK => ?_
  have hw : Region.wanted o (yielded ops a.tmps) = (b == want) := by simp only [Region.wanted, hg, hyl]; cases b <;> cases want <;> rfl
  by_cases hbw : b = want
  · obtain ⟨hop, hus, hf, h⟩ := hy hbw
    rw [hw, if_pos (by simpa using hbw)]
    refine hop a w S β hs.mem.lt (fun x X hx _ => hs.eval hx) (fun p hp => hs.mem.ob _ _ (hus p hp)) K' R fun v w' S' β' hG hy => hK _ _ ?_
    exact h _ _ _ _ R (hs.upd hG hy hd hf) hR
  · rw [hw, if_neg (by simpa using hbw)]
    exact hK _ _ (hn (by cases b <;> cases want <;> simp_all) _ _ _ _ R hs.drop hR)

/-- Less is known. -/
def Ent (s s' : St) : Prop := (∀ i x, s'.get i = some x → s.get i = some x) ∧ ∀ o X, s'.gob o = some X → s.gob o = some X
theorem Ent.sim {s' : St} (h : Ent s s') {a : Act} {w : World} {S : Nat → Prop} {β : Nat → OLoc} (hs : Sim Γ s a w S β) : Sim Γ s' a w S β := hs.weaken h.1 h.2
def St.keep (s : St) (ts os : List Nat) : St := ⟨only s.tm ts, only s.ob os⟩
theorem Ent.keep (ts os : List Nat) : Ent s (s.keep ts os) := ⟨fun _ _ h => look_only _ _ _ h, fun _ _ h => look_only _ _ _ h⟩

theorem awp_ent {s' : St} {c : Code} (he : Ent s s') (h : awp Γ P c Q s') : awp Γ P c Q s := fun a w S β hs => h a w S β (he.sim hs)
theorem awp_keep {c : Code} (ts os : List Nat) (h : awp Γ P c Q (s.keep ts os)) : awp Γ P c Q s := awp_ent (Ent.keep ts os) h

theorem awp_region {id : Nat} {l : List Oper} (h : aOps Γ P l.toArray l (Q .normal) s) : awp Γ P (.region id l.toArray false) Q s :=
  fun a w S β hs => wp_region_lit (h a w S β _ hs fun _ _ _ _ _ hq hs' => ⟨_, _, _, hq, hs'⟩)

theorem awp_skip (h : Q .normal s) : awp Γ P .skip Q s := fun _ _ _ _ hs => wp_skip ⟨_, _, _, h, hs⟩
theorem awp_exit {id : Nat} (h : Q (.exit id) s) : awp Γ P (.exit id) Q s := fun _ _ _ _ hs => wp_exit ⟨_, _, _, h, hs⟩
theorem awp_ret (h : Q .ret s) : awp Γ P .ret Q s := fun _ _ _ _ hs => wp_ret ⟨_, _, _, h, hs⟩

/-- What stands behind: at a normal end y's walk, else Q. -/
def thenQ (y : St → Prop) (Q : Exit → St → Prop) : Exit → St → Prop
  | .normal, s => y s
  | e, s => Q e s
def blockQ (id : Nat) (Q : Exit → St → Prop) : Exit → St → Prop
  | .exit id', s => if id' = id then Q .normal s else Q (.exit id') s
  | e, s => Q e s

theorem awp_mono {c : Code} {Q' : Exit → St → Prop} (h : awp Γ P c Q s) (hq : ∀ e s, Q e s → Q' e s) : awp Γ P c Q' s :=
  fun a w S β hs => Code.wp_mono (fun _ _ _ ⟨s', S', β', h1, h2⟩ => ⟨s', S', β', hq _ _ h1, h2⟩) (h a w S β hs)

theorem awp_seq {x y : Code} (h : awp Γ P x (thenQ (awp Γ P y Q) Q) s) : awp Γ P (.seq x y) Q s := by
  intro a w S β hs
  refine wp_seq (Code.wp_mono ?_ (h a w S β hs))
  rintro e a' w' ⟨s', S', β', hq, hs'⟩
  cases e with
  | normal => exact hq a' w' S' β' hs'
  | _ => exact ⟨s', S', β', hq, hs'⟩

theorem awp_block {id : Nat} {c : Code} (h : awp Γ P c (blockQ id Q) s) : awp Γ P (.block id c) Q s := by
  intro a w S β hs
  refine wp_block (Code.wp_mono ?_ (h a w S β hs))
  rintro e a' w' ⟨s', S', β', hq, hs'⟩
  cases e with
  | exit id' =>
    simp only [blockQ] at hq
    simp only [Exit.inBlock]
    split
    · rename_i e; rw [if_pos e] at hq; exact ⟨s', S', β', hq, hs'⟩
    · rename_i e; rw [if_neg e] at hq; exact ⟨s', S', β', hq, hs'⟩
  | _ => exact ⟨s', S', β', hq, hs'⟩

theorem awp_cond {c : Operand} {x y : Code} {b : Bool} (hc : s.ev c = some (.one (.d (.bool b)))) (ht : b = true → awp Γ P x Q s) (hf : b = false → awp Γ P y Q s) : awp Γ P (.cond c x y) Q s :=
  fun a w S β hs => wp_cond_split (hs.eval hc).bool_inv (fun h => ht h a w S β hs) (fun h => hf h a w S β hs)

theorem least (p : Nat → Prop) (h : ∃ m, p m) : ∃ m, p m ∧ ∀ k, p k → m ≤ k := by
  obtain ⟨m, hm⟩ := h
  induction m using Nat.strongRecOn with
  | _ m ih =>
    by_cases hk : ∃ k, k < m ∧ p k
    · obtain ⟨k, hk, hp⟩ := hk; exact ih k hk hp
    · exact ⟨m, hm, fun k hp => Nat.le_of_not_lt fun hlt => hk ⟨k, hlt, hp⟩⟩

/-- A loop, by what holds at each round's head. -/
theorem awp_loop {c : Code} (I : Nat → St → Prop) {m : Nat} (h0 : ∃ s', Ent s s' ∧ I m s')
    (round : ∀ m s, I m s → awp Γ P c (thenQ (fun s' => ∃ m' s'', Ent s' s'' ∧ I m' s'' ∧ m' < m) Q) s) : awp Γ P (.loop c) Q s := by
  intro a w S β hs
  obtain ⟨s1, he, hI⟩ := h0
  have hs1 := he.sim hs
  clear he hs
  let J : Act → World → Nat → Prop := fun a w m => ∃ s S β, I m s ∧ Sim Γ s a w S β
  have key : ∀ m a w, J a w m → (Code.loop c).wp P (fun e a' w' => ∃ s' S' β', Q e s' ∧ Sim Γ s' a' w' S' β') a w := by
    intro m a w hJ
    classical
    refine wp_loop (fun a w => ∃ m, J a w m) (fun a w => if h : ∃ m, J a w m then (least (J a w) h).choose else 0) ⟨m, hJ⟩ ?_
    intro a w hm
    have hsp := (least (J a w) hm).choose_spec.1
    generalize hmm : (least (J a w) hm).choose = m0 at hsp
    obtain ⟨s, S, β, hI, hs⟩ := hsp
    refine Code.wp_mono ?_ (round m0 s hI a w S β hs)
    rintro e a' w' ⟨s', S', β', hq, hs'⟩
    cases e with
    | normal =>
      obtain ⟨m', s'', he, hI', hlt⟩ := hq
      have hJ' : J a' w' m' := ⟨s'', S', β', hI', he.sim hs'⟩
      refine ⟨⟨m', hJ'⟩, ?_⟩
      simp only [dif_pos hm, dif_pos (⟨m', hJ'⟩ : ∃ m, J a' w' m), hmm]
      exact Nat.lt_of_le_of_lt ((least (J a' w') ⟨m', hJ'⟩).choose_spec.2 m' hJ') hlt
    | _ => exact ⟨s', S', β', hq, hs'⟩
  exact key m a w ⟨s1, S, β, hI, hs1⟩
end

end AM
end Go.Proofs.Ytfcmmpmdofejeaa
