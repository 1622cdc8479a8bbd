/- A contract's objects under other numbers; function values made; no conditions. -/
import Derived.Test.YtfcmmpmdofejeaaAm14
set_option linter.unusedSimpArgs false
set_option linter.unusedVariables false
namespace Go.Proofs.Ytfcmmpmdofejeaa
namespace AM
open Go

def renCaps (l : List (Nat × Nat)) : List (Nat × Nat) → Option (List (Nat × Nat))
  | [] => some []
  | p :: r => match look l p.1, renCaps l r with
    | some k, some cs => some ((k, p.2) :: cs)
    | _, _ => none
/-- Objects under other numbers; what has no other number is forgotten. -/
def renAt (l : List (Nat × Nat)) : At → At
  | .ol o => match look l o with | some k => .ol k | none => .junk
  | .op o off => match look l o with | some k => .op k off | none => .junk
  | .clo f caps => match renCaps l caps with | some cs => .clo f cs | none => .junk
  | .ps o es lo n => match look l o with | some k => .ps k es lo n | none => .junk
  | x => x
def renO (l : List (Nat × Nat)) : List (Nat × Ob) → List (Nat × Ob)
  | [] => []
  | (i, X) :: r => ((look l i).getD i, X.map (renAt l)) :: renO l r
theorem renO_map (l : List (Nat × Nat)) (I : List (Nat × Ob)) : renO l I = I.map fun p => ((look l p.1).getD p.1, p.2.map (renAt l)) := by
  induction I with
  | nil => rfl
  | cons p r ih => obtain ⟨i, X⟩ := p; simp [renO, ih]

section
variable {w : World} {S : Nat → Prop} {β β' : Nat → OLoc} {l : List (Nat × Nat)}
theorem renCaps_rep (h : ∀ o k, look l o = some k → β' k = β o) : ∀ (caps cs : List (Nat × Nat)), renCaps l caps = some cs → cs.map (capV β') = caps.map (capV β)
  | [], cs, e => by simp [renCaps] at e; subst e; rfl
  | p :: r, cs, e => by
    simp only [renCaps] at e
    split at e
    · rename_i k cs' hk hc
      simp at e; subst e
      simp only [List.map_cons, renCaps_rep h r cs' hc, capV, h _ _ hk]
    · simp at e
theorem RepA.ren (h : ∀ o k, look l o = some k → β' k = β o) (x : At) (v : Value) (hx : RepA w S β x v) : RepA w S β' (renAt l x) v := by
  cases hx with
  | d h => exact .d h
  | e0 => exact .e0
  | @ol o =>
    simp only [renAt]
    split
    · rename_i k hk; rw [← h _ _ hk]; exact .ol
    · exact .junk
  | @op o off =>
    simp only [renAt]
    split
    · rename_i k hk; rw [← h _ _ hk]; exact .op
    · exact .junk
  | ep h1 h2 h3 => exact .ep h1 h2 h3
  | @clo f caps =>
    simp only [renAt]
    split
    · rename_i cs hk; rw [← renCaps_rep h _ _ hk]; exact .clo
    · exact .junk
  | @ps o es lo n a c h1 h2 h3 =>
    simp only [renAt]
    split
    · rename_i k hk
      rw [← h _ _ hk] at h2 h3
      exact .ps h1 h2 h3
    · exact .junk
  | raw => exact .raw
  | junk => exact .junk
theorem ObRep.ren (h : ∀ o k, look l o = some k → β' k = β o) {L : OLoc} {X : Ob} (hX : ObRep w S β L X) : ObRep w S β' L (X.map (renAt l)) := by
  cases X with
  | var cs =>
    obtain ⟨h1, c, E, h2, h3⟩ := hX
    exact ⟨h1, c, E, h2, h3.map (RepA.ren h)⟩
  | lst E es xs => exact hX
  | tr E es xs => exact hX
  | tk xs => exact hX
  | mt E es xs => exact hX
  | mu E es xs m q a n c => exact hX
  | fu E es xs c => exact hX
end

/-- The two tables fit. -/
def renOk (l1 l2 : List (Nat × Nat)) (I' O : List (Nat × Ob)) (mv : List Nat) : Bool :=
  (l1.all fun p => look l2 p.2 == some p.1) && (l2.all fun p => l2.all fun q => p.2 != q.2 || p.1 == q.1) && (mv.all fun m => (look l2 m).isSome) && (I'.all fun p => (look l1 p.1).isSome) && (O.all fun p => (look l2 p.1).isSome)

theorem xcall_ren {P : Program} {f : FuncId} {xs ys : List AV} {r r' : AV} {I I' O O' : List (Nat × Ob)} {mv mv' : List Nat} (l1 l2 : List (Nat × Nat)) (h : XCall P f xs r I O mv) (e1 : AV.mapT (renAt l1) ys = xs) (e2 : renO l1 I' = I)
    (e3 : r.map (renAt l2) = r') (e4 : renO l2 O = O') (e5 : (mv.map fun m => (look l2 m).getD m) = mv') (hok : renOk l1 l2 I' O mv = true) : XCall P f ys r' I' O' mv' := by
  subst e1; subst e2; subst e3; subst e4; subst e5
  simp only [renOk, Bool.and_eq_true, List.all_eq_true, beq_iff_eq, Bool.or_eq_true, bne_iff_ne, ne_eq] at hok
  obtain ⟨⟨⟨⟨k1, k2⟩, k3⟩, k4⟩, k5⟩ := hok
  have hinj : ∀ a b k, look l2 a = some k → look l2 b = some k → a = b := by
    intro a b k ha hb
    rcases k2 (a, k) (look_mem ha) (b, k) (look_mem hb) with h | h
    · exact absurd rfl h
    · exact h
  intro w S β vs hlt hr hin
  let βc : Nat → OLoc := fun o => match look l2 o with | some k => β k | none => β o
  have hc : ∀ o k, look l1 o = some k → βc k = β o := by
    intro o k ho
    have := k1 (o, k) (look_mem ho)
    simp only [βc, this]
  have hloc : ∀ p ∈ I', ∃ k, look l1 p.1 = some k ∧ βc k = β p.1 := by
    intro p hp
    obtain ⟨k, hk⟩ := Option.isSome_iff_exists.1 (k4 p hp)
    exact ⟨k, hk, hc _ _ hk⟩
  have hpass : ∀ b, passOf (renO l1 I') βc b ↔ passOf I' β b := by
    intro b
    rw [renO_map]
    constructor
    · rintro ⟨q, hq, h1⟩
      obtain ⟨p, hp, rfl⟩ := List.mem_map.1 hq
      obtain ⟨k, hk, hkb⟩ := hloc p hp
      simp only [hk, Option.getD_some, hkb] at h1
      exact ⟨p, hp, h1⟩
    · rintro ⟨p, hp, h1⟩
      obtain ⟨k, hk, hkb⟩ := hloc p hp
      exact ⟨_, List.mem_map.2 ⟨p, hp, rfl⟩, by simp only [hk, Option.getD_some, hkb]; exact h1⟩
  have hpc : ∀ b, pcOf (renO l1 I') βc b ↔ pcOf I' β b := by
    intro b
    rw [renO_map]
    constructor
    · rintro ⟨q, hq, h1⟩
      obtain ⟨p, hp, rfl⟩ := List.mem_map.1 hq
      obtain ⟨k, hk, hkb⟩ := hloc p hp
      simp only [hk, Option.getD_some, hkb] at h1
      exact ⟨p, hp, h1⟩
    · rintro ⟨p, hp, h1⟩
      obtain ⟨k, hk, hkb⟩ := hloc p hp
      exact ⟨_, List.mem_map.2 ⟨p, hp, rfl⟩, by simp only [hk, Option.getD_some, hkb]; exact h1⟩
  have hin' : InOk w S βc (renO l1 I') := by
    rw [renO_map]
    refine ⟨fun q hq => ?_, fun q hq => ?_, fun q hq q' hq' => ?_, fun q hq => ?_, fun q hq q' hq' => ?_⟩
    · obtain ⟨p, hp, rfl⟩ := List.mem_map.1 hq
      obtain ⟨k, hk, hkb⟩ := hloc p hp
      simp only [hk, Option.getD_some, hkb]
      exact (hin.ob p hp).ren hc
    · obtain ⟨p, hp, rfl⟩ := List.mem_map.1 hq
      obtain ⟨k, hk, hkb⟩ := hloc p hp
      simp only [hk, Option.getD_some, hkb]
      exact hin.own p hp
    · obtain ⟨p, hp, rfl⟩ := List.mem_map.1 hq
      obtain ⟨p', hp', rfl⟩ := List.mem_map.1 hq'
      obtain ⟨k, hk, hkb⟩ := hloc p hp
      obtain ⟨k', hk', hkb'⟩ := hloc p' hp'
      simp only [hk, hk', Option.getD_some, hkb, hkb']
      intro b h1 h2
      have := hin.sep p hp p' hp' b h1 h2
      rw [this, hk'] at hk
      simpa using hk.symm
    · obtain ⟨p, hp, rfl⟩ := List.mem_map.1 hq
      obtain ⟨k, hk, hkb⟩ := hloc p hp
      simp only [hk, Option.getD_some, hkb]
      exact hin.clm p hp
    · obtain ⟨p, hp, rfl⟩ := List.mem_map.1 hq
      obtain ⟨p', hp', rfl⟩ := List.mem_map.1 hq'
      obtain ⟨k, hk, hkb⟩ := hloc p hp
      obtain ⟨k', hk', hkb'⟩ := hloc p' hp'
      simp only [hk, hk', Option.getD_some, hkb, hkb']
      intro b h1 h2
      have := hin.sepc p hp p' hp' b h1 h2
      rw [this, hk'] at hk
      simpa using hk.symm
  refine (h w S βc vs hlt (hr.map (RepA.ren hc) fun _ _ h => h) hin').mono ?_
  rintro e w' ⟨v, S', βf, rfl, hG, hrep⟩
  let β2 : Nat → OLoc := fun k => match mv.find? fun m => look l2 m == some k with | some m => βf m | none => β k
  have hf : ∀ o k, look l2 o = some k → β2 k = βf o := by
    intro o k ho
    simp only [β2]
    split
    · rename_i m hm
      have h1 := List.find?_some hm
      simp only [beq_iff_eq] at h1
      rw [hinj _ _ _ h1 ho]
    · rename_i hm
      have hom : o ∉ mv := by
        intro hmem
        have := List.find?_eq_none.1 hm o hmem
        simp [ho] at this
      rw [hG.loc o hom]
      simp only [βc, ho]
  have hlocO : ∀ p ∈ O, ∃ k, look l2 p.1 = some k ∧ β2 k = βf p.1 := by
    intro p hp
    obtain ⟨k, hk⟩ := Option.isSome_iff_exists.1 (k5 p hp)
    exact ⟨k, hk, hf _ _ hk⟩
  refine ⟨v, S', β2, rfl, ⟨hG.os, hG.tape, hG.output, hG.size, fun b hb hp => hG.block b hb fun h => hp ((hpass b).1 h), hG.sub, fun b hb => ⟨(hG.sup b hb).1, (hG.sup b hb).2.imp id fun h => h.imp id (hpass b).1⟩, fun k hk => ?_, fun q hq => ?_, fun q hq => ?_, fun q hq q' hq' => ?_, fun q hq => ?_, fun q hq q' hq' => ?_⟩, hrep.map (RepA.ren hf) fun _ _ h => h⟩
  · simp only [β2]
    split
    · rename_i m hm
      have h1 := List.find?_some hm
      have h2 := List.mem_of_find?_eq_some hm
      simp only [beq_iff_eq] at h1
      exact absurd (List.mem_map.2 ⟨m, h2, by simp [h1]⟩) hk
    · rfl
  · rw [renO_map] at hq
    obtain ⟨p, hp, rfl⟩ := List.mem_map.1 hq
    obtain ⟨k, hk, hkb⟩ := hlocO p hp
    simp only [hk, Option.getD_some, hkb]
    exact (hG.ob p hp).ren hf
  · rw [renO_map] at hq
    obtain ⟨p, hp, rfl⟩ := List.mem_map.1 hq
    obtain ⟨k, hk, hkb⟩ := hlocO p hp
    simp only [hk, Option.getD_some, hkb]
    intro b hh
    obtain ⟨h1, h2, h3⟩ := hG.own p hp b hh
    exact ⟨h1, h2, h3.imp id (hpass _).1⟩
  · rw [renO_map] at hq hq'
    obtain ⟨p, hp, rfl⟩ := List.mem_map.1 hq
    obtain ⟨p', hp', rfl⟩ := List.mem_map.1 hq'
    obtain ⟨k, hk, hkb⟩ := hlocO p hp
    obtain ⟨k', hk', hkb'⟩ := hlocO p' hp'
    simp only [hk, hk', Option.getD_some, hkb, hkb']
    intro b h1 h2
    have := hG.sep p hp p' hp' b h1 h2
    rw [this, hk'] at hk
    simpa using hk.symm
  · rw [renO_map] at hq
    obtain ⟨p, hp, rfl⟩ := List.mem_map.1 hq
    obtain ⟨k, hk, hkb⟩ := hlocO p hp
    simp only [hk, Option.getD_some, hkb]
    intro b hh
    obtain ⟨h1, h3⟩ := hG.clm p hp b hh
    exact ⟨h1, h3.imp id (Or.imp (hpass _).1 (hpc _).1)⟩
  · rw [renO_map] at hq hq'
    obtain ⟨p, hp, rfl⟩ := List.mem_map.1 hq
    obtain ⟨p', hp', rfl⟩ := List.mem_map.1 hq'
    obtain ⟨k, hk, hkb⟩ := hlocO p hp
    obtain ⟨k', hk', hkb'⟩ := hlocO p' hp'
    simp only [hk, hk', Option.getD_some, hkb, hkb']
    intro b h1 h2
    have := hG.sepc p hp p' hp' b h1 h2
    rw [this, hk'] at hk
    simpa using hk.symm

/-- The captured variables of a function value. -/
def capsOf (av : Operand → Option AV) : List Operand → Option (List (Nat × Nat))
  | [] => some []
  | x :: r => match av x, capsOf av r with
    | some (.one (.op k off)), some cs => some ((k, off) :: cs)
    | _, _ => none
theorem capsOf_rep {w : World} {S : Nat → Prop} {β : Nat → OLoc} {ρ : Operand → Value} {av : Operand → Option AV} : ∀ (xs : List Operand) (cs : List (Nat × Nat)), (∀ x X, av x = some X → x ∈ xs → RepV w S β X (ρ x)) → capsOf av xs = some cs → xs.map ρ = cs.map (capV β)
  | [], cs, _, e => by simp [capsOf] at e; subst e; rfl
  | x :: r, cs, h, e => by
    simp only [capsOf] at e
    split at e
    · rename_i k off cs' h1 h2
      simp at e; subst e
      have h3 := (h x _ h1 (by simp)).one_inv
      simp only [List.map_cons, capsOf_rep r cs' (fun x X hx hm => h x X hx (by simp [hm])) h2]
      generalize hv : ρ x = v at h3
      cases h3
      rfl
    · simp at e
section
variable {P : Program} {o : Oper} {s s0 : St}
theorem os_makeFunc {f : FuncId} {cap : List Operand} {cs : List (Nat × Nat)} (ho : o.op = .makeFunc (.func f) #[] cap.toArray) (hc : capsOf s.ev cap = some cs) : OpS P o s s0 (.one (.clo f cs)) [] := by
  refine opS_of (opP_val fun a w S β _ hr _ => ?_)
  have h1 := capsOf_rep (w := w) (S := S) (β := β) (ρ := a.eval) cap cs (fun x X hx hm => hr x X hx (by simp [ho, Op.operands, hm])) hc
  refine ⟨.func (.func f) #[] (cs.map (capV β)).toArray, ?_, RepV.one .clo⟩
  simp only [execOp, ho, Instr.makeFunc, List.map_toArray, h1]
  simp
theorem os_makeFunc0 {f : FuncId} (ho : o.op = .makeFunc (.func f) #[] #[]) : OpS P o s s0 (.one (.d (.fn f))) [] := by
  refine opS_of (opP_val fun a w S β _ hr _ => ⟨.func (.func f) #[] #[], ?_, RepV.one (.d (.fn_ f))⟩)
  simp [execOp, ho, Instr.makeFunc]
end

end AM
end Go.Proofs.Ytfcmmpmdofejeaa
