/- Results that are lists of the call's own, nil among them; no conditions. -/
import Derived.Test.YtfcmmpmdofejeaaAm16
set_option linter.unusedSimpArgs false
set_option linter.unusedVariables false
namespace Go.Proofs.Ytfcmmpmdofejeaa
namespace AM
open Go

/-- A call that is handed nothing and leaves new objects. -/
theorem XCall.fresh {P : Program} {f : FuncId} {xs : List AV} {r : AV} {O : List (Nat × Ob)} {mv : List Nat} (h : XCall P f xs r [] O mv) (hm : (mv.all fun m => O.any (·.1 == m)) = true) : ACall P f xs r O := by
  intro w S β vs hlt hr
  refine (h w S β vs hlt hr ⟨by simp, by simp, by simp, by simp, by simp⟩).mono ?_
  rintro e w' ⟨v, S', β', rfl, hG, hrep⟩
  have hno : ∀ b, ¬ passOf [] β b := fun b ⟨p, hp, _⟩ => by simp at hp
  refine ⟨v, S', β', rfl, ⟨hG.os, hG.tape, hG.output, hG.size, fun b hb => hG.block b hb (hno b), hG.sub, fun b hb => ⟨(hG.sup b hb).1, (hG.sup b hb).2.imp id fun h => h.resolve_right (hno b)⟩, fun o ho => hG.loc o fun hmem => ?_, hG.ob, fun p hp b hh => ?_, hG.sep, fun p hp b hh => ⟨(hG.clm p hp b hh).1, (hG.clm p hp b hh).2.resolve_right fun h => h.elim (hno b) fun ⟨p, hp, _⟩ => by simp at hp⟩, hG.sepc⟩, hrep⟩
  · have := List.all_eq_true.1 hm o hmem
    obtain ⟨p, hp, he⟩ := List.any_eq_true.1 this
    exact ho p hp (by simpa using he)
  · obtain ⟨h1, h2, h3⟩ := hG.own p hp b hh
    exact ⟨h3.resolve_right (hno _), h1, h2⟩

/-- The state in which a nil slice counts as a list of the call's own. -/
def St.nilOb (s : St) (t d E es : Nat) : St := { tm := (t, .one (.ol d)) :: s.tm, ob := (d, .tr E es []) :: s.ob }
section
variable {Γ : Cx} {P : Program} {ops : Array Oper} {rest : List Oper} {K : St → Prop} {s : St} {fn : Func} {r : AV} {I O : List (Nat × Ob)} {mv : List Nat}
theorem Sim.nilOb {t d E es : Nat} {a : Act} {w : World} {S : Nat → Prop} {β : Nat → OLoc} (hs : Sim Γ s a w S β) (ht : s.get t = some (.one .e0)) (hf : s.fresh [(d, .lst E es [])] = true) : ∃ β', Sim Γ (s.nilOb t d E es) a w S β' := by
  let l0 : OLoc := ⟨0, none, 0, 0, false, [], []⟩
  have hl0 : ∀ b, ¬ l0.Own b := fun b hb => by rcases hb with ⟨h, _⟩ | h <;> simp [l0] at h
  let β' : Nat → OLoc := fun o => if o = d then l0 else β o
  have hlow := fresh_lt hf _ (List.mem_singleton.2 rfl)
  have hβ : ∀ o, o ≠ d → β' o = β o := fun o ho => if_neg ho
  have hd : β' d = l0 := if_pos rfl
  have hT : ∀ q X, (s.nilOb t d E es).gob q = some X → (q = d ∧ X = .tr E es []) ∨ (q ≠ d ∧ s.gob q = some X) := by
    intro q X hq
    simp only [St.nilOb, St.gob, look] at hq
    by_cases e : d = q
    · subst e; simp at hq; exact .inl ⟨rfl, hq.symm⟩
    · simp [e] at hq; exact .inr ⟨fun h => e h.symm, hq⟩
  refine ⟨β', hs.defers, hs.sz, fun i x hi => ?_, ⟨hs.mem.lt, fun q X hq => ?_, fun q X hq b hh => ?_, fun q q' X X' hq hq' b hh hh' => ?_, hs.mem.os, hs.mem.tape, hs.mem.output, hs.mem.size, hs.mem.block, hs.mem.sub, hs.mem.sup, fun q l hl => ?_, fun q X hq b hh => ?_, fun q q' X X' hq hq' b hh hh' => ?_⟩⟩
  · have key : ∀ y, s.get i = some y → ∃ v, a.tmps[i]? = some v ∧ RepV w S β' y v := by
      intro y hy
      obtain ⟨v, hv, hr⟩ := hs.tm i y hy
      exact ⟨v, hv, hr.mono (fun _ _ => rfl) (fun _ h => h) fun o ho => hβ o fun e => fresh_tm hf hy o ho _ (List.mem_singleton.2 rfl) e.symm⟩
    simp only [St.nilOb, St.get, look] at hi
    by_cases e : t = i
    · subst e
      simp at hi
      subst hi
      obtain ⟨v, hv, hr⟩ := hs.tm t _ ht
      cases hr.one_inv
      refine ⟨_, hv, RepV.one ?_⟩
      have : (.slice none 0 0 : Value) = (β' d).sv := by rw [hd]; rfl
      rw [this]; exact .ol
    · simp [e] at hi; exact key x hi
  · rcases hT q X hq with ⟨rfl, rfl⟩ | ⟨hne, hq⟩
    · rw [hd]
      exact .inl ⟨rfl, by simp, by simp, [], [], ⟨by simp, .inl ⟨rfl, rfl⟩⟩, .nil, by simp, by simp⟩
    · rw [hβ q hne]
      exact (hs.mem.ob q X hq).mono (fun _ _ => rfl) (fun _ _ => rfl) (fun _ h => h) fun o ho => hβ o fun e => (fresh_ob hf hq).2 o ho _ (List.mem_singleton.2 rfl) e.symm
  · rcases hT q X hq with ⟨rfl, rfl⟩ | ⟨hne, hq⟩
    · rw [hd] at hh; exact (hl0 b hh).elim
    · rw [hβ q hne] at hh; exact hs.mem.own q X hq b hh
  · rcases hT q X hq with ⟨rfl, rfl⟩ | ⟨hne, hq⟩
    · rw [hd] at hh; exact (hl0 b hh).elim
    · rcases hT q' X' hq' with ⟨rfl, rfl⟩ | ⟨hne', hq'⟩
      · rw [hd] at hh'; exact (hl0 b hh').elim
      · rw [hβ q hne] at hh; rw [hβ q' hne'] at hh'
        exact hs.mem.sep q q' X X' hq hq' b hh hh'
  · obtain ⟨h1, h2⟩ := hs.mem.fix q l hl
    exact ⟨h1, (hβ q (by omega)).trans h2⟩
  · rcases hT q X hq with ⟨rfl, rfl⟩ | ⟨hne, hq⟩
    · rw [hd] at hh; cases hh
    · rw [hβ q hne] at hh; exact hs.mem.clm q X hq b hh
  · rcases hT q X hq with ⟨rfl, rfl⟩ | ⟨hne, hq⟩
    · rw [hd] at hh; cases hh
    · rcases hT q' X' hq' with ⟨rfl, rfl⟩ | ⟨hne', hq'⟩
      · rw [hd] at hh'; cases hh'
      · rw [hβ q hne] at hh; rw [hβ q' hne'] at hh'
        exact hs.mem.sepc q q' X X' hq hq' b hh hh'
theorem retX_e0 (t d E es : Nat) (ht : s.get t = some (.one .e0)) (hf : s.fresh [(d, .lst E es [])] = true) (h : RetX P fn (s.nilOb t d E es) r I O mv) : RetX P fn s r I O mv := by
  intro w0 S0 n β0 a w S β hs
  obtain ⟨β', hs'⟩ := hs.nilOb ht hf
  exact h w0 S0 n β0 a w S β' hs'
theorem aOps_e0 {l : List Oper} (t d E es : Nat) (ht : s.get t = some (.one .e0)) (hf : s.fresh [(d, .lst E es [])] = true) (h : aOps Γ P ops l K (s.nilOb t d E es)) : aOps Γ P ops l K s := by
  intro a w S β R hs hR
  obtain ⟨β', hs'⟩ := hs.nilOb ht hf
  exact h a w S β' R hs' hR
theorem W_e0 {c : Code} {N : St → Prop} {E' : Exit → St → Prop} (t d E es : Nat) (ht : s.get t = some (.one .e0)) (hf : s.fresh [(d, .lst E es [])] = true) (h : W Γ P c N E' (s.nilOb t d E es)) : W Γ P c N E' s := by
  intro a w S β hs
  obtain ⟨β', hs'⟩ := hs.nilOb ht hf
  exact h a w S β' hs'
end

end AM
end Go.Proofs.Ytfcmmpmdofejeaa
