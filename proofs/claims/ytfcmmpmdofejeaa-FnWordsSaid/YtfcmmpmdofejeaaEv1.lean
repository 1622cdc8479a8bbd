/- The rounds of a loop by what holds at a round's head, and what one state tells of another; no conditions. -/
import Derived.Test.YtfcmmpmdofejeaaEvs
set_option linter.unusedSimpArgs false
set_option linter.unusedVariables false
namespace Go.Proofs.Ytfcmmpmdofejeaa
namespace AM
open Go

/-- A loop's rounds, from a round's head on. -/
def WLoop (P : Program) (c : Code) (Q : Exit → Act → World → Prop) (a : Act) (w : World) : Prop := ∀ (b : Frame) (k : List Item) (cs : List Frame),
  ∃ e a' w', Q e a' w' ∧ Arrives P (lone (b.at a (.code c :: .inLoop c :: k)) cs w) b k cs e a' w'

section
variable {P : Program} {c : Code} {Q : Exit → Act → World → Prop} {a : Act} {w : World}
theorem WLoop.loop (h : WLoop P c Q a w) : (Code.loop c).wp P Q a w := fun b k cs =>
  let ⟨e, a', w', q, r⟩ := h b k cs; ⟨e, a', w', q, .of_steps (.one step_loop) r⟩
theorem WLoop.round (h : c.wp P (Exit.then (WLoop P c Q) Q) a w) : WLoop P c Q a w := by
  intro b k cs
  obtain ⟨e, a₁, w₁, hq, harr⟩ := h b (.inLoop c :: k) cs
  cases e with
  | normal =>
    obtain ⟨e₂, a₂, w₂, hq₂, harr₂⟩ := hq b k cs
    exact ⟨e₂, a₂, w₂, hq₂, .of_steps (Steps.trans harr (.one step_inLoop)) harr₂⟩
  | exit id => exact ⟨_, a₁, w₁, hq, .pass (x := .inLoop c) rfl (fun _ _ => .inl (by simp)) harr⟩
  | goto l => exact ⟨_, a₁, w₁, hq, .pass (x := .inLoop c) rfl (fun _ _ => .inl (by simp)) harr⟩
  | ret => exact ⟨_, a₁, w₁, hq, .pass (x := .inLoop c) rfl (fun _ _ => .inl (by simp)) harr⟩
  | panic ch => exact ⟨_, a₁, w₁, hq, .pass (x := .inLoop c) rfl (fun _ _ => .inl (by simp)) harr⟩
  | outgrown => exact ⟨_, a₁, w₁, hq, .pass (x := .inLoop c) rfl (fun _ _ => .inl (by simp)) harr⟩
end

/-- What is known in one state is known in the other one, of the same machine. -/
def To (s s' : St) : Prop := ∀ (Γ : Cx) (a : Act) (w : World) (S : Nat → Prop) (β : Nat → OLoc), Sim Γ s a w S β → ∃ S' β', Sim Γ s' a w S' β'
theorem To.refl (s : St) : To s s := fun _ _ _ S β h => ⟨S, β, h⟩
theorem To.trans {s t u : St} (h : To s t) (k : To t u) : To s u := fun Γ a w S β hs => by
  obtain ⟨S', β', h'⟩ := h Γ a w S β hs
  exact k Γ a w S' β' h'
theorem To.ent {s t : St} (h : Ent s t) : To s t := fun _ _ _ S β hs => ⟨S, β, h.sim hs⟩
theorem To.frz {s : St} {tr : Bool} {k E es : Nat} {xs : List (List Da)} (hk : s.gob k = some (mkL tr E es xs)) (hpos : 0 < es) : To s (s.frz k xs) := fun _ _ _ S β hs => by
  obtain ⟨S', _, h⟩ := hs.frz hk hpos
  exact ⟨S', β, h⟩
theorem To.nilOb {s : St} {t d E es : Nat} (ht : s.get t = some (.one .e0)) (hf : s.fresh [(d, .lst E es [])] = true) : To s (s.nilOb t d E es) := fun _ _ _ S β hs => by
  obtain ⟨β', h⟩ := hs.nilOb ht hf
  exact ⟨S, β', h⟩

def WL (Γ : Cx) (P : Program) (c : Code) (N : St → Prop) (E : Exit → St → Prop) (s : St) : Prop := ∀ (a : Act) (w : World) (S : Nat → Prop) (β : Nat → OLoc), Sim Γ s a w S β →
  WLoop P c (fun e a' w' => ∃ s' S' β', thenQ N E e s' ∧ Sim Γ s' a' w' S' β') a w

section
variable {Γ : Cx} {P : Program} {c : Code} {N : St → Prop} {E : Exit → St → Prop} {s s' : St} {ops : Array Oper} {l : List Oper} {K : St → Prop}
theorem W_to (h : To s s') (k : W Γ P c N E s') : W Γ P c N E s := fun a w S β hs => by
  obtain ⟨S', β', h'⟩ := h Γ a w S β hs
  exact k a w S' β' h'
theorem aOps_to (h : To s s') (k : aOps Γ P ops l K s') : aOps Γ P ops l K s := fun a w S β R hs => by
  obtain ⟨S', β', h'⟩ := h Γ a w S β hs
  exact k a w S' β' R h'
theorem WL_to (h : To s s') (k : WL Γ P c N E s') : WL Γ P c N E s := fun a w S β hs => by
  obtain ⟨S', β', h'⟩ := h Γ a w S β hs
  exact k a w S' β' h'
theorem retX_to {fn : Func} {r : AV} {I O : List (Nat × Ob)} {mv : List Nat} (h : To s s') (k : RetX P fn s' r I O mv) : RetX P fn s r I O mv := fun w0 S0 n β0 a w S β hs => by
  obtain ⟨S', β', h'⟩ := h _ a w S β hs
  exact k w0 S0 n β0 a w S' β' h'
theorem WL_loop (h : WL Γ P c N E s) : W Γ P (.loop c) N E s := fun a w S β hs => (h a w S β hs).loop
theorem WL_round (h : W Γ P c (fun s' => WL Γ P c N E s') E s) : WL Γ P c N E s := by
  intro a w S β hs
  refine WLoop.round (Code.wp_mono ?_ (h a w S β hs))
  rintro e a' w' ⟨s', S', β', hq, hs'⟩
  cases e with
  | normal => exact hq a' w' S' β' hs'
  | _ => exact ⟨s', S', β', hq, hs'⟩
end

/-- Other numbers for objects, and fewer slots. -/
def renIn (l : List (Nat × Nat)) (β : Nat → OLoc) (k : Nat) : OLoc := match l.find? fun p => p.2 == k with
  | some p => β p.1
  | none => β k
def renGood (l : List (Nat × Nat)) : Bool := l.all fun p => (decide (p.2 < 2000) || p.1 == p.2) && l.all fun q => (p.2 != q.2 || p.1 == q.1) && (p.1 != q.1 || p.2 == q.2)
def renTm (l : List (Nat × Nat)) (s : St) : List Nat → List (Nat × AV)
  | [] => []
  | t :: r => match s.get t with
    | some x => (t, x.map (renAt l)) :: renTm l s r
    | none => renTm l s r
def renObs (l : List (Nat × Nat)) (s : St) : List (Nat × Nat) → List (Nat × Ob)
  | [] => []
  | (k, k') :: r => match s.gob k with
    | some X => (k', X.map (renAt l)) :: renObs l s r
    | none => renObs l s r
def St.ren (s : St) (l : List (Nat × Nat)) (ts : List Nat) : St := ⟨renTm l s ts, renObs l s l⟩

theorem renTm_spec {l : List (Nat × Nat)} {s : St} {i : Nat} {y : AV} : ∀ {ts : List Nat}, look (renTm l s ts) i = some y → ∃ x, s.get i = some x ∧ y = x.map (renAt l)
  | [], h => by simp [renTm, look] at h
  | t :: r, h => by
    simp only [renTm] at h
    split at h
    · rename_i x hx
      simp only [look] at h
      split at h
      · rename_i e; simp at e h; subst e; exact ⟨x, hx, h.symm⟩
      · exact renTm_spec h
    · exact renTm_spec h
theorem renObs_spec {l : List (Nat × Nat)} {s : St} {i : Nat} {Y : Ob} : ∀ {m : List (Nat × Nat)}, look (renObs l s m) i = some Y → ∃ k X, (k, i) ∈ m ∧ s.gob k = some X ∧ Y = X.map (renAt l)
  | [], h => by simp [renObs, look] at h
  | (k, k') :: r, h => by
    simp only [renObs] at h
    split at h
    · rename_i X hX
      simp only [look] at h
      split at h
      · rename_i e; simp at e h; subst e; exact ⟨k, X, by simp, hX, h.symm⟩
      · obtain ⟨k2, X2, hm, h2⟩ := renObs_spec h; exact ⟨k2, X2, by simp [hm], h2⟩
    · obtain ⟨k2, X2, hm, h2⟩ := renObs_spec h; exact ⟨k2, X2, by simp [hm], h2⟩

theorem To.ren {s : St} {l : List (Nat × Nat)} {ts : List Nat} (hg : renGood l = true) : To s (s.ren l ts) := by
  simp only [renGood, List.all_eq_true, Bool.and_eq_true, Bool.or_eq_true, decide_eq_true_eq, beq_iff_eq, bne_iff_ne, ne_eq] at hg
  intro Γ a w S β hs
  have hin : ∀ k k', (k, k') ∈ l → renIn l β k' = β k := by
    intro k k' hm
    unfold renIn
    split
    · rename_i p hp
      have h1 := List.find?_some hp
      have h2 := List.mem_of_find?_eq_some hp
      simp only [beq_iff_eq] at h1
      rcases ((hg p h2).2 (k, k') hm).1 with h | h
      · exact absurd h1 h
      · rw [h]
    · rename_i hn
      have := List.find?_eq_none.1 hn (k, k') hm
      simp at this
  have hf : ∀ o k, look l o = some k → renIn l β k = β o := fun o k h => hin o k (look_mem h)
  have hfix : ∀ o l', Γ.fix o l' → renIn l β o = l' := by
    intro o l' h
    obtain ⟨h1, h2⟩ := hs.mem.fix o l' h
    unfold renIn
    split
    · rename_i p hp
      have h3 := List.find?_some hp
      have h4 := List.mem_of_find?_eq_some hp
      simp only [beq_iff_eq] at h3
      rcases (hg p h4).1 with h5 | h5
      · omega
      · rw [h5, h3]; exact h2
    · exact h2
  have hT : ∀ o X, (s.ren l ts).gob o = some X → ∃ k Y, (k, o) ∈ l ∧ s.gob k = some Y ∧ X = Y.map (renAt l) := fun o X h => renObs_spec h
  refine ⟨S, renIn l β, hs.defers, hs.sz, fun i y hi => ?_, hs.mem.lt, fun o X ho => ?_, fun o X ho b hh => ?_, fun o o' X X' ho ho' b hh hh' => ?_, hs.mem.os, hs.mem.tape, hs.mem.output, hs.mem.size, hs.mem.block, hs.mem.sub, hs.mem.sup, fun o l' h => ⟨(hs.mem.fix o l' h).1, hfix o l' h⟩, fun o X ho b hh => ?_, fun o o' X X' ho ho' b hh hh' => ?_⟩
  · obtain ⟨x, hx, rfl⟩ := renTm_spec hi
    obtain ⟨v, hv, hr⟩ := hs.tm i x hx
    exact ⟨v, hv, hr.map (RepA.ren hf) fun _ _ h => h⟩
  · obtain ⟨k, Y, hm, hk, rfl⟩ := hT o X ho
    rw [hin k o hm]
    exact (hs.mem.ob k Y hk).ren hf
  · obtain ⟨k, Y, hm, hk, rfl⟩ := hT o X ho
    rw [hin k o hm] at hh
    exact hs.mem.own k Y hk b hh
  · obtain ⟨k, Y, hm, hk, rfl⟩ := hT o X ho
    obtain ⟨k', Y', hm', hk', rfl⟩ := hT o' X' ho'
    rw [hin k o hm] at hh
    rw [hin k' o' hm'] at hh'
    have := hs.mem.sep k k' Y Y' hk hk' b hh hh'
    subst this
    rcases ((hg _ hm).2 _ hm').2 with h | h
    · exact absurd rfl h
    · exact h
  · obtain ⟨k, Y, hm, hk, rfl⟩ := hT o X ho
    rw [hin k o hm] at hh
    exact hs.mem.clm k Y hk b hh
  · obtain ⟨k, Y, hm, hk, rfl⟩ := hT o X ho
    obtain ⟨k', Y', hm', hk', rfl⟩ := hT o' X' ho'
    rw [hin k o hm] at hh
    rw [hin k' o' hm'] at hh'
    have := hs.mem.sepc k k' Y Y' hk hk' b hh hh'
    subst this
    rcases ((hg _ hm).2 _ hm').2 with h | h
    · exact absurd rfl h
    · exact h

theorem RepAs.setAt {w : World} {S : Nat → Prop} {β : Nat → OLoc} {y z : At} (hy : ∀ v, RepA w S β z v → RepA w S β y v) : ∀ {xs : List At} {vs : List Value} {q : Nat}, RepAs w S β xs vs → xs[q]? = some z → RepAs w S β (xs.set q y) vs := by
  intro xs
  induction xs with
  | nil => intro vs q _ h; simp at h
  | cons x r ih =>
    intro vs q h hq
    cases h with
    | cons h1 h2 =>
      cases q with
      | zero => simp at hq; subst hq; exact .cons (hy _ h1) h2
      | succ q => exact .cons h1 (ih h2 (by simpa using hq))
/-- A nil slice in a variable counts as a list of the call's own. -/
def St.nilCell (s : St) (k q d E es : Nat) (cs : List At) : St := ⟨s.tm, (k, .var (cs.set q (.ol d))) :: (d, .tr E es []) :: s.ob⟩
theorem To.nilCell {s : St} {k q d E es : Nat} {cs : List At} (hk : s.gob k = some (.var cs)) (hc : cs[q]? = some .e0) (hf : s.fresh [(d, .lst E es [])] = true) : To s (s.nilCell k q d E es cs) := by
  intro Γ a w S β hs
  let l0 : OLoc := ⟨0, none, 0, 0, false, [], []⟩
  have hl0 : ∀ b, ¬ l0.Own b := fun b hb => by rcases hb with ⟨h, _⟩ | h <;> simp [l0] at h
  let β' : Nat → OLoc := fun o => if o = d then l0 else β o
  have hlow := fresh_lt hf _ (List.mem_singleton.2 rfl)
  have hβ : ∀ o, o ≠ d → β' o = β o := fun o ho => if_neg ho
  have hd : β' d = l0 := if_pos rfl
  have hkd : k ≠ d := fun e => (fresh_ob hf hk).1 _ (List.mem_singleton.2 rfl) e.symm
  have hT : ∀ o X, (s.nilCell k q d E es cs).gob o = some X → (o = k ∧ X = .var (cs.set q (.ol d))) ∨ (o = d ∧ X = .tr E es []) ∨ (o ≠ d ∧ o ≠ k ∧ s.gob o = some X) := by
    intro o X ho
    simp only [St.nilCell, St.gob, look] at ho
    by_cases e : k = o
    · subst e; simp at ho; exact .inl ⟨rfl, ho.symm⟩
    · by_cases e2 : d = o
      · subst e2; simp [e] at ho; exact .inr (.inl ⟨rfl, ho.symm⟩)
      · simp [e, e2] at ho; exact .inr (.inr ⟨fun h => e2 h.symm, fun h => e h.symm, ho⟩)
  have hids : ∀ o X, s.gob o = some X → ∀ o' ∈ X.ids, β' o' = β o' := fun o X ho o' ho' => hβ o' fun e => (fresh_ob hf ho).2 o' ho' _ (List.mem_singleton.2 rfl) e.symm
  have hnil : (.slice none 0 0 : Value) = (β' d).sv := by rw [hd]; rfl
  refine ⟨S, β', hs.defers, hs.sz, fun i x hi => ?_, ⟨hs.mem.lt, fun o X ho => ?_, fun o X ho b hh => ?_, fun o o' X X' ho ho' b hh hh' => ?_, hs.mem.os, hs.mem.tape, hs.mem.output, hs.mem.size, hs.mem.block, hs.mem.sub, hs.mem.sup, fun o l hl => ?_, fun o X ho b hh => ?_, fun o o' X X' ho ho' b hh hh' => ?_⟩⟩
  · obtain ⟨v, hv, hr⟩ := hs.tm i x hi
    exact ⟨v, hv, hr.mono (fun _ _ => rfl) (fun _ h => h) fun o ho => hβ o fun e => fresh_tm hf hi o ho _ (List.mem_singleton.2 rfl) e.symm⟩
  · rcases hT o X ho with ⟨rfl, rfl⟩ | ⟨rfl, rfl⟩ | ⟨h1, h2, ho⟩
    · rw [hβ o hkd]
      have h1 := (hs.mem.ob o _ hk).mono (w' := w) (S' := S) (β' := β') (fun _ _ => rfl) (fun _ _ => rfl) (fun _ h => h) (hids o _ hk)
      obtain ⟨hh, c, E0, hg, hr⟩ := h1
      refine ⟨hh, c, E0, hg, RepAs.setAt (z := .e0) (fun v hv => ?_) hr hc⟩
      cases hv
      rw [hnil]; exact .ol
    · rw [hd]
      exact .inl ⟨rfl, by simp, by simp, [], [], ⟨by simp, .inl ⟨rfl, rfl⟩⟩, .nil, by simp, by simp⟩
    · rw [hβ o h1]
      exact (hs.mem.ob o X ho).mono (fun _ _ => rfl) (fun _ _ => rfl) (fun _ h => h) (hids o X ho)
  · rcases hT o X ho with ⟨rfl, rfl⟩ | ⟨rfl, rfl⟩ | ⟨h1, h2, ho⟩
    · rw [hβ o hkd] at hh; exact hs.mem.own o _ hk b hh
    · rw [hd] at hh; exact (hl0 b hh).elim
    · rw [hβ o h1] at hh; exact hs.mem.own o X ho b hh
  · have hold : ∀ o X, (s.nilCell k q d E es cs).gob o = some X → (β' o).Own b → o ≠ d ∧ ∃ Y, s.gob o = some Y := by
      intro o X ho hh
      rcases hT o X ho with ⟨rfl, rfl⟩ | ⟨rfl, rfl⟩ | ⟨h1, h2, ho⟩
      · exact ⟨hkd, _, hk⟩
      · rw [hd] at hh; exact (hl0 b hh).elim
      · exact ⟨h1, _, ho⟩
    obtain ⟨h1, Y, hY⟩ := hold o X ho hh
    obtain ⟨h2, Y', hY'⟩ := hold o' X' ho' hh'
    rw [hβ o h1] at hh; rw [hβ o' h2] at hh'
    exact hs.mem.sep o o' Y Y' hY hY' b hh hh'
  · obtain ⟨h1, h2⟩ := hs.mem.fix o l hl
    exact ⟨h1, (hβ o (by omega)).trans h2⟩
  · rcases hT o X ho with ⟨rfl, rfl⟩ | ⟨rfl, rfl⟩ | ⟨h1, h2, ho⟩
    · rw [hβ o hkd] at hh; exact hs.mem.clm o _ hk b hh
    · rw [hd] at hh; cases hh
    · rw [hβ o h1] at hh; exact hs.mem.clm o X ho b hh
  · have hold : ∀ o X, (s.nilCell k q d E es cs).gob o = some X → b ∈ (β' o).clm → o ≠ d ∧ ∃ Y, s.gob o = some Y := by
      intro o X ho hh
      rcases hT o X ho with ⟨rfl, rfl⟩ | ⟨rfl, rfl⟩ | ⟨h1, h2, ho⟩
      · exact ⟨hkd, _, hk⟩
      · rw [hd] at hh; cases hh
      · exact ⟨h1, _, ho⟩
    obtain ⟨h1, Y, hY⟩ := hold o X ho hh
    obtain ⟨h2, Y', hY'⟩ := hold o' X' ho' hh'
    rw [hβ o h1] at hh; rw [hβ o' h2] at hh'
    exact hs.mem.sepc o o' Y Y' hY hY' b hh hh'
/-- A nil slice as data. -/
def St.nilDat (s : St) (t : Nat) : St := ⟨(t, .one (.d (.sl []))) :: s.tm, s.ob⟩
theorem To.nilDat {s : St} {t : Nat} (ht : s.get t = some (.one .e0)) : To s (s.nilDat t) := by
  intro Γ a w S β hs
  refine ⟨S, β, hs.defers, hs.sz, fun i x hi => ?_, hs.mem⟩
  simp only [St.nilDat, St.get, look] at hi
  by_cases e : t = i
  · subst e
    simp at hi
    subst hi
    obtain ⟨v, hv, hr⟩ := hs.tm t _ ht
    cases hr.one_inv
    exact ⟨_, hv, RepV.one (.d (RepDs.sl_nil _ _))⟩
  · simp [e] at hi; exact hs.tm i x hi
/-- An obligation of plain arithmetic. -/
structure Do (p : Prop) : Prop where
  h : p

end AM
end Go.Proofs.Ytfcmmpmdofejeaa
