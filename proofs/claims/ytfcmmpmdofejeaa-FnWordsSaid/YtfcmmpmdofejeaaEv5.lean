/- Calls that are handed lists and variables of the caller's own; no conditions. -/
import Derived.Test.YtfcmmpmdofejeaaEv4
set_option linter.unusedSimpArgs false
set_option linter.unusedVariables false
namespace Go.Proofs.Ytfcmmpmdofejeaa
namespace AM
open Go

/-- A struct in a slot as data. -/
def St.nilAgD (s : St) (t : Nat) (cs : List At) : St := ⟨(t, (AV.agg cs).norm) :: s.tm, s.ob⟩
theorem To.nilAgD {s : St} {t : Nat} {cs : List At} (ht : s.get t = some (.agg cs)) : To s (s.nilAgD t cs) := by
  intro Γ a w S β hs
  refine ⟨S, β, hs.defers, hs.sz, fun i x hi => ?_, hs.mem⟩
  simp only [St.nilAgD, St.get, look] at hi
  by_cases e : t = i
  · subst e
    simp at hi
    subst hi
    obtain ⟨v, hv, hr⟩ := hs.tm t _ ht
    exact ⟨_, hv, hr.norm⟩
  · simp [e] at hi; exact hs.tm i x hi
/-- A nil slice in a struct counts as a list of the call's own. -/
def St.nilAgg (s : St) (t q d E es : Nat) (cs : List At) : St := { tm := (t, .agg (cs.set q (.ol d))) :: s.tm, ob := (d, .tr E es []) :: s.ob }
theorem To.nilAgg {s : St} {t q d E es : Nat} {cs : List At} (ht : s.get t = some (.agg cs)) (hc : cs[q]? = some .e0) (hf : s.fresh [(d, .lst E es [])] = true) : To s (s.nilAgg t q d E es cs) := by
  intro Γ a w S β hs
  let l0 : OLoc := ⟨0, none, 0, 0, false, [], []⟩
  have hl0 : ∀ b, ¬ l0.Own b := fun b hb => by rcases hb with ⟨h, _⟩ | h <;> simp [l0] at h
  let β' : Nat → OLoc := fun o => if o = d then l0 else β o
  have hlow := fresh_lt hf _ (List.mem_singleton.2 rfl)
  have hβ : ∀ o, o ≠ d → β' o = β o := fun o ho => if_neg ho
  have hd : β' d = l0 := if_pos rfl
  have hT : ∀ q' X, (s.nilAgg t q d E es cs).gob q' = some X → (q' = d ∧ X = .tr E es []) ∨ (q' ≠ d ∧ s.gob q' = some X) := by
    intro q' X hq
    simp only [St.nilAgg, St.gob, look] at hq
    by_cases e : d = q'
    · subst e; simp at hq; exact .inl ⟨rfl, hq.symm⟩
    · simp [e] at hq; exact .inr ⟨fun h => e h.symm, hq⟩
  refine ⟨S, β', hs.defers, hs.sz, fun i x hi => ?_, ⟨hs.mem.lt, fun q' X hq => ?_, fun q' X hq b hh => ?_, fun q1 q2 X X' hq hq' b hh hh' => ?_, hs.mem.os, hs.mem.tape, hs.mem.output, hs.mem.size, hs.mem.block, hs.mem.sub, hs.mem.sup, fun q' l hl => ?_, fun q' X hq b hh => ?_, fun q1 q2 X X' hq hq' b hh hh' => ?_⟩⟩
  · have key : ∀ j y, s.get j = some y → ∃ v, a.tmps[j]? = some v ∧ RepV w S β' y v := by
      intro j y hy
      obtain ⟨v, hv, hr⟩ := hs.tm j y hy
      exact ⟨v, hv, hr.mono (fun _ _ => rfl) (fun _ h => h) fun o ho => hβ o fun e => fresh_tm hf hy o ho _ (List.mem_singleton.2 rfl) e.symm⟩
    simp only [St.nilAgg, St.get, look] at hi
    by_cases e : t = i
    · subst e
      simp at hi
      subst hi
      obtain ⟨v, hv, hr⟩ := key t _ ht
      refine ⟨_, hv, ?_⟩
      obtain ⟨vs, rfl, hrs⟩ := hr.agg_inv
      refine RepVs.agg (RepAs.setAt (z := .e0) (fun v hv => ?_) hrs hc) .nil
      cases hv
      have : (.slice none 0 0 : Value) = (β' d).sv := by rw [hd]; rfl
      rw [this]; exact .ol
    · simp [e] at hi; exact key i x hi
  · rcases hT q' X hq with ⟨rfl, rfl⟩ | ⟨hne, hq⟩
    · rw [hd]
      exact .inl ⟨rfl, by simp, by simp, [], [], ⟨by simp, .inl ⟨rfl, rfl⟩⟩, .nil, by simp, by simp⟩
    · rw [hβ q' hne]
      exact (hs.mem.ob q' X hq).mono (fun _ _ => rfl) (fun _ _ => rfl) (fun _ h => h) fun o ho => hβ o fun e => (fresh_ob hf hq).2 o ho _ (List.mem_singleton.2 rfl) e.symm
  · rcases hT q' X hq with ⟨rfl, rfl⟩ | ⟨hne, hq⟩
    · rw [hd] at hh; exact (hl0 b hh).elim
    · rw [hβ q' hne] at hh; exact hs.mem.own q' X hq b hh
  · rcases hT q1 X hq with ⟨rfl, rfl⟩ | ⟨hne, hq⟩
    · rw [hd] at hh; exact (hl0 b hh).elim
    · rcases hT q2 X' hq' with ⟨rfl, rfl⟩ | ⟨hne', hq'⟩
      · rw [hd] at hh'; exact (hl0 b hh').elim
      · rw [hβ q1 hne] at hh; rw [hβ q2 hne'] at hh'
        exact hs.mem.sep q1 q2 X X' hq hq' b hh hh'
  · obtain ⟨h1, h2⟩ := hs.mem.fix q' l hl
    exact ⟨h1, (hβ q' (by omega)).trans h2⟩
  · rcases hT q' X hq with ⟨rfl, rfl⟩ | ⟨hne, hq⟩
    · rw [hd] at hh; cases hh
    · rw [hβ q' hne] at hh; exact hs.mem.clm q' X hq b hh
  · rcases hT q1 X hq with ⟨rfl, rfl⟩ | ⟨hne, hq⟩
    · rw [hd] at hh; cases hh
    · rcases hT q2 X' hq' with ⟨rfl, rfl⟩ | ⟨hne', hq'⟩
      · rw [hd] at hh'; cases hh'
      · rw [hβ q1 hne] at hh; rw [hβ q2 hne'] at hh'
        exact hs.mem.sepc q1 q2 X X' hq hq' b hh hh'

def frzOne (s : St) (k : Nat) : St := match s.gob k with
  | some (.lst _ es xs) => if 0 < es then s.frz k xs else s
  | some (.tr _ es xs) => if 0 < es then s.frz k xs else s
  | some (.tk xs) => s.frz k xs
  | some (.mt _ _ xs) => s.frz k xs
  | _ => s
def frzAll (s : St) : List Nat → St
  | [] => s
  | k :: r => frzAll (frzOne s k) r
theorem frzOne_sim {Γ : Cx} {s : St} {k : Nat} {a : Act} {w : World} {S : Nat → Prop} {β : Nat → OLoc} (hs : Sim Γ s a w S β) : ∃ S', (∀ b, S b → S' b) ∧ Sim Γ (frzOne s k) a w S' β := by
  unfold frzOne
  split
  · rename_i E es xs hk
    split
    · rename_i h
      exact hs.frz (tr := false) hk h
    · exact ⟨S, fun _ h => h, hs⟩
  · rename_i E es xs hk
    split
    · rename_i h
      exact hs.frz (tr := true) hk h
    · exact ⟨S, fun _ h => h, hs⟩
  · rename_i xs hk
    exact hs.frzK (.inl hk)
  · rename_i xs hk
    exact hs.frzK (.inr ⟨_, _, hk⟩)
  · exact ⟨S, fun _ h => h, hs⟩
theorem frzAll_sim {Γ : Cx} {a : Act} {w : World} {β : Nat → OLoc} : ∀ {ks : List Nat} {s : St} {S : Nat → Prop}, Sim Γ s a w S β → ∃ S', (∀ b, S b → S' b) ∧ Sim Γ (frzAll s ks) a w S' β
  | [], _, S, hs => ⟨S, fun _ h => h, hs⟩
  | k :: r, s, S, hs => by
    obtain ⟨S', h0, h⟩ := frzOne_sim (k := k) hs
    obtain ⟨S2, h1, h2⟩ := frzAll_sim (ks := r) h
    exact ⟨S2, fun b hb => h1 b (h0 b hb), h2⟩
theorem To.frzAll {s : St} {ks : List Nat} : To s (frzAll s ks) := fun _ _ _ S β hs => by
  obtain ⟨S', _, h⟩ := frzAll_sim hs
  exact ⟨S', β, h⟩
def viewAll (s : St) : List Nat → St
  | [] => s
  | k :: r => match s.gob k with
    | some (.tk xs) => viewAll (s.frz k xs) r
    | _ => viewAll s r
theorem viewAll_sim {Γ : Cx} {a : Act} {w : World} {S : Nat → Prop} {β : Nat → OLoc} : ∀ {ks : List Nat} {s : St}, Sim Γ s a w S β → Sim Γ (viewAll s ks) a w S β
  | [], _, hs => hs
  | k :: r, s, hs => by
    simp only [viewAll]
    split
    · rename_i hk
      exact viewAll_sim (hs.view hk)
    · exact viewAll_sim hs
/-- Lists that are handed to a call that keeps data: owning ones are sealed, others are data from now on. -/
def sealAll (s : St) : List Nat → St
  | [] => s
  | k :: r => match s.gob k with
    | some (.tr _ _ xs) => match decide (k < 2000) with
      | true => sealAll (s.seal k xs) r
      | false => sealAll (frzOne s k) r
    | some (.tk _) => sealAll s r
    | _ => sealAll (frzOne s k) r
theorem To.frzOne {s : St} {k : Nat} : To s (frzOne s k) := fun _ _ _ S β hs => by
  obtain ⟨S', _, h⟩ := frzOne_sim hs
  exact ⟨S', β, h⟩
theorem To.sealAll : ∀ {ks : List Nat} {s : St}, To s (sealAll s ks)
  | [], s => To.refl s
  | k :: r, s => by
    simp only [AM.sealAll]
    split
    · rename_i hk
      split
      · rename_i hl
        exact To.trans (fun Γ a w S β hs => hs.seal hk (of_decide_eq_true hl)) To.sealAll
      · exact To.frzOne.trans To.sealAll
    · exact To.sealAll
    · exact To.frzOne.trans To.sealAll

/-- Scalars alone. -/
def Da.flatF : Da → Bool
  | .sl _ => false
  | .tg _ _ => false
  | _ => true
mutual
def AV.flat : AV → Bool
  | .one (.d x) => x.flatF
  | .dat ds => ds.all Da.flatF
  | .tup ys => AV.flatT ys
  | _ => false
def AV.flatT : List AV → Bool
  | [] => true
  | y :: r => y.flat && AV.flatT r
end
section
variable {w w' : World} {S S' : Nat → Prop} {β β' : Nat → OLoc}
theorem RepF.flatF {xs : List Da} {vs : List Value} {fp : List Nat} (h : RepF w xs vs fp) (hf : xs.all Da.flatF = true) : RepF w' xs vs [] := by
  induction h with
  | nil => exact .nil
  | int _ ih => exact .int (ih (by simpa [Da.flatF] using hf))
  | bool _ ih => exact .bool (ih (by simpa [Da.flatF] using hf))
  | str hs _ ih => exact .str hs (ih (by simpa [Da.flatF] using hf))
  | fn _ ih => exact .fn (ih (by simpa [Da.flatF] using hf))
  | sl0 => simp [Da.flatF] at hf
  | sl1 => simp [Da.flatF] at hf
  | tg => simp [Da.flatF] at hf
theorem RepDs.flatD {xs : List Da} {vs : List Value} (h : RepDs w S xs vs) (hf : xs.all Da.flatF = true) : RepDs w' S' xs vs := by
  obtain ⟨fp, h, _⟩ := h
  exact ⟨[], h.flatF hf, by simp⟩
theorem RepVs.flatV {ys : List AV} {vs : List Value} (h : RepVs w S β ys vs) (hf : AV.flatT ys = true) : RepVs w' S' β' ys vs := by
  induction h with
  | nil => exact .nil
  | one h _ ih =>
    simp only [AV.flatT, Bool.and_eq_true] at hf
    refine .one ?_ (ih hf.2)
    cases h with
    | d h => exact .d (h.flatD (by simpa [AV.flat] using hf.1))
    | _ => simp [AV.flat] at hf
  | dat h _ ih =>
    simp only [AV.flatT, Bool.and_eq_true] at hf
    exact .dat (h.flatD (by simpa [AV.flat] using hf.1)) (ih hf.2)
  | agg _ _ _ => simp [AV.flatT, AV.flat] at hf
  | tup _ _ ih1 ih2 =>
    simp only [AV.flatT, Bool.and_eq_true] at hf
    exact .tup (ih1 (by simpa [AV.flat] using hf.1)) (ih2 hf.2)
theorem RepV.flatV {y : AV} {v : Value} (h : RepV w S β y v) (hf : y.flat = true) : RepV w' S' β' y v := RepVs.flatV h (by simpa [AV.flatT] using hf)
end

mutual
/-- Scalars and lists of their own. -/
def At.closed : At → Bool
  | .d x => x.flatF
  | .e0 => true
  | .ol _ => true
  | _ => false
def AV.closed : AV → Bool
  | .one x => x.closed
  | .dat ds => ds.all Da.flatF
  | .agg xs => xs.all At.closed
  | .tup ys => AV.closedT ys
def AV.closedT : List AV → Bool
  | [] => true
  | y :: r => y.closed && AV.closedT r
end
def isTr : Ob → Bool
  | .tr _ _ _ => true
  | _ => false
section
variable {w w' : World} {S S' : Nat → Prop} {β β' : Nat → OLoc}
theorem RepA.closedA {x : At} {v : Value} (h : RepA w S β x v) (hc : x.closed = true) (hβ : ∀ o, (β' o).sv = (β o).sv) : RepA w' S' β' x v := by
  cases h with
  | d h => exact .d (h.flatD (by simpa [At.closed] using hc))
  | e0 => exact .e0
  | @ol o => rw [← hβ o]; exact .ol
  | _ => simp [At.closed] at hc
theorem RepAs.closedA {xs : List At} {vs : List Value} (h : RepAs w S β xs vs) (hc : xs.all At.closed = true) (hβ : ∀ o, (β' o).sv = (β o).sv) : RepAs w' S' β' xs vs := by
  induction h with
  | nil => exact .nil
  | cons h _ ih =>
    simp only [List.all_cons, Bool.and_eq_true] at hc
    exact .cons (h.closedA hc.1 hβ) (ih hc.2)
theorem RepVs.closedV {ys : List AV} {vs : List Value} (h : RepVs w S β ys vs) (hf : AV.closedT ys = true) (hβ : ∀ o, (β' o).sv = (β o).sv) : RepVs w' S' β' ys vs := by
  induction h with
  | nil => exact .nil
  | one h _ ih =>
    simp only [AV.closedT, Bool.and_eq_true] at hf
    exact .one (h.closedA (by simpa [AV.closed] using hf.1) hβ) (ih hf.2)
  | dat h _ ih =>
    simp only [AV.closedT, Bool.and_eq_true] at hf
    exact .dat (h.flatD (by simpa [AV.closed] using hf.1)) (ih hf.2)
  | agg h _ ih =>
    simp only [AV.closedT, Bool.and_eq_true] at hf
    exact .agg (h.closedA (by simpa [AV.closed] using hf.1) hβ) (ih hf.2)
  | tup _ _ ih1 ih2 =>
    simp only [AV.closedT, Bool.and_eq_true] at hf
    exact .tup (ih1 (by simpa [AV.closed] using hf.1)) (ih2 hf.2)
theorem RepV.closedV {y : AV} {v : Value} (h : RepV w S β y v) (hf : y.closed = true) (hβ : ∀ o, (β' o).sv = (β o).sv) : RepV w' S' β' y v := RepVs.closedV h (by simpa [AV.closedT] using hf) hβ
end
/-- What a call made, as memory that is the caller's alone. -/
def thaw : List (Nat × Ob) → List (Nat × Ob)
  | [] => []
  | (k, .tr E es xs) :: r => (k, .mt E es xs) :: thaw r
  | p :: r => p :: thaw r
def OLoc.thaw (l : OLoc) : OLoc := { l with has := false, sub := l.blkL ++ (l.sub ++ l.clm), clm := [] }

section
variable {Γ : Cx} {P : Program} {E : Env} {z : Prop} {o : Oper} {s s' sF : St}
theorem xop_of {y : AV} {nob : List (Nat × Ob)} (h : OpS P o s s y nob) (hd : o.dst.all (· < Γ.n) = true) (hf : s.fresh nob = true) : XOp Γ P o s (s.upd o.dst y nob) := by
  obtain ⟨us, h1, h2⟩ := h
  intro a w S β K' R hs hK
  exact h1 a w S β hs.mem.lt (fun x X hx _ => hs.eval hx) (fun p hp => hs.mem.ob _ _ (usOk_spec h2 p hp)) K' R fun v w' S' β' hG hy => hK _ _ _ _ (hs.upd hG hy hd hf)
theorem xop_to (ht : To s sF) (h : XOp Γ P o sF s') : XOp Γ P o s s' := by
  intro a w S β K' R hs hK
  obtain ⟨S', β', h'⟩ := ht Γ a w S β hs
  exact h a w S' β' K' R h' hK
theorem opL_of {y : AV} {nob : List (Nat × Ob)} (h : OpS P o s s y nob) : OpL P o s y nob := by
  obtain ⟨us, h1, h2⟩ := h
  intro Γ a w S β hs K R hK
  exact h1 a w S β hs.mem.lt (fun x X hx _ => hs.eval hx) (fun p hp => hs.mem.ob _ _ (usOk_spec h2 p hp)) K R hK
/-- Lists lent to a call that gives back scalars, and lists of its own. -/
theorem opL_lend {ks : List Nat} {y : AV} {nob : List (Nat × Ob)} (h : OpS P o (frzAll s ks) (frzAll s ks) y nob) (hy : y.closed = true) (htr : (nob.all fun p => isTr p.2) = true) : OpL P o s y nob := by
  obtain ⟨us, h1, h2⟩ := h
  intro Γ a w S β hs K' R hK
  obtain ⟨S1, hS1, h'⟩ := frzAll_sim (ks := ks) hs
  refine h1 a w S1 β h'.mem.lt (fun x X hx _ => h'.eval hx) (fun p hp => h'.mem.ob _ _ (usOk_spec h2 p hp)) K' R fun v w' S2 β' hG hyr => ?_
  let S' : Nat → Prop := fun b => S b ∨ ∃ p ∈ nob, b ∈ (β' p.1).clm
  have hS2 : ∀ b, S' b → S2 b := fun b hb => by
    rcases hb with hb | ⟨p, hp, hb⟩
    · exact hG.sub b (hS1 b hb)
    · exact (hG.clm p hp b hb).1
  have hG2 : Grow w S β nob w' S' β' := by
    refine ⟨hG.os, hG.tape, hG.output, hG.size, hG.block, fun _ h => .inl h, fun b hb => ⟨(hG.sup b (hS2 b hb)).1, ?_⟩, hG.loc, fun p hp => ?_, fun p hp b hb => ?_, hG.sep, fun p hp b hb => ⟨.inr ⟨p, hp, hb⟩, (hG.clm p hp b hb).2⟩, hG.sepc⟩
    · rcases hb with hb | ⟨p, hp, hb⟩
      · exact .inl hb
      · exact .inr (hG.clm p hp b hb).2
    · have h3 := hG.ob p hp
      have h4 := List.all_eq_true.1 htr p hp
      obtain ⟨k, X⟩ := p
      cases X <;> simp [isTr] at h4
      rcases h3 with ⟨a1, a2, a3, vs, fp, a4, a5, a6, a7⟩ | h3
      rotate_left
      · exact .inr h3
      exact .inl ⟨a1, a2, a3, vs, fp, a4, a5, fun b hb => ⟨.inr ⟨_, hp, (a6 b hb).2⟩, (a6 b hb).2⟩, a7⟩
    · obtain ⟨m1, m2, m3⟩ := hG.own p hp b hb
      exact ⟨m1, m2, fun hh => m3 (hS2 b hh)⟩
  exact hK _ _ S' β' hG2 (hyr.closedV hy fun _ => rfl)
/-- The same; what is made is the caller's alone. -/
theorem opL_lendM {ks : List Nat} {y : AV} {nob : List (Nat × Ob)} (h : OpS P o (frzAll s ks) (frzAll s ks) y nob) (hy : y.closed = true) (htr : (nob.all fun p => isTr p.2) = true) : OpL P o s y (thaw nob) := by
  obtain ⟨us, h1, h2⟩ := h
  intro Γ a w S β hs K' R hK
  obtain ⟨S1, hS1, h'⟩ := frzAll_sim (ks := ks) hs
  refine h1 a w S1 β h'.mem.lt (fun x X hx _ => h'.eval hx) (fun p hp => h'.mem.ob _ _ (usOk_spec h2 p hp)) K' R fun v w' S2 β' hG hyr => ?_
  let β2 : Nat → OLoc := fun q => if nob.any (·.1 == q) then (β' q).thaw else β' q
  have hb2 : ∀ q, (∃ p ∈ nob, p.1 = q) → β2 q = (β' q).thaw := fun q ⟨p, hp, e⟩ => if_pos (List.any_eq_true.2 ⟨p, hp, by simpa using e⟩)
  have hb3 : ∀ q, (∀ p ∈ nob, p.1 ≠ q) → β2 q = β' q := fun q hn => if_neg fun h => by
    obtain ⟨p, hp, e⟩ := List.any_eq_true.1 h
    exact hn p hp (by simpa using e)
  have hth : ∀ {l : List (Nat × Ob)}, (l.all fun p => isTr p.2) = true → ∀ q ∈ thaw l, ∃ E es xs, (q.1, Ob.tr E es xs) ∈ l ∧ q.2 = .mt E es xs := by
    intro l
    induction l with
    | nil => simp [thaw]
    | cons p r ih =>
      intro hl q hq
      obtain ⟨k, X⟩ := p
      simp only [List.all_cons, Bool.and_eq_true] at hl
      obtain ⟨hl0, hl⟩ := hl
      cases X <;> simp [isTr] at hl0
      rename_i E es xs
      simp only [thaw, List.mem_cons] at hq
      rcases hq with rfl | hq
      · exact ⟨E, es, xs, by simp, rfl⟩
      · obtain ⟨E', es', xs', h5, h6⟩ := ih hl q hq
        exact ⟨E', es', xs', by simp [h5], h6⟩
  have hkeys : ∀ {l : List (Nat × Ob)}, (l.all fun p => isTr p.2) = true → ∀ p ∈ l, ∃ q ∈ thaw l, q.1 = p.1 := by
    intro l
    induction l with
    | nil => simp
    | cons p r ih =>
      intro hl q hq
      obtain ⟨k, X⟩ := p
      simp only [List.all_cons, Bool.and_eq_true] at hl
      obtain ⟨hl0, hl⟩ := hl
      cases X <;> simp [isTr] at hl0
      simp only [thaw]
      rcases List.mem_cons.1 hq with rfl | hq
      · exact ⟨_, List.mem_cons_self .., rfl⟩
      · obtain ⟨q', h5, h6⟩ := ih hl q hq
        exact ⟨q', List.mem_cons_of_mem _ h5, h6⟩
  have hblk : ∀ (l : OLoc) b, b ∈ l.blkL → l.has = true ∧ l.blk = b := by
    intro l b hb
    unfold OLoc.blkL at hb
    split at hb
    · rename_i h; exact ⟨h, by simpa using Eq.symm (by simpa using hb)⟩
    · cases hb
  have hown2 : ∀ k, (∃ p ∈ nob, p.1 = k) → ∀ b, (β2 k).Own b → (β' k).Own b ∨ b ∈ (β' k).clm := by
    intro k hk b hb
    rw [hb2 k hk] at hb
    rcases hb with ⟨h5, _⟩ | hb
    · cases h5
    · rcases List.mem_append.1 hb with hb | hb
      · exact .inl (.inl (hblk _ b hb))
      · rcases List.mem_append.1 hb with hb | hb
        · exact .inl (.inr hb)
        · exact .inr hb
  have hfreshb : ∀ p ∈ nob, ∀ b, (β' p.1).Own b ∨ b ∈ (β' p.1).clm → w.heap.size ≤ b ∧ b < w'.heap.size := by
    intro p hp b hb
    rcases hb with hb | hb
    · obtain ⟨m1, m2, _⟩ := hG.own p hp b hb; exact ⟨m1, m2⟩
    · obtain ⟨m1, m2⟩ := hG.clm p hp b hb; exact ⟨m2, (hG.sup b m1).1⟩
  have hG2 : Grow w S β (thaw nob) w' S β2 := by
    refine ⟨hG.os, hG.tape, hG.output, hG.size, hG.block, fun _ h => h, fun b hb => ⟨Nat.lt_of_lt_of_le (hs.mem.lt b hb) hG.size, .inl hb⟩, fun q hq => ?_, fun q hq => ?_, fun q hq b hb => ?_, fun q hq r hr b hb hb' => ?_, fun q hq b hb => ?_, fun q hq r hr b hb hb' => ?_⟩
    · have hn : ∀ p ∈ nob, p.1 ≠ q := fun p hp e => by
        obtain ⟨q', h5, h6⟩ := hkeys htr p hp
        exact hq q' h5 (h6.trans e)
      rw [hb3 q hn]; exact hG.loc q hn
    · obtain ⟨E', es', xs', h5, h6⟩ := hth htr q hq
      rw [hb2 q.1 ⟨_, h5, rfl⟩, h6]
      have h7 := hG.ob _ h5
      obtain ⟨fp, t1, t2, t3⟩ := slT_of_tr h7
      refine ⟨rfl, (mkL_len (tr := true) h7).1, (mkL_len (tr := true) h7).2, fun a n c hsv hn => ?_, fp, t1, fun b hb => ?_, t3 fun hh b hb e => ?_⟩
      · have hsv : (β' q.1).sv = .slice (some a) n c := hsv
        rcases h7 with ⟨a1, _, _, vs, fp0, a4, _⟩ | ⟨_, h0, ad, hz0⟩
        · rw [hsv] at a1 a4
          rcases a4.2 with ⟨e, _⟩ | ⟨g, cap, cur, e, _⟩
          · cases e
          · cases e
            simp only [Value.ownBlock] at a1
            split at a1
            · simp at a1; rw [a1]; rfl
            · simp at a1
        · rw [hsv] at hz0; cases hz0; omega
      · rcases t2 b hb with ⟨_, h8⟩ | ⟨h8, h9⟩
        · exact List.mem_append_right _ (List.mem_append_right _ h8)
        · exact List.mem_append_left _ (by simp [OLoc.blkL, h8, h9])
      · exact (hG.own _ h5 b (.inl ⟨hh, e.symm⟩)).2.2 (hG.clm _ h5 b hb).1
    · obtain ⟨E', es', xs', h5, h6⟩ := hth htr q hq
      obtain ⟨m1, m2⟩ := hfreshb _ h5 b (hown2 q.1 ⟨_, h5, rfl⟩ b hb)
      exact ⟨m1, m2, fun hS => by have := hs.mem.lt b hS; omega⟩
    · obtain ⟨_, _, _, h5, _⟩ := hth htr q hq
      obtain ⟨_, _, _, h6, _⟩ := hth htr r hr
      have a1 := hown2 q.1 ⟨_, h5, rfl⟩ b hb
      have a2 := hown2 r.1 ⟨_, h6, rfl⟩ b hb'
      rcases a1 with a1 | a1 <;> rcases a2 with a2 | a2
      · have h7 := hG.sep _ h5 _ h6 b a1 a2; exact h7
      · exact ((hG.own _ h5 b a1).2.2 (hG.clm _ h6 b a2).1).elim
      · exact ((hG.own _ h6 b a2).2.2 (hG.clm _ h5 b a1).1).elim
      · have h7 := hG.sepc _ h5 _ h6 b a1 a2; exact h7
    · obtain ⟨_, _, _, h5, _⟩ := hth htr q hq
      rw [hb2 q.1 ⟨_, h5, rfl⟩] at hb
      cases hb
    · obtain ⟨_, _, _, h5, _⟩ := hth htr q hq
      rw [hb2 q.1 ⟨_, h5, rfl⟩] at hb
      cases hb
  refine hK _ _ S β2 hG2 (hyr.closedV hy fun q => ?_)
  show (β2 q).sv = (β' q).sv
  simp only [β2]
  split <;> rfl
/-- What is handed to a call is looked at through another state of the same memory. -/
theorem xop_view {y : AV} {nob : List (Nat × Ob)} (hV : ∀ a w S β, Sim Γ s a w S β → Sim Γ sF a w S β) (h : OpS P o sF sF y nob) (hd : o.dst.all (· < Γ.n) = true) (hf : s.fresh nob = true) : XOp Γ P o s (s.upd o.dst y nob) := by
  obtain ⟨us, h1, h2⟩ := h
  intro a w S β K' R hs hK
  have h' := hV a w S β hs
  exact h1 a w S β h'.mem.lt (fun x X hx _ => h'.eval hx) (fun p hp => h'.mem.ob _ _ (usOk_spec h2 p hp)) K' R fun v w' S' β' hG hy => hK _ _ _ _ (hs.upd hG hy hd hf)
end

def addNew (l : List Nat) (x : Nat) : List Nat := if l.contains x then l else l ++ [x]
def addAll (l xs : List Nat) : List Nat := xs.foldl addNew l
/-- The objects that are reached from some numbers. -/
def reachOb (s : St) : Nat → List Nat → List Nat
  | 0, l => l
  | n + 1, l => reachOb s n (l.foldl (fun a k => match s.gob k with
    | some X => addAll a X.ids
    | none => a) l)
def numIds (n : Nat) : List Nat → List (Nat × Nat)
  | [] => []
  | k :: r => (k, n) :: numIds (n + 1) r
def getObs (s : St) : List Nat → Option (List (Nat × Ob))
  | [] => some []
  | k :: r => match s.gob k, getObs s r with
    | some X, some Y => some ((k, X) :: Y)
    | _, _ => none
theorem getObs_us {s : St} : ∀ {l : List Nat} {I : List (Nat × Ob)}, getObs s l = some I → usOk s I
  | [], I, h => by simp [getObs] at h; subst h; trivial
  | k :: r, I, h => by
    simp only [getObs] at h
    split at h
    · rename_i X Y h1 h2
      simp at h; subst h
      exact ⟨h1, getObs_us h2⟩
    · simp at h

/-- The shapes of what a variable holds behind a call: a list in it counts as new. -/
def shA (I : List (Nat × Ob)) : At → Nat → (At → List (Nat × Ob) → Nat → Prop) → Prop
  | .d (.int k _), n, K => ∃ m : Int, K (.d (.int k m)) [] n
  | .d (.bool _), n, K => ∃ b : Bool, K (.d (.bool b)) [] n
  | .d (.str _), n, K => ∃ q : ByteArray, K (.d (.str q)) [] n
  | .d (.sl _), n, K => ∃ xs : List (List Da), K (.d (.sl xs)) [] n
  | .ol o, n, K => match look I o with
    | some (.lst E es _) => ∃ xs : List (List Da), K (.ol n) [(n, .lst E es xs)] (n + 1)
    | some (.tr E es _) => ∃ xs : List (List Da), K (.ol n) [(n, .tr E es xs)] (n + 1)
    | some (.tk xs) => K (.ol o) [(o, .tk xs)] n
    | _ => K (.ol o) [] n
  | x, n, K => K x [] n
def shAs (I : List (Nat × Ob)) : List At → Nat → (List At → List (Nat × Ob) → Nat → Prop) → Prop
  | [], n, K => K [] [] n
  | x :: r, n, K => shA I x n fun y O m => shAs I r m fun ys O' m' => K (y :: ys) (O ++ O') m'
def shO (I : List (Nat × Ob)) (dir : List Nat) : List (Nat × Ob) → Nat → (List (Nat × Ob) → List (Nat × Ob) → Prop) → Prop
  | [], n, K => K [] []
  | (k, .var cs) :: r, n, K => shAs I cs n fun ys O m => shO I dir r m fun Oi On => K ((k, .var ys) :: Oi) (O ++ On)
  | (k, .lst E es _) :: r, n, K => match dir.contains k with
    | true => ∃ xs : List (List Da), shO I dir r n fun Oi On => K ((k, .lst E es xs) :: Oi) On
    | false => shO I dir r n K
  | (k, .tr E es _) :: r, n, K => match dir.contains k with
    | true => ∃ xs : List (List Da), shO I dir r n fun Oi On => K ((k, .tr E es xs) :: Oi) On
    | false => shO I dir r n K
  | (k, .mt E es _) :: r, n, K => ∃ xs : List (List Da), shO I dir r n fun Oi On => K ((k, .mt E es xs) :: Oi) On
  | (_, .mu _ _ _ _ _ _ _ _) :: r, n, K => shO I dir r n K
  | (k, .tk _) :: r, n, K => shO I dir r n K
  | (_, .fu _ _ _ _) :: r, n, K => shO I dir r n K
theorem shA_ex {I : List (Nat × Ob)} {x : At} {n : Nat} {K : At → List (Nat × Ob) → Nat → Prop} (h : shA I x n K) : ∃ y O m, K y O m := by
  unfold shA at h
  split at h
  · obtain ⟨m, h⟩ := h; exact ⟨_, _, _, h⟩
  · obtain ⟨m, h⟩ := h; exact ⟨_, _, _, h⟩
  · obtain ⟨m, h⟩ := h; exact ⟨_, _, _, h⟩
  · obtain ⟨m, h⟩ := h; exact ⟨_, _, _, h⟩
  · split at h
    · obtain ⟨m, h⟩ := h; exact ⟨_, _, _, h⟩
    · obtain ⟨m, h⟩ := h; exact ⟨_, _, _, h⟩
    · exact ⟨_, _, _, h⟩
    · exact ⟨_, _, _, h⟩
  · exact ⟨_, _, _, h⟩
theorem shAs_ex {I : List (Nat × Ob)} : ∀ {cs : List At} {n : Nat} {K : List At → List (Nat × Ob) → Nat → Prop}, shAs I cs n K → ∃ ys O m, K ys O m
  | [], _, _, h => ⟨_, _, _, h⟩
  | x :: r, n, K, h => by
    obtain ⟨y, O, m, h⟩ := shA_ex h
    obtain ⟨ys, O', m', h⟩ := shAs_ex h
    exact ⟨_, _, _, h⟩
theorem shO_ex {I : List (Nat × Ob)} {dir : List Nat} : ∀ {J : List (Nat × Ob)} {n : Nat} {K : List (Nat × Ob) → List (Nat × Ob) → Prop}, shO I dir J n K → ∃ Oi On, K Oi On
  | [], _, _, h => ⟨_, _, h⟩
  | (k, .var cs) :: r, n, K, h => by
    obtain ⟨ys, O, m, h⟩ := shAs_ex h
    obtain ⟨Oi, On, h⟩ := shO_ex h
    exact ⟨_, _, h⟩
  | (k, .lst E es xs) :: r, n, K, h => by
    simp only [shO] at h
    split at h
    · obtain ⟨xs, h⟩ := h
      obtain ⟨Oi, On, h⟩ := shO_ex h
      exact ⟨_, _, h⟩
    · exact shO_ex h
  | (k, .tr E es xs) :: r, n, K, h => by
    simp only [shO] at h
    split at h
    · obtain ⟨xs, h⟩ := h
      obtain ⟨Oi, On, h⟩ := shO_ex h
      exact ⟨_, _, h⟩
    · exact shO_ex h
  | (k, .mu E es xs m q a n' c) :: r, n, K, h => by
    simp only [shO] at h
    exact shO_ex h
  | (k, .mt E es xs) :: r, n, K, h => by
    simp only [shO] at h
    obtain ⟨xs, h⟩ := h
    obtain ⟨Oi, On, h⟩ := shO_ex h
    exact ⟨_, _, h⟩
  | (k, .tk xs) :: r, n, K, h => by
    simp only [shO] at h
    exact shO_ex h
  | (k, .fu _ _ _ _) :: r, n, K, h => by
    simp only [shO] at h
    exact shO_ex h

/-- A call that is handed objects. -/
def vXCall (z : Prop) (P : Program) (E : Env) (o : Oper) (s sV : St) (f : FuncId) (zs : List AV) (k : St → Prop) : Prop :=
  chk z (E.fns.contains f) <| opt z (look E.sig f) fun sg => opt z (getObs s (reachOb s 8 (addAll [] (AV.idsT zs)))) fun I =>
    let l1 := numIds 2000 (I.map (·.1))
    let xs := AV.mapT (renAt l1) (zs.map AV.norm)
    let I' := renO l1 I
    rsh sg 0 fun r On m => shO I' (AV.idsT xs) I' m fun Oi On' =>
      let O := Oi ++ (On ++ On')
      let l2 := (l1.map fun p => (p.2, p.1)) ++ newMap (o.dst.getD 490) (On ++ On')
      chk z (renOk l1 l2 I O (mvOf O) && xok s I (renO l2 O) ((mvOf O).map fun m => (look l2 m).getD m)) <|
        XC P f xs I' r O ∧ k (s.xupd o.dst (r.map (renAt l2)) I (renO l2 O) ((mvOf O).map fun m => (look l2 m).getD m))

/-- Results without borrowed lists. -/
def RS.closed : RS → Bool
  | .c .l => false
  | .c .f => false
  | .c _ => true
  | .d ks => ks.all fun c => decide (c ≠ .l ∧ c ≠ .f)
  | .o _ _ => true
  | .b _ _ => false
  | .s ks => ks.all fun c => match c with
    | .k .l => false
    | .k .f => false
    | _ => true
  | .p _ => false
  | .t rs => go rs
where go : List RS → Bool
  | [] => true
  | r :: rs => r.closed && go rs

def olIds : List AV → List Nat
  | [] => []
  | .one (.ol k) :: r => k :: olIds r
  | .agg xs :: r => AV.idsL xs ++ olIds r
  | _ :: r => olIds r
def noIds (xs : List AV) : Bool := (AV.idsT xs).isEmpty

def muOf : List (Nat × Ob) → Option (Nat × Nat × Nat × List (List Da) × Nat × Nat × Option Addr × Nat × Nat)
  | [] => none
  | (k, .mu E es xs m q a n c) :: _ => some (k, E, es, xs, m, q, a, n, c)
  | _ :: r => muOf r
/-- A call that is handed a slice that stands in memory that is the caller's alone. -/
def vCallM (z : Prop) (P : Program) (E : Env) (n : Nat) (o : Oper) (s : St) (k : St → Prop) : Prop := match o.op with
  | .call c => match c.callee with
    | .value v => chk z (o.dst.all (· < n)) <| opt z (s.ev v) fun V => opt z (argsA s.ev c.args.toList) fun xs => opt z (muOf s.ob) fun p => opt z c.argTypes[0]? fun t => opt z (look E.tab t) fun i => opt z i.el fun e => opt z (look E.zer e) fun zz => match V, xs with
      | .one (.d (.fn f)), .one (.raw a l r) :: zs => opt z (look E.sig f) fun sg => opt z (look E.cks p.2.1) fun ck => opt z (s.gob p.1) fun Y => match Y with
        | .mu Ee es rows m q a' l' r' => chk z (E.fns.contains f && noIds zs) <| (a = a' ∧ l = l' ∧ r = r') ∧ shp ck fun row => rows[m]? = some row ∧ match row[q]? with
          | some (.sl ys) => Do (∀ y ∈ ys, y.length = zz.1) ∧ ∃ ys1 : List (List Da), rsh sg 0 fun y On _ => chk z (y.flat && On.isEmpty) <| XC P f (.one (.ol 2000) :: zs) [(2000, .mt e zz.1 ys)] y [(2000, .mt e zz.1 ys1)] ∧ k ((s.mv (killL []) p.1 [] (.mt Ee es (rows.set m (row.take q ++ [.sl ys1] ++ row.drop (q + 1))))).upd o.dst y [])
          | _ => False
        | _ => z
      | _, _ => z
    | _ => z
  | _ => z
theorem vCallM_sound {Γ : Cx} {P : Program} {E : Env} {z : Prop} {ops : Array Oper} {rest : List Oper} {o : Oper} {s : St} {k K : St → Prop} (hE : EnvOk P E) (hz : ¬ z) (hg : o.guard = none) (hk : ∀ s', k s' → aOps Γ P ops rest K s') (h : vCallM z P E Γ.n o s k) : aOps Γ P ops (o :: rest) K s := by
  unfold vCallM at h
  split at h
  · rename_i c ho
    obtain ⟨callee, args, ats⟩ := c
    simp only at h
    split at h
    · rename_i v
      obtain ⟨hd, h⟩ := chk_inv hz h
      obtain ⟨V, hV, h⟩ := opt_inv hz h
      obtain ⟨xs, hxs, h⟩ := opt_inv hz h
      obtain ⟨p, hp, h⟩ := opt_inv hz h
      obtain ⟨t, _, h⟩ := opt_inv hz h
      obtain ⟨i, _, h⟩ := opt_inv hz h
      obtain ⟨e, _, h⟩ := opt_inv hz h
      obtain ⟨zz, _, h⟩ := opt_inv hz h
      have ho' : o.op = .call { callee := .value v, args := args.toList.toArray, argTypes := ats } := by simpa using ho
      split at h
      · rename_i f a l r zs
        obtain ⟨sg, _, h⟩ := opt_inv hz h
        obtain ⟨ck, _, h⟩ := opt_inv hz h
        obtain ⟨Y, hY, h⟩ := opt_inv hz h
        split at h
        · rename_i Ee es rows m q a' l' r'
          obtain ⟨hl, he3, h⟩ := chk_inv hz h
          rw [he3.1, he3.2.1, he3.2.2] at hxs
          simp only [Bool.and_eq_true, List.contains_iff_mem, noIds, List.isEmpty_iff] at hl
          obtain ⟨row, _, hm, h⟩ := shp_ex h
          cases hq : row[q]? with
          | none => rw [hq] at h; exact h.elim
          | some x0 =>
            rw [hq] at h
            cases x0 with
            | sl ys =>
              obtain ⟨hes, ys1, h⟩ := h
              obtain ⟨y, On, _, h⟩ := rsh_ex sg h
              obtain ⟨hc, hx, h⟩ := chk_inv hz h
              simp only [Bool.and_eq_true] at hc
              obtain ⟨fn, hfn, hb, hn⟩ := fnOk_spec (List.all_eq_true.1 hE.fns _ hl.1)
              exact aOps_callM ho' hg hd hV hxs hl.2 hY hm hq hes.h hfn hb hn hx.h (fun _ _ _ _ _ _ _ hr => hr.flatV hc.1) (hk _ h)
            | _ => exact h.elim
        · exact absurd h hz
      · exact absurd h hz
    · exact absurd h hz
  · exact absurd h hz
def rawArg (s : St) (c : Call) : Bool := match c.args.toList with
  | x :: _ => match s.ev x with
    | some (.one (.raw _ _ _)) => true
    | _ => false
  | _ => false

/-- Lists whose rows' blocks are looked on as data. -/
def degrAll (s : St) : List Nat → St
  | [] => s
  | k :: r => match s.gob k with
    | some (.tr e es xs) => degrAll (s.setOb k (.lst e es xs)) r
    | _ => degrAll s r
theorem To.degrAll : ∀ {l : List Nat} {s : St}, To s (degrAll s l)
  | [], s => To.refl s
  | k :: r, s => by
    simp only [AM.degrAll]
    split
    · rename_i hk
      exact To.trans (fun Γ a w S β hs => ⟨S, β, hs.setX hk ObRep.lst_of_tr⟩) To.degrAll
    · exact To.degrAll

def isOvl (E : Env) : Operand → Bool
  | .func f => E.ovl.contains f
  | _ => false
/-- Two lists of the call's own do not overlap. -/
def vOvl (z : Prop) (E : Env) (n : Nat) (o : Oper) (s : St) (k : St → Prop) : Prop := match o.op with
  | .call c => match c.callee, c.args.toList with
    | .value (.func f), [x, y] => chk z (o.dst.all (· < n) && E.ovl.contains f) <| opt z (s.ev x) fun X => opt z (s.ev y) fun Y => match X, Y with
      | .one (.ol k1), .one (.ps k2 es2 _ _) => opt z (s.gob k1) fun A => opt z (asP A) fun p => opt z (s.gob k2) fun A2 => opt z (asP A2) fun q => chk z (p.1.isNone && decide (k1 ≠ k2 ∧ q.2.2.1 = es2 ∧ 0 < es2)) (k (s.upd o.dst (B false) []))
      | _, _ => z
    | _, _ => z
  | _ => z
theorem vOvl_sound {Γ : Cx} {P : Program} {E : Env} {z : Prop} {o : Oper} {s : St} {k : St → Prop} (hE : EnvOk P E) (hz : ¬ z) (h : vOvl z E Γ.n o s k) : ∃ s', XOp Γ P o s s' ∧ k s' := by
  unfold vOvl at h
  split at h
  · rename_i c ho
    obtain ⟨callee, args, ats⟩ := c
    simp only at h
    split at h
    · rename_i f x y ha
      have ha := arr2 ha
      subst ha
      obtain ⟨hd, h⟩ := chk_inv hz h
      simp only [Bool.and_eq_true, List.contains_iff_mem] at hd
      obtain ⟨X, hX, h⟩ := opt_inv hz h
      obtain ⟨Y, hY, h⟩ := opt_inv hz h
      split at h
      · obtain ⟨A, hA, h⟩ := opt_inv hz h
        obtain ⟨⟨cc, Ee, es, xs⟩, hp, h⟩ := opt_inv hz h
        have hp := asP_inv hp
        rw [hp] at hA
        obtain ⟨A2, hA2, h⟩ := opt_inv hz h
        obtain ⟨⟨cc2, Ee2, es', xs2⟩, hp2, h⟩ := opt_inv hz h
        have hp2 := asP_inv hp2
        rw [hp2] at hA2
        dsimp only at h hA hA2
        obtain ⟨hl, h3⟩ := chk_inv hz h
        simp only [Bool.and_eq_true, Option.isNone_iff_eq_none, decide_eq_true_eq] at hl
        obtain ⟨rfl, p1, p2, p3⟩ := hl
        rw [p2] at hA2
        exact ⟨_, (opL_ovl (lo1 := 0) (n1 := 0) (hE.ovl f hd.2) ho hA hA2 p1 (.inr ⟨hX, rfl⟩) hY p3).xop hd.1 rfl, h3⟩
      · exact absurd h hz
    · exact absurd h hz
  · exact absurd h hz
/-- The list that a call takes. -/
def tkArg (s : St) (pos : Nat) (xs : List AV) : List Nat := match xs[pos]? with
  | some (.one (.ol k)) => match s.gob k with
    | some (.lst _ _ _) => [k]
    | some (.tr _ _ _) => [k]
    | _ => []
  | _ => []
def rsB : RS → RS
  | .o E es => .b E es
  | r => r
def tkSig (E : Env) (s : St) (tk : List Nat) (sg : RS) : RS := match tk with
  | k :: _ => match s.gob k with
    | some (.lst _ _ _) => rsB sg
    | _ => sg
  | [] => match sg with
    | .o e _ => match ckFlat (look E.cks e) with
      | true => sg
      | false => rsB sg
    | _ => rsB sg
/-- A call that takes a list, and gives one back. -/
def vTCall (z : Prop) (P : Program) (E : Env) (o : Oper) (s0 s : St) (tk : List Nat) (f : FuncId) (zs : List AV) (k : St → Prop) : Prop :=
  chk z (E.fns.contains f) <| opt z (look E.sig f) fun sg0 => opt z (getObs s (reachOb s 8 (addAll [] (AV.idsT zs)))) fun I =>
    let sg := tkSig E s0 tk sg0
    let l1 := numIds 2000 (I.map (·.1))
    let xs := AV.mapT (renAt l1) zs
    let I' := renO l1 I
    let tk' := tk.map fun q => (look l1 q).getD q
    rsh sg 0 fun r On m => shO I' ((AV.idsT xs).filter fun q => !tk'.contains q) I' m fun Oi On' =>
      let O := Oi ++ (On ++ On')
      let l2 := (l1.map fun p => (p.2, p.1)) ++ newMap (o.dst.getD 490) (On ++ On')
      chk z (renOk l1 l2 I O (mvOf O) && xok s I (renO l2 O) ((mvOf O).map fun m => (look l2 m).getD m)) <|
        XC P f xs I' r O ∧ k (s.xupd o.dst (r.map (renAt l2)) I (renO l2 O) ((mvOf O).map fun m => (look l2 m).getD m))
theorem vTCall_sound {P : Program} {E : Env} {z : Prop} {o : Oper} {s s0 sV : St} {k : St → Prop} {tk : List Nat} {n : Nat} (hV : ∀ Γ a w S β, Sim Γ s a w S β → Sim Γ sV a w S β) (hE : EnvOk P E) (hz : ¬ z) {c : Operand} {ag : List Operand} {ts : Array TypeId} {zs : List AV} {f : FuncId} (ho : o.op = .call { callee := .value c, args := ag.toArray, argTypes := ts }) (hd : o.dst.all (· < n) = true) (hc : sV.ev c = some (.one (.d (.fn f)))) (has : argsA sV.ev ag = some zs)
    (h : vTCall z P E o s0 s tk f zs k) : ∃ s', (∀ Γ : Cx, Γ.n = n → XOp Γ P o s s') ∧ k s' := by
  unfold vTCall at h
  obtain ⟨hf, h⟩ := chk_inv hz h
  obtain ⟨sg, _, h⟩ := opt_inv hz h
  obtain ⟨I, hI, h⟩ := opt_inv hz h
  obtain ⟨r, On, m, h⟩ := rsh_ex _ h
  obtain ⟨Oi, On', h⟩ := shO_ex h
  obtain ⟨h1, h2, h⟩ := chk_inv hz h
  simp only [Bool.and_eq_true] at h1
  simp only [List.contains_iff_mem] at hf
  obtain ⟨fn, hfn, hb, hn⟩ := fnOk_spec (List.all_eq_true.1 hE.fns f hf)
  refine ⟨_, fun Γ hΓ => ?_, h⟩
  have hx := xcall_ren _ _ h2.h rfl rfl rfl rfl rfl h1.1
  exact os_vcall (hV Γ) (vcall_fn hx hfn hb hn) ho hc has (by rw [hΓ]; exact hd) (getObs_us hI) h1.2

/-- A call, by what it is handed. -/
def vY (z : Prop) (P : Program) (E : Env) (n : Nat) (o : Oper) (s : St) (k : St → Prop) : Prop := match o.op with
  | .call c => match c.callee with
    | .value v => chk z (o.dst.all (· < n)) <| opt z (s.ev v) fun V => opt z (argsA s.ev c.args.toList) fun xs => match V with
      | .one (.d (.fn f)) => match look E.tkn f with
       | some pos =>
         match decide (pos < 100) with
         | true =>
           let tk := tkArg s pos xs
           let s1 := degrAll s ((AV.idsT xs).filter fun q => !tk.contains q)
           opt z (argsA s1.ev c.args.toList) fun xs1 => opt z (s1.ev v) fun V1 => match V1 with
            | .one (.d (.fn f1)) => vTCall z P E o s s1 tk f1 xs1 k
            | _ => z
         | false =>
           let tk := tkArg s (pos - 100) xs
           let ks := (AV.idsT xs).filter fun q => !tk.contains q
           let s1 := sealAll s ks
           let sV := viewAll s1 ks
           opt z (argsA sV.ev c.args.toList) fun xs1 => opt z (sV.ev v) fun V1 => match V1 with
            | .one (.d (.fn f1)) => vTCall z P E o s s1 tk f1 xs1 k
            | _ => z
       | none => opt z (look E.sig f) fun sg => match E.obj.contains f with
        | true => vXCall z P E o s s f xs k
        | false => match noIds xs && !(E.lw && sg.closed) with
          | true => vCall z P E (o.dst.getD 0) V xs fun y nob => chk z (s.fresh nob) (k (s.upd o.dst y nob))
          | false =>
            let ks := olIds xs
            let sF := frzAll s ks
            opt z (argsA sF.ev c.args.toList) fun xs' => opt z (sF.ev v) fun V' => match noIds xs' && sg.closed with
              | true => vCall z P E (o.dst.getD 0) V' xs' fun y nob => chk z (y.closed && (nob.all fun p => isTr p.2)) <| match E.lw with
                | true => chk z (s.fresh (thaw nob)) (k (s.upd o.dst y (thaw nob)))
                | false => chk z (s.fresh nob) (k (s.upd o.dst y nob))
              | false =>
                let s1 := sealAll s ks
                let sV := viewAll s1 ks
                opt z (argsA sV.ev c.args.toList) fun xs2 => opt z (sV.ev v) fun V2 => match noIds xs2 with
                  | true => vCall z P E (o.dst.getD 0) V2 xs2 fun y nob => chk z (s1.fresh nob) (k (s1.upd o.dst y nob))
                  | false => match V2 with
                    | .one (.d (.fn f')) => vXCall z P E o s1 sV f' xs2 k
                    | _ => z
      | .one (.clo f caps) =>
          let ks := olIds xs
          let s1 := sealAll s ks
          let sV := viewAll s1 ks
          opt z (argsA sV.ev c.args.toList) fun xs' => opt z (sV.ev v) fun V' => match V' with
            | .one (.clo f' caps') => vXCall z P E o s1 sV f' (xs' ++ caps'.map fun p => .one (.op p.1 p.2)) k
            | _ => z
      | _ => z
    | _ => z
  | _ => z

section
variable {Γ : Cx} {P : Program} {E : Env} {z : Prop} {o : Oper} {s : St} {k : St → Prop}
theorem vXCall_sound {n : Nat} {sV : St} (hV : ∀ Γ a w S β, Sim Γ s a w S β → Sim Γ sV a w S β) (hE : EnvOk P E) (hz : ¬ z) {c : Operand} {ag : List Operand} {ts : Array TypeId} {v : AV} {xs zs : List AV} {f : FuncId} (ho : o.op = .call { callee := .value c, args := ag.toArray, argTypes := ts }) (hd : o.dst.all (· < n) = true) (hc : sV.ev c = some v) (has : argsA sV.ev ag = some xs)
    (hv : (v = .one (.d (.fn f)) ∧ zs = xs) ∨ ∃ caps, v = .one (.clo f caps) ∧ zs = xs ++ caps.map fun p => .one (.op p.1 p.2)) (h : vXCall z P E o s sV f zs k) : ∃ s', (∀ Γ : Cx, Γ.n = n → XOp Γ P o s s') ∧ k s' := by
  unfold vXCall at h
  obtain ⟨hf, h⟩ := chk_inv hz h
  obtain ⟨sg, _, h⟩ := opt_inv hz h
  obtain ⟨I, hI, h⟩ := opt_inv hz h
  obtain ⟨r, On, m, h⟩ := rsh_ex sg h
  obtain ⟨Oi, On', h⟩ := shO_ex h
  obtain ⟨h1, h2, h⟩ := chk_inv hz h
  simp only [Bool.and_eq_true] at h1
  simp only [List.contains_iff_mem] at hf
  obtain ⟨fn, hfn, hb, hn⟩ := fnOk_spec (List.all_eq_true.1 hE.fns f hf)
  refine ⟨_, fun Γ hΓ => ?_, h⟩
  have hx := (xcall_ren _ _ h2.h rfl rfl rfl rfl rfl h1.1).norm
  refine os_vcall (hV Γ) ?_ ho hc has (by rw [hΓ]; exact hd) (getObs_us hI) h1.2
  rcases hv with ⟨rfl, rfl⟩ | ⟨caps, rfl, rfl⟩
  · exact vcall_fn hx hfn hb hn
  · exact vcall_clo hx rfl hfn hb hn
theorem vY_step {n : Nat} (hE : EnvOk P E) (hz : ¬ z) (h : vY z P E n o s k) : ∃ s', (∀ Γ : Cx, Γ.n = n → XOp Γ P o s s') ∧ k s' := by
  unfold vY at h
  split at h
  · rename_i c ho
    obtain ⟨callee, args, ats⟩ := c
    simp only at h
    split at h
    · rename_i v
      obtain ⟨hd, h⟩ := chk_inv hz h
      obtain ⟨V, hV, h⟩ := opt_inv hz h
      obtain ⟨xs, hxs, h⟩ := opt_inv hz h
      have ho' : o.op = .call { callee := .value v, args := args.toList.toArray, argTypes := ats } := by simpa using ho
      split at h
      · rename_i f
        split at h
        · split at h
          · obtain ⟨xs1, hxs1, h⟩ := opt_inv hz h
            obtain ⟨V1, hV1, h⟩ := opt_inv hz h
            split at h
            · obtain ⟨s', h1, h⟩ := vTCall_sound (fun _ _ _ _ _ h => h) hE hz ho' hd hV1 hxs1 h
              exact ⟨s', fun Γ hn => xop_to To.degrAll (h1 Γ hn), h⟩
            · exact absurd h hz
          · obtain ⟨xs1, hxs1, h⟩ := opt_inv hz h
            obtain ⟨V1, hV1, h⟩ := opt_inv hz h
            split at h
            · obtain ⟨s', h1, h⟩ := vTCall_sound (fun _ _ _ _ _ h => viewAll_sim h) hE hz ho' hd hV1 hxs1 h
              exact ⟨s', fun Γ hn => xop_to To.sealAll (h1 Γ hn), h⟩
            · exact absurd h hz
        obtain ⟨sg, _, h⟩ := opt_inv hz h
        split at h
        · exact vXCall_sound (fun _ _ _ _ _ h => h) hE hz ho' hd hV hxs (.inl ⟨rfl, rfl⟩) h
        · split at h
          · obtain ⟨y, nob, h1, h⟩ := vCall_sound (s0 := s) hE hz ho' hV hxs h
            obtain ⟨hf, h⟩ := chk_inv hz h
            exact ⟨_, fun Γ hn => (opL_of h1).xop (by rw [hn]; exact hd) hf, h⟩
          · obtain ⟨xs', hxs', h⟩ := opt_inv hz h
            obtain ⟨V', hV', h⟩ := opt_inv hz h
            split at h
            · obtain ⟨y, nob, h1, h⟩ := vCall_sound (s0 := frzAll s _) hE hz ho' hV' hxs' h
              obtain ⟨hc, h⟩ := chk_inv hz h
              simp only [Bool.and_eq_true] at hc
              split at h
              · obtain ⟨hf, h⟩ := chk_inv hz h
                exact ⟨_, fun Γ hn => (opL_lendM h1 hc.1 hc.2).xop (by rw [hn]; exact hd) hf, h⟩
              · obtain ⟨hf, h⟩ := chk_inv hz h
                exact ⟨_, fun Γ hn => (opL_lend h1 hc.1 hc.2).xop (by rw [hn]; exact hd) hf, h⟩
            · obtain ⟨xs2, hxs2, h⟩ := opt_inv hz h
              obtain ⟨V2, hV2, h⟩ := opt_inv hz h
              split at h
              · obtain ⟨y, nob, h1, h⟩ := vCall_sound (s0 := viewAll _ _) hE hz ho' hV2 hxs2 h
                obtain ⟨hf, h⟩ := chk_inv hz h
                exact ⟨_, fun Γ hn => xop_to To.sealAll (xop_view (fun _ _ _ _ h => viewAll_sim h) h1 (by rw [hn]; exact hd) hf), h⟩
              · split at h
                · obtain ⟨s', h1, h⟩ := vXCall_sound (fun _ _ _ _ _ h => viewAll_sim h) hE hz ho' hd hV2 hxs2 (.inl ⟨rfl, rfl⟩) h
                  exact ⟨s', fun Γ hn => xop_to To.sealAll (h1 Γ hn), h⟩
                · exact absurd h hz
      · obtain ⟨xs', hxs', h⟩ := opt_inv hz h
        obtain ⟨V', hV', h⟩ := opt_inv hz h
        split at h
        · obtain ⟨s', h1, h⟩ := vXCall_sound (fun _ _ _ _ _ h => viewAll_sim h) hE hz ho' hd hV' hxs' (.inr ⟨_, rfl, rfl⟩) h
          exact ⟨s', fun Γ hn => xop_to To.sealAll (h1 Γ hn), h⟩
        · exact absurd h hz
      · exact absurd h hz
    · exact absurd h hz
  · exact absurd h hz
theorem vY_sound (hE : EnvOk P E) (hz : ¬ z) (h : vY z P E Γ.n o s k) : ∃ s', XOp Γ P o s s' ∧ k s' := by
  obtain ⟨s', h1, h⟩ := vY_step hE hz h
  exact ⟨s', h1 Γ rfl, h⟩
end

end AM
end Go.Proofs.Ytfcmmpmdofejeaa
