/- A part of the proof of the law that the last of these texts states, for every input; no conditions. -/
import Derived.Test.YtajcoogpmockiaaGreatMiA
set_option linter.unusedVariables false
set_option linter.unusedSimpArgs false
namespace Go.Proofs.YtajcoogpmockiaaGreat
namespace AM
open Go
def i5q (I : List (Nat × Ob)) (β : Nat → OLoc) (b : Nat) : Prop := ∃ p ∈ I, (β p.1).Own b
def B3q (I : List (Nat × Ob)) (β : Nat → OLoc) (b : Nat) : Prop := ∃ p ∈ I, b ∈ (β p.1).clm
def aczq (I : List (Nat × Ob)) (β : Nat → OLoc) (o : Nat) (l : OLoc) : Prop := 2000 ≤ o ∧ (∃ p ∈ I, p.1 = o) ∧ β o = l
structure GrowX (w : World) (S : Nat → Prop) (β : Nat → OLoc) (I O : List (Nat × Ob)) (mv : List Nat) (w' : World) (S' : Nat → Prop) (β' : Nat → OLoc) : Prop where
 os : w'.os = w.os
 tape : w'.tape = w.tape
 output : w'.output = w.output
 size : w.heap.size ≤ w'.heap.size
 block : ∀ b, b < w.heap.size → ¬ i5q I β b → w'.heap[b]? = w.heap[b]?
 sub : ∀ b, S b → S' b
 sup : ∀ b, S' b → b < w'.heap.size ∧ (S b ∨ w.heap.size ≤ b ∨ i5q I β b)
 loc : ∀ o, o ∉ mv → β' o = β o
 ob : ∀ p ∈ O, ObRep w' S' β' (β' p.1) p.2
 own : ∀ p ∈ O, ∀ b, (β' p.1).Own b → b < w'.heap.size ∧ ¬ S' b ∧ (w.heap.size ≤ b ∨ i5q I β b)
 sep : ∀ p ∈ O, ∀ q ∈ O, ∀ b, (β' p.1).Own b → (β' q.1).Own b → p.1 = q.1
 clm : ∀ p ∈ O, ∀ b ∈ (β' p.1).clm, S' b ∧ (w.heap.size ≤ b ∨ i5q I β b ∨ B3q I β b)
 sepc : ∀ p ∈ O, ∀ q ∈ O, ∀ b ∈ (β' p.1).clm, b ∈ (β' q.1).clm → p.1 = q.1
structure R9q (w : World) (S : Nat → Prop) (β : Nat → OLoc) (I : List (Nat × Ob)) : Prop where
 ob : ∀ p ∈ I, ObRep w S β (β p.1) p.2
 own : ∀ p ∈ I, ∀ b, (β p.1).Own b → b < w.heap.size ∧ ¬ S b
 sep : ∀ p ∈ I, ∀ q ∈ I, ∀ b, (β p.1).Own b → (β q.1).Own b → p.1 = q.1
 clm : ∀ p ∈ I, ∀ b ∈ (β p.1).clm, S b
 sepc : ∀ p ∈ I, ∀ q ∈ I, ∀ b ∈ (β p.1).clm, b ∈ (β q.1).clm → p.1 = q.1
def XCall (P : Program) (f : FuncId) (xs : List AV) (r : AV) (I O : List (Nat × Ob)) (mv : List Nat) : Prop :=
 ∀ (w : World) (S : Nat → Prop) (β : Nat → OLoc) (vs : List Value), (∀ b, S b → b < w.heap.size) → RepVs w S β xs vs → R9q w S β I →
  Calls P f vs.toArray w fun e w' => ∃ v S' β', e = .returned v ∧ GrowX w S β I O mv w' S' β' ∧ RepV w' S' β' r v
def RetX (P : Program) (fn : Func) (s : St) (r : AV) (I O : List (Nat × Ob)) (mv : List Nat) : Prop :=
 ∀ (w0 : World) (S0 : Nat → Prop) (n : Nat) (β0 : Nat → OLoc) (a : Act) (w : World) (S : Nat → Prop) (β : Nat → OLoc), Sim ⟨n, w0, S0, i5q I β0, aczq I β0, B3q I β0⟩ s a w S β →
  ∃ v S' β', (results fn a.tmps).run P w = .ok v w ∧ GrowX w0 S0 β0 I O mv w S' β' ∧ RepV w S' β' r v
def ResOk (P : Program) (fn : Func) (s : St) (r : AV) : Prop := ∀ (Γ : Cx) (a : Act) (w : World) (S : Nat → Prop) (β : Nat → OLoc), Sim Γ s a w S β → ∃ v, (results fn a.tmps).run P w = .ok v w ∧ RepV w S β r v
section
variable {P : Program} {fn : Func} {s : St} {r : AV} {I O : List (Nat × Ob)} {mv : List Nat}
def a8Fq (I O : List (Nat × Ob)) (mv : List Nat) (r : AV) : Bool :=
 (r.ids ++ (O.map fun p => p.1 :: p.2.ids).flatten).all fun o => mv.contains o || (decide (2000 ≤ o) && I.any (·.1 == o))
theorem agkq (hres : ResOk P fn s r) (hO : ∀ p ∈ O, s.gob p.1 = some p.2) (hids : ∀ o ∈ r.ids ++ (O.map fun p => p.1 :: p.2.ids).flatten, o ∈ mv ∨ (2000 ≤ o ∧ ∃ p ∈ I, p.1 = o)) : RetX P fn s r I O mv := by
 intro w0 S0 n β0 a w S β hs
 obtain ⟨v, hrun, hrep⟩ := hres _ a w S β hs
 let β' : Nat → OLoc := fun o => if o ∈ mv then β o else β0 o
 have key : ∀ o ∈ r.ids ++ (O.map fun p => p.1 :: p.2.ids).flatten, β' o = β o := by
  intro o ho
  by_cases hm : o ∈ mv
  ·exact if_pos hm
  ·rcases hids o ho with h | ⟨h1, h2⟩
   ·exact absurd h hm
   ·have := (hs.mem.fix o (β0 o) ⟨h1, h2, rfl⟩).2
    rw [this]; exact if_neg hm
 have kO : ∀ p ∈ O, β' p.1 = β p.1 ∧ ∀ o ∈ p.2.ids, β' o = β o := by
  intro p hp
  refine ⟨key _ (List.mem_append_right _ (List.mem_flatten.2 ⟨_, List.mem_map.2 ⟨p, hp, rfl⟩, by simp⟩)), fun o ho => key _ (List.mem_append_right _ (List.mem_flatten.2 ⟨_, List.mem_map.2 ⟨p, hp, rfl⟩, by simp [ho]⟩))⟩
 refine ⟨v, S, β', hrun, ⟨hs.mem.os, hs.mem.tape, hs.mem.output, hs.mem.size, fun b hb hp => hs.mem.block b hb hp, hs.mem.sub, fun b hb => ⟨hs.mem.lt b hb, hs.mem.sup b hb⟩, fun o ho => if_neg ho, fun p hp => ?_, fun p hp b hh => ?_, fun p hp q hq b hh hh' => ?_, fun p hp b hh => ?_, fun p hp q hq b hh hh' => ?_⟩, hrep.mono (fun _ _ => rfl) (fun _ h => h) fun o ho => key o (List.mem_append_left _ ho)⟩
 ·rw [(kO p hp).1]
  exact (hs.mem.ob p.1 p.2 (hO p hp)).mono (fun _ _ => rfl) (fun _ _ => rfl) (fun _ h => h) (kO p hp).2
 ·rw [(kO p hp).1] at hh
  obtain ⟨h1, h2, h3⟩ := hs.mem.own p.1 p.2 (hO p hp) b hh
  exact ⟨h1, h2, h3⟩
 ·rw [(kO p hp).1] at hh
  rw [(kO q hq).1] at hh'
  exact hs.mem.sep p.1 q.1 _ _ (hO p hp) (hO q hq) b hh hh'
 ·rw [(kO p hp).1] at hh
  exact hs.mem.clm p.1 p.2 (hO p hp) b hh
 ·rw [(kO p hp).1] at hh
  rw [(kO q hq).1] at hh'
  exact hs.mem.sepc p.1 q.1 _ _ (hO p hp) (hO q hq) b hh hh'
theorem abYq (h : a8Fq I O mv r = true) : ∀ o ∈ r.ids ++ (O.map fun p => p.1 :: p.2.ids).flatten, o ∈ mv ∨ (2000 ≤ o ∧ ∃ p ∈ I, p.1 = o) := by
 intro o ho
 have := List.all_eq_true.1 h o ho
 simp only [Bool.or_eq_true, Bool.and_eq_true, decide_eq_true_eq, List.any_eq_true, beq_iff_eq, List.contains_iff_mem] at this
 exact this
theorem ageq (hres : ResOk P fn s r) (hO : usOk s O) (hids : a8Fq I O mv r = true) : RetX P fn s r I O mv := agkq hres (p1q hO) (abYq hids)
theorem abjq {f : FuncId} {c : Code} {xs : List AV} (hf : P.funcs[f]? = some fn) (hb : fn.body = some c) (n : Nat) (hn : fn.ntmps = n) (hl : xs.length ≤ n)
  (h : ∀ w0 S0 β0, W ⟨n, w0, S0, i5q I β0, aczq I β0, B3q I β0⟩ P c (fun s => RetX P fn s r I O mv) (retE fun s => RetX P fn s r I O mv) ⟨St.enter 0 xs, I⟩) : XCall P f xs r I O mv := by
 subst hn
 intro w S β vs hlt hr hin
 refine calls_of_wp hf hb ?_
 have hvl : vs.length = xs.length := by
  clear h hl hlt
  have : ∀ xs vs, RepVs w S β xs vs → vs.length = xs.length := by intro xs vs h; induction h <;> simp_all
  exact this _ _ hr
 have hgob : ∀ o X, (⟨St.enter 0 xs, I⟩ : St).gob o = some X → (o, X) ∈ I := fun o X ho => f6q ho
 have hsim : Sim ⟨fn.ntmps, w, S, i5q I β, aczq I β, B3q I β⟩ ⟨St.enter 0 xs, I⟩ { tmps := vs.toArray ++ Array.replicate (fn.ntmps - vs.toArray.size) undef, defers := [] } w S β := by
  refine ⟨rfl, by simp; omega, fun i x hi => ?_, ⟨hlt, ?_, ?_, ?_, rfl, rfl, rfl, Nat.le_refl _, fun _ _ _ => rfl, fun _ h => h, fun _ h => .inl h, fun o l h => ⟨h.1, h.2.2⟩, fun o X ho b hh => ?_, fun o o' X X' ho ho' b hh hh' => ?_⟩⟩
  ·obtain ⟨v, _, hv, hrep⟩ := adSq hr 0 i x hi
   refine ⟨v, ?_, hrep⟩
   simp only [Nat.sub_zero] at hv
   have hi2 : i < vs.length := (List.getElem?_eq_some_iff.1 hv).1
   rw [Array.getElem?_append_left (by simpa using hi2)]
   simpa using hv
  ·intro o X ho; exact hin.ob (o, X) (hgob o X ho)
  ·intro o X ho b hh
   obtain ⟨h1, h2⟩ := hin.own (o, X) (hgob o X ho) b hh
   exact ⟨h1, h2, .inr ⟨(o, X), hgob o X ho, hh⟩⟩
  ·intro o o' X X' ho ho' b hh hh'
   exact hin.sep (o, X) (hgob o X ho) (o', X') (hgob o' X' ho') b hh hh'
  ·exact ⟨hin.clm (o, X) (hgob o X ho) b hh, .inr (.inr ⟨(o, X), hgob o X ho, hh⟩)⟩
  ·exact hin.sepc (o, X) (hgob o X ho) (o', X') (hgob o' X' ho') b hh hh'
 refine Code.wp_mono ?_ (h w S β _ w S β hsim)
 rintro e a' w' ⟨s', S', β', hq, hs'⟩
 cases e with
 | normal =>
  obtain ⟨v, S2, β2, hrun, hG, hrep⟩ := hq w S _ β _ _ _ _ hs'
  exact ⟨hs'.defers, v, hrun, v, S2, β2, rfl, hG, hrep⟩
 | ret =>
  obtain ⟨v, S2, β2, hrun, hG, hrep⟩ := hq w S _ β _ _ _ _ hs'
  exact ⟨hs'.defers, v, hrun, v, S2, β2, rfl, hG, hrep⟩
 | exit id => exact hq.elim
 | goto l => exact hq.elim
 | panic ch => exact hq.elim
 | outgrown => exact hq.elim
end
def i7q (I O : List (Nat × Ob)) : List Nat := (I.map (·.1)).filter fun i => !O.any (·.1 == i)
def St.xkill (s : St) (ks : List Nat) : St := match ks with
 | [] => s
 | _ => s.map (killL ks)
def St.xupd (s : St) (dst : Option Nat) (r : AV) (I O : List (Nat × Ob)) (mv : List Nat) : St :=
 let s1 := s.xkill (mv ++ i7q I O)
 { tm := match dst with | some d => (d, r) :: s1.tm | none => s1.tm, ob := O ++ D6q s1.ob (i7q I O) }
theorem aemq (s : St) (dst : Option Nat) (r : AV) (I O : List (Nat × Ob)) (mv : List Nat) (i : Nat) : (s.xupd dst r I O mv).get i = if dst = some i then some r else (s.xkill (mv ++ i7q I O)).get i := by
 cases dst with
 | none => simp [St.xupd, St.get]
 | some d =>
  simp only [St.xupd, St.get, a4q, Option.some.injEq]
  by_cases h : d = i <;> simp [h]
theorem adZq (s : St) (dst : Option Nat) (r : AV) (I O : List (Nat × Ob)) (mv : List Nat) (o : Nat) : (s.xupd dst r I O mv).gob o = (a4q O o).or (if o ∈ i7q I O then none else (s.xkill (mv ++ i7q I O)).gob o) := by
 simp only [St.xupd, St.gob, a0Cq, F9q]
section
variable {w w' : World} {S S' : Nat → Prop} {β β' : Nat → OLoc} {ks : List Nat}
theorem ad5q {s : St} (hk : ∀ b, S b → w'.heap[b]? = w.heap[b]?) (hs : ∀ b, S b → S' b) (hβ : ∀ o, o ∉ ks → β' o = β o) {i : Nat} {x : AV} (h : (s.xkill ks).get i = some x) : ∃ y, s.get i = some y ∧ ∀ v, RepV w S β y v → RepV w' S' β' x v := by
 unfold St.xkill at h
 split at h
 ·exact ⟨x, h, fun v hv => hv.mono hk hs fun o _ => hβ o (by simp)⟩
 ·have e : (s.map (AM.killL ks)).get i = (s.get i).map (·.map (AM.killL ks)) := q4q ..
  rw [e] at h
  cases hY : s.get i with
  | none => rw [hY] at h; simp at h
  | some Y =>
   rw [hY] at h; simp at h; subst h
   exact ⟨Y, rfl, fun v hv => hv.map (RepA.killL hk hs hβ) fun xs cs h => h.mono hk hs⟩
theorem adQq {s : St} (hk : ∀ b, S b → w'.heap[b]? = w.heap[b]?) (hs : ∀ b, S b → S' b) (hβ : ∀ o, o ∉ ks → β' o = β o) {o : Nat} {X : Ob} (h : (s.xkill ks).gob o = some X) : ∃ Y, s.gob o = some Y ∧ ∀ l : OLoc, (∀ b, l.Own b → w'.heap[b]? = w.heap[b]?) → ObRep w S β l Y → ObRep w' S' β' l X := by
 unfold St.xkill at h
 split at h
 ·exact ⟨X, h, fun l hb hv => hv.mono hb hk hs fun o _ => hβ o (by simp)⟩
 ·have e : (s.map (AM.killL ks)).gob o = (s.gob o).map (·.map (AM.killL ks)) := A2q ..
  rw [e] at h
  cases hY : s.gob o with
  | none => rw [hY] at h; simp at h
  | some Y =>
   rw [hY] at h; simp at h; subst h
   exact ⟨Y, rfl, fun l hb hv => hv.map (RepA.killL hk hs hβ) hb hk hs⟩
end
section
variable {Γ : Cx} {P : Program} {ops : Array Oper} {rest : List Oper} {o : Oper} {K : St → Prop} {s : St} {I O : List (Nat × Ob)} {mv : List Nat} {r : AV}
theorem GrowX.sim {a : Act} {w w' : World} {S S' : Nat → Prop} {β β' : Nat → OLoc} {v : Value} {dst : Option Nat} (hG : GrowX w S β I O mv w' S' β') (hr : RepV w' S' β' r v) (hs : Sim Γ s a w S β) (hd : dst.all (· < Γ.n) = true)
  (hI : ∀ p ∈ I, s.gob p.1 = some p.2) (hlow : ∀ m ∈ mv, m < 2000) (hOin : ∀ p ∈ O, (∃ q ∈ I, q.1 = p.1) ∨ p.1 ∈ mv) (hmv : ∀ m ∈ mv, (∃ p ∈ I, p.1 = m) ∨ s.gob m = none) : Sim Γ (s.xupd dst r I O mv) (a.put dst v) w' S' β' := by
 have hpass : ∀ b, i5q I β b → ∃ p ∈ I, s.gob p.1 = some p.2 ∧ (β p.1).Own b := fun b ⟨p, hp, h1⟩ => ⟨p, hp, hI p hp, h1⟩
 have hSn : ∀ b, S b → ¬ i5q I β b := by
  intro b hb hp
  obtain ⟨p, _, hg, h1⟩ := hpass b hp
  exact (hs.mem.own p.1 p.2 hg b h1).2.1 hb
 have hk : ∀ b, S b → w'.heap[b]? = w.heap[b]? := fun b hb => hG.block b (hs.mem.lt b hb) (hSn b hb)
 have hβ : ∀ q, q ∉ mv ++ i7q I O → β' q = β q := fun q hq => hG.loc q fun h => hq (List.mem_append_left _ h)
 have hT : ∀ q X, (s.xupd dst r I O mv).gob q = some X → (q, X) ∈ O ∨ (q ∉ mv ∧ (∀ p ∈ I, p.1 ≠ q) ∧ ∃ Y, s.gob q = some Y ∧ ∀ l : OLoc, (∀ b, l.Own b → w'.heap[b]? = w.heap[b]?) → ObRep w S β l Y → ObRep w' S' β' l X) := by
  intro q X hq
  rw [adZq] at hq
  cases hl : a4q O q with
  | some Y => rw [hl] at hq; simp at hq; subst hq; exact .inl (f6q hl)
  | none =>
   rw [hl] at hq
   simp only [Option.none_or] at hq
   split at hq
   ·simp at hq
   ·rename_i hnd
    obtain ⟨Y, hY, hYr⟩ := adQq hk hG.sub hβ hq
    have hnO : ∀ p ∈ O, p.1 ≠ q := fun p hp e => G3q O hp (e ▸ hl)
    have hnI : ∀ p ∈ I, p.1 ≠ q := by
     intro p hp e
     refine hnd ?_
     simp only [i7q, List.mem_filter, List.mem_map, Bool.not_eq_true', List.any_eq_false, beq_iff_eq]
     exact ⟨⟨p, hp, e⟩, fun p' hp' => hnO p' hp'⟩
    refine .inr ⟨fun hm => ?_, hnI, Y, hY, hYr⟩
    rcases hmv q hm with ⟨p, hp, e⟩ | h
    ·exact hnI p hp e
    ·rw [hY] at h; simp at h
 have hapart : ∀ q Y, s.gob q = some Y → (∀ p ∈ I, p.1 ≠ q) → ∀ b, (β q).Own b → ¬ i5q I β b := by
  intro q Y hY hn b hh hp
  obtain ⟨p, hpI, hg, h1⟩ := hpass _ hp
  exact hn p hpI (hs.mem.sep p.1 q _ _ hg hY b h1 hh)
 refine ⟨?_, ?_, fun i x hi => ?_, ⟨fun b hb => (hG.sup b hb).1, fun q X hq => ?_, fun q X hq b hh => ?_, fun q q' X X' hq hq' b hh hh' => ?_, hG.os.trans hs.mem.os, hG.tape.trans hs.mem.tape, hG.output.trans hs.mem.output, Nat.le_trans hs.mem.size hG.size, fun b hb hp => ?_, fun b hb => hG.sub b (hs.mem.sub b hb), fun b hb => ?_, fun q l hl => ?_, fun q X hq b hh => ?_, fun q q' X X' hq hq' b hh hh' => ?_⟩⟩
 ·cases dst <;> simp [Act.put, hs.defers]
 ·cases dst <;> simp [Act.put, hs.sz]
 ·rw [aemq] at hi
  by_cases hdi : dst = some i
  ·rw [if_pos hdi] at hi
   simp at hi
   subst hi; subst hdi
   simp at hd
   exact ⟨v, by simp [Act.put, hs.sz, hd], hr⟩
  ·rw [if_neg hdi] at hi
   obtain ⟨y, hy, hyr⟩ := ad5q hk hG.sub hβ hi
   obtain ⟨u, hu, hur⟩ := hs.tm i y hy
   refine ⟨u, ?_, hyr u hur⟩
   cases dst with
   | none => exact hu
   | some d =>
    simp only [Act.put]
    rw [Array.getElem?_setIfInBounds_ne (fun e => hdi (by rw [e]))]
    exact hu
 ·rcases hT q X hq with hm | ⟨hnm, hnI, Y, hY, hYr⟩
  ·exact hG.ob _ hm
  ·rw [hG.loc q hnm]
   exact hYr _ (fun b hh => hG.block _ (hs.mem.own q Y hY b hh).1 (hapart q Y hY hnI b hh)) (hs.mem.ob q Y hY)
 ·rcases hT q X hq with hm | ⟨hnm, hnI, Y, hY, hYr⟩
  ·obtain ⟨h1, h2, h3⟩ := hG.own _ hm b hh
   refine ⟨h1, h2, ?_⟩
   rcases h3 with h3 | h3
   ·exact .inl (Nat.le_trans hs.mem.size h3)
   ·obtain ⟨p, _, hg, h4⟩ := hpass _ h3
    exact (hs.mem.own p.1 p.2 hg b h4).2.2
  ·rw [hG.loc q hnm] at hh
   obtain ⟨h1, h2, h3⟩ := hs.mem.own q Y hY b hh
   refine ⟨Nat.lt_of_lt_of_le h1 hG.size, fun hb => ?_, h3⟩
   rcases (hG.sup _ hb).2 with hb | hb | hb
   ·exact h2 hb
   ·omega
   ·exact hapart q Y hY hnI b hh hb
 ·have hmix : ∀ q q' X Y', (q, X) ∈ O → q' ∉ mv → (∀ p ∈ I, p.1 ≠ q') → s.gob q' = some Y' → ∀ b, (β' q).Own b → (β' q').Own b → False := by
   intro q q' X Y' hm hnm hnI hY' b hh hh'
   rw [hG.loc q' hnm] at hh'
   rcases (hG.own _ hm b hh).2.2 with h3 | h3
   ·have := (hs.mem.own q' Y' hY' b hh').1
    omega
   ·exact hapart q' Y' hY' hnI b hh' h3
  rcases hT q X hq with hm | ⟨hnm, hnI, Y, hY, hYr⟩ <;> rcases hT q' X' hq' with hm' | ⟨hnm', hnI', Y', hY', hYr'⟩
  ·exact hG.sep _ hm _ hm' b hh hh'
  ·exact (hmix q q' X Y' hm hnm' hnI' hY' b hh hh').elim
  ·exact (hmix q' q X' Y hm' hnm hnI hY b hh' hh).elim
  ·rw [hG.loc q hnm] at hh
   rw [hG.loc q' hnm'] at hh'
   exact hs.mem.sep q q' Y Y' hY hY' b hh hh'
 ·refine (hG.block b (Nat.lt_of_lt_of_le hb hs.mem.size) fun hpb => ?_).trans (hs.mem.block b hb hp)
  obtain ⟨p, _, hg, h1⟩ := hpass b hpb
  rcases (hs.mem.own p.1 p.2 hg b h1).2.2 with h3 | h3
  ·omega
  ·exact hp h3
 ·rcases (hG.sup b hb).2 with hb | hb | hb
  ·exact hs.mem.sup b hb
  ·exact .inr (.inl (Nat.le_trans hs.mem.size hb))
  ·obtain ⟨p, _, hg, h1⟩ := hpass b hb
   exact .inr (hs.mem.own p.1 p.2 hg b h1).2.2
 ·obtain ⟨h1, h2⟩ := hs.mem.fix q l hl
  exact ⟨h1, (hG.loc q fun hm => by have := hlow q hm; omega).trans h2⟩
 ·rcases hT q X hq with hm | ⟨hnm, hnI, Y, hY, hYr⟩
  ·obtain ⟨h1, h3⟩ := hG.clm _ hm b hh
   refine ⟨h1, ?_⟩
   rcases h3 with h3 | h3 | h3
   ·exact .inl (Nat.le_trans hs.mem.size h3)
   ·obtain ⟨p, _, hg, h4⟩ := hpass _ h3
    exact (hs.mem.own p.1 p.2 hg b h4).2.2.imp id .inl
   ·obtain ⟨p, hp, h4⟩ := h3
    exact (hs.mem.clm p.1 p.2 (hI p hp) b h4).2
  ·rw [hG.loc q hnm] at hh
   obtain ⟨h1, h2⟩ := hs.mem.clm q Y hY b hh
   exact ⟨hG.sub b h1, h2⟩
 ·have hmix : ∀ q q' X Y', (q, X) ∈ O → q' ∉ mv → (∀ p ∈ I, p.1 ≠ q') → s.gob q' = some Y' → ∀ b, b ∈ (β' q).clm → b ∈ (β' q').clm → False := by
   intro q q' X Y' hm hnm hnI hY' b hh hh'
   rw [hG.loc q' hnm] at hh'
   have hSb := (hs.mem.clm q' Y' hY' b hh').1
   rcases (hG.clm _ hm b hh).2 with h3 | h3 | h3
   ·have := hs.mem.lt b hSb
    omega
   ·exact hSn b hSb h3
   ·obtain ⟨p, hp, h4⟩ := h3
    exact hnI p hp (hs.mem.sepc p.1 q' _ _ (hI p hp) hY' b h4 hh')
  rcases hT q X hq with hm | ⟨hnm, hnI, Y, hY, hYr⟩ <;> rcases hT q' X' hq' with hm' | ⟨hnm', hnI', Y', hY', hYr'⟩
  ·exact hG.sepc _ hm _ hm' b hh hh'
  ·exact (hmix q q' X Y' hm hnm' hnI' hY' b hh hh').elim
  ·exact (hmix q' q X' Y hm' hnm hnI hY b hh' hh).elim
  ·rw [hG.loc q hnm] at hh
   rw [hG.loc q' hnm'] at hh'
   exact hs.mem.sepc q q' Y Y' hY hY' b hh hh'
def XOp (Γ : Cx) (P : Program) (o : Oper) (s s' : St) : Prop := ∀ (a : Act) (w : World) (S : Nat → Prop) (β : Nat → OLoc) (K' : Act → World → Prop) (R : Exit → Act → World → Prop), Sim Γ s a w S β →
 (∀ a' w' S' β', Sim Γ s' a' w' S' β' → K' a' w') → o.wp P a w K' R
def OpL (P : Program) (o : Oper) (s : St) (y : AV) (nob : List (Nat × Ob)) : Prop := ∀ (Γ : Cx) (a : Act) (w : World) (S : Nat → Prop) (β : Nat → OLoc), Sim Γ s a w S β → ∀ (K : Act → World → Prop) (R : Exit → Act → World → Prop),
 (∀ v w' S' β', Grow w S β nob w' S' β' → RepV w' S' β' y v → K (a.put o.dst v) w') → o.wp P a w K R
theorem st_x {s' : St} (h : XOp Γ P o s s') (hg : o.guard = none) (hr : d5q Γ P ops rest K s') : d5q Γ P ops (o :: rest) K s := by
 intro a w S β R hs hR
 exact wpList_plain hg fun K' hK => h a w S β K' R hs fun a' w' S' β' hs' => hK _ _ (hr _ _ _ _ R hs' hR)
theorem ah9q {s' : St} {j d : Nat} {want b : Bool} (h : XOp Γ P o s s') (hg : o.guard = some (j, want)) (hj : (ops[j]?).bind (·.dst) = some d) (hb : s.get d = some (B b)) (e : b = want) (hr : d5q Γ P ops rest K s') : d5q Γ P ops (o :: rest) K s := by
 subst e
 intro a w S β R hs hR
 have hyl := a1Hq (Γ := Γ) hj (.inr hs) hb
 refine wpList_step fun K' hK => ?_
 have hw : Region.wanted o (yielded ops a.tmps) = true := by simp only [Region.wanted, hg, hyl]; cases b <;> rfl
 rw [hw, if_pos rfl]
 exact h a w S β K' R hs fun a' w' S' β' hs' => hK _ _ (hr _ _ _ _ R hs' hR)
def a4Rq (P : Program) (v : AV) (xs : List AV) (r : AV) (I O : List (Nat × Ob)) (mv : List Nat) : Prop := match v with
 | .one (.d (.fn f)) => (∃ fn, P.funcs[f]? = some fn ∧ fn.body.isNone = false ∧ (fn.name == "runtime.NumGoroutine") = false) ∧ XCall P f xs r I O mv
 | .one (.clo f caps) => (∃ fn, P.funcs[f]? = some fn ∧ fn.body.isNone = false ∧ (fn.name == "runtime.NumGoroutine") = false) ∧ XCall P f (xs ++ caps.map fun p => .one (.op p.1 p.2)) r I O mv
 | _ => False
theorem RepVs.append {w : World} {S : Nat → Prop} {β : Nat → OLoc} {xs ys : List AV} {vs us : List Value} (h : RepVs w S β xs vs) (k : RepVs w S β ys us) : RepVs w S β (xs ++ ys) (vs ++ us) := by
 induction h with
 | nil => simpa using k
 | one h _ ih => exact .one h ih
 | dat h _ ih => exact .dat h ih
 | agg h _ ih => exact .agg h ih
 | tup h _ _ ih => exact .tup h ih
theorem aeJq {w : World} {S : Nat → Prop} {β : Nat → OLoc} (caps : List (Nat × Nat)) : RepVs w S β (caps.map fun p => .one (.op p.1 p.2)) (caps.map (E8q β)) := by
 induction caps with
 | nil => exact .nil
 | cons p r ih => exact .one .op ih
theorem adhq {sV : St} (hV : ∀ a w S β, Sim Γ s a w S β → Sim Γ sV a w S β) {c : Operand} {ag : List Operand} {ts : Array TypeId} {v : AV} {xs : List AV} (ho : o.op = .call { callee := .value c, args := ag.toArray, argTypes := ts }) (hc : sV.ev c = some v) (has : o5q sV.ev ag = some xs) (hv : a4Rq P v xs r I O mv) (hd : o.dst.all (· < Γ.n) = true)
  (hI : ∀ p ∈ I, s.gob p.1 = some p.2) (hlow : ∀ m ∈ mv, m < 2000) (hOin : ∀ p ∈ O, (∃ q ∈ I, q.1 = p.1) ∨ p.1 ∈ mv) (hmv : ∀ m ∈ mv, (∃ p ∈ I, p.1 = m) ∨ s.gob m = none) : XOp Γ P o s (s.xupd o.dst r I O mv) := by
 intro a w S β K' R hs hK
 have h1 := a2Zq (w := w) (S := S) (β := β) (ρ := a.eval) ag xs (fun x X hx _ => (hV a w S β hs).eval hx) has
 have hcv := (hV a w S β hs).eval hc
 have hin : R9q w S β I := ⟨fun p hp => hs.mem.ob p.1 p.2 (hI p hp), fun p hp b hh => ⟨(hs.mem.own p.1 p.2 (hI p hp) b hh).1, (hs.mem.own p.1 p.2 (hI p hp) b hh).2.1⟩, fun p hp q hq b hh hh' => hs.mem.sep p.1 q.1 _ _ (hI p hp) (hI q hq) b hh hh', fun p hp b hh => (hs.mem.clm p.1 p.2 (hI p hp) b hh).1, fun p hp q hq b hh hh' => hs.mem.sepc p.1 q.1 _ _ (hI p hp) (hI q hq) b hh hh'⟩
 have main : ∃ f cs us, (∃ fn, P.funcs[f]? = some fn ∧ fn.body.isNone = false ∧ (fn.name == "runtime.NumGoroutine") = false) ∧ XCall P f (xs ++ cs) r I O mv ∧ a.eval c = .func (.func f) #[] us.toArray ∧ RepVs w S β cs us := by
  unfold a4Rq at hv
  split at hv
  ·rename_i f
   refine ⟨f, [], [], hv.1, by simpa using hv.2, by simpa using hcv.fn_inv, .nil⟩
  ·rename_i f caps
   have := hcv.one_inv
   generalize hg : a.eval c = u at this
   cases this
   exact ⟨f, _, _, hv.1, hv.2, rfl, aeJq caps⟩
  ·exact hv.elim
 obtain ⟨f, cs, us, ⟨fn, hf, hb, hname⟩, hx, hev, hcr⟩ := main
 have he : (execOp a.eval o).run P w = .ok (.enter f (ag.map a.eval ++ us).toArray) w := by
  simp only [execOp, ho, resolve, hev, Deferred.ofValue, Sem.run_bind, Sem.run_pure, Result.andThen_ok, invoke, List.map_toArray]
  rw [show (#[] : Array Value) ++ (ag.map a.eval).toArray ++ us.toArray = (ag.map a.eval ++ us).toArray by simp]
  exact S2q hf hb hname _ _
 unfold Oper.wp
 rw [he, Oper.upon_enter]
 refine (hx w S β _ hs.mem.lt (h1.append hcr) hin).mono ?_
 rintro e w' ⟨v, S', β', rfl, hG, hrep⟩
 exact hK _ _ S' β' (hG.sim hrep hs hd hI hlow hOin hmv)
def xok (s : St) (I O : List (Nat × Ob)) (mv : List Nat) : Bool :=
 (mv.all fun m => decide (m < 2000) && (I.any (·.1 == m) || (s.gob m).isNone)) && O.all fun p => I.any (·.1 == p.1) || mv.contains p.1
theorem a90q {sV : St} (hV : ∀ a w S β, Sim Γ s a w S β → Sim Γ sV a w S β) {c : Operand} {ag : List Operand} {ts : Array TypeId} {v : AV} {xs : List AV} (hv : a4Rq P v xs r I O mv) (ho : o.op = .call { callee := .value c, args := ag.toArray, argTypes := ts }) (hc : sV.ev c = some v) (has : o5q sV.ev ag = some xs) (hd : o.dst.all (· < Γ.n) = true)
  (hI : usOk s I) (hok : xok s I O mv = true) : XOp Γ P o s (s.xupd o.dst r I O mv) := by
 simp only [xok, Bool.and_eq_true, List.all_eq_true, Bool.or_eq_true, decide_eq_true_eq, List.any_eq_true, beq_iff_eq, List.contains_iff_mem, Option.isNone_iff_eq_none] at hok
 exact adhq hV ho hc has hv hd (p1q hI) (fun m hm => (hok.1 m hm).1) hok.2 fun m hm => (hok.1 m hm).2
theorem a9Wq {f : FuncId} {fn : Func} {xs : List AV} (hx : XCall P f xs r I O mv) (hf : P.funcs[f]? = some fn) (hb : fn.body.isNone = false) (hname : (fn.name == "runtime.NumGoroutine") = false) : a4Rq P (.one (.d (.fn f))) xs r I O mv := ⟨⟨fn, hf, hb, hname⟩, hx⟩
theorem acZq {f : FuncId} {fn : Func} {xs ys : List AV} {caps : List (Nat × Nat)} (hx : XCall P f ys r I O mv) (e : xs ++ (caps.map fun p => .one (.op p.1 p.2)) = ys) (hf : P.funcs[f]? = some fn) (hb : fn.body.isNone = false) (hname : (fn.name == "runtime.NumGoroutine") = false) : a4Rq P (.one (.clo f caps)) xs r I O mv := ⟨⟨fn, hf, hb, hname⟩, by subst e; exact hx⟩
end
section
variable {P : Program} {f : FuncId} {xs : List AV} {r : AV} {I O : List (Nat × Ob)} {mv : List Nat}
theorem XCall.of (h : ACall P f xs r []) : XCall P f xs r I I [] := by
 intro w S β vs hlt hr hin
 refine (h w S β vs hlt hr).mono ?_
 rintro e w' ⟨v, S', β', rfl, hG, hrep⟩
 have hk : ∀ b, S b → w'.heap[b]? = w.heap[b]? := fun b hb => hG.block b (hlt b hb)
 have hβ : β' = β := funext fun o => hG.loc o (by simp)
 subst hβ
 refine ⟨v, S', β', rfl, ⟨hG.os, hG.tape, hG.output, hG.size, fun b hb _ => hG.block b hb, hG.sub, fun b hb => ⟨(hG.sup b hb).1, (hG.sup b hb).2.imp id .inl⟩, fun _ _ => rfl, fun p hp => ?_, fun p hp b hh => ?_, hin.sep, fun p hp b hh => ⟨hG.sub b (hin.clm p hp b hh), .inr (.inr ⟨p, hp, hh⟩)⟩, hin.sepc⟩, hrep⟩
 ·exact (hin.ob p hp).mono (fun b hh => hG.block _ (hin.own p hp b hh).1) hk hG.sub fun _ _ => rfl
 ·obtain ⟨h1, h2⟩ := hin.own p hp b hh
  refine ⟨Nat.lt_of_lt_of_le h1 hG.size, fun hb => ?_, .inr ⟨p, hp, hh⟩⟩
  rcases (hG.sup _ hb).2 with hb | hb
  ·exact h2 hb
  ·omega
theorem XCall.plain (h : XCall P f xs r [] [] []) : ACall P f xs r [] := by
 intro w S β vs hlt hr
 refine (h w S β vs hlt hr ⟨by simp, by simp, by simp, by simp, by simp⟩).mono ?_
 rintro e w' ⟨v, S', β', rfl, hG, hrep⟩
 exact ⟨v, S', β', rfl, ⟨hG.os, hG.tape, hG.output, hG.size, fun b hb => hG.block b hb (fun ⟨p, hp, _⟩ => by simp at hp), hG.sub, fun b hb => ⟨(hG.sup b hb).1, (hG.sup b hb).2.imp id fun h => h.resolve_right fun ⟨p, hp, _⟩ => by simp at hp⟩, fun o _ => hG.loc o (by simp), by simp, by simp, by simp, by simp, by simp⟩, hrep⟩
end
def a1gq (l : List (Nat × Nat)) : List (Nat × Nat) → Option (List (Nat × Nat))
 | [] => some []
 | p :: r => match a4q l p.1, a1gq l r with
  | some k, some cs => some ((k, p.2) :: cs)
  | _, _ => none
def k6q (l : List (Nat × Nat)) : At → At
 | .ol o => match a4q l o with | some k => .ol k | none => .junk
 | .op o off => match a4q l o with | some k => .op k off | none => .junk
 | .clo f caps => match a1gq l caps with | some cs => .clo f cs | none => .junk
 | .ps o es lo n => match a4q l o with | some k => .ps k es lo n | none => .junk
 | x => x
def m8q (l : List (Nat × Nat)) : List (Nat × Ob) → List (Nat × Ob)
 | [] => []
 | (i, X) :: r => ((a4q l i).getD i, X.map (k6q l)) :: m8q l r
theorem k3q (l : List (Nat × Nat)) (I : List (Nat × Ob)) : m8q l I = I.map fun p => ((a4q l p.1).getD p.1, p.2.map (k6q l)) := by
 induction I with
 | nil => rfl
 | cons p r ih => obtain ⟨i, X⟩ := p; simp [m8q, ih]
section
variable {w : World} {S : Nat → Prop} {β β' : Nat → OLoc} {l : List (Nat × Nat)}
theorem a3Lq (h : ∀ o k, a4q l o = some k → β' k = β o) : ∀ (caps cs : List (Nat × Nat)), a1gq l caps = some cs → cs.map (E8q β') = caps.map (E8q β)
 | [], cs, e => by simp [a1gq] at e; subst e; rfl
 | p :: r, cs, e => by
  simp only [a1gq] at e
  split at e
  ·rename_i k cs' hk hc
   simp at e; subst e
   simp only [List.map_cons, a3Lq h r cs' hc, E8q, h _ _ hk]
  ·simp at e
theorem RepA.ren (h : ∀ o k, a4q l o = some k → β' k = β o) (x : At) (v : Value) (hx : RepA w S β x v) : RepA w S β' (k6q l x) v := by
 cases hx with
 | d h => exact .d h
 | e0 => exact .e0
 | @ol o =>
  simp only [k6q]
  split
  ·rename_i k hk; rw [← h _ _ hk]; exact .ol
  ·exact .junk
 | @op o off =>
  simp only [k6q]
  split
  ·rename_i k hk; rw [← h _ _ hk]; exact .op
  ·exact .junk
 | ep h1 h2 h3 => exact .ep h1 h2 h3
 | @clo f caps =>
  simp only [k6q]
  split
  ·rename_i cs hk; rw [← a3Lq h _ _ hk]; exact .clo
  ·exact .junk
 | @ps o es lo n a c h1 h2 h3 =>
  simp only [k6q]
  split
  ·rename_i k hk
   rw [← h _ _ hk] at h2 h3
   exact .ps h1 h2 h3
  ·exact .junk
 | raw => exact .raw
 | junk => exact .junk
theorem ObRep.ren (h : ∀ o k, a4q l o = some k → β' k = β o) {L : OLoc} {X : Ob} (hX : ObRep w S β L X) : ObRep w S β' L (X.map (k6q l)) := by
 cases X with
 | var cs =>
  obtain ⟨h1, c, E, h2, h3⟩ := hX
  exact ⟨h1, c, E, h2, h3.map (RepA.ren h)⟩
 | lst E es xs => exact hX
 | tr E es xs => exact hX
 | tk xs => exact hX
 | mt E es xs => exact hX
 | mu E es xs m q a n c => exact hX
 | fu E es xs c => exact hX
end
def B7q (l1 l2 : List (Nat × Nat)) (I' O : List (Nat × Ob)) (mv : List Nat) : Bool :=
 (l1.all fun p => a4q l2 p.2 == some p.1) && (l2.all fun p => l2.all fun q => p.2 != q.2 || p.1 == q.1) && (mv.all fun m => (a4q l2 m).isSome) && (I'.all fun p => (a4q l1 p.1).isSome) && (O.all fun p => (a4q l2 p.1).isSome)
theorem a2Yq {P : Program} {f : FuncId} {xs ys : List AV} {r r' : AV} {I I' O O' : List (Nat × Ob)} {mv mv' : List Nat} (l1 l2 : List (Nat × Nat)) (h : XCall P f xs r I O mv) (e1 : AV.mapT (k6q l1) ys = xs) (e2 : m8q l1 I' = I)
  (e3 : r.map (k6q l2) = r') (e4 : m8q l2 O = O') (e5 : (mv.map fun m => (a4q l2 m).getD m) = mv') (hok : B7q l1 l2 I' O mv = true) : XCall P f ys r' I' O' mv' := by
 subst e1; subst e2; subst e3; subst e4; subst e5
 simp only [B7q, Bool.and_eq_true, List.all_eq_true, beq_iff_eq, Bool.or_eq_true, bne_iff_ne, ne_eq] at hok
 obtain ⟨⟨⟨⟨k1, k2⟩, k3⟩, k4⟩, k5⟩ := hok
 have hinj : ∀ a b k, a4q l2 a = some k → a4q l2 b = some k → a = b := by
  intro a b k ha hb
  rcases k2 (a, k) (f6q ha) (b, k) (f6q hb) with h | h
  ·exact absurd rfl h
  ·exact h
 intro w S β vs hlt hr hin
 let βc : Nat → OLoc := fun o => match a4q l2 o with | some k => β k | none => β o
 have hc : ∀ o k, a4q l1 o = some k → βc k = β o := by
  intro o k ho
  have := k1 (o, k) (f6q ho)
  simp only [βc, this]
 have hloc : ∀ p ∈ I', ∃ k, a4q l1 p.1 = some k ∧ βc k = β p.1 := by
  intro p hp
  obtain ⟨k, hk⟩ := Option.isSome_iff_exists.1 (k4 p hp)
  exact ⟨k, hk, hc _ _ hk⟩
 have hpass : ∀ b, i5q (m8q l1 I') βc b ↔ i5q I' β b := by
  intro b
  rw [k3q]
  constructor
  ·rintro ⟨q, hq, h1⟩
   obtain ⟨p, hp, rfl⟩ := List.mem_map.1 hq
   obtain ⟨k, hk, hkb⟩ := hloc p hp
   simp only [hk, Option.getD_some, hkb] at h1
   exact ⟨p, hp, h1⟩
  ·rintro ⟨p, hp, h1⟩
   obtain ⟨k, hk, hkb⟩ := hloc p hp
   exact ⟨_, List.mem_map.2 ⟨p, hp, rfl⟩, by simp only [hk, Option.getD_some, hkb]; exact h1⟩
 have hpc : ∀ b, B3q (m8q l1 I') βc b ↔ B3q I' β b := by
  intro b
  rw [k3q]
  constructor
  ·rintro ⟨q, hq, h1⟩
   obtain ⟨p, hp, rfl⟩ := List.mem_map.1 hq
   obtain ⟨k, hk, hkb⟩ := hloc p hp
   simp only [hk, Option.getD_some, hkb] at h1
   exact ⟨p, hp, h1⟩
  ·rintro ⟨p, hp, h1⟩
   obtain ⟨k, hk, hkb⟩ := hloc p hp
   exact ⟨_, List.mem_map.2 ⟨p, hp, rfl⟩, by simp only [hk, Option.getD_some, hkb]; exact h1⟩
 have hin' : R9q w S βc (m8q l1 I') := by
  rw [k3q]
  refine ⟨fun q hq => ?_, fun q hq => ?_, fun q hq q' hq' => ?_, fun q hq => ?_, fun q hq q' hq' => ?_⟩
  ·obtain ⟨p, hp, rfl⟩ := List.mem_map.1 hq
   obtain ⟨k, hk, hkb⟩ := hloc p hp
   simp only [hk, Option.getD_some, hkb]
   exact (hin.ob p hp).ren hc
  ·obtain ⟨p, hp, rfl⟩ := List.mem_map.1 hq
   obtain ⟨k, hk, hkb⟩ := hloc p hp
   simp only [hk, Option.getD_some, hkb]
   exact hin.own p hp
  ·obtain ⟨p, hp, rfl⟩ := List.mem_map.1 hq
   obtain ⟨p', hp', rfl⟩ := List.mem_map.1 hq'
   obtain ⟨k, hk, hkb⟩ := hloc p hp
   obtain ⟨k', hk', hkb'⟩ := hloc p' hp'
   simp only [hk, hk', Option.getD_some, hkb, hkb']
   intro b h1 h2
   have := hin.sep p hp p' hp' b h1 h2
   rw [this, hk'] at hk
   simpa using hk.symm
  ·obtain ⟨p, hp, rfl⟩ := List.mem_map.1 hq
   obtain ⟨k, hk, hkb⟩ := hloc p hp
   simp only [hk, Option.getD_some, hkb]
   exact hin.clm p hp
  ·obtain ⟨p, hp, rfl⟩ := List.mem_map.1 hq
   obtain ⟨p', hp', rfl⟩ := List.mem_map.1 hq'
   obtain ⟨k, hk, hkb⟩ := hloc p hp
   obtain ⟨k', hk', hkb'⟩ := hloc p' hp'
   simp only [hk, hk', Option.getD_some, hkb, hkb']
   intro b h1 h2
   have := hin.sepc p hp p' hp' b h1 h2
   rw [this, hk'] at hk
   simpa using hk.symm
 refine (h w S βc vs hlt (hr.map (RepA.ren hc) fun _ _ h => h) hin').mono ?_
 rintro e w' ⟨v, S', βf, rfl, hG, hrep⟩
 let β2 : Nat → OLoc := fun k => match mv.find? fun m => a4q l2 m == some k with | some m => βf m | none => β k
 have hf : ∀ o k, a4q l2 o = some k → β2 k = βf o := by
  intro o k ho
  simp only [β2]
  split
  ·rename_i m hm
   have h1 := List.find?_some hm
   simp only [beq_iff_eq] at h1
   rw [hinj _ _ _ h1 ho]
  ·rename_i hm
   have hom : o ∉ mv := by
    intro hmem
    have := List.find?_eq_none.1 hm o hmem
    simp [ho] at this
   rw [hG.loc o hom]
   simp only [βc, ho]
 have hlocO : ∀ p ∈ O, ∃ k, a4q l2 p.1 = some k ∧ β2 k = βf p.1 := by
  intro p hp
  obtain ⟨k, hk⟩ := Option.isSome_iff_exists.1 (k5 p hp)
  exact ⟨k, hk, hf _ _ hk⟩
 refine ⟨v, S', β2, rfl, ⟨hG.os, hG.tape, hG.output, hG.size, fun b hb hp => hG.block b hb fun h => hp ((hpass b).1 h), hG.sub, fun b hb => ⟨(hG.sup b hb).1, (hG.sup b hb).2.imp id fun h => h.imp id (hpass b).1⟩, fun k hk => ?_, fun q hq => ?_, fun q hq => ?_, fun q hq q' hq' => ?_, fun q hq => ?_, fun q hq q' hq' => ?_⟩, hrep.map (RepA.ren hf) fun _ _ h => h⟩
 ·simp only [β2]
  split
  ·rename_i m hm
   have h1 := List.find?_some hm
   have h2 := List.mem_of_find?_eq_some hm
   simp only [beq_iff_eq] at h1
   exact absurd (List.mem_map.2 ⟨m, h2, by simp [h1]⟩) hk
  ·rfl
 ·rw [k3q] at hq
  obtain ⟨p, hp, rfl⟩ := List.mem_map.1 hq
  obtain ⟨k, hk, hkb⟩ := hlocO p hp
  simp only [hk, Option.getD_some, hkb]
  exact (hG.ob p hp).ren hf
 ·rw [k3q] at hq
  obtain ⟨p, hp, rfl⟩ := List.mem_map.1 hq
  obtain ⟨k, hk, hkb⟩ := hlocO p hp
  simp only [hk, Option.getD_some, hkb]
  intro b hh
  obtain ⟨h1, h2, h3⟩ := hG.own p hp b hh
  exact ⟨h1, h2, h3.imp id (hpass _).1⟩
 ·rw [k3q] at hq hq'
  obtain ⟨p, hp, rfl⟩ := List.mem_map.1 hq
  obtain ⟨p', hp', rfl⟩ := List.mem_map.1 hq'
  obtain ⟨k, hk, hkb⟩ := hlocO p hp
  obtain ⟨k', hk', hkb'⟩ := hlocO p' hp'
  simp only [hk, hk', Option.getD_some, hkb, hkb']
  intro b h1 h2
  have := hG.sep p hp p' hp' b h1 h2
  rw [this, hk'] at hk
  simpa using hk.symm
 ·rw [k3q] at hq
  obtain ⟨p, hp, rfl⟩ := List.mem_map.1 hq
  obtain ⟨k, hk, hkb⟩ := hlocO p hp
  simp only [hk, Option.getD_some, hkb]
  intro b hh
  obtain ⟨h1, h3⟩ := hG.clm p hp b hh
  exact ⟨h1, h3.imp id (Or.imp (hpass _).1 (hpc _).1)⟩
 ·rw [k3q] at hq hq'
  obtain ⟨p, hp, rfl⟩ := List.mem_map.1 hq
  obtain ⟨p', hp', rfl⟩ := List.mem_map.1 hq'
  obtain ⟨k, hk, hkb⟩ := hlocO p hp
  obtain ⟨k', hk', hkb'⟩ := hlocO p' hp'
  simp only [hk, hk', Option.getD_some, hkb, hkb']
  intro b h1 h2
  have := hG.sepc p hp p' hp' b h1 h2
  rw [this, hk'] at hk
  simpa using hk.symm
def a1jq (av : Operand → Option AV) : List Operand → Option (List (Nat × Nat))
 | [] => some []
 | x :: r => match av x, a1jq av r with
  | some (.one (.op k off)), some cs => some ((k, off) :: cs)
  | _, _ => none
theorem a4Qq {w : World} {S : Nat → Prop} {β : Nat → OLoc} {ρ : Operand → Value} {av : Operand → Option AV} : ∀ (xs : List Operand) (cs : List (Nat × Nat)), (∀ x X, av x = some X → x ∈ xs → RepV w S β X (ρ x)) → a1jq av xs = some cs → xs.map ρ = cs.map (E8q β)
 | [], cs, _, e => by simp [a1jq] at e; subst e; rfl
 | x :: r, cs, h, e => by
  simp only [a1jq] at e
  split at e
  ·rename_i k off cs' h1 h2
   simp at e; subst e
   have h3 := (h x _ h1 (by simp)).one_inv
   simp only [List.map_cons, a4Qq r cs' (fun x X hx hm => h x X hx (by simp [hm])) h2]
   generalize hv : ρ x = v at h3
   cases h3
   rfl
  ·simp at e
section
variable {P : Program} {o : Oper} {s s0 : St}
theorem abfq {f : FuncId} {cap : List Operand} {cs : List (Nat × Nat)} (ho : o.op = .makeFunc (.func f) #[] cap.toArray) (hc : a1jq s.ev cap = some cs) : OpS P o s s0 (.one (.clo f cs)) [] := by
 refine c9q (b9q fun a w S β _ hr _ => ?_)
 have h1 := a4Qq (w := w) (S := S) (β := β) (ρ := a.eval) cap cs (fun x X hx hm => hr x X hx (by simp [ho, Op.operands, hm])) hc
 refine ⟨.func (.func f) #[] (cs.map (E8q β)).toArray, ?_, RepV.one .clo⟩
 simp only [execOp, ho, Instr.makeFunc, List.map_toArray, h1]
 simp
theorem a9bq {f : FuncId} (ho : o.op = .makeFunc (.func f) #[] #[]) : OpS P o s s0 (.one (.d (.fn f))) [] := by
 refine c9q (b9q fun a w S β _ hr _ => ⟨.func (.func f) #[] #[], ?_, RepV.one (.d (.fn_ f))⟩)
 simp [execOp, ho, Instr.makeFunc]
end
def RoOk (I : List (Nat × Ob)) : Prop := (∀ p ∈ I, a4q I p.1 = some p.2) ∧ ∀ o ∈ (I.map fun p => p.1 :: p.2.ids).flatten, 2000 ≤ o ∧ ∃ p ∈ I, p.1 = o
theorem RoOk.nil : RoOk [] := ⟨by simp, by simp⟩
theorem RoOk.one {k : Nat} {cs : List At} (h : 2000 ≤ k) (hc : AV.idsL cs = []) : RoOk [(k, .var cs)] := by
 refine ⟨by simp [a4q], fun o ho => ?_⟩
 simp [Ob.ids, hc] at ho
 subst ho
 exact ⟨h, (_, _), List.mem_singleton.2 rfl, rfl⟩
theorem RoOk.lst {k E es : Nat} {xs : List (List Da)} (h : 2000 ≤ k) : RoOk [(k, .lst E es xs)] := by
 refine ⟨by simp [a4q], fun o ho => ?_⟩
 simp [Ob.ids] at ho
 subst ho
 exact ⟨h, (_, _), List.mem_singleton.2 rfl, rfl⟩
section
variable {Γ : Cx} {P : Program} {ops : Array Oper} {rest : List Oper} {o : Oper} {K : St → Prop} {s : St} {I : List (Nat × Ob)} {r : AV}
end
section
variable {Γ : Cx} {P : Program} {ops : Array Oper} {rest : List Oper} {o : Oper} {K : St → Prop} {s : St}
theorem Sim.junk {a : Act} {w : World} {S : Nat → Prop} {β : Nat → OLoc} {dst : Option Nat} (hs : Sim Γ (s.drop dst) a w S β) (hd : dst.all (· < Γ.n) = true) : Sim Γ (s.upd dst (.one .junk) []) a w S β := by
 refine ⟨hs.defers, hs.sz, fun i x hi => ?_, ?_⟩
 ·rw [y5q] at hi
  by_cases hdi : dst = some i
  ·rw [if_pos hdi] at hi
   simp at hi; subst hi; subst hdi
   simp at hd
   have hlt : i < a.tmps.size := by rw [hs.sz]; exact hd
   exact ⟨a.tmps[i], Array.getElem?_eq_getElem hlt, RepV.one .junk⟩
  ·rw [if_neg hdi] at hi
   refine hs.tm i x ?_
   rw [a94q, if_neg hdi]; exact hi
 ·have e : (s.upd dst (.one .junk) []).gob = (s.drop dst).gob := funext fun q => by rw [I0q, aaeq]; simp [a4q]
  rw [e]; exact hs.mem
theorem Sim.undef {a : Act} {w : World} {S : Nat → Prop} {β : Nat → OLoc} {dst : Option Nat} (hs : Sim Γ s a w S β) (hd : dst.all (· < Γ.n) = true) : Sim Γ (s.upd dst (.tup []) []) (a.put dst undef) w S β :=
 hs.upd (Grow.refl hs.mem.lt) (RepVs.tup .nil .nil) hd rfl
theorem aexq {j d : Nat} {want : Bool} (hg : o.guard = some (j, want)) (hj : (ops[j]?).bind (·.dst) = some d) (hb : s.get d = some (B (!want))) (hd : o.dst.all (· < Γ.n) = true) (hr : d5q Γ P ops rest K (s.upd o.dst (.tup []) [])) : d5q Γ P ops (o :: rest) K s := by
 intro a w S β R hs hR
 have hyl := a1Hq (Γ := Γ) hj (.inr hs) hb
 refine wpList_step fun K' hK => ?_
 have hw : Region.wanted o (yielded ops a.tmps) = false := by simp only [Region.wanted, hg, hyl]; cases want <;> rfl
 rw [hw, if_neg (by simp)]
 exact hK _ _ (hr _ _ _ _ R (hs.undef hd) hR)
theorem aeWq {j d : Nat} {want : Bool} (hg : o.guard = some (j, want)) (hj : (ops[j]?).bind (·.dst) = some d) (hb : s.get d = some (.tup [])) (hd : o.dst.all (· < Γ.n) = true) (hr : d5q Γ P ops rest K (s.upd o.dst (.tup []) [])) : d5q Γ P ops (o :: rest) K s := by
 intro a w S β R hs hR
 obtain ⟨v, hv, hrep⟩ := hs.tm d _ hb
 obtain ⟨us, rfl, hus⟩ := RepV.tup_inv hrep
 have hyl : yielded ops a.tmps j = none := by simp [yielded, hj, hv]
 refine wpList_step fun K' hK => ?_
 have hw : Region.wanted o (yielded ops a.tmps) = false := by simp only [Region.wanted, hg, hyl]; rfl
 rw [hw, if_neg (by simp)]
 exact hK _ _ (hr _ _ _ _ R (hs.undef hd) hR)
end
theorem XCall.fresh {P : Program} {f : FuncId} {xs : List AV} {r : AV} {O : List (Nat × Ob)} {mv : List Nat} (h : XCall P f xs r [] O mv) (hm : (mv.all fun m => O.any (·.1 == m)) = true) : ACall P f xs r O := by
 intro w S β vs hlt hr
 refine (h w S β vs hlt hr ⟨by simp, by simp, by simp, by simp, by simp⟩).mono ?_
 rintro e w' ⟨v, S', β', rfl, hG, hrep⟩
 have hno : ∀ b, ¬ i5q [] β b := fun b ⟨p, hp, _⟩ => by simp at hp
 refine ⟨v, S', β', rfl, ⟨hG.os, hG.tape, hG.output, hG.size, fun b hb => hG.block b hb (hno b), hG.sub, fun b hb => ⟨(hG.sup b hb).1, (hG.sup b hb).2.imp id fun h => h.resolve_right (hno b)⟩, fun o ho => hG.loc o fun hmem => ?_, hG.ob, fun p hp b hh => ?_, hG.sep, fun p hp b hh => ⟨(hG.clm p hp b hh).1, (hG.clm p hp b hh).2.resolve_right fun h => h.elim (hno b) fun ⟨p, hp, _⟩ => by simp at hp⟩, hG.sepc⟩, hrep⟩
 ·have := List.all_eq_true.1 hm o hmem
  obtain ⟨p, hp, he⟩ := List.any_eq_true.1 this
  exact ho p hp (by simpa using he)
 ·obtain ⟨h1, h2, h3⟩ := hG.own p hp b hh
  exact ⟨h3.resolve_right (hno _), h1, h2⟩
def St.nilOb (s : St) (t d E es : Nat) : St := { tm := (t, .one (.ol d)) :: s.tm, ob := (d, .tr E es []) :: s.ob }
section
variable {Γ : Cx} {P : Program} {ops : Array Oper} {rest : List Oper} {K : St → Prop} {s : St} {fn : Func} {r : AV} {I O : List (Nat × Ob)} {mv : List Nat}
theorem Sim.nilOb {t d E es : Nat} {a : Act} {w : World} {S : Nat → Prop} {β : Nat → OLoc} (hs : Sim Γ s a w S β) (ht : s.get t = some (.one .e0)) (hf : s.fresh [(d, .lst E es [])] = true) : ∃ β', Sim Γ (s.nilOb t d E es) a w S β' := by
 let l0 : OLoc := ⟨0, none, 0, 0, false, [], []⟩
 have hl0 : ∀ b, ¬ l0.Own b := fun b hb => by rcases hb with ⟨h, _⟩ | h <;> simp [l0] at h
 let β' : Nat → OLoc := fun o => if o = d then l0 else β o
 have hlow := G9q hf _ (List.mem_singleton.2 rfl)
 have hβ : ∀ o, o ≠ d → β' o = β o := fun o ho => if_neg ho
 have hd : β' d = l0 := if_pos rfl
 have hT : ∀ q X, (s.nilOb t d E es).gob q = some X → (q = d ∧ X = .tr E es []) ∨ (q ≠ d ∧ s.gob q = some X) := by
  intro q X hq
  simp only [St.nilOb, St.gob, a4q] at hq
  by_cases e : d = q
  ·subst e; simp at hq; exact .inl ⟨rfl, hq.symm⟩
  ·simp [e] at hq; exact .inr ⟨fun h => e h.symm, hq⟩
 refine ⟨β', hs.defers, hs.sz, fun i x hi => ?_, ⟨hs.mem.lt, fun q X hq => ?_, fun q X hq b hh => ?_, fun q q' X X' hq hq' b hh hh' => ?_, hs.mem.os, hs.mem.tape, hs.mem.output, hs.mem.size, hs.mem.block, hs.mem.sub, hs.mem.sup, fun q l hl => ?_, fun q X hq b hh => ?_, fun q q' X X' hq hq' b hh hh' => ?_⟩⟩
 ·have key : ∀ y, s.get i = some y → ∃ v, a.tmps[i]? = some v ∧ RepV w S β' y v := by
   intro y hy
   obtain ⟨v, hv, hr⟩ := hs.tm i y hy
   exact ⟨v, hv, hr.mono (fun _ _ => rfl) (fun _ h => h) fun o ho => hβ o fun e => N6q hf hy o ho _ (List.mem_singleton.2 rfl) e.symm⟩
  simp only [St.nilOb, St.get, a4q] at hi
  by_cases e : t = i
  ·subst e
   simp at hi
   subst hi
   obtain ⟨v, hv, hr⟩ := hs.tm t _ ht
   cases hr.one_inv
   refine ⟨_, hv, RepV.one ?_⟩
   have : (.slice none 0 0 : Value) = (β' d).sv := by rw [hd]; rfl
   rw [this]; exact .ol
  ·simp [e] at hi; exact key x hi
 ·rcases hT q X hq with ⟨rfl, rfl⟩ | ⟨hne, hq⟩
  ·rw [hd]
   exact .inl ⟨rfl, by simp, by simp, [], [], ⟨by simp, .inl ⟨rfl, rfl⟩⟩, .nil, by simp, by simp⟩
  ·rw [hβ q hne]
   exact (hs.mem.ob q X hq).mono (fun _ _ => rfl) (fun _ _ => rfl) (fun _ h => h) fun o ho => hβ o fun e => (t8q hf hq).2 o ho _ (List.mem_singleton.2 rfl) e.symm
 ·rcases hT q X hq with ⟨rfl, rfl⟩ | ⟨hne, hq⟩
  ·rw [hd] at hh; exact (hl0 b hh).elim
  ·rw [hβ q hne] at hh; exact hs.mem.own q X hq b hh
 ·rcases hT q X hq with ⟨rfl, rfl⟩ | ⟨hne, hq⟩
  ·rw [hd] at hh; exact (hl0 b hh).elim
  ·rcases hT q' X' hq' with ⟨rfl, rfl⟩ | ⟨hne', hq'⟩
   ·rw [hd] at hh'; exact (hl0 b hh').elim
   ·rw [hβ q hne] at hh; rw [hβ q' hne'] at hh'
    exact hs.mem.sep q q' X X' hq hq' b hh hh'
 ·obtain ⟨h1, h2⟩ := hs.mem.fix q l hl
  exact ⟨h1, (hβ q (by omega)).trans h2⟩
 ·rcases hT q X hq with ⟨rfl, rfl⟩ | ⟨hne, hq⟩
  ·rw [hd] at hh; cases hh
  ·rw [hβ q hne] at hh; exact hs.mem.clm q X hq b hh
 ·rcases hT q X hq with ⟨rfl, rfl⟩ | ⟨hne, hq⟩
  ·rw [hd] at hh; cases hh
  ·rcases hT q' X' hq' with ⟨rfl, rfl⟩ | ⟨hne', hq'⟩
   ·rw [hd] at hh'; cases hh'
   ·rw [hβ q hne] at hh; rw [hβ q' hne'] at hh'
    exact hs.mem.sepc q q' X X' hq hq' b hh hh'
end
theorem a1Wq (ns : List Int) : (strOfNums ns).size = ns.length := by
 simp [strOfNums, ByteArray.size]
theorem adjq (ns : List Int) : (ns.map fun n => [Da.int .u8 n]).flatten = ns.map (Da.int .u8) := by induction ns <;> simp_all
theorem a7eq {w : World} {S : Nat → Prop} : ∀ {ns : List Int} {vs : List Value}, RepDs w S (ns.map (Da.int .u8)) vs → vs = ns.map (Value.int .u8)
 | [], vs, h => h.nil_inv
 | n :: ns, vs, h => by
  obtain ⟨v, vs', rfl, h1, h2⟩ := RepDs.cons_inv h
  rw [h1.int_inv, a7eq h2]; rfl
section
variable {P : Program} {o : Oper} {av : Operand → Option AV} {x : Operand} {src dst : TypeId}
theorem acrq {k E : Nat} {ns : List Int} {e : TypeId} (ho : o.op = .convert src dst x) (hs : P.underlying src = some (.slice e)) (he : P.underlying e = some (.int .u8)) (hd : P.underlying dst = some .string) (hx : av x = some (.one (.ol k))) :
  OpP P o av [(k, .lst E 1 (ns.map fun n => [.int .u8 n]))] (T (strOfNums ns)) [] := by
 refine b9q fun a w S β _ hr hu => ?_
 have h := (hr x _ hx (by simp [ho, Op.operands])).one_inv
 rcases hu (k, .lst E 1 (ns.map fun n => [.int .u8 n])) (by simp) with ⟨hob, hsm, _, vs, hown, hrep⟩ | ⟨_, h0, ad, hz0⟩
 rotate_left
 ·have hn : ns = [] := by simpa using h0
  subst hn
  generalize hv : a.eval x = v at h
  cases h
  refine ⟨.string ByteArray.empty, ?_, RepV.str _ (by decide)⟩
  dsimp only at hz0
  have := run_convert_bytes_string (P := P) w src dst e ad 0 0 hs he hd
  have e2 : (Conv.bytesToString (.slice ad 0 0)).run P w = .ok (.string ByteArray.empty) w := by
   cases ad with
   | none => simp [Conv.bytesToString]
   | some b => simp [Conv.bytesToString, loadCells, loadCellsFrom]
  rw [e2] at this
  simp [execOp, ho, hv, hz0, this]
 simp only [adjq] at hrep
 have hvs := a7eq hrep
 subst hvs
 generalize hv : a.eval x = v at h
 cases h
 refine ⟨.string (strOfNums ns), ?_, RepV.str _ (by rw [a1Wq]; simpa using hsm)⟩
 have hlen : (ns.map fun n => [Da.int .u8 n]).length = ns.length := by simp
 rcases hown.2 with ⟨hsv, h0⟩ | ⟨g, cap, cur, hsv, _⟩
 ·have hn : ns = [] := by rw [hlen] at h0; exact List.length_eq_zero_iff.1 h0
  subst hn
  have := run_convert_bytes_nil (P := P) w src e hs he 0 0 dst hd
  dsimp only at hsv
  simp [execOp, ho, hv, hsv, this]
  rfl
 ·dsimp only at hsv
  have hown' : w.ownsRow 0 E 1 (.slice (some ⟨g, 0, none⟩) (ns.map fun n => [Da.int .u8 n]).length cap) (ns.map fun n => [Da.int .u8 n]).length (ns.map (Value.int .u8)) := by rw [← hsv]; exact hown
  have hc := World.ownsRow.cells hown' (g := g) rfl
  have := run_convert_bytes_arg (P := P) w src e hs he g 0 ns.length cap ns rfl (fun i hi => by
   have := hc i (.int .u8 ns[i]) (by simp [hi])
   rw [n3q] at this
   rw [this]; simp [List.getD, hi]) dst hd
  rw [hlen] at hsv
  simp [execOp, ho, hv, hsv, this]
end
section
variable {P : Program} {tab : List (Nat × TI)} {o : Oper} {s s0 : St} {x : Operand} {i i2 i3 : TI} {src dst : TypeId}
theorem adkq (hT : TabOk P tab) {tr : Bool} {k E e : Nat} {ns : List Int} (ho : o.op = .convert src dst x) (hx : s.ev x = some (.one (.ol k))) (hk : s0.gob k = some (mkL tr E 1 (ns.map fun n => [.int .u8 n]))) (hs : a4q tab src = some i) (hp : i.pr = 4) (he : i.el = some e) (h2 : a4q tab e = some i2) (hik : i2.ik = some .u8) (hd : a4q tab dst = some i3) (hp3 : i3.pr = 2) : OpS P o s s0 (T (strOfNums ns)) [] := by
 obtain ⟨d1, j1, hd1, hj1, a1, a2, a3, a4, a5, a6, a7⟩ := b2q (hT src i hs)
 obtain ⟨d2, j2, hd2, hj2, b1, b2, b3, b4, b5, b6, b7⟩ := b2q (hT e i2 h2)
 obtain ⟨d3, j3, hd3, hj3, c1, c2, c3, c4, c5, c6, c7⟩ := b2q (hT dst i3 hd)
 have := h0q (a4.trans he) (a6.trans hp); subst this
 have := a9Uq (b7.trans hik); subst this
 have := D7q (c6.trans hp3); subst this
 exact ⟨_, (acrq ho hd1 hd2 hd3 hx).tr, hk, trivial⟩
end
theorem a8yq {P : Program} {o : Oper} {av : Operand → Option AV} {x z : Operand} {ts : Array TypeId} {f : FuncId} {fn : Func} {q : ByteArray} {c : Int} (ho : o.op = .call { callee := .value (.func f), args := #[x, z], argTypes := ts }) (hf : P.funcs[f]? = some fn)
  (hname : (fn.name == "runtime.NumGoroutine") = false) (hb : fn.body.isNone = true) (hn : Extern.findNext fn = none) (he : Extern.find fn = some Extern.BytealgIndexByte.indexByte) (hx : av x = some (T q)) (hz : av z = some (I .u8 c)) : OpP P o av [] (Z (firstIdx q c.toNat.toUInt8)) [] := by
 refine b9q fun a w S β _ hr _ => ⟨.int .i64 (firstIdx q c.toNat.toUInt8), ?_, RepV.int _ _⟩
 have h1 := (hr x _ hx (by simp [ho, Op.operands, Call.operands])).str_inv.1
 have h2 := (hr z _ hz (by simp [ho, Op.operands, Call.operands])).int_inv
 have hfe : a.eval (.func f) = .func (.func f) #[] #[] := rfl
 simp only [execOp, ho, resolve, hfe, Deferred.ofValue, Sem.run_bind, Sem.run_pure, Result.andThen_ok, invoke]
 rw [show (#[] : Array Value) ++ Array.map a.eval #[x, z] ++ #[] = #[.string q, .int .u8 c] by simp [h1, h2]]
 rw [run_callFunc_extern hf hname hb hn he, run_indexByte_string]
 rfl
section
variable {w w' : World} {S S' : Nat → Prop} {β β' : Nat → OLoc}
theorem a7vq {l : OLoc} {E es : Nat} {xs : List (List Da)} (h : ObRep w S β l (.tr E es xs)) : ∃ fp, RepT w [.sl xs] [l.sv] fp ∧ (∀ b ∈ fp, (S b ∧ b ∈ l.clm) ∨ (l.has = true ∧ b = l.blk)) ∧ ((l.has = true → ∀ b ∈ l.clm, b ≠ l.blk) → fp.Nodup) := by
 rcases h with ⟨h1, h2, h3, vs, fp, h4, h5, h6, h7⟩ | ⟨_, rfl, ad, hz0⟩
 rotate_left
 ·rw [hz0]; exact ⟨[], .sl0 .nil, by simp, by simp⟩
 rcases h4.2 with ⟨hsv, h0⟩ | ⟨g, cap, cur, hsv, _, hg, hcap, hcm, hcsz, htk⟩
 ·have := List.eq_nil_of_length_eq_zero h0
  subst this
  rw [hsv]
  exact ⟨[], .sl0 .nil, by simp, by simp⟩
 ·by_cases hn : xs.length = 0
  ·have := List.eq_nil_of_length_eq_zero hn
   subst this
   rw [hsv]
   exact ⟨[], .sl0 .nil, by simp, by simp⟩
  ·rw [hsv] at h1 ⊢
   have hbh : l.has = true ∧ g = l.blk := by
    simp only [Value.ownBlock] at h1
    split at h1
    ·rename_i e; exact ⟨e, by simpa using h1⟩
    ·simp at h1
   refine ⟨g :: (fp ++ []), .sl1 h5 rfl (by omega) hcap h2 h3 hg htk.symm .nil, fun b hb => ?_, fun hne => ?_⟩
   ·simp only [List.append_nil, List.mem_cons] at hb
    rcases hb with rfl | hb
    ·exact .inr hbh
    ·exact .inl (h6 b hb)
   ·simp only [List.append_nil, List.nodup_cons]
    exact ⟨fun hm => hne hbh.1 g (h6 g hm).2 hbh.2, h7⟩
end
def OLoc.blkL (l : OLoc) : List Nat := if l.has then [l.blk] else []
def OLoc.seal (l : OLoc) : OLoc := { l with has := false, sub := [], clm := l.blkL ++ l.clm }
def a0rq (k : Nat) : At → At
 | .op o off => if o == k then .junk else .op o off
 | .clo f caps => if (caps.map (·.1)).contains k then .junk else .clo f caps
 | .ps o es lo n => if o == k then .junk else .ps o es lo n
 | x => x
def St.seal (s : St) (k : Nat) (xs : List (List Da)) : St :=
 let s1 := s.map (a0rq k)
 { s1 with ob := (k, .tk xs) :: s1.ob }
section
variable {Γ : Cx} {P : Program} {ops : Array Oper} {rest : List Oper} {o : Oper} {K : St → Prop} {s : St} {Q : Exit → St → Prop} {t : TypeId} {x z : Operand}
theorem Sim.seal {k E es : Nat} {xs : List (List Da)} (hk : s.gob k = some (.tr E es xs)) (hlow : k < 2000) {a : Act} {w : World} {S : Nat → Prop} {β : Nat → OLoc} (hs : Sim Γ s a w S β) : ∃ S' β', Sim Γ (s.seal k xs) a w S' β' := by
 obtain ⟨fp, t1, t2, t3⟩ := a7vq (hs.mem.ob k _ hk)
 have hsm := (a14q (tr := true) (hs.mem.ob k _ hk)).1
 let S' : Nat → Prop := fun b => S b ∨ ((β k).has = true ∧ b = (β k).blk)
 have hsub : ∀ b, S b → S' b := fun b hb => .inl hb
 let β' : Nat → OLoc := fun o => if o = k then (β k).seal else β o
 have hβ : ∀ o, o ≠ k → β' o = β o := fun o h => if_neg h
 have hβk : β' k = (β k).seal := if_pos rfl
 have hsv : (β' k).sv = (β k).sv := by rw [hβk]; rfl
 have hkown : ∀ b, (β k).has = true → b = (β k).blk → (β k).Own b := fun b h1 h2 => .inl ⟨h1, h2.symm⟩
 have hbk : ∀ b ∈ (β k).blkL, (β k).has = true ∧ b = (β k).blk := by
  intro b hb
  unfold OLoc.blkL at hb
  split at hb
  ·rename_i h; exact ⟨h, by simpa using hb⟩
  ·cases hb
 have hf : ∀ y v, RepA w S β y v → RepA w S' β' (a0rq k y) v := by
  intro y v hy
  cases hy with
  | d h => exact .d (h.mono (fun _ _ => rfl) hsub)
  | e0 => exact .e0
  | @ol o =>
   simp only [a0rq]
   by_cases e : o = k
   ·subst e; rw [← hsv]; exact .ol
   ·rw [← hβ o e]; exact .ol
  | @op o off =>
   simp only [a0rq]
   split
   ·exact .junk
   ·rename_i e; rw [← hβ o (by simpa using e)]; exact .op
  | ep h1 h2 h3 => exact .ep (h1.mono (fun _ _ => rfl) hsub) (h2.imp id fun h => ⟨hsub _ h.1, h.2⟩) h3
  | @clo f caps =>
   simp only [a0rq]
   split
   ·exact .junk
   ·rename_i e
    have : caps.map (E8q β) = caps.map (E8q β') := List.map_congr_left fun p hp => by
     unfold E8q; rw [hβ p.1 (fun h => e (by simp only [List.contains_iff_mem, List.mem_map]; exact ⟨p, hp, h⟩))]
    rw [this]; exact .clo
  | @ps o es lo n a c h1 h2 h3 =>
   simp only [a0rq]
   split
   ·exact .junk
   ·rename_i e
    rw [← hβ o (by simpa using e)] at h2 h3
    exact .ps h1 h2 h3
  | raw => exact .raw
  | junk => exact .junk
 have hT : ∀ o X, (s.seal k xs).gob o = some X → (o = k ∧ X = .tk xs) ∨ (o ≠ k ∧ ∃ Y, s.gob o = some Y ∧ X = Y.map (a0rq k)) := by
  intro o X ho
  simp only [St.seal, St.gob, a4q, St.map, A2q] at ho
  by_cases e : k = o
  ·simp [e] at ho; exact .inl ⟨e.symm, ho.symm⟩
  ·simp [e] at ho
   obtain ⟨Y, hY, rfl⟩ := ho
   exact .inr ⟨fun h => e h.symm, Y, hY, rfl⟩
 have hSown : ∀ b, S' b → ∀ o X, o ≠ k → s.gob o = some X → ¬ (β o).Own b := by
  intro b hb o X hne ho hh
  rcases hb with hb | ⟨h1, h2⟩
  ·exact (hs.mem.own o X ho b hh).2.1 hb
  ·exact hne (hs.mem.sep o k X _ ho hk b hh (hkown b h1 h2))
 have hclk : ∀ b ∈ (β k).clm, b ≠ (β k).blk ∨ (β k).has = false := by
  intro b hb
  cases hh : (β k).has with
  | false => exact .inr rfl
  | true =>
   refine .inl fun e => ?_
   exact (hs.mem.own k _ hk b (hkown b hh e)).2.1 (hs.mem.clm k _ hk b hb).1
 have hck : ∀ b, b ∈ (β' k).clm → ((β k).has = true ∧ b = (β k).blk) ∨ b ∈ (β k).clm := by
  intro b hb
  rw [hβk] at hb
  rcases List.mem_append.1 hb with hb | hb
  ·exact .inl (hbk b hb)
  ·exact .inr hb
 refine ⟨S', β', hs.defers, hs.sz, fun i y hi => ?_, ⟨fun b hb => ?_, fun o X ho => ?_, fun o X ho b hh => ?_, fun o o' X X' ho ho' b hh hh' => ?_, hs.mem.os, hs.mem.tape, hs.mem.output, hs.mem.size, hs.mem.block, fun b hb => hsub b (hs.mem.sub b hb), fun b hb => ?_, fun o l hl => ?_, fun o X ho b hh => ?_, fun o o' X X' ho ho' b hh hh' => ?_⟩⟩
 ·have e : (s.seal k xs).get i = (s.get i).map (·.map (a0rq k)) := q4q ..
  rw [e] at hi
  cases hY : s.get i with
  | none => rw [hY] at hi; simp at hi
  | some Y =>
   rw [hY] at hi; simp at hi; subst hi
   obtain ⟨v, hv, hr⟩ := hs.tm i Y hY
   exact ⟨v, hv, hr.map hf fun xs cs h => h.mono (fun _ _ => rfl) hsub⟩
 ·rcases hb with hb | ⟨h1, h2⟩
  ·exact hs.mem.lt b hb
  ·exact (hs.mem.own k _ hk b (hkown b h1 h2)).1
 ·rcases hT o X ho with ⟨rfl, rfl⟩ | ⟨hne, Y, hY, rfl⟩
  ·refine ⟨by rw [hβk]; rfl, hsm, fp, by rw [hsv]; exact t1, fun b hb => ?_, ?_⟩
   ·rcases t2 b hb with ⟨h1, h2⟩ | ⟨h1, h2⟩
    ·exact ⟨hsub b h1, by rw [hβk]; exact List.mem_append_right _ h2⟩
    ·exact ⟨.inr ⟨h1, h2⟩, by rw [hβk]; exact List.mem_append_left _ (by simp [OLoc.blkL, h1, h2])⟩
   ·exact t3 fun hh b hb => (hclk b hb).resolve_right (by simp [hh])
  ·rw [hβ o hne]
   exact (hs.mem.ob o Y hY).map hf (fun _ _ => rfl) (fun _ _ => rfl) hsub
 ·rcases hT o X ho with ⟨rfl, rfl⟩ | ⟨hne, Y, hY, rfl⟩
  ·rw [hβk] at hh
   rcases hh with ⟨h1, _⟩ | hh
   ·cases h1
   ·cases hh
  ·rw [hβ o hne] at hh
   obtain ⟨h1, h2, h3⟩ := hs.mem.own o Y hY b hh
   exact ⟨h1, fun hb => hSown b hb o Y hne hY hh, h3⟩
 ·rcases hT o X ho with ⟨rfl, rfl⟩ | ⟨hne, Y, hY, rfl⟩ <;> rcases hT o' X' ho' with ⟨rfl, rfl⟩ | ⟨hne', Y', hY', rfl⟩
  ·rfl
  ·rw [hβk] at hh; rw [hβ o' hne'] at hh'
   rcases hh with ⟨h1, _⟩ | hh
   ·cases h1
   ·cases hh
  ·rw [hβk] at hh'; rw [hβ o hne] at hh
   rcases hh' with ⟨h1, _⟩ | hh'
   ·cases h1
   ·cases hh'
  ·rw [hβ o hne] at hh; rw [hβ o' hne'] at hh'
   exact hs.mem.sep o o' Y Y' hY hY' b hh hh'
 ·rcases hb with hb | ⟨h1, h2⟩
  ·exact hs.mem.sup b hb
  ·exact .inr (hs.mem.own k _ hk b (hkown b h1 h2)).2.2
 ·obtain ⟨h1, h2⟩ := hs.mem.fix o l hl
  exact ⟨h1, (hβ o (by omega)).trans h2⟩
 ·rcases hT o X ho with ⟨rfl, rfl⟩ | ⟨hne, Y, hY, rfl⟩
  ·rcases hck b hh with ⟨h1, h2⟩ | h1
   ·exact ⟨.inr ⟨h1, h2⟩, (hs.mem.own o _ hk b (hkown b h1 h2)).2.2.imp id .inl⟩
   ·obtain ⟨m1, m2⟩ := hs.mem.clm o _ hk b h1
    exact ⟨hsub b m1, m2⟩
  ·rw [hβ o hne] at hh
   obtain ⟨m1, m2⟩ := hs.mem.clm o Y hY b hh
   exact ⟨hsub b m1, m2⟩
 ·have hmix : ∀ o Y, o ≠ k → s.gob o = some Y → b ∈ (β' k).clm → b ∈ (β o).clm → False := by
   intro o Y hne hY h1 h2
   rcases hck b h1 with ⟨h3, h4⟩ | h3
   ·exact (hs.mem.own k _ hk b (hkown b h3 h4)).2.1 (hs.mem.clm o Y hY b h2).1
   ·exact hne (hs.mem.sepc o k Y _ hY hk b h2 h3)
  rcases hT o X ho with ⟨rfl, rfl⟩ | ⟨hne, Y, hY, rfl⟩ <;> rcases hT o' X' ho' with ⟨rfl, rfl⟩ | ⟨hne', Y', hY', rfl⟩
  ·rfl
  ·rw [hβ o' hne'] at hh'
   exact (hmix o' Y' hne' hY' hh hh').elim
  ·rw [hβ o hne] at hh
   exact (hmix o Y hne hY hh' hh).elim
  ·rw [hβ o hne] at hh; rw [hβ o' hne'] at hh'
   exact hs.mem.sepc o o' Y Y' hY hY' b hh hh'
def St.mv (s : St) (f : At → At) (k : Nat) (ks : List Nat) (X : Ob) : St := ⟨(s.map f).tm, (k, X) :: D6q (s.map f).ob ks⟩
theorem agqq (f : At → At) (k : Nat) (ks : List Nat) (X : Ob) (o : Nat) : (s.mv f k ks X).gob o = if o = k then some X else if o ∈ ks then none else (s.gob o).map (·.map f) := by
 simp only [St.mv, St.gob, a4q, F9q, St.map, A2q]
 by_cases h : k = o
 ·subst h; simp
 ·simp [h, Ne.symm h]
theorem Sim.mv {f : At → At} {k : Nat} {ks : List Nat} {X : Ob} {a : Act} {w w' : World} {S : Nat → Prop} {β β' : Nat → OLoc} (hs : Sim Γ s a w S β) (hf : ∀ y v, RepA w S β y v → RepA w' S β' (f y) v)
  (hos : w'.os = w.os ∧ w'.tape = w.tape ∧ w'.output = w.output ∧ w.heap.size ≤ w'.heap.size) (hkeep : ∀ b, b < w.heap.size → (∀ X0, s.gob k = some X0 → ¬ (β k).Own b) → w'.heap[b]? = w.heap[b]?)
  (hβ : ∀ o, o ≠ k → β' o = β o) (hfix : ∀ l, Γ.fix k l → β' k = l) (hX : ObRep w' S β' (β' k) X) (hown : ∀ b, (β' k).Own b → b < w'.heap.size ∧ ((∃ X0, s.gob k = some X0 ∧ (β k).Own b) ∨ w.heap.size ≤ b))
  (hclm : ∀ b ∈ (β' k).clm, ∃ q X0, (q = k ∨ q ∈ ks) ∧ s.gob q = some X0 ∧ b ∈ (β q).clm) : Sim Γ (s.mv f k ks X) a w' S β' := by
 have hS : ∀ b, S b → w'.heap[b]? = w.heap[b]? := fun b hb => hkeep b (hs.mem.lt b hb) fun X0 h0 hh => (hs.mem.own k X0 h0 b hh).2.1 hb
 have hT : ∀ o Y, (s.mv f k ks X).gob o = some Y → (o = k ∧ Y = X) ∨ (o ≠ k ∧ o ∉ ks ∧ ∃ Z, s.gob o = some Z ∧ Y = Z.map f) := by
  intro o Y ho
  rw [agqq] at ho
  by_cases e : o = k
  ·rw [if_pos e] at ho; simp at ho; exact .inl ⟨e, ho.symm⟩
  ·rw [if_neg e] at ho
   by_cases e2 : o ∈ ks
   ·rw [if_pos e2] at ho; simp at ho
   ·rw [if_neg e2] at ho
    cases hY : s.gob o with
    | none => rw [hY] at ho; simp at ho
    | some Z => rw [hY] at ho; simp at ho; exact .inr ⟨e, e2, Z, rfl, ho.symm⟩
 refine ⟨hs.defers, hs.sz, fun i y hi => ?_, ⟨fun b hb => Nat.lt_of_lt_of_le (hs.mem.lt b hb) hos.2.2.2, fun o Y ho => ?_, fun o Y ho b hh => ?_, fun o o' Y Y' ho ho' b hh hh' => ?_, hos.1.trans hs.mem.os, hos.2.1.trans hs.mem.tape, hos.2.2.1.trans hs.mem.output, Nat.le_trans hs.mem.size hos.2.2.2, fun b hb hp => ?_, hs.mem.sub, hs.mem.sup, fun o l hl => ?_, fun o Y ho b hh => ?_, fun o o' Y Y' ho ho' b hh hh' => ?_⟩⟩
 ·have e : (s.mv f k ks X).get i = (s.get i).map (·.map f) := q4q ..
  rw [e] at hi
  cases hY : s.get i with
  | none => rw [hY] at hi; simp at hi
  | some Y =>
   rw [hY] at hi; simp at hi; subst hi
   obtain ⟨v, hv, hr⟩ := hs.tm i Y hY
   exact ⟨v, hv, hr.map hf fun xs cs h => h.mono hS fun _ h => h⟩
 ·rcases hT o Y ho with ⟨rfl, rfl⟩ | ⟨hne, _, Z, hZ, rfl⟩
  ·exact hX
  ·rw [hβ o hne]
   exact (hs.mem.ob o Z hZ).map hf (fun b hh => hkeep b (hs.mem.own o Z hZ b hh).1 fun X0 h0 hk => hne (hs.mem.sep o k Z X0 hZ h0 b hh hk)) hS fun _ h => h
 ·rcases hT o Y ho with ⟨rfl, rfl⟩ | ⟨hne, _, Z, hZ, rfl⟩
  ·obtain ⟨h1, h2⟩ := hown b hh
   rcases h2 with ⟨X0, h0, h2⟩ | h2
   ·obtain ⟨_, m2, m3⟩ := hs.mem.own o X0 h0 b h2
    exact ⟨h1, m2, m3⟩
   ·exact ⟨h1, fun hb => by have := hs.mem.lt b hb; omega, .inl (Nat.le_trans hs.mem.size h2)⟩
  ·rw [hβ o hne] at hh
   obtain ⟨m1, m2, m3⟩ := hs.mem.own o Z hZ b hh
   exact ⟨Nat.lt_of_lt_of_le m1 hos.2.2.2, m2, m3⟩
 ·have hmix : ∀ o Z, o ≠ k → s.gob o = some Z → (β' k).Own b → (β o).Own b → False := by
   intro o Z hne hZ h1 h2
   rcases (hown b h1).2 with ⟨X0, h0, h3⟩ | h3
   ·exact hne (hs.mem.sep o k Z X0 hZ h0 b h2 h3)
   ·have := (hs.mem.own o Z hZ b h2).1; omega
  rcases hT o Y ho with ⟨rfl, rfl⟩ | ⟨hne, _, Z, hZ, rfl⟩ <;> rcases hT o' Y' ho' with ⟨rfl, rfl⟩ | ⟨hne', _, Z', hZ', rfl⟩
  ·rfl
  ·rw [hβ o' hne'] at hh'; exact (hmix o' Z' hne' hZ' hh hh').elim
  ·rw [hβ o hne] at hh; exact (hmix o Z hne hZ hh' hh).elim
  ·rw [hβ o hne] at hh; rw [hβ o' hne'] at hh'
   exact hs.mem.sep o o' Z Z' hZ hZ' b hh hh'
 ·refine (hkeep b (Nat.lt_of_lt_of_le hb hs.mem.size) fun X0 h0 hk => ?_).trans (hs.mem.block b hb hp)
  rcases (hs.mem.own k X0 h0 b hk).2.2 with h1 | h1
  ·omega
  ·exact hp h1
 ·obtain ⟨h1, h2⟩ := hs.mem.fix o l hl
  refine ⟨h1, ?_⟩
  by_cases e : o = k
  ·subst e; exact hfix l hl
  ·exact (hβ o e).trans h2
 ·rcases hT o Y ho with ⟨rfl, rfl⟩ | ⟨hne, _, Z, hZ, rfl⟩
  ·obtain ⟨q, X0, _, h0, h1⟩ := hclm b hh
   exact hs.mem.clm q X0 h0 b h1
  ·rw [hβ o hne] at hh
   exact hs.mem.clm o Z hZ b hh
 ·have hmix : ∀ o Z, o ≠ k → o ∉ ks → s.gob o = some Z → b ∈ (β' k).clm → b ∈ (β o).clm → False := by
   intro o Z hne hn hZ h1 h2
   obtain ⟨q, X0, hq, h0, h3⟩ := hclm b h1
   have := hs.mem.sepc o q Z X0 hZ h0 b h2 h3
   subst this
   exact hq.elim hne hn
  rcases hT o Y ho with ⟨rfl, rfl⟩ | ⟨hne, hn, Z, hZ, rfl⟩ <;> rcases hT o' Y' ho' with ⟨rfl, rfl⟩ | ⟨hne', hn', Z', hZ', rfl⟩
  ·rfl
  ·rw [hβ o' hne'] at hh'; exact (hmix o' Z' hne' hn' hZ' hh hh').elim
  ·rw [hβ o hne] at hh; exact (hmix o Z hne hn hZ hh' hh).elim
  ·rw [hβ o hne] at hh; rw [hβ o' hne'] at hh'
   exact hs.mem.sepc o o' Z Z' hZ hZ' b hh hh'
def k5q (s : St) : List At → Option (List Da × List Nat)
 | [] => some ([], [])
 | .d x :: r => match x.flat, k5q s r with
  | true, some p => some (x :: p.1, p.2)
  | _, _ => none
 | .e0 :: r => match k5q s r with
  | some p => some (.sl [] :: p.1, p.2)
  | none => none
 | .ol k :: r => match s.gob k, k5q s r with
  | some (.tk xs), some p => some (.sl xs :: p.1, k :: p.2)
  | _, _ => none
 | _ => none
theorem Q8q {a : Act} {w : World} {S : Nat → Prop} {β : Nat → OLoc} (hs : Sim Γ s a w S β) : ∀ {cs : List At} {vs : List Value} {ds : List Da} {ks : List Nat}, RepAs w S β cs vs → k5q s cs = some (ds, ks) → ks.Nodup → ∃ fp, RepT w ds vs fp ∧ (∀ b ∈ fp, S b ∧ ∃ k X, k ∈ ks ∧ s.gob k = some X ∧ b ∈ (β k).clm) ∧ fp.Nodup
 | [], vs, ds, ks, h, hd, _ => by
  simp [k5q] at hd
  obtain ⟨rfl, rfl⟩ := hd
  cases h
  exact ⟨[], .nil, by simp, by simp⟩
 | c :: r, vs, ds, ks, h, hd, hn => by
  cases h with
  | @cons _ v _ us h1 h2 =>
  cases c with
  | d x =>
   simp only [k5q] at hd
   split at hd
   ·rename_i p hx hp
    simp at hd
    obtain ⟨rfl, rfl⟩ := hd
    obtain ⟨fp, a1, a2, a3⟩ := Q8q hs h2 (show k5q s r = some (p.1, p.2) by rw [hp]) hn
    cases h1 with
    | d h1 =>
     obtain ⟨f0, h1, _⟩ := h1
     have := (h1.flatT (by simpa using hx)).app a1
     exact ⟨fp, by simpa using this, a2, a3⟩
   ·simp at hd
  | e0 =>
   simp only [k5q] at hd
   split at hd
   ·rename_i p hp
    simp at hd
    obtain ⟨rfl, rfl⟩ := hd
    obtain ⟨fp, a1, a2, a3⟩ := Q8q hs h2 (show k5q s r = some (p.1, p.2) by rw [hp]) hn
    cases h1
    exact ⟨fp, .sl0 a1, a2, a3⟩
   ·simp at hd
  | ol k =>
   simp only [k5q] at hd
   split at hd
   ·rename_i xs p hk hp
    simp at hd
    obtain ⟨rfl, rfl⟩ := hd
    have hn' := List.nodup_cons.1 hn
    obtain ⟨fp, a1, a2, a3⟩ := Q8q hs h2 (show k5q s r = some (p.1, p.2) by rw [hp]) hn'.2
    cases h1
    obtain ⟨_, _, f0, b1, b2, b3⟩ := hs.mem.ob k _ hk
    have := b1.app a1
    refine ⟨f0 ++ fp, this, fun b hb => ?_, List.nodup_append.2 ⟨b3, a3, fun b hb b' hb' e => ?_⟩⟩
    ·rcases List.mem_append.1 hb with hb | hb
     ·exact ⟨(b2 b hb).1, k, _, by simp, hk, (b2 b hb).2⟩
     ·obtain ⟨m1, q, X, m2, m3, m4⟩ := a2 b hb
      exact ⟨m1, q, X, by simp [m2], m3, m4⟩
    ·subst e
     obtain ⟨m1, q, X, m2, m3, m4⟩ := a2 b hb'
     have := hs.mem.sepc k q _ X hk m3 b (b2 b hb).2 m4
     subst this
     exact hn'.1 m2
   ·simp at hd
  | _ => simp [k5q] at hd
def clmL (β : Nat → OLoc) : List Nat → List Nat
 | [] => []
 | k :: r => (β k).clm ++ clmL β r
theorem Y8q {β : Nat → OLoc} {b : Nat} : ∀ {ks : List Nat}, b ∈ clmL β ks ↔ ∃ k ∈ ks, b ∈ (β k).clm
 | [] => by simp [clmL]
 | k :: r => by simp [clmL, Y8q (ks := r)]
theorem ae9q {nob : List (Nat × Ob)} (h : s.fresh nob = true) {p : Nat × Ob} (hp : p ∈ nob) : s.gob p.1 = none ∧ p.1 < 2000 := by
 refine ⟨?_, G9q h p hp⟩
 cases hk : s.gob p.1 with
 | none => rfl
 | some X => exact absurd rfl ((t8q h hk).1 p hp)
theorem aeUq {d n e : Nat} {ps : List (Nat × Operand)} {i : TypeInfo} {zv : Value} {cs out : List At} {ds : List Da} {ks : List Nat} {pa : List (Nat × List At)} (ho : o.op = .buildSlice t n ps.toArray) (hg : o.guard = none) (hdst : o.dst = some d) (hdn : d < Γ.n) (ht : P.underlying t = some (.slice e)) (hi : P.info? e = some i) (hz : i.zero = some zv) (hzs : zv.cells.size = i.size) (hpos : 0 < i.size)
    (hc : n1q zv.cells.toList = some cs) (hsm : n * i.size ≤ 16777216) (has : r2q s.ev ps = some pa) (hf : x9q (fun q => some (q * i.size, i.size)) (List.replicate n cs).flatten pa = some out) (hd : k5q s out = some (ds, ks)) (hn : ks.Nodup) (hfr : s.fresh [(d, .lst e i.size [])] = true)
    (h : d5q Γ P ops rest K (s.appd (some d) d ks (.tr e i.size (w2q i.size n ds)))) : d5q Γ P ops (o :: rest) K s := by
  intro a w S β R hs hR
  refine wpList_plain hg fun K' hK => ?_
  obtain ⟨ov, he, hrep, e2⟩ := a0Yq (ρa := a) (w := w) (S := S) (β := β) ho ht hi hz hzs hpos hc hsm has hf fun x X hx _ => hs.eval hx
  obtain ⟨fp, r1, r2, r3⟩ := Q8q hs hrep hd hn
  have hlen : ds.length = n * i.size := by have e1 := r1.len; simp at e1; omega
  obtain ⟨g1, g2, g3⟩ := a5vq n ds hlen
  obtain ⟨hgn, hlow⟩ := ae9q hfr (List.mem_singleton.2 rfl)
  dsimp only at hgn hlow
  have hnn : n ≤ n * i.size := Nat.le_mul_of_pos_right n hpos
  unfold Oper.wp
  rw [he, Oper.upon_value]
  let l' : OLoc := ⟨w.heap.size, some ⟨w.heap.size, 0, none⟩, n, n, true, [], clmL β ks⟩
  let β' : Nat → OLoc := fun q => if q = d then l' else β q
  have hβ : ∀ q, q ≠ d → β' q = β q := fun q h => if_neg h
  have hβd : β' d = l' := if_pos rfl
  have hold : ∀ b, b < w.heap.size → (w.alloc (.cells ov e)).heap[b]? = w.heap[b]? := fun b hb => Go.RowKit.Below.heap_alloc w _ b hb
  have hSo : ∀ b, S b → (w.alloc (.cells ov e)).heap[b]? = w.heap[b]? := fun b hb => hold b (hs.mem.lt b hb)
  have hmv := hs.mv (w' := w.alloc (.cells ov e)) (β' := β') (f := killL (d :: ks)) (k := d) (ks := ks) (X := .tr e i.size (w2q i.size n ds))
    (fun y v hy => RepA.killL hSo (fun _ h => h) (fun q hq => hβ q fun e => hq (by simp [e])) y v hy) ⟨rfl, rfl, rfl, by simp⟩ (fun b hb _ => hold b hb) hβ
    (fun l hl => by have := (hs.mem.fix d l hl).1; omega) (by
      rw [hβd]
      refine .inl ⟨rfl, by rw [g2]; omega, g3, ov.toList, fp, ?_, ?_, fun b hb => ?_, r3⟩
      · have := a0Aq (w := w) (E := e) (es := i.size) (n := n) (cap := n) (c := ov) e2 (Nat.le_refl _) (by unfold maxLen; omega)
        rw [List.take_of_length_le (by simp [e2])] at this
        simpa [g2, l', OLoc.sv] using this
      · rw [g1]; exact r1.keep fun b hb => hSo b (r2 b hb).1
      · obtain ⟨m1, k, X, m2, m3, m4⟩ := r2 b hb
        exact ⟨m1, Y8q.2 ⟨k, m2, m4⟩⟩)
    (fun b hb => by
      rw [hβd] at hb
      rcases hb with ⟨_, rfl⟩ | hb
      · exact ⟨by simp [l'], .inr (Nat.le_refl _)⟩
      · cases hb)
    (fun b hb => by
      rw [hβd] at hb
      obtain ⟨k, hk, hb⟩ := Y8q.1 hb
      have : (s.gob k).isSome := by
        clear hf has he hR h hK r1 r2 r3 hlen g1 hrep
        have key : ∀ (cs : List At) (ds : List Da) (ks : List Nat), k5q s cs = some (ds, ks) → ∀ k ∈ ks, (s.gob k).isSome := by
          intro cs
          induction cs with
          | nil => intro ds ks h; simp [k5q] at h; obtain ⟨rfl, rfl⟩ := h; simp
          | cons c r ih =>
            intro ds ks h
            cases c <;> simp only [k5q] at h <;> first | (split at h) | skip
            all_goals first
              | (simp at h; done)
              | (rename_i p hp; simp at h; obtain ⟨rfl, rfl⟩ := h; exact ih _ _ (show k5q s r = some (p.1, p.2) by rw [hp]))
              | (rename_i p hx hp; simp at h; obtain ⟨rfl, rfl⟩ := h; exact ih _ _ (show k5q s r = some (p.1, p.2) by rw [hp]))
              | (rename_i xs p hx hp; simp at h; obtain ⟨rfl, rfl⟩ := h
                 intro k hk
                 rcases List.mem_cons.1 hk with rfl | hk
                 · simp [hx]
                 · exact ih _ _ (show k5q s r = some (p.1, p.2) by rw [hp]) k hk)
        exact key _ _ _ hd k hk
      obtain ⟨X, hX⟩ := Option.isSome_iff_exists.1 this
      exact ⟨k, X, .inr hk, hX, hb⟩)
  have hput := hmv.upd (dst := some d) (y := .one (.ol d)) (v := .slice (some ⟨w.heap.size, 0, none⟩) n n) (nob := []) (Grow.refl hmv.mem.lt) (RepV.one (by
    have e3 : (Value.slice (some ⟨w.heap.size, 0, none⟩) n n) = (β' d).sv := by rw [hβd]; rfl
    rw [e3]; exact .ol)) (by simpa using hdn) rfl
  rw [hdst]
  exact hK _ _ (h _ _ S β' R hput hR)
theorem RepA.locs {w w' : World} {S S' : Nat → Prop} {β β' : Nat → OLoc} {y : At} {v : Value} (hk : ∀ b, S b → w'.heap[b]? = w.heap[b]?) (hs : ∀ b, S b → S' b) (hβ : ∀ o ∈ y.ids, (β' o).sv = (β o).sv ∧ (β' o).blk = (β o).blk) (h : RepA w S β y v) : RepA w' S' β' y v := by
 cases h with
 | d h => exact .d (h.mono hk hs)
 | e0 => exact .e0
 | @ol o => rw [← (hβ o (by simp [At.ids])).1]; exact .ol
 | @op o off => rw [← (hβ o (by simp [At.ids])).2]; exact .op
 | ep h1 h2 h3 => exact (RepA.ep (β := β) h1 h2 h3).mono hk hs (by simp [At.ids])
 | @clo f caps =>
  have : caps.map (E8q β) = caps.map (E8q β') := List.map_congr_left fun p hp => by
   unfold E8q; rw [(hβ p.1 (by simp only [At.ids, List.mem_map]; exact ⟨p, hp, rfl⟩)).2]
  rw [this]; exact .clo
 | @ps o es lo n a c h1 h2 h3 =>
  obtain ⟨e1, e2⟩ := hβ o (by simp [At.ids])
  simp only [OLoc.sv, Value.slice.injEq] at e1
  rw [← e1.2.2] at h2
  rw [← e2] at h3
  exact .ps h1 h2 h3
 | raw => exact .raw
 | junk => exact .junk
theorem a1yq {w w' : World} {S S' : Nat → Prop} {β β' : Nat → OLoc} {ks : List Nat} {y : At} {v : Value} (hk : ∀ b, S b → w'.heap[b]? = w.heap[b]?) (hs : ∀ b, S b → S' b) (hβ : ∀ o, o ∉ ks → (β' o).sv = (β o).sv ∧ (β' o).blk = (β o).blk) (h : RepA w S β y v) : RepA w' S' β' (killL ks y) v := by
 unfold killL
 split
 ·exact .junk
 ·rename_i hc
  exact h.locs hk hs fun o ho => hβ o fun hm => hc (List.any_eq_true.2 ⟨o, ho, by simpa using hm⟩)
theorem af3q {cs : List At} : ∀ {ds : List Da} {ks : List Nat}, k5q s cs = some (ds, ks) → ∀ k ∈ ks, (s.gob k).isSome := by
  induction cs with
  | nil => intro ds ks h; simp [k5q] at h; obtain ⟨rfl, rfl⟩ := h; simp
  | cons c r ih =>
    intro ds ks h
    cases c <;> simp only [k5q] at h <;> first | (split at h) | skip
    all_goals first
      | (simp at h; done)
      | (rename_i p hp; simp at h; obtain ⟨rfl, rfl⟩ := h; exact ih (show k5q s r = some (p.1, p.2) by rw [hp]))
      | (rename_i p hx hp; simp at h; obtain ⟨rfl, rfl⟩ := h; exact ih (show k5q s r = some (p.1, p.2) by rw [hp]))
      | (rename_i xs p hx hp; simp at h; obtain ⟨rfl, rfl⟩ := h
         intro k hk
         rcases List.mem_cons.1 hk with rfl | hk
         · simp [hx]
         · exact ih (show k5q s r = some (p.1, p.2) by rw [hp]) k hk)
theorem aayq {k off n q E es : Nat} {Z : AV} {zs : List At} {ds c : List Da} {ks : List Nat} {xs : List (List Da)} {j : TypeInfo} (ho : o.op = .store t x z) (hg : o.guard = none) (hd : o.dst = none) (hx : s.ev x = some (.one (.op k off))) (hz : s.ev z = some Z) (hc : Z.cells = some zs) (hds : k5q s zs = some (ds, ks)) (hnd : ks.Nodup) (hkn : k ∉ ks) (hlow : ks = [] ∨ k < 2000)
  (hk : s.gob k = some (.tr E es xs)) (hj : P.info? t = some j) (hsz : j.size = ds.length) (hn : xs[n]? = some c) (hoff : off = n * es + q) (hq : q + ds.length ≤ c.length) (hpos : 0 < ds.length)
  (h : d5q Γ P ops rest K (s.mv (killL ks) k ks (.tr E es (xs.set n (c.take q ++ ds ++ c.drop (q + ds.length)))))) : d5q Γ P ops (o :: rest) K s := by
 intro a w S β R hs hR
 refine wpList_plain hg fun K' hK => ?_
 have h1 := (hs.eval hx).one_inv
 have h2 := hs.eval hz
 obtain ⟨fz, z1, z2, z3⟩ := Q8q hs (h2.cells hc) hds hnd
 have hone := z1.repF.len
 have hcs : RepDs w S ds (a.eval z).cells.toList := ⟨fz, z1.repF, fun b hb => (z2 b hb).1⟩
 have hnl0 : n < xs.length := (List.getElem?_eq_some_iff.1 hn).1
 obtain ⟨hob, hsm, hle, vs, fp, hown, hrep, hfp, hfn⟩ := ObRep.posT (hs.mem.ob k _ hk) (by omega)
 generalize hv : a.eval x = v at h1
 cases h1
 have hnl : n < xs.length := (List.getElem?_eq_some_iff.1 hn).1
 have hcl : c.length = es := hle c (List.mem_of_getElem? hn)
 rcases hown.2 with ⟨_, h0⟩ | ⟨g, cap, cur, hsv, _, hgb, hcap, hcm, hcsz, htk⟩
 ·omega
 have hbh : (β k).has = true ∧ g = (β k).blk := by
  rw [hsv] at hob
  simp only [Value.ownBlock] at hob
  split at hob
  ·rename_i e; exact ⟨e, by simpa using hob⟩
  ·simp at hob
 obtain ⟨hh, rfl⟩ := hbh
 have hsplit : xs.flatten = ((xs.take n).flatten ++ c.take q) ++ (((c.drop q).take ds.length) ++ (c.drop (q + ds.length) ++ (xs.drop (n + 1)).flatten)) := by
  rw [n8q hn]
  conv => lhs; rw [show c = c.take q ++ ((c.drop q).take ds.length ++ c.drop (q + ds.length)) by rw [← List.drop_drop, List.take_append_drop, List.take_append_drop]]
  simp [List.append_assoc]
 rw [hsplit] at hrep
 obtain ⟨v1, v2, f1, f2, rfl, rfl, d1, d2⟩ := hrep.split
 obtain ⟨v3, v4, f3, f4, rfl, rfl, d3, d4⟩ := d2.split
 have hl1 : v1.length = off := by rw [d1.len, List.length_append, i0q hle (Nat.le_of_lt hnl), List.length_take, hcl]; omega
 have hl3 : v3.length = ds.length := by rw [d3.len, List.length_take, List.length_drop, hcl]; omega
 have hlz := hcs.len
 simp only [Array.length_toList] at hlz
 have hne : n * es + es ≤ xs.length * es := by rw [← Nat.succ_mul]; exact Nat.mul_le_mul_right _ hnl
 have hxc : xs.length * es ≤ cap * es := Nat.mul_le_mul_right _ hcap
 have hst := run_storeCells_at P (β k).blk off E (a.eval z).cells.toList 0 cur w hgb (by simp; omega) hcs.oneCells
 simp only [Nat.add_zero, Array.length_toList] at hst
 have he : (execOp a.eval o).run P w = .ok .skip (w.setRow (β k).blk (cur.toList.take off ++ (a.eval z).cells.toList ++ cur.toList.drop (off + (a.eval z).cells.size)).toArray) := by
  have hszz : (a.eval z).cells.size = j.size := by omega
  simp only [execOp, ho, hv, Instr.storeAt, Instr.sureAddr, storeVar, sizeOf, typeInfo, program, Sem.run_bind, Sem.run, Sem.run_pure, Result.andThen_ok, hj, hszz, ne_eq, not_true_eq_false, if_false]
  rw [hszz] at hst
  simp [hst]
 unfold Oper.wp
 rw [he, Oper.upon_skip, hd]
 generalize hcnew : (cur.toList.take off ++ (a.eval z).cells.toList ++ cur.toList.drop (off + (a.eval z).cells.size)).toArray = cnew
 have hlen : (xs.set n (c.take q ++ ds ++ c.drop (q + ds.length))).length = xs.length := by simp
 have hcl' : (c.take q ++ ds ++ c.drop (q + ds.length)).length = es := by simp; omega
 have hSo : ∀ b, S b → (w.setRow (β k).blk cnew).heap[b]? = w.heap[b]? := fun b hb => setRow_other w _ b _ fun e => (hs.mem.own k _ hk _ (.inl ⟨hh, rfl⟩)).2.1 (e ▸ hb)
 let l' : OLoc := { β k with clm := (β k).clm ++ clmL β ks }
 let β' : Nat → OLoc := fun r => if r = k then l' else β r
 have hβ : ∀ r, r ≠ k → β' r = β r := fun r h => if_neg h
 have hβk : β' k = l' := if_pos rfl
 have hl'sv : l'.sv = (β k).sv := rfl
 refine hK _ _ (h _ _ S β' R (hs.mv (f := killL ks) (fun y v hy => a1yq hSo (fun _ h => h) (fun r _ => ?_) hy) ⟨rfl, rfl, rfl, by simp [World.setRow]⟩ (fun b hb hno => ?_) hβ (fun l hl => ?_) ?_ (fun b hb => ?_) fun b hb => ?_) hR)
 ·by_cases e : r = k
  ·subst e; rw [hβk]; exact ⟨rfl, rfl⟩
  ·rw [hβ r e]; exact ⟨rfl, rfl⟩
 ·exact setRow_other w _ b _ fun e => hno _ hk (.inl ⟨hh, e.symm⟩)
 ·obtain ⟨m1, m2⟩ := hs.mem.fix k l hl
  rw [hβk, ← m2]
  rcases hlow with rfl | hlow
  ·simp [l', clmL]
  ·omega
 ·rw [hβk]
  refine .inl ⟨hob, by simpa using hsm, fun y hy => ?_, v1 ++ ((a.eval z).cells.toList ++ v4), f1 ++ (fz ++ f4), ⟨?_, .inr ⟨_, cap, _, by rw [hl'sv, hsv, hlen], Nat.zero_le _, setRow_heap w _ cur _ E _ hgb, by simpa using hcap, hcm, by rw [← hcnew]; simp; omega, ?_⟩⟩, ?_, fun b hb => ?_, ?_⟩
  ·rcases List.mem_or_eq_of_mem_set hy with hy | hy
   ·exact hle y hy
   ·rw [hy]; exact hcl'
  ·have := hown.1
   simp only [List.length_append, Array.length_toList, hlen] at this ⊢
   omega
  ·have hcur : cur.toList = (v1 ++ (v3 ++ v4)) ++ cur.toList.drop (xs.length * es) := by rw [← htk]; exact (List.take_append_drop _ _).symm
   have h4 := hown.1
   simp only [List.length_append] at h4
   rw [hlen, ← hcnew, hcur]
   have e1 : ((v1 ++ (v3 ++ v4)) ++ cur.toList.drop (xs.length * es)).take off = v1 := by
    rw [List.append_assoc]; exact List.take_left' hl1
   have e2 : ((v1 ++ (v3 ++ v4)) ++ cur.toList.drop (xs.length * es)).drop (off + (a.eval z).cells.size) = v4 ++ cur.toList.drop (xs.length * es) := by
    rw [← List.append_assoc v1, List.append_assoc (v1 ++ v3)]
    exact List.drop_left' (by simp; omega)
   simp only [List.toList_toArray]
   rw [e1, e2]
   rw [show v1 ++ (a.eval z).cells.toList ++ (v4 ++ cur.toList.drop (xs.length * es)) = (v1 ++ ((a.eval z).cells.toList ++ v4)) ++ cur.toList.drop (xs.length * es) by simp [List.append_assoc]]
   apply List.take_left'
   simp only [List.length_append, Array.length_toList]
   omega
  ·have hfl : (xs.set n (c.take q ++ ds ++ c.drop (q + ds.length))).flatten = ((xs.take n).flatten ++ c.take q) ++ (ds ++ (c.drop (q + ds.length) ++ (xs.drop (n + 1)).flatten)) := by
    have := n8q (xs := xs.set n (c.take q ++ ds ++ c.drop (q + ds.length))) (n := n) (c := c.take q ++ ds ++ c.drop (q + ds.length)) (by simp [hnl])
    rw [this, List.take_set_of_le (Nat.le_refl n), List.drop_set_of_lt (by omega)]
    simp [List.append_assoc]
   rw [hfl]
   refine (d1.app (z1.app d4)).keep fun b hb => hSo b ?_
   rcases List.mem_append.1 hb with hb | hb
   ·exact (hfp b (by simp [hb])).1
   ·rcases List.mem_append.1 hb with hb | hb
    ·exact (z2 b hb).1
    ·exact (hfp b (by simp [hb])).1
  ·rcases List.mem_append.1 hb with hb | hb
   ·exact ⟨(hfp b (by simp [hb])).1, List.mem_append_left _ (hfp b (by simp [hb])).2⟩
   ·rcases List.mem_append.1 hb with hb | hb
    ·obtain ⟨m1, r, X, m2, m3, m4⟩ := z2 b hb
     exact ⟨m1, List.mem_append_right _ (Y8q.2 ⟨r, m2, m4⟩)⟩
    ·exact ⟨(hfp b (by simp [hb])).1, List.mem_append_left _ (hfp b (by simp [hb])).2⟩
  ·have hz : ∀ b ∈ fz, b ∉ f1 ++ (f3 ++ f4) := by
    intro b hb hb2
    obtain ⟨m1, r, X, m2, m3, m4⟩ := z2 b hb
    have := hs.mem.sepc r k X _ m3 hk b m4 (hfp b hb2).2
    subst this
    exact hkn m2
   have n1 := List.nodup_append.1 hfn
   have n2 := List.nodup_append.1 n1.2.1
   refine List.nodup_append.2 ⟨n1.1, List.nodup_append.2 ⟨z3, n2.2.1, fun b hb b' hb' e => ?_⟩, fun b hb b' hb' e => ?_⟩
   ·subst e; exact hz b hb (by simp [hb'])
   ·subst e
    rcases List.mem_append.1 hb' with hb' | hb'
    ·exact hz b hb' (by simp [hb])
    ·exact n1.2.2 b hb b (by simp [hb']) rfl
 ·rw [hβk] at hb
  have hb' : (β k).Own b := hb
  exact ⟨by have := (hs.mem.own k _ hk b hb').1; simpa [World.setRow] using this, .inl ⟨_, hk, hb'⟩⟩
 ·rw [hβk] at hb
  rcases List.mem_append.1 hb with hb | hb
  ·exact ⟨k, _, .inl rfl, hk, hb⟩
  ·obtain ⟨r, hr, hb⟩ := Y8q.1 hb
   obtain ⟨X, hX⟩ := Option.isSome_iff_exists.1 (af3q hds r hr)
   exact ⟨r, X, .inr hr, hX, hb⟩
theorem a67q {n : Nat} {zd : List Da} (h : zd.all Da.flat = true) : k0q (List.replicate n zd) := by
 intro y hy
 rw [(List.mem_replicate.1 hy).2]; exact h
theorem OpP.up {av : Operand → Option AV} {us : List (Nat × Ob)} {y : AV} {d E es : Nat} {rows : List (List Da)} (h : OpP P o av us y [(d, .lst E es rows)]) {b : Bool} (hf : b = true → k0q rows) : OpP P o av us y [(d, mkL b E es rows)] := by
 cases b with
 | false => exact h
 | true =>
  intro a w S β hlt hr hu K' Q hK
  refine h a w S β hlt hr hu K' Q fun v w' S' β' hG hy => hK v w' S' β' ⟨hG.os, hG.tape, hG.output, hG.size, hG.block, hG.sub, hG.sup, fun q hq => hG.loc q fun p hp => ?_, fun p hp => ?_, fun p hp => ?_, fun p hp q hq => ?_, fun p hp => ?_, fun p hp q hq => ?_⟩ hy
  ·simp at hp; subst hp; exact hq (d, mkL true E es rows) (by simp)
  ·simp at hp; subst hp; exact (hG.ob (d, .lst E es rows) (by simp)).tr_of_flat (hf rfl)
  ·simp at hp; subst hp; exact hG.own (d, .lst E es rows) (by simp)
  ·simp at hp hq; subst hp; subst hq; intros; rfl
  ·simp at hp; subst hp; exact hG.clm (d, .lst E es rows) (by simp)
  ·simp at hp hq; subst hp; subst hq; intros; rfl
theorem OpS.up {s0 : St} {y : AV} {d E es : Nat} {rows : List (List Da)} (h : OpS P o s s0 y [(d, .lst E es rows)]) {b : Bool} (hf : b = true → k0q rows) : OpS P o s s0 y [(d, mkL b E es rows)] := by
 obtain ⟨us, h1, h2⟩ := h
 exact ⟨us, h1.up hf, h2⟩
theorem Sim.frzK {k : Nat} {xs : List (List Da)} (hk : s.gob k = some (.tk xs) ∨ ∃ E es, s.gob k = some (.mt E es xs)) {a : Act} {w : World} {S : Nat → Prop} {β : Nat → OLoc} (hs : Sim Γ s a w S β) : ∃ S', (∀ b, S b → S' b) ∧ Sim Γ (s.frz k xs) a w S' β := by
 have main : ∃ X fp, s.gob k = some X ∧ RepT w [.sl xs] [(β k).sv] fp ∧ ∀ b ∈ fp, S b ∨ (β k).Own b := by
  rcases hk with hk | ⟨E, es, hk⟩
  ·obtain ⟨_, _, fp, h1, h2, _⟩ := hs.mem.ob k _ hk
   exact ⟨_, fp, hk, h1, fun b hb => .inl (h2 b hb).1⟩
  ·obtain ⟨_, _, _, _, fp, h1, h2, _⟩ := hs.mem.ob k _ hk
   exact ⟨_, fp, hk, h1, fun b hb => .inr (.inr (h2 b hb))⟩
 obtain ⟨X0, fp, hk0, ht, hfp⟩ := main
 let S' : Nat → Prop := fun b => S b ∨ (β k).Own b
 have hsub : ∀ b, S b → S' b := fun b hb => .inl hb
 have hd : RepDs w S' [.sl xs] [(β k).sv] := ⟨fp, ht.repF, hfp⟩
 have hf : ∀ y v, RepA w S β y v → RepA w S' β (t0q k xs y) v := by
  intro y v hy
  have hm := hy.mono (w' := w) (S' := S') (β' := β) (fun _ _ => rfl) hsub (fun _ _ => rfl)
  cases y with
  | ol o =>
   simp only [t0q]
   split
   ·rename_i e
    simp at e
    subst e
    cases hy
    exact .d hd
   ·exact hm
  | op o off => simp only [t0q]; split; exact .junk; exact hm
  | clo f caps => simp only [t0q]; split; exact .junk; exact hm
  | _ => exact hm
 have hT : ∀ o' X, (s.frz k xs).gob o' = some X → o' ≠ k ∧ ∃ Y, s.gob o' = some Y ∧ X = Y.map (t0q k xs) := by
  intro o' X h
  simp only [St.frz, St.gob, C5q, St.map, A2q] at h
  split at h
  ·simp at h
  ·rename_i e
   cases hY : s.gob o' with
   | none => simp only [St.gob] at hY; rw [hY] at h; simp at h
   | some Y => have hY2 := hY; simp only [St.gob] at hY2; rw [hY2] at h; simp at h; exact ⟨fun e2 => e e2.symm, Y, rfl, h.symm⟩
 refine ⟨S', hsub, hs.defers, hs.sz, fun i y hi => ?_, ?_⟩
 ·have : (s.frz k xs).get i = (s.get i).map (·.map (t0q k xs)) := q4q ..
  rw [this] at hi
  cases hY : s.get i with
  | none => rw [hY] at hi; simp at hi
  | some Y =>
   rw [hY] at hi; simp at hi; subst hi
   obtain ⟨v, hv, hr⟩ := hs.tm i Y hY
   exact ⟨v, hv, hr.map hf fun xs cs h => h.mono (fun _ _ => rfl) hsub⟩
 ·refine ⟨fun b hb => ?_, fun o' X ho' => ?_, fun o' X ho' b hh => ?_, fun o1 o2 X1 X2 h1 h2 => ?_, hs.mem.os, hs.mem.tape, hs.mem.output, hs.mem.size, hs.mem.block, fun b hb => .inl (hs.mem.sub b hb), fun b hb => ?_, hs.mem.fix, fun o' X ho' b hh => ?_, fun o1 o2 X1 X2 h1 h2 => ?_⟩
  ·rcases hb with hb | hb
   ·exact hs.mem.lt b hb
   ·exact (hs.mem.own k _ hk0 b hb).1
  ·obtain ⟨hne, Y, hY, rfl⟩ := hT o' X ho'
   exact (hs.mem.ob o' Y hY).map hf (fun _ _ => rfl) (fun _ _ => rfl) hsub
  ·obtain ⟨hne, Y, hY, rfl⟩ := hT o' X ho'
   obtain ⟨m1, m2, m3⟩ := hs.mem.own o' Y hY b hh
   refine ⟨m1, fun hb => ?_, m3⟩
   rcases hb with hb | hb
   ·exact m2 hb
   ·exact hne (hs.mem.sep o' k Y _ hY hk0 b hh hb)
  ·obtain ⟨hne, Y, hY, rfl⟩ := hT o1 X1 h1
   obtain ⟨hne2, Y2, hY2, rfl⟩ := hT o2 X2 h2
   exact hs.mem.sep o1 o2 Y Y2 hY hY2
  ·rcases hb with hb | hb
   ·exact hs.mem.sup b hb
   ·exact .inr (hs.mem.own k _ hk0 b hb).2.2
  ·obtain ⟨hne, Y, hY, rfl⟩ := hT o' X ho'
   obtain ⟨m1, m2⟩ := hs.mem.clm o' Y hY b hh
   exact ⟨hsub b m1, m2⟩
  ·obtain ⟨hne, Y, hY, rfl⟩ := hT o1 X1 h1
   obtain ⟨hne2, Y2, hY2, rfl⟩ := hT o2 X2 h2
   exact hs.mem.sepc o1 o2 Y Y2 hY hY2
theorem Sim.view {k : Nat} {xs : List (List Da)} (hk : s.gob k = some (.tk xs)) {a : Act} {w : World} {S : Nat → Prop} {β : Nat → OLoc} (hs : Sim Γ s a w S β) : Sim Γ (s.frz k xs) a w S β := by
 obtain ⟨_, _, fp, h1, h2, _⟩ := hs.mem.ob k _ hk
 have hd : RepDs w S [.sl xs] [(β k).sv] := ⟨fp, h1.repF, fun b hb => (h2 b hb).1⟩
 have hf : ∀ y v, RepA w S β y v → RepA w S β (t0q k xs y) v := by
  intro y v hy
  cases y with
  | ol o =>
   simp only [t0q]
   split
   ·rename_i e
    simp at e
    subst e
    cases hy
    exact .d hd
   ·exact hy
  | op o off => simp only [t0q]; split; exact .junk; exact hy
  | clo f caps => simp only [t0q]; split; exact .junk; exact hy
  | _ => exact hy
 have hT : ∀ o' X, (s.frz k xs).gob o' = some X → ∃ Y, s.gob o' = some Y ∧ X = Y.map (t0q k xs) := by
  intro o' X h
  simp only [St.frz, St.gob, C5q, St.map, A2q] at h
  split at h
  ·simp at h
  ·cases hY : s.gob o' with
   | none => simp only [St.gob] at hY; rw [hY] at h; simp at h
   | some Y => have hY2 := hY; simp only [St.gob] at hY2; rw [hY2] at h; simp at h; exact ⟨Y, rfl, h.symm⟩
 refine ⟨hs.defers, hs.sz, fun i y hi => ?_, ⟨hs.mem.lt, fun o' X ho' => ?_, fun o' X ho' => ?_, fun o1 o2 X1 X2 h1 h2 => ?_, hs.mem.os, hs.mem.tape, hs.mem.output, hs.mem.size, hs.mem.block, hs.mem.sub, hs.mem.sup, hs.mem.fix, fun o' X ho' => ?_, fun o1 o2 X1 X2 h1 h2 => ?_⟩⟩
 ·have : (s.frz k xs).get i = (s.get i).map (·.map (t0q k xs)) := q4q ..
  rw [this] at hi
  cases hY : s.get i with
  | none => rw [hY] at hi; simp at hi
  | some Y =>
   rw [hY] at hi; simp at hi; subst hi
   obtain ⟨v, hv, hr⟩ := hs.tm i Y hY
   exact ⟨v, hv, hr.map hf fun xs cs h => h⟩
 ·obtain ⟨Y, hY, rfl⟩ := hT o' X ho'
  exact (hs.mem.ob o' Y hY).map hf (fun _ _ => rfl) (fun _ _ => rfl) fun _ h => h
 ·obtain ⟨Y, hY, rfl⟩ := hT o' X ho'; exact hs.mem.own o' Y hY
 ·obtain ⟨Y, hY, rfl⟩ := hT o1 X1 h1
  obtain ⟨Y2, hY2, rfl⟩ := hT o2 X2 h2
  exact hs.mem.sep o1 o2 Y Y2 hY hY2
 ·obtain ⟨Y, hY, rfl⟩ := hT o' X ho'; exact hs.mem.clm o' Y hY
 ·obtain ⟨Y, hY, rfl⟩ := hT o1 X1 h1
  obtain ⟨Y2, hY2, rfl⟩ := hT o2 X2 h2
  exact hs.mem.sepc o1 o2 Y Y2 hY hY2
end
theorem RepT.sl_inv {w : World} {xs : List (List Da)} {v : Value} {fp : List Nat} (h : RepT w [.sl xs] [v] fp) (hp : 0 < xs.length) : ∃ us fi b cap es c E, v = .slice (some ⟨b, 0, none⟩) xs.length cap ∧ RepT w xs.flatten us fi ∧ xs.length ≤ cap ∧ xs.length ≤ 281474976710656 ∧
  (∀ y ∈ xs, y.length = es) ∧ w.heap[b]? = some (.cells c E (0, 0)) ∧ us = c.toList.take (xs.length * es) ∧ fp = b :: fi := by
 cases h with
 | sl0 _ => simp at hp
 | sl1 h0 h1 h2 h3 h4 h5 h6 h7 h8 =>
  cases h8
  subst h1
  exact ⟨_, _, _, _, _, _, _, rfl, h0, h3, h4, h5, h6, h7, by simp⟩
theorem RepT.sl_form {w : World} {xs : List (List Da)} {v : Value} {fp : List Nat} (h : RepT w [.sl xs] [v] fp) : ∃ a cap, v = .slice a xs.length cap := by
 cases h with
 | sl0 _ => exact ⟨_, _, rfl⟩
 | sl1 h0 h1 => subst h1; exact ⟨_, _, rfl⟩
theorem RepT.one {w : World} {x : Da} {vs : List Value} {fp : List Nat} (h : RepT w [x] vs fp) : ∃ v, vs = [v] := by
 have := h.len
 match vs, this with
 | [v], _ => exact ⟨v, rfl⟩
theorem RepT.flat_fp {w : World} {xs : List Da} {vs : List Value} {fp : List Nat} (h : RepT w xs vs fp) (hf : xs.all Da.flat = true) : fp = [] := by
 induction h with
 | nil => rfl
 | int _ ih => exact ih (by simpa [Da.flat] using hf)
 | bool _ ih => exact ih (by simpa [Da.flat] using hf)
 | str _ _ ih => exact ih (by simpa [Da.flat] using hf)
 | sl0 _ ih => exact ih (by simpa [Da.flat] using hf)
 | @sl1 ys _ _ _ _ _ _ _ _ _ _ _ _ h1 h2 _ _ _ _ _ _ _ _ =>
  cases ys with
  | nil => simp at h1; omega
  | cons y ys => simp [Da.flat] at hf
theorem W0q {xs : List (List Da)} {es n q l : Nat} {c : List Da} (hes : ∀ y ∈ xs, y.length = es) (hn : xs[n]? = some c) : xs.flatten = ((xs.take n).flatten ++ c.take q) ++ (((c.drop q).take l) ++ (c.drop (q + l) ++ (xs.drop (n + 1)).flatten)) := by
 rw [n8q hn]
 conv => lhs; rw [show c = c.take q ++ ((c.drop q).take l ++ c.drop (q + l)) by rw [← List.drop_drop, List.take_append_drop, List.take_append_drop]]
 simp [List.append_assoc]
theorem a9cq {xs : List (List Da)} {n q l : Nat} {c ds : List Da} (hn : xs[n]? = some c) : (xs.set n (c.take q ++ ds ++ c.drop (q + l))).flatten = ((xs.take n).flatten ++ c.take q) ++ (ds ++ (c.drop (q + l) ++ (xs.drop (n + 1)).flatten)) := by
 have hnl : n < xs.length := (List.getElem?_eq_some_iff.1 hn).1
 have := n8q (xs := xs.set n (c.take q ++ ds ++ c.drop (q + l))) (n := n) (c := c.take q ++ ds ++ c.drop (q + l)) (by simp [hnl])
 rw [this, List.take_set_of_le (Nat.le_refl n), List.drop_set_of_lt (by omega)]
 simp [List.append_assoc]
section
variable {Γ : Cx} {P : Program} {ops : Array Oper} {rest : List Oper} {o : Oper} {K : St → Prop} {s s0 : St} {t : TypeId} {x z : Operand} {av : Operand → Option AV}
theorem afdq {k E es : Nat} {xs : List (List Da)} {e : TypeId} (ho : o.op = .call { callee := .builtin .len, args := #[x], argTypes := #[t] }) (ht : P.underlying t = some (.slice e)) (hx : av x = some (.one (.ol k))) : OpP P o av [(k, .mt E es xs)] (Z xs.length) [] := by
 refine b9q fun a w S β _ hr hu => ⟨goInt xs.length, ?_, RepV.int _ _⟩
 have h := (hr x _ hx (by simp [ho, Op.operands, Call.operands])).one_inv
 obtain ⟨_, _, _, _, fp, h1, _⟩ := hu (k, .mt E es xs) (by simp)
 obtain ⟨ad, cap, hsv⟩ := h1.sl_form
 generalize hv : a.eval x = v at h
 cases h
 dsimp only at hsv
 rw [hsv] at hv
 simp [execOp, ho, resolve, invoke, builtin, hv, Builtin.len_, run_underlying ht]
theorem acQq {k' E es : Nat} {xs : List (List Da)} {k : IntKind} {n : Nat} {e : TypeId} {j : TypeInfo} (ho : o.op = .indexAddr t x z) (ht : P.underlying t = some (.slice e)) (hj : P.info? e = some j) (hes : j.size = es) (hx : av x = some (.one (.ol k'))) (hz : av z = some (I k (n : Int)))
  (hn : n < xs.length) : OpP P o av [(k', .mt E es xs)] (.one (.op k' (n * es))) [] := by
 refine b9q fun a w S β _ hr hu => ⟨.pointer (some ⟨(β k').blk, n * es, none⟩), ?_, RepV.one .op⟩
 have ez := (hr z _ hz (by simp [ho, Op.operands])).int_inv
 have h := (hr x _ hx (by simp [ho, Op.operands])).one_inv
 obtain ⟨_, _, _, h2, fp, h1, _⟩ := hu (k', .mt E es xs) (by simp)
 obtain ⟨us, fi, b, cap, es', c, E', hsv, _⟩ := h1.sl_inv (by omega)
 dsimp only at hsv h2
 have hb := h2 _ _ _ hsv (by omega)
 generalize hv : a.eval x = v at h
 cases h
 rw [hsv] at hv
 simp only [Addr.mk.injEq] at hb
 subst hes
 simp [execOp, ho, hv, ez, Instr.indexAt, run_underlying ht, asIntOf, sizeOf, typeInfo, hj, hn, Nat.not_le.2 hn, n3q, hb.1]
theorem aaKq {k off n q E es : Nat} {Z : AV} {zs : List At} {ds c : List Da} {xs : List (List Da)} {j : TypeInfo} (ho : o.op = .store t x z) (hg : o.guard = none) (hd : o.dst = none) (hx : s.ev x = some (.one (.op k off))) (hz : s.ev z = some Z) (hc : Z.cells = some zs) (hds : toDs zs = some ds) (hfl : ds.all Da.flat = true)
  (hk : s.gob k = some (.mt E es xs)) (hj : P.info? t = some j) (hsz : j.size = ds.length) (hn : xs[n]? = some c) (hoff : off = n * es + q) (hq : q + ds.length ≤ c.length) (hold : ((c.drop q).take ds.length).all Da.flat = true) (hpos : 0 < ds.length)
  (h : d5q Γ P ops rest K (s.mv (killL []) k [] (.mt E es (xs.set n (c.take q ++ ds ++ c.drop (q + ds.length)))))) : d5q Γ P ops (o :: rest) K s := by
 intro a w S β R hs hR
 refine wpList_plain hg fun K' hK => ?_
 have h1 := (hs.eval hx).one_inv
 have h2 := hs.eval hz
 have hcs := (h2.cells hc).toDs hds
 have hnl : n < xs.length := (List.getElem?_eq_some_iff.1 hn).1
 obtain ⟨m1, m2, hle, m3, fp, hrep, hsub, hnd⟩ := hs.mem.ob k _ hk
 have hcl : c.length = es := hle c (List.mem_of_getElem? hn)
 obtain ⟨us, fi, b, cap, es', cur, E', hsv, hrows, hcap, h48, hes', hgb, hus, hfpe⟩ := hrep.sl_inv (by omega)
 have hb := m3 _ _ _ hsv (by omega)
 simp only [Addr.mk.injEq, and_true] at hb
 subst hb
 have hee : es' = es := by rw [← hes' c (List.mem_of_getElem? hn), hcl]
 subst hee
 subst hfpe
 generalize hv : a.eval x = v at h1
 cases h1
 rw [W0q (q := q) (l := ds.length) hle hn] at hrows
 obtain ⟨v1, v2, f1, f2, hus2, rfl, d1, d2⟩ := hrows.split
 obtain ⟨v3, v4, f3, f4, rfl, rfl, d3, d4⟩ := d2.split
 have hf3 := d3.flat_fp hold
 subst hf3
 have hbn := List.nodup_cons.1 hnd
 have hl1 : v1.length = off := by rw [d1.len, List.length_append, i0q hle (Nat.le_of_lt hnl), List.length_take, hcl]; omega
 have hl3 : v3.length = ds.length := by rw [d3.len, List.length_take, List.length_drop, hcl]; omega
 have hlz := hcs.len
 simp only [Array.length_toList] at hlz
 have hne : n * es' + es' ≤ xs.length * es' := by rw [← Nat.succ_mul]; exact Nat.mul_le_mul_right _ hnl
 have hul : us.length = xs.length * es' := by rw [hus2]; have := (d1.app (d3.app d4)).len; rw [← W0q (q := q) (l := ds.length) hle hn, q1q hle] at this; exact this
 have hcz : xs.length * es' ≤ cur.size := by
  have := congrArg List.length hus
  rw [List.length_take, hul] at this
  have h6 : cur.toList.length = cur.size := Array.length_toList
  omega
 have hst := run_storeCells_at P (β k).blk off E' (a.eval z).cells.toList 0 cur w hgb (by simp; omega) hcs.oneCells
 simp only [Nat.add_zero, Array.length_toList] at hst
 have he : (execOp a.eval o).run P w = .ok .skip (w.setRow (β k).blk (cur.toList.take off ++ (a.eval z).cells.toList ++ cur.toList.drop (off + (a.eval z).cells.size)).toArray) := by
  have hszz : (a.eval z).cells.size = j.size := by omega
  simp only [execOp, ho, hv, Instr.storeAt, Instr.sureAddr, storeVar, sizeOf, typeInfo, program, Sem.run_bind, Sem.run, Sem.run_pure, Result.andThen_ok, hj, hszz, ne_eq, not_true_eq_false, if_false]
  rw [hszz] at hst
  simp [hst]
 unfold Oper.wp
 rw [he, Oper.upon_skip, hd]
 generalize hcnew : (cur.toList.take off ++ (a.eval z).cells.toList ++ cur.toList.drop (off + (a.eval z).cells.size)).toArray = cnew
 have hkb : (β k).Own (β k).blk := .inr (hsub _ (by simp))
 have hother : ∀ b', b' ≠ (β k).blk → (w.setRow (β k).blk cnew).heap[b']? = w.heap[b']? := fun b' hb' => setRow_other w _ b' _ hb'
 have hSo : ∀ b', S b' → (w.setRow (β k).blk cnew).heap[b']? = w.heap[b']? := fun b' hb' => hother b' fun e => (hs.mem.own k _ hk _ hkb).2.1 (e ▸ hb')
 have hfo : ∀ b' ∈ f1 ++ ([] ++ f4), b' ≠ (β k).blk := fun b' hb' e => hbn.1 (by rw [← e]; exact hb')
 refine hK _ _ (h _ _ S β R (hs.mv (f := killL []) (fun y v hy => a1yq hSo (fun _ h => h) (fun _ _ => ⟨rfl, rfl⟩) hy) ⟨rfl, rfl, rfl, by simp [World.setRow]⟩ (fun b' hb' hno => hother b' fun e => hno _ hk (e ▸ hkb)) (fun _ _ => rfl) (fun l hl => (hs.mem.fix k l hl).2) ?_ (fun b' hb' => ⟨by have := (hs.mem.own k _ hk b' hb').1; simpa [World.setRow] using this, .inl ⟨_, hk, hb'⟩⟩) fun b' hb' => ⟨k, _, .inl rfl, hk, hb'⟩) hR)
 have hcl' : (c.take q ++ ds ++ c.drop (q + ds.length)).length = es' := by simp; omega
 have hle' : ∀ y ∈ xs.set n (c.take q ++ ds ++ c.drop (q + ds.length)), y.length = es' := fun y hy => by
  rcases List.mem_or_eq_of_mem_set hy with hy | hy
  ·exact hle y hy
  ·rw [hy]; exact hcl'
 refine ⟨m1, by simpa using m2, hle', m3, (β k).blk :: (f1 ++ f4), ?_, fun b' hb' => hsub b' (by simpa using hb'), by simpa using hnd⟩
 have hz1 : RepT w ds (a.eval z).cells.toList [] := by obtain ⟨f0, hcs, _⟩ := hcs; exact hcs.flatT hfl
 have hnew : RepT (w.setRow (β k).blk cnew) (xs.set n (c.take q ++ ds ++ c.drop (q + ds.length))).flatten (v1 ++ ((a.eval z).cells.toList ++ v4)) (f1 ++ ([] ++ f4)) := by
  rw [a9cq hn]
  exact (d1.app (hz1.app d4)).keep fun b' hb' => hother b' (hfo b' hb')
 rw [hsv]
 have := RepT.sl1 (w := w.setRow (β k).blk cnew) (ys := xs.set n (c.take q ++ ds ++ c.drop (q + ds.length))) (n := xs.length) (cap := cap) (es := es') (c := cnew) (E := E') (b := (β k).blk) hnew (by simp) (by omega) hcap h48 hle' (setRow_heap w _ cur _ E' _ hgb) ?_ .nil
 ·simpa using this
 ·have hcur : cur.toList = (v1 ++ (v3 ++ v4)) ++ cur.toList.drop (xs.length * es') := by rw [← hus2, hus]; exact (List.take_append_drop _ _).symm
  have h4 := hul
  rw [hus2] at h4
  simp only [List.length_append] at h4
  rw [← hcnew, hcur]
  have e1 : ((v1 ++ (v3 ++ v4)) ++ cur.toList.drop (xs.length * es')).take off = v1 := by
   rw [List.append_assoc]; exact List.take_left' hl1
  have e2 : ((v1 ++ (v3 ++ v4)) ++ cur.toList.drop (xs.length * es')).drop (off + (a.eval z).cells.size) = v4 ++ cur.toList.drop (xs.length * es') := by
   rw [← List.append_assoc v1, List.append_assoc (v1 ++ v3)]
   exact List.drop_left' (by simp; omega)
  simp only [List.toList_toArray]
  rw [e1, e2]
  rw [show v1 ++ (a.eval z).cells.toList ++ (v4 ++ cur.toList.drop (xs.length * es')) = (v1 ++ ((a.eval z).cells.toList ++ v4)) ++ cur.toList.drop (xs.length * es') by simp [List.append_assoc]]
  refine (List.take_left' ?_).symm
  simp only [List.length_append, Array.length_toList]
  omega
theorem acsq {k off m q E es d : Nat} {xs ys : List (List Da)} {c : List Da} {de : TypeDesc} (ho : o.op = .load t x) (hg : o.guard = none) (hdst : o.dst = some d) (hdn : d < Γ.n) (ht : P.underlying t = some de) (hde : E0q de = false) (hx : s.ev x = some (.one (.op k off))) (hk : s.gob k = some (.mt E es xs)) (hn : xs[m]? = some c) (hq : c[q]? = some (.sl ys)) (hoff : off = m * es + q)
  (h : ∀ a n cc, d5q Γ P ops rest K ((s.setOb k (.mu E es xs m q a n cc)).upd (some d) (.one (.raw a n cc)) [])) : d5q Γ P ops (o :: rest) K s := by
 intro a w S β R hs hR
 refine wpList_plain hg fun K' hK => ?_
 have h1 := (hs.eval hx).one_inv
 have hnl : m < xs.length := (List.getElem?_eq_some_iff.1 hn).1
 obtain ⟨m1, m2, hle, m3, fp, hrep, hsub, hnd⟩ := hs.mem.ob k _ hk
 have hcl : c.length = es := hle c (List.mem_of_getElem? hn)
 have hql : q < c.length := (List.getElem?_eq_some_iff.1 hq).1
 obtain ⟨us, fi, b, cap, es', cur, E', hsv, hrows, hcap, h48, hes', hgb, hus, hfpe⟩ := hrep.sl_inv (by omega)
 have hb := m3 _ _ _ hsv (by omega)
 simp only [Addr.mk.injEq, and_true] at hb
 subst hb
 have hee : es' = es := by rw [← hes' c (List.mem_of_getElem? hn), hcl]
 subst hee
 subst hfpe
 generalize hv : a.eval x = v at h1
 cases h1
 have hmid : (c.drop q).take 1 = [.sl ys] := by rw [List.take_one, List.head?_drop, hq]; rfl
 rw [W0q (q := q) (l := 1) hle hn, hmid] at hrows
 obtain ⟨v1, v2, f1, f2, hus2, rfl, d1, d2⟩ := hrows.split
 obtain ⟨v3, v4, f3, f4, rfl, rfl, d3, d4⟩ := d2.split
 obtain ⟨u, rfl⟩ := d3.one
 have hl1 : v1.length = off := by rw [d1.len, List.length_append, i0q hle (Nat.le_of_lt hnl), List.length_take, hcl]; omega
 obtain ⟨ua, uc, rfl⟩ := d3.sl_form
 have hcell : w.cell? ⟨(β k).blk, off, none⟩ = some (.slice ua ys.length uc) := by
  rw [n7q hgb, ← Array.getElem?_toList]
  have h5 : us[off]? = some (.slice ua ys.length uc) := by rw [hus2, List.getElem?_append_right (by omega), hl1, Nat.sub_self]; rfl
  rw [hus, List.getElem?_take] at h5
  split at h5
  ·exact h5
  ·simp at h5
 have he : (execOp a.eval o).run P w = .ok (.value (.slice ua ys.length uc)) w := by
  simp [execOp, ho, hv, Instr.loadAt, Instr.sureAddr, loadVar, n2q ht, hde, run_load, hcell]
 unfold Oper.wp
 rw [he, Oper.upon_value, hdst]
 have hs1 : Sim Γ (s.setOb k (.mu E es' xs m q ua ys.length uc)) a w S β := hs.setX hk fun hX => ⟨hX, hsub _ (by simp), ⟨c, ys, hn, hq⟩, by rw [← hoff]; exact hcell⟩
 exact hK _ _ (h ua ys.length uc _ _ S β R (hs1.upd (Grow.refl hs1.mem.lt) (RepV.one .raw) (by simpa using hdn) rfl) hR)
theorem RepVs.noObs {w : World} {S : Nat → Prop} {β β' : Nat → OLoc} {ys : List AV} {vs : List Value} (h : RepVs w S β ys vs) (hi : AV.idsT ys = []) : RepVs w S β' ys vs := h.mono (fun _ _ => rfl) (fun _ h => h) (by simp [hi])
def ah7q : Option Addr → Nat
 | some ad => ad.block
 | none => 0
theorem acdq {k E es m q n0 c0 E' es' : Nat} {a0 : Option Addr} {xs ys0 ys1 : List (List Da)} {row : List Da} {c : Operand} {ag : List Operand} {ts : Array TypeId} {f : FuncId} {fn : Func} {zs : List AV} {r : AV} (ho : o.op = .call { callee := .value c, args := ag.toArray, argTypes := ts }) (hg : o.guard = none) (hd : o.dst.all (· < Γ.n) = true)
  (hc : s.ev c = some (.one (.d (.fn f)))) (has : o5q s.ev ag = some (.one (.raw a0 n0 c0) :: zs)) (hzs : AV.idsT zs = []) (hk : s.gob k = some (.mu E es xs m q a0 n0 c0)) (hn : xs[m]? = some row) (hq : row[q]? = some (.sl ys0)) (hes0 : ∀ y ∈ ys0, y.length = es')
  (hf : P.funcs[f]? = some fn) (hb : fn.body.isNone = false) (hname : (fn.name == "runtime.NumGoroutine") = false) (hx : XCall P f (.one (.ol 2000) :: zs) r [(2000, .mt E' es' ys0)] [(2000, .mt E' es' ys1)] []) (hr : ∀ (w w' : World) (S S' : Nat → Prop) (β β' : Nat → OLoc) (v : Value), RepV w S β r v → RepV w' S' β' r v)
  (h : d5q Γ P ops rest K ((s.mv (killL []) k [] (.mt E es (xs.set m (row.take q ++ [Da.sl ys1] ++ row.drop (q + 1))))).upd o.dst r [])) : d5q Γ P ops (o :: rest) K s := by
 intro a w S β R hs hR
 refine wpList_plain hg fun K' hK => ?_
 have hev := (hs.eval hc).fn_inv
 have h1 := a2Zq (w := w) (S := S) (β := β) (ρ := a.eval) ag _ (fun x X hx _ => hs.eval hx) has
 have hnl : m < xs.length := (List.getElem?_eq_some_iff.1 hn).1
 obtain ⟨⟨m1, m2, hle, m3, fp, hrep, hsub, hnd⟩, hbs, _, hcell⟩ := hs.mem.ob k _ hk
 have hcl : row.length = es := hle row (List.mem_of_getElem? hn)
 have hql : q < row.length := (List.getElem?_eq_some_iff.1 hq).1
 obtain ⟨us, fi, b, cap, es2, cur, E2, hsv, hrows, hcap, h48, hes2, hgb, hus, hfpe⟩ := hrep.sl_inv (by omega)
 have hbb := m3 _ _ _ hsv (by omega)
 simp only [Addr.mk.injEq, and_true] at hbb
 subst hbb
 have hee : es2 = es := by rw [← hes2 row (List.mem_of_getElem? hn), hcl]
 subst hee
 subst hfpe
 have hmid : (row.drop q).take 1 = [.sl ys0] := by rw [List.take_one, List.head?_drop, hq]; rfl
 rw [W0q (q := q) (l := 1) hle hn, hmid] at hrows
 obtain ⟨v1, v2, f1, f2, hus2, rfl, d1, d2⟩ := hrows.split
 obtain ⟨v3, v4, f3, f4, rfl, rfl, d3, d4⟩ := d2.split
 obtain ⟨u, rfl⟩ := d3.one
 have hl1 : v1.length = m * es2 + q := by rw [d1.len, List.length_append, i0q hle (Nat.le_of_lt hnl), List.length_take, hcl]; omega
 have hu : u = .slice a0 n0 c0 := by
  rw [n7q hgb, ← Array.getElem?_toList] at hcell
  have h5 : us[m * es2 + q]? = some u := by rw [hus2, List.getElem?_append_right (by omega), hl1, Nat.sub_self]; rfl
  rw [hus, List.getElem?_take] at h5
  split at h5
  ·rw [h5] at hcell; simpa using hcell
  ·simp at h5
 subst hu
 have hbn := List.nodup_cons.1 hnd
 have hn1 := List.nodup_append.1 hbn.2
 have hn2 := List.nodup_append.1 hn1.2.1
 let lc : OLoc := { blk := ah7q a0, sa := a0, sn := n0, sc := c0, has := false, sub := f3, clm := [] }
 have hlsv : lc.sv = .slice a0 n0 c0 := rfl
 let βc : Nat → OLoc := fun p => if p = 2000 then lc else β p
 have hβ2 : βc 2000 = lc := if_pos rfl
 have hf3own : ∀ b ∈ f3, (β k).Own b := fun b hb => .inr (hsub b (by simp [hb]))
 have hys : ys0.length ≤ 281474976710656 := by
  by_cases h0 : 0 < ys0.length
  ·obtain ⟨_, _, _, _, _, _, _, _, _, _, h, _⟩ := d3.sl_inv h0; exact h
  ·omega
 have hargs : RepVs w S βc (.one (.ol 2000) :: zs) (ag.map a.eval) := by
  generalize hvs : ag.map a.eval = vs at h1
  cases h1 with
  | one h5 h6 =>
   cases h5
   refine .one ?_ (h6.noObs hzs)
   have : (Value.slice a0 n0 c0) = (βc 2000).sv := by rw [hβ2]; rfl
   rw [this]; exact .ol
 have hown : ∀ b, lc.Own b → b ∈ f3 := fun b hb => by
  rcases hb with ⟨h, _⟩ | hb
  ·simp [lc] at h
  ·exact hb
 have hin : R9q w S βc [(2000, .mt E' es' ys0)] := by
  refine ⟨fun p hp => ?_, fun p hp b hb => ?_, fun p hp p' hp' _ _ _ => ?_, fun p hp b hb => ?_, fun p hp p' hp' _ _ _ => ?_⟩
  ·simp at hp; subst hp
   rw [hβ2]
   refine ⟨rfl, hys, hes0, fun ad nn cc hsv hpos => ?_, f3, d3, fun b hb => hb, hn2.1⟩
   rw [hlsv] at hsv
   cases hsv
   cases d3 with
   | sl0 _ => omega
   | sl1 => rfl
  ·simp at hp; subst hp
   rw [hβ2] at hb
   have := hs.mem.own k _ hk b (hf3own b (hown b hb))
   exact ⟨this.1, this.2.1⟩
  ·simp at hp hp'; subst hp; subst hp'; rfl
  ·simp at hp; subst hp; rw [hβ2] at hb; cases hb
  ·simp at hp hp'; subst hp; subst hp'; rfl
 have hpass : ∀ b, i5q [(2000, .mt E' es' ys0)] βc b → b ∈ f3 := fun b ⟨p, hp, hb⟩ => by
  simp at hp; subst hp; rw [hβ2] at hb; exact hown b hb
 have he : (execOp a.eval o).run P w = .ok (.enter f (ag.map a.eval).toArray) w := by
  simp only [execOp, ho, resolve, hev, Deferred.ofValue, Sem.run_bind, Sem.run_pure, Result.andThen_ok, invoke, List.map_toArray]
  rw [show (#[] : Array Value) ++ (ag.map a.eval).toArray ++ #[] = (ag.map a.eval).toArray by simp]
  exact S2q hf hb hname _ _
 unfold Oper.wp
 rw [he, Oper.upon_enter]
 refine (hx w S βc _ hs.mem.lt hargs hin).mono ?_
 rintro e w' ⟨v, S', β', rfl, hG, hrv⟩
 have hkeep : ∀ b, b < w.heap.size → b ∉ f3 → w'.heap[b]? = w.heap[b]? := fun b hb hn => hG.block b hb fun hp => hn (hpass b hp)
 have hlt : ∀ b, (β k).Own b → b < w.heap.size := fun b hb => (hs.mem.own k _ hk b hb).1
 have hS : ∀ b, S b → w'.heap[b]? = w.heap[b]? := fun b hb => hkeep b (hs.mem.lt b hb) fun hm => (hs.mem.own k _ hk b (hf3own b hm)).2.1 hb
 have hloc : β' 2000 = lc := by rw [hG.loc 2000 (by simp), hβ2]
 obtain ⟨_, _, hley, _, f5, hrep5, hsub5, hnd5⟩ := hG.ob (2000, .mt E' es' ys1) (by simp)
 dsimp only at hrep5 hsub5
 rw [hloc] at hrep5 hsub5
 have hsub5' : ∀ b ∈ f5, b ∈ f3 := hsub5
 have hmv := hs.mv (w' := w') (β' := β) (f := killL []) (k := k) (ks := []) (X := .mt E es2 (xs.set m (row.take q ++ [Da.sl ys1] ++ row.drop (q + 1)))) (fun y v hy => a1yq hS (fun _ h => h) (fun _ _ => ⟨rfl, rfl⟩) hy) ⟨hG.os, hG.tape, hG.output, hG.size⟩
  (fun b hb hno => hkeep b hb fun hm => hno _ hk (hf3own b hm)) (fun _ _ => rfl) (fun l hl => (hs.mem.fix k l hl).2) (by
   have hcl' : (row.take q ++ [Da.sl ys1] ++ row.drop (q + 1)).length = es2 := by simp; omega
   have hle' : ∀ y ∈ xs.set m (row.take q ++ [Da.sl ys1] ++ row.drop (q + 1)), y.length = es2 := fun y hy => by
    rcases List.mem_or_eq_of_mem_set hy with hy | hy
    ·exact hle y hy
    ·rw [hy]; exact hcl'
   refine ⟨m1, by simpa using m2, hle', m3, (β k).blk :: (f1 ++ (f5 ++ f4)), ?_, fun b hb => hsub b ?_, ?_⟩
   ·have hnew : RepT w' (xs.set m (row.take q ++ [Da.sl ys1] ++ row.drop (q + 1))).flatten (v1 ++ ([.slice a0 n0 c0] ++ v4)) (f1 ++ (f5 ++ f4)) := by
     rw [a9cq (l := 1) hn]
     refine (d1.keep fun b hb => hkeep b (hlt b (.inr (hsub b (by simp [hb])))) fun hm => ?_).app (hrep5.app (d4.keep fun b hb => hkeep b (hlt b (.inr (hsub b (by simp [hb])))) fun hm => ?_))
     ·exact hn1.2.2 b hb b (by simp [hm]) rfl
     ·exact hn2.2.2 b hm b hb rfl
    have hgb' : w'.heap[(β k).blk]? = some (.cells cur E2 (0, 0)) := (hkeep _ (hlt _ (.inr hbs)) fun hm => hbn.1 (by simp [hm])).trans hgb
    have h9 := RepT.sl1 (cap := cap) (es := es2) (c := cur) (E := E2) (b := (β k).blk) (n := xs.length) hnew (by simp) (by omega) hcap h48 hle' hgb' (by rw [← hus, hus2]) RepT.nil
    rw [hsv]
    simpa using h9
   ·simp only [List.mem_cons, List.mem_append] at hb ⊢
    rcases hb with hb | hb | hb | hb
    ·exact .inl hb
    ·exact .inr (.inl hb)
    ·exact .inr (.inr (.inl (hsub5' b hb)))
    ·exact .inr (.inr (.inr hb))
   ·refine List.nodup_cons.2 ⟨fun hm => hbn.1 ?_, List.nodup_append.2 ⟨hn1.1, List.nodup_append.2 ⟨hnd5, hn2.2.1, fun b hb b' hb' e => hn2.2.2 b (hsub5' b hb) b' hb' e⟩, fun b hb b' hb' e => ?_⟩⟩
    ·simp only [List.mem_append] at hm ⊢
     rcases hm with hm | hm | hm
     ·exact .inl hm
     ·exact .inr (.inl (hsub5' _ hm))
     ·exact .inr (.inr hm)
    ·rcases List.mem_append.1 hb' with hb' | hb'
     ·exact hn1.2.2 b hb b' (by simp [hsub5' _ hb']) e
     ·exact hn1.2.2 b hb b' (by simp [hb']) e)
  (fun b hb => ⟨Nat.lt_of_lt_of_le (hlt b hb) hG.size, .inl ⟨_, hk, hb⟩⟩) fun b hb => ⟨k, _, .inl rfl, hk, hb⟩
 have hput := hmv.upd (dst := o.dst) (y := r) (v := v) (nob := []) (Grow.refl hmv.mem.lt) (hr _ _ _ _ _ _ _ hrv) hd rfl
 exact hK _ _ (h _ _ S β R hput hR)
section
variable {tab : List (Nat × TI)} {i : TI}
theorem afXq (hT : TabOk P tab) {k E es : Nat} {xs : List (List Da)} {e : Nat} (ho : o.op = .call { callee := .builtin .len, args := #[x], argTypes := #[t] }) (hx : s.ev x = some (.one (.ol k))) (hk : s0.gob k = some (.mt E es xs)) (ht : a4q tab t = some i) (hp : i.pr = 4) (he : i.el = some e) : OpS P o s s0 (Z xs.length) [] := by
 obtain ⟨d, j, hd, hj, h1, h2, h3, h4, h5, h6, h7⟩ := b2q (hT t i ht)
 have := h0q (h4.trans he) (h6.trans hp); subst this
 exact ⟨_, afdq ho hd hx, hk, trivial⟩
theorem ad6q (hT : TabOk P tab) {k' E es : Nat} {xs : List (List Da)} {k : IntKind} {n : Nat} {e : Nat} {i2 : TI} (ho : o.op = .indexAddr t x z) (ht : a4q tab t = some i) (hp : i.pr = 4) (he : i.el = some e) (ht2 : a4q tab e = some i2) (hx : s.ev x = some (.one (.ol k'))) (hk : s0.gob k' = some (.mt E es xs)) (h2 : i2.n = es) (hz : s.ev z = some (I k (n : Int))) (hn : n < xs.length) : OpS P o s s0 (.one (.op k' (n * es))) [] := by
 obtain ⟨d, j, hd, hj, g1, g2, g3, g4, g5, g6, g7⟩ := b2q (hT t i ht)
 obtain ⟨d2, j2, hd2, hj2, f1, f2, f3, f4, f5, f6, f7⟩ := b2q (hT e i2 ht2)
 have := h0q (g4.trans he) (g6.trans hp); subst this
 exact ⟨_, acQq ho hd hj2 (f2.trans h2) hx hz hn, hk, trivial⟩
end
theorem adwq {d : Nat} {xs : List (List Da)} {e t' : TypeId} (ho : o.op = .binOp .eql t x z t') (hg : o.guard = none) (hdst : o.dst = some d) (hdn : d < Γ.n) (ht : P.underlying t = some (.slice e)) (hx : s.ev x = some (L xs)) (hz : s.ev z = some (.one .e0))
  (h1 : xs.flatten = [] → d5q Γ P ops rest K (s.upd (some d) (B true) [])) (h2 : d5q Γ P ops rest K (s.upd (some d) (B false) [])) : d5q Γ P ops (o :: rest) K s := by
 intro a w S β R hs hR
 refine wpList_plain hg fun K' hK => ?_
 have hX := (hs.eval hx).one_inv
 have hZ := (hs.eval hz).one_inv
 generalize hv : a.eval x = v at hX
 generalize hw : a.eval z = u at hZ
 cases hZ
 cases hX with
 | d hX =>
  obtain ⟨ad, cap, rfl, _, _, hc⟩ := hX.sl_inv
  have he : (execOp a.eval o).run P w = .ok (.value (.bool ad.isNone)) w := by
   have hb : ∀ p q, binOp .eql t p q = (do pure (.bool (← Op.equal t p q))) ∨ True := fun _ _ => .inr trivial
   simp [execOp, ho, hv, hw, binOp, eqGuard, run_equal_slice_nil w t e ad xs.length cap ht]
  unfold Oper.wp
  rw [he, Oper.upon_value, hdst]
  cases ad with
  | none =>
   rcases hc with hc | ⟨_, _, _, _, hc, _⟩
   ·exact hK _ _ (h1 hc _ _ S β R (hs.upd (Grow.refl hs.mem.lt) (RepV.bool _) (by simpa using hdn) rfl) hR)
   ·cases hc
  | some ad => exact hK _ _ (h2 _ _ S β R (hs.upd (Grow.refl hs.mem.lt) (RepV.bool _) (by simpa using hdn) rfl) hR)
end
mutual
def AV.kill (ks : List Nat) : AV → AV
 | .one x => .one (killL ks x)
 | .dat xs => .dat xs
 | .agg xs => .agg (xs.map (killL ks))
 | .tup ys => .tup (AV.killT ks ys)
def AV.killT (ks : List Nat) : List AV → List AV
 | [] => []
 | y :: r => y.kill ks :: AV.killT ks r
end
def Ob.kill (ks : List Nat) : Ob → Ob
 | .var cs => .var (cs.map (killL ks))
 | X => X
theorem a0Iq (a b : List Nat) (x : At) : killL b (killL a x) = killL (a ++ b) x := by
 unfold killL
 by_cases h1 : x.ids.any a.contains = true
 ·rw [if_pos h1]
  have h2 : x.ids.any (a ++ b).contains = true := by
   obtain ⟨o, ho, h⟩ := List.any_eq_true.1 h1
   exact List.any_eq_true.2 ⟨o, ho, by simp at h ⊢; exact .inl h⟩
  rw [if_pos h2]; simp [At.ids]
 ·rw [if_neg h1]
  by_cases h2 : x.ids.any b.contains = true
  ·have h3 : x.ids.any (a ++ b).contains = true := by
    obtain ⟨o, ho, h⟩ := List.any_eq_true.1 h2
    exact List.any_eq_true.2 ⟨o, ho, by simp at h ⊢; exact .inr h⟩
   rw [if_pos h2, if_pos h3]
  ·have h3 : ¬ x.ids.any (a ++ b).contains = true := fun h => by
    obtain ⟨o, ho, h⟩ := List.any_eq_true.1 h
    simp at h
    rcases h with h | h
    ·exact h1 (List.any_eq_true.2 ⟨o, ho, by simpa using h⟩)
    ·exact h2 (List.any_eq_true.2 ⟨o, ho, by simpa using h⟩)
   rw [if_neg h2, if_neg h3]
theorem a0Dq {a b : List Nat} (h : ∀ o, o ∈ a ↔ o ∈ b) (x : At) : killL a x = killL b x := by
 unfold killL
 have : x.ids.any a.contains = x.ids.any b.contains := by
  congr 1
  funext o
  rw [Bool.eq_iff_iff]
  simpa using h o
 rw [this]
theorem a4cq {ks : List Nat} {x : At} (h : ∀ o ∈ x.ids, o ∉ ks) : killL ks x = x := by
 unfold killL
 rw [if_neg]
 intro hc
 obtain ⟨o, ho, h2⟩ := List.any_eq_true.1 hc
 exact h o ho (by simpa using h2)
theorem AV.mem_idsL {xs : List At} {o : Nat} : o ∈ AV.idsL xs ↔ ∃ x ∈ xs, o ∈ x.ids := by
 induction xs with
 | nil => simp [AV.idsL]
 | cons x r ih => simp [AV.idsL, ih]
mutual
theorem AV.kill_kill (a b : List Nat) : ∀ (x : AV), (x.kill a).kill b = x.kill (a ++ b)
 | .one x => by simp only [AV.kill, a0Iq]
 | .dat xs => rfl
 | .agg xs => by simp only [AV.kill, List.map_map]; congr 1; exact List.map_congr_left fun x _ => a0Iq a b x
 | .tup ys => by simp only [AV.kill, AV.killT_killT a b ys]
theorem AV.killT_killT (a b : List Nat) : ∀ (ys : List AV), AV.killT b (AV.killT a ys) = AV.killT (a ++ b) ys
 | [] => rfl
 | y :: r => by simp only [AV.killT, AV.kill_kill a b y, AV.killT_killT a b r]
end
mutual
theorem AV.kill_congr {a b : List Nat} (h : ∀ o, o ∈ a ↔ o ∈ b) : ∀ (x : AV), x.kill a = x.kill b
 | .one x => by simp only [AV.kill, a0Dq h]
 | .dat xs => rfl
 | .agg xs => by simp only [AV.kill]; congr 1; exact List.map_congr_left fun x _ => a0Dq h x
 | .tup ys => by simp only [AV.kill, AV.killT_congr h ys]
theorem AV.killT_congr {a b : List Nat} (h : ∀ o, o ∈ a ↔ o ∈ b) : ∀ (ys : List AV), AV.killT a ys = AV.killT b ys
 | [] => rfl
 | y :: r => by simp only [AV.killT, AV.kill_congr h y, AV.killT_congr h r]
end
mutual
theorem AV.kill_id {ks : List Nat} : ∀ {x : AV}, (∀ o ∈ x.ids, o ∉ ks) → x.kill ks = x
 | .one x, h => by simp only [AV.kill]; rw [a4cq h]
 | .dat xs, _ => rfl
 | .agg xs, h => by
  simp only [AV.kill]
  congr 1
  have : ∀ x ∈ xs, killL ks x = x := fun x hx => a4cq fun o ho => h o (by simp only [AV.ids]; exact AV.mem_idsL.2 ⟨x, hx, ho⟩)
  calc xs.map (killL ks) = xs.map id := List.map_congr_left this
   _ = xs := by simp
 | .tup ys, h => by simp only [AV.kill]; rw [AV.killT_id h]
theorem AV.killT_id {ks : List Nat} : ∀ {ys : List AV}, (∀ o ∈ AV.idsT ys, o ∉ ks) → AV.killT ks ys = ys
 | [], _ => rfl
 | y :: r, h => by simp only [AV.killT]; rw [AV.kill_id fun o ho => h o (by simp [AV.idsT, ho]), AV.killT_id fun o ho => h o (by simp [AV.idsT, ho])]
end
theorem AV.kill_swap (a b : List Nat) (x : AV) : (x.kill a).kill b = (x.kill b).kill a := by
 rw [AV.kill_kill, AV.kill_kill]
 exact AV.kill_congr (fun o => by simp [or_comm]) x
theorem Ob.kill_kill (a b : List Nat) (X : Ob) : (X.kill a).kill b = X.kill (a ++ b) := by
 cases X <;> simp only [Ob.kill]
 simp only [List.map_map]; congr 1; exact List.map_congr_left fun x _ => a0Iq a b x
theorem Ob.kill_congr {a b : List Nat} (h : ∀ o, o ∈ a ↔ o ∈ b) (X : Ob) : X.kill a = X.kill b := by
 cases X <;> simp only [Ob.kill]
 congr 1; exact List.map_congr_left fun x _ => a0Dq h x
theorem Ob.kill_swap (a b : List Nat) (X : Ob) : (X.kill a).kill b = (X.kill b).kill a := by
 rw [Ob.kill_kill, Ob.kill_kill]
 exact Ob.kill_congr (fun o => by simp [or_comm]) X
theorem Ob.kill_id {ks : List Nat} {X : Ob} (h : ∀ o ∈ X.ids, o ∉ ks) : X.kill ks = X := by
 cases X with
 | var cs =>
  simp only [Ob.kill]
  congr 1
  have : ∀ x ∈ cs, killL ks x = x := fun x hx => a4cq fun o ho => h o (by simp only [Ob.ids]; exact AV.mem_idsL.2 ⟨x, hx, ho⟩)
  calc cs.map (killL ks) = cs.map id := List.map_congr_left this
   _ = cs := by simp
 | _ => rfl
section
variable {w w' : World} {S S' : Nat → Prop} {β β' : Nat → OLoc} {ks : List Nat}
theorem RepAs.killA (hk : ∀ b, S b → w'.heap[b]? = w.heap[b]?) (hs : ∀ b, S b → S' b) (hβ : ∀ o, o ∉ ks → β' o = β o) {xs : List At} {vs : List Value} (h : RepAs w S β xs vs) : RepAs w' S' β' (xs.map (killL ks)) vs :=
 h.map (RepA.killL hk hs hβ)
theorem RepVs.killV (hk : ∀ b, S b → w'.heap[b]? = w.heap[b]?) (hs : ∀ b, S b → S' b) (hβ : ∀ o, o ∉ ks → β' o = β o) {ys : List AV} {vs : List Value} (h : RepVs w S β ys vs) : RepVs w' S' β' (AV.killT ks ys) vs := by
 induction h with
 | nil => exact .nil
 | one h _ ih => exact .one (RepA.killL hk hs hβ _ _ h) ih
 | dat h _ ih => exact .dat (h.mono hk hs) ih
 | agg h _ ih => exact .agg (h.killA hk hs hβ) ih
 | tup _ _ ih1 ih2 => exact .tup ih1 ih2
theorem RepV.killV (hk : ∀ b, S b → w'.heap[b]? = w.heap[b]?) (hs : ∀ b, S b → S' b) (hβ : ∀ o, o ∉ ks → β' o = β o) {y : AV} {v : Value} (h : RepV w S β y v) : RepV w' S' β' (y.kill ks) v := RepVs.killV hk hs hβ h
theorem ObRep.killO {l : OLoc} {X : Ob} (hb : ∀ b, l.Own b → w'.heap[b]? = w.heap[b]?) (hk : ∀ b, S b → w'.heap[b]? = w.heap[b]?) (hs : ∀ b, S b → S' b) (hβ : ∀ o, o ∉ ks → β' o = β o) (h : ObRep w S β l X) : ObRep w' S' β' l (X.kill ks) := by
 cases X with
 | var cs =>
  obtain ⟨h1, c, E, h2, h3⟩ := h
  exact ⟨h1, c, E, (hb _ (.inl ⟨h1, rfl⟩)).trans h2, h3.killA hk hs hβ⟩
 | _ => exact h.mono hb hk hs (by simp [Ob.ids])
end
def OpX (n : Nat) (P : Program) (o : Oper) (av : Operand → Option AV) (us I : List (Nat × Ob)) (y : AV) (O : List (Nat × Ob)) (mv : List Nat) : Prop :=
 ∀ (a : Act) (w : World) (S : Nat → Prop) (β : Nat → OLoc), a.defers = [] → a.tmps.size = n → (∀ b, S b → b < w.heap.size) → (∀ x X, av x = some X → x ∈ o.op.operands → RepV w S β X (a.eval x)) → R9q w S β (us ++ I) →
  ∀ (K : Act → World → Prop) (Q : Exit → Act → World → Prop), (∀ v w' S' β', GrowX w S β I O mv w' S' β' → RepV w' S' β' y v → K (a.put o.dst v) w') → o.wp P a w K Q
inductive EX where
 | run (av : Operand → Option AV) (us I : List (Nat × Ob)) (y : AV) (O : List (Nat × Ob)) (mv : List Nat)
 | skip
def EX.y : EX → AV
 | .run _ _ _ y _ _ => y
 | .skip => .tup []
def EX.O : EX → List (Nat × Ob)
 | .run _ _ _ _ O _ => O
 | .skip => []
def EX.I : EX → List (Nat × Ob)
 | .run _ _ I _ _ _ => I
 | .skip => []
def EX.us : EX → List (Nat × Ob)
 | .run _ us _ _ _ _ => us
 | .skip => []
def EX.mv : EX → List Nat
 | .run _ _ _ _ _ mv => mv
 | .skip => []
def EX.drop (e : EX) : List Nat := i7q e.I e.O
def EX.ks (e : EX) : List Nat := e.mv ++ e.drop
def EX.tch (e : EX) : List Nat := e.I.map (·.1) ++ (e.O.map (·.1) ++ e.mv)
def F8q : List (Nat × Ob) → List Nat
 | [] => []
 | p :: r => p.1 :: (p.2.ids ++ F8q r)
def a5Cq (av : Operand → Option AV) : List Operand → List Nat
 | [] => []
 | x :: r => (match av x with
  | some X => X.ids
  | none => []) ++ a5Cq av r
def EX.keys : EX → List Nat
 | .run _ us I _ O mv => us.map (·.1) ++ (I.map (·.1) ++ (O.map (·.1) ++ mv))
 | .skip => []
def EX.all (o : Oper) (e : EX) : List Nat := match e with
 | .run av us I y O mv => F8q us ++ (F8q I ++ (F8q O ++ (mv ++ (y.ids ++ a5Cq av o.op.operands.toList))))
 | .skip => []
theorem H3q {l : List (Nat × Ob)} {p : Nat × Ob} (h : p ∈ l) : p.1 ∈ F8q l ∧ ∀ o ∈ p.2.ids, o ∈ F8q l := by
 induction l with
 | nil => cases h
 | cons q r ih =>
  rcases List.mem_cons.1 h with rfl | h
  ·exact ⟨by simp [F8q], fun o ho => by simp [F8q, ho]⟩
  ·exact ⟨by simp [F8q, (ih h).1], fun o ho => by simp [F8q, (ih h).2 o ho]⟩
theorem acWq {av : Operand → Option AV} {x : Operand} {X : AV} {l : List Operand} (hx : x ∈ l) (h : av x = some X) : ∀ o ∈ X.ids, o ∈ a5Cq av l := by
 induction l with
 | nil => cases hx
 | cons y r ih =>
  intro o ho
  rcases List.mem_cons.1 hx with rfl | hx
  ·simp [a5Cq, h, ho]
  ·simp [a5Cq, ih hx o ho]
def gE (o : Oper) (e : EX) (g : Nat → Option AV) : Nat → Option AV := fun t => if o.dst = some t then some e.y else (g t).map (·.kill e.ks)
def TE (e : EX) (T : Nat → Option Ob) : Nat → Option Ob := fun q => (a4q e.O q).or (if q ∈ e.drop then none else (T q).map (·.kill e.ks))
structure OInst (n : Nat) (P : Program) (o : Oper) (e : EX) : Prop where
 dst : o.dst.all (· < n) = true
 run : ∀ av us I y O mv, e = .run av us I y O mv → OpX n P o av us I y O mv ∧ (∀ m ∈ mv, m < 2000) ∧ ∀ p ∈ O, (∃ q ∈ I, q.1 = p.1) ∨ p.1 ∈ mv
structure App (ops : Array Oper) (o : Oper) (e : EX) (g : Nat → Option AV) (T : Nat → Option Ob) : Prop where
 run : ∀ av us I y O mv, e = .run av us I y O mv → (o.guard = none ∨ ∃ j want d, o.guard = some (j, want) ∧ (ops[j]?).bind (·.dst) = some d ∧ g d = some (B want)) ∧
  (∀ x X, av x = some X → x ∈ o.op.operands → ∃ K Z, evF g x = some Z ∧ Z.kill K = X) ∧ (∀ p ∈ us ++ I, ∃ K Z, T p.1 = some Z ∧ Z.kill K = p.2) ∧ ∀ m ∈ mv, (∃ p ∈ I, p.1 = m) ∨ T m = none
 skip : e = .skip → ∃ j want d, o.guard = some (j, want) ∧ (ops[j]?).bind (·.dst) = some d ∧ (g d = some (B (!want)) ∨ g d = some (.tup []))
structure a3iq (ops : Array Oper) (o1 : Oper) (e1 : EX) (o2 : Oper) (e2 : EX) : Prop where
 s1 : ∀ t, o1.dst = some t → t ∉ g9q ops o2
 s2 : ∀ t, o2.dst = some t → t ∉ g9q ops o1
 t1 : ∀ q ∈ e1.tch, q ∉ e2.keys
 t2 : ∀ q ∈ e2.tch, q ∉ e1.keys
 k1 : ∀ q ∈ e1.ks, q ∉ e2.all o2
 k2 : ∀ q ∈ e2.ks, q ∉ e1.all o1
theorem EX.ks_tch {e : EX} {q : Nat} (h : q ∈ e.ks) : q ∈ e.tch := by
 rcases List.mem_append.1 h with h | h
 ·exact List.mem_append_right _ (List.mem_append_right _ h)
 ·unfold EX.drop i7q at h
  exact List.mem_append_left _ (List.mem_filter.1 h).1
theorem EX.tch_keys {e : EX} {q : Nat} (h : q ∈ e.tch) : q ∈ e.keys := by
 cases e with
 | skip => simp [EX.tch, EX.I, EX.O, EX.mv] at h
 | run av us I y O mv =>
  simp only [EX.tch, EX.I, EX.O, EX.mv, List.mem_append] at h
  simp only [EX.keys, List.mem_append]
  exact .inr h
theorem adEq {Z : AV} {K : List Nat} {b : Bool} (h : Z.kill K = B b) : Z = B b := by
 cases Z with
 | one x =>
  simp only [AV.kill, AV.one.injEq] at h
  unfold killL at h
  split at h
  ·cases h
  ·rw [h]
 | _ => simp [AV.kill] at h
theorem aaEq {Z : AV} {K : List Nat} (h : Z.kill K = .tup []) : Z = .tup [] := by
 cases Z with
 | tup ys =>
  simp only [AV.kill, AV.tup.injEq] at h
  cases ys with
  | nil => rfl
  | cons y r => simp [AV.killT] at h
 | _ => simp [AV.kill] at h
section
variable {ops : Array Oper} {o1 o2 : Oper} {e1 e2 : EX} {g : Nat → Option AV} {T : Nat → Option Ob}
theorem y3q {o : Oper} {j d : Nat} {want : Bool} (hg : o.guard = some (j, want)) (hj : (ops[j]?).bind (·.dst) = some d) : d ∈ g9q ops o := by
 simp only [g9q, a1sq, hg, hj]; simp
theorem App.ahead (hap : a3iq ops o1 e1 o2 e2) (h : App ops o2 e2 (gE o1 e1 g) (TE e1 T)) : App ops o2 e2 g T := by
 have hg0 : ∀ t ∈ g9q ops o2, gE o1 e1 g t = (g t).map (·.kill e1.ks) := fun t ht => if_neg fun hd => hap.s1 t hd ht
 have hT0 : ∀ q ∈ e2.keys, TE e1 T q = (T q).map (·.kill e1.ks) := fun q hq => by
  have h1 : a4q e1.O q = none := Z2q fun p hp hpe => hap.t1 q (by
   subst hpe; exact List.mem_append_right _ (List.mem_append_left _ (List.mem_map.2 ⟨p, hp, rfl⟩))) hq
  have h2 : q ∉ e1.drop := fun hd => hap.t1 q (EX.ks_tch (List.mem_append_right _ hd)) hq
  simp [TE, h1, h2]
 have hB : ∀ d b, d ∈ g9q ops o2 → gE o1 e1 g d = some (B b) → g d = some (B b) := fun d b hd hh => by
  rw [hg0 d hd] at hh
  cases hz : g d with
  | none => rw [hz] at hh; simp at hh
  | some Z => rw [hz] at hh; simp at hh; rw [adEq hh]
 have hU : ∀ d, d ∈ g9q ops o2 → gE o1 e1 g d = some (.tup []) → g d = some (.tup []) := fun d hd hh => by
  rw [hg0 d hd] at hh
  cases hz : g d with
  | none => rw [hz] at hh; simp at hh
  | some Z => rw [hz] at hh; simp at hh; rw [aaEq hh]
 refine ⟨fun av us I y O mv he => ?_, fun he => ?_⟩
 ·obtain ⟨h1, h2, h3, h4⟩ := h.run av us I y O mv he
  subst he
  refine ⟨h1.imp id fun ⟨j, want, d, a, b, c⟩ => ⟨j, want, d, a, b, hB d want (y3q a b) c⟩, fun x X hx hxm => ?_, fun p hp => ?_, fun m hm => (h4 m hm).imp id fun hn => ?_⟩
  ·obtain ⟨K, Z, hz, hk⟩ := h2 x X hx hxm
   cases x with
   | tmp t =>
    have htn : t ∈ g9q ops o2 := by simp only [g9q, List.mem_append]; exact .inl (.inr (a1Qq hxm))
    simp only [evF] at hz ⊢
    rw [hg0 t htn] at hz
    cases hgt : g t with
    | none => rw [hgt] at hz; simp at hz
    | some Z0 =>
     rw [hgt] at hz; simp at hz
     exact ⟨e1.ks ++ K, Z0, rfl, by rw [← AV.kill_kill, hz, hk]⟩
   | _ => exact ⟨K, Z, hz, hk⟩
  ·obtain ⟨K, Z, hz, hk⟩ := h3 p hp
   have hq : p.1 ∈ EX.keys (.run av us I y O mv) := by
    simp only [EX.keys, List.mem_append, List.mem_map]
    rcases List.mem_append.1 hp with hp | hp
    ·exact .inl ⟨p, hp, rfl⟩
    ·exact .inr (.inl ⟨p, hp, rfl⟩)
   rw [hT0 _ hq] at hz
   cases hgt : T p.1 with
   | none => rw [hgt] at hz; simp at hz
   | some Z0 =>
    rw [hgt] at hz; simp at hz
    exact ⟨e1.ks ++ K, Z0, rfl, by rw [← Ob.kill_kill, hz, hk]⟩
  ·rw [hT0 m (by simp only [EX.keys, List.mem_append]; exact .inr (.inr (.inr hm)))] at hn
   simpa using hn
 ·obtain ⟨j, want, d, a, b, c⟩ := h.skip he
  exact ⟨j, want, d, a, b, c.imp (hB d _ (y3q a b)) (hU d (y3q a b))⟩
theorem App.behind (hap : a3iq ops o1 e1 o2 e2) (h : App ops o1 e1 g T) : App ops o1 e1 (gE o2 e2 g) (TE e2 T) := by
 have hg0 : ∀ t ∈ g9q ops o1, gE o2 e2 g t = (g t).map (·.kill e2.ks) := fun t ht => if_neg fun hd => hap.s2 t hd ht
 have hT0 : ∀ q ∈ e1.keys, TE e2 T q = (T q).map (·.kill e2.ks) := fun q hq => by
  have h1 : a4q e2.O q = none := Z2q fun p hp hpe => hap.t2 q (by
   subst hpe; exact List.mem_append_right _ (List.mem_append_left _ (List.mem_map.2 ⟨p, hp, rfl⟩))) hq
  have h2 : q ∉ e2.drop := fun hd => hap.t2 q (EX.ks_tch (List.mem_append_right _ hd)) hq
  simp [TE, h1, h2]
 have hB : ∀ d b, d ∈ g9q ops o1 → g d = some (B b) → gE o2 e2 g d = some (B b) := fun d b hd hh => by rw [hg0 d hd, hh]; rfl
 have hU : ∀ d, d ∈ g9q ops o1 → g d = some (.tup []) → gE o2 e2 g d = some (.tup []) := fun d hd hh => by rw [hg0 d hd, hh]; rfl
 refine ⟨fun av us I y O mv he => ?_, fun he => ?_⟩
 ·obtain ⟨h1, h2, h3, h4⟩ := h.run av us I y O mv he
  subst he
  refine ⟨h1.imp id fun ⟨j, want, d, a, b, c⟩ => ⟨j, want, d, a, b, hB d want (y3q a b) c⟩, fun x X hx hxm => ?_, fun p hp => ?_, fun m hm => (h4 m hm).imp id fun hn => ?_⟩
  ·obtain ⟨K, Z, hz, hk⟩ := h2 x X hx hxm
   have hXd : X.kill e2.ks = X := AV.kill_id fun q hq hqk => hap.k2 q hqk (by
    simp only [EX.all, List.mem_append]; exact .inr (.inr (.inr (.inr (.inr (acWq (by simpa using hxm) hx q hq))))))
   cases x with
   | tmp t =>
    have htn : t ∈ g9q ops o1 := by simp only [g9q, List.mem_append]; exact .inl (.inr (a1Qq hxm))
    simp only [evF] at hz ⊢
    rw [hg0 t htn, hz]
    exact ⟨K, _, rfl, by rw [AV.kill_swap, hk, hXd]⟩
   | _ => exact ⟨K, Z, hz, hk⟩
  ·obtain ⟨K, Z, hz, hk⟩ := h3 p hp
   have hq : p.1 ∈ EX.all o1 (.run av us I y O mv) ∧ ∀ q ∈ p.2.ids, q ∈ EX.all o1 (.run av us I y O mv) := by
    simp only [EX.all, List.mem_append]
    rcases List.mem_append.1 hp with hp | hp
    ·exact ⟨.inl (H3q hp).1, fun q hq => .inl ((H3q hp).2 q hq)⟩
    ·exact ⟨.inr (.inl (H3q hp).1), fun q hq => .inr (.inl ((H3q hp).2 q hq))⟩
   have hXd : p.2.kill e2.ks = p.2 := Ob.kill_id fun q hqq hqk => hap.k2 q hqk (hq.2 q hqq)
   have hq1 : p.1 ∈ EX.keys (.run av us I y O mv) := by
    simp only [EX.keys, List.mem_append, List.mem_map]
    rcases List.mem_append.1 hp with hp | hp
    ·exact .inl ⟨p, hp, rfl⟩
    ·exact .inr (.inl ⟨p, hp, rfl⟩)
   rw [hT0 _ hq1, hz]
   exact ⟨K, _, rfl, by rw [Ob.kill_swap, hk, hXd]⟩
  ·rw [hT0 m (by simp only [EX.keys, List.mem_append]; exact .inr (.inr (.inr hm))), hn]; rfl
 ·obtain ⟨j, want, d, a, b, c⟩ := h.skip he
  exact ⟨j, want, d, a, b, c.imp (hB d _ (y3q a b)) (hU d (y3q a b))⟩
theorem EX.y_all {o : Oper} {e : EX} : ∀ q ∈ e.y.ids, q ∈ e.all o := by
 intro q hq
 cases e with
 | skip => simp [EX.y, AV.ids, AV.idsT] at hq
 | run av us I y O mv => simp only [EX.all, List.mem_append]; exact .inr (.inr (.inr (.inr (.inl hq))))
theorem EX.O_all {o : Oper} {e : EX} {p : Nat × Ob} (hp : p ∈ e.O) : p.1 ∈ e.all o ∧ ∀ q ∈ p.2.ids, q ∈ e.all o := by
 cases e with
 | skip => cases hp
 | run av us I y O mv =>
  simp only [EX.all, List.mem_append]
  exact ⟨.inr (.inr (.inl (H3q hp).1)), fun q hq => .inr (.inr (.inl ((H3q hp).2 q hq)))⟩
theorem afHq (hap : a3iq ops o1 e1 o2 e2) : gE o2 e2 (gE o1 e1 g) = gE o1 e1 (gE o2 e2 g) := by
 funext t
 have y1 : e1.y.kill e2.ks = e1.y := AV.kill_id fun q hq hk => hap.k2 q hk (EX.y_all q hq)
 have y2 : e2.y.kill e1.ks = e2.y := AV.kill_id fun q hq hk => hap.k1 q hk (EX.y_all q hq)
 by_cases h1 : o1.dst = some t
 ·have h2 : o2.dst ≠ some t := fun h2 => hap.s1 t h1 (by simp [g9q, h2])
  simp [gE, h1, h2, y1]
 ·by_cases h2 : o2.dst = some t
  ·simp [gE, h1, h2, y2]
  ·simp only [gE, h1, h2, if_false]
   cases g t with
   | none => rfl
   | some Z => simp [AV.kill_swap e1.ks e2.ks Z]
theorem afvq (hap : a3iq ops o1 e1 o2 e2) : TE e2 (TE e1 T) = TE e1 (TE e2 T) := by
 funext q
 have key : ∀ {oa ob : Oper} {ea eb : EX}, (∀ q ∈ ea.tch, q ∉ eb.keys) → (∀ q ∈ eb.ks, q ∉ ea.all oa) → ∀ X, a4q ea.O q = some X → a4q eb.O q = none ∧ q ∉ eb.drop ∧ X.kill eb.ks = X := by
  intro oa ob ea eb h1 h2 X hX
  have hm := f6q hX
  have hq : q ∈ ea.tch := List.mem_append_right _ (List.mem_append_left _ (List.mem_map.2 ⟨_, hm, rfl⟩))
  refine ⟨Z2q fun p hp hpe => h1 q hq ?_, fun hd => h1 q hq (EX.tch_keys (EX.ks_tch (List.mem_append_right _ hd))), Ob.kill_id fun r hr hk => h2 r hk ((EX.O_all hm).2 r hr)⟩
  subst hpe
  exact EX.tch_keys (List.mem_append_right _ (List.mem_append_left _ (List.mem_map.2 ⟨p, hp, rfl⟩)))
 cases h1 : a4q e1.O q with
 | some X =>
  obtain ⟨a, b, c⟩ := key (oa := o1) (ob := o2) hap.t1 hap.k2 X h1
  simp [TE, h1, a, b, c]
 | none =>
  cases h2 : a4q e2.O q with
  | some X =>
   obtain ⟨a, b, c⟩ := key (oa := o2) (ob := o1) hap.t2 hap.k1 X h2
   simp [TE, h1, h2, a, b, c]
  | none =>
   by_cases d1 : q ∈ e1.drop <;> by_cases d2 : q ∈ e2.drop <;> simp [TE, h1, h2, d1, d2]
   cases T q with
   | none => rfl
   | some Z => simp [Ob.kill_swap e1.ks e2.ks Z]
end
inductive Chain (ops : Array Oper) : List (Nat × Oper × EX) → (Nat → Option AV) → (Nat → Option Ob) → (Nat → Option AV) → (Nat → Option Ob) → Prop
 | nil {g T} : Chain ops [] g T g T
 | cons {i o e r g T g' T'} : App ops o e g T → Chain ops r (gE o e g) (TE e T) g' T' → Chain ops ((i, o, e) :: r) g T g' T'
theorem Chain.front {ops : Array Oper} {x : Nat × Oper × EX} {B : List (Nat × Oper × EX)} : ∀ {A : List (Nat × Oper × EX)} {g T g' T'}, Chain ops (A ++ x :: B) g T g' T' → (∀ a ∈ A, a3iq ops a.2.1 a.2.2 x.2.1 x.2.2) → Chain ops (x :: (A ++ B)) g T g' T'
 | [], _, _, _, _, h, _ => h
 | a :: A, g, T, g', T', h, hap => by
  obtain ⟨i, o, e⟩ := a
  obtain ⟨j, ox, ex⟩ := x
  cases h with
  | cons h1 h2 =>
   have ih := Chain.front h2 fun b hb => hap b (List.mem_cons_of_mem _ hb)
   cases ih with
   | cons h3 h4 =>
    have hp := hap (i, o, e) (List.mem_cons_self ..)
    rw [afHq hp, afvq hp] at h4
    exact .cons (h3.ahead hp) (.cons (h1.behind hp) h4)
section
variable {Γ : Cx} {P : Program} {ops : Array Oper} {o : Oper} {g : Nat → Option AV} {T : Nat → Option Ob}
theorem GrowX.simF {I O : List (Nat × Ob)} {mv : List Nat} {r : AV} {us : List (Nat × Ob)} {av : Operand → Option AV} {a : Act} {w w' : World} {S S' : Nat → Prop} {β β' : Nat → OLoc} {v : Value} (hG : GrowX w S β I O mv w' S' β') (hr : RepV w' S' β' r v) (hs : SimF Γ g T a w S β) (hd : o.dst.all (· < Γ.n) = true)
  (hI : ∀ p ∈ I, ∃ Z, T p.1 = some Z) (hlow : ∀ m ∈ mv, m < 2000) (hOin : ∀ p ∈ O, (∃ q ∈ I, q.1 = p.1) ∨ p.1 ∈ mv) (hmv : ∀ m ∈ mv, (∃ p ∈ I, p.1 = m) ∨ T m = none) : SimF Γ (gE o (.run av us I r O mv) g) (TE (.run av us I r O mv) T) (a.put o.dst v) w' S' β' := by
 have hpass : ∀ b, i5q I β b → ∃ p ∈ I, ∃ Z, T p.1 = some Z ∧ (β p.1).Own b := fun b ⟨p, hp, h1⟩ => by
  obtain ⟨Z, hZ⟩ := hI p hp
  exact ⟨p, hp, Z, hZ, h1⟩
 have hSn : ∀ b, S b → ¬ i5q I β b := by
  intro b hb hp
  obtain ⟨p, _, Z, hg, h1⟩ := hpass b hp
  exact (hs.mem.own p.1 Z hg b h1).2.1 hb
 have hk : ∀ b, S b → w'.heap[b]? = w.heap[b]? := fun b hb => hG.block b (hs.mem.lt b hb) (hSn b hb)
 have hβ : ∀ q, q ∉ mv ++ i7q I O → β' q = β q := fun q hq => hG.loc q fun h => hq (List.mem_append_left _ h)
 have hT : ∀ q X, TE (.run av us I r O mv) T q = some X → (q, X) ∈ O ∨ (q ∉ mv ∧ (∀ p ∈ I, p.1 ≠ q) ∧ ∃ Y, T q = some Y ∧ ∀ l : OLoc, (∀ b, l.Own b → w'.heap[b]? = w.heap[b]?) → ObRep w S β l Y → ObRep w' S' β' l X) := by
  intro q X hq
  have hq : (a4q O q).or (if q ∈ i7q I O then none else (T q).map (·.kill (mv ++ i7q I O))) = some X := hq
  cases hl : a4q O q with
  | some Y => rw [hl] at hq; simp at hq; subst hq; exact .inl (f6q hl)
  | none =>
   rw [hl] at hq
   simp only [Option.none_or] at hq
   by_cases hnd : q ∈ i7q I O
   ·rw [if_pos hnd] at hq; cases hq
   ·rw [if_neg hnd] at hq
    cases hY : T q with
    | none => rw [hY] at hq; simp at hq
    | some Y =>
     rw [hY] at hq; simp at hq; subst hq
     have hnO : ∀ p ∈ O, p.1 ≠ q := fun p hp e => G3q O hp (e ▸ hl)
     have hnI : ∀ p ∈ I, p.1 ≠ q := by
      intro p hp e
      refine hnd ?_
      simp only [i7q, List.mem_filter, List.mem_map, Bool.not_eq_true', List.any_eq_false, beq_iff_eq]
      exact ⟨⟨p, hp, e⟩, fun p' hp' => hnO p' hp'⟩
     refine .inr ⟨fun hm => ?_, hnI, Y, rfl, fun l hb hx => hx.killO hb hk hG.sub hβ⟩
     rcases hmv q hm with ⟨p, hp, e⟩ | h
     ·exact hnI p hp e
     ·rw [hY] at h; simp at h
 have hapart : ∀ q Y, T q = some Y → (∀ p ∈ I, p.1 ≠ q) → ∀ b, (β q).Own b → ¬ i5q I β b := by
  intro q Y hY hn b hh hp
  obtain ⟨p, hpI, Z, hg, h1⟩ := hpass _ hp
  exact hn p hpI (hs.mem.sep p.1 q _ _ hg hY b h1 hh)
 refine ⟨?_, ?_, fun i x hi => ?_, ⟨fun b hb => (hG.sup b hb).1, fun q X hq => ?_, fun q X hq b hh => ?_, fun q q' X X' hq hq' b hh hh' => ?_, hG.os.trans hs.mem.os, hG.tape.trans hs.mem.tape, hG.output.trans hs.mem.output, Nat.le_trans hs.mem.size hG.size, fun b hb hp => ?_, fun b hb => hG.sub b (hs.mem.sub b hb), fun b hb => ?_, fun q l hl => ?_, fun q X hq b hh => ?_, fun q q' X X' hq hq' b hh hh' => ?_⟩⟩
 ·cases o.dst <;> simp [Act.put, hs.defers]
 ·cases o.dst <;> simp [Act.put, hs.sz]
 ·simp only [gE, EX.y, EX.ks, EX.mv, EX.drop, EX.I, EX.O] at hi
  by_cases hdi : o.dst = some i
  ·rw [if_pos hdi] at hi
   simp at hi
   subst hi
   rw [hdi] at hd ⊢
   simp at hd
   exact ⟨v, by simp [Act.put, hs.sz, hd], hr⟩
  ·rw [if_neg hdi] at hi
   cases hy : g i with
   | none => rw [hy] at hi; simp at hi
   | some y =>
    rw [hy] at hi; simp at hi; subst hi
    obtain ⟨u, hu, hur⟩ := hs.tm i y hy
    refine ⟨u, ?_, hur.killV hk hG.sub hβ⟩
    cases hdd : o.dst with
    | none => exact hu
    | some d =>
     simp only [Act.put]
     rw [Array.getElem?_setIfInBounds_ne (fun e => hdi (by rw [hdd, e]))]
     exact hu
 ·rcases hT q X hq with hm | ⟨hnm, hnI, Y, hY, hYr⟩
  ·exact hG.ob _ hm
  ·rw [hG.loc q hnm]
   exact hYr _ (fun b hh => hG.block _ (hs.mem.own q Y hY b hh).1 (hapart q Y hY hnI b hh)) (hs.mem.ob q Y hY)
 ·rcases hT q X hq with hm | ⟨hnm, hnI, Y, hY, hYr⟩
  ·obtain ⟨h1, h2, h3⟩ := hG.own _ hm b hh
   refine ⟨h1, h2, ?_⟩
   rcases h3 with h3 | h3
   ·exact .inl (Nat.le_trans hs.mem.size h3)
   ·obtain ⟨p, _, Z, hg, h4⟩ := hpass _ h3
    exact (hs.mem.own p.1 Z hg b h4).2.2
  ·rw [hG.loc q hnm] at hh
   obtain ⟨h1, h2, h3⟩ := hs.mem.own q Y hY b hh
   refine ⟨Nat.lt_of_lt_of_le h1 hG.size, fun hb => ?_, h3⟩
   rcases (hG.sup _ hb).2 with hb | hb | hb
   ·exact h2 hb
   ·omega
   ·exact hapart q Y hY hnI b hh hb
 ·have hmix : ∀ q q' X Y', (q, X) ∈ O → q' ∉ mv → (∀ p ∈ I, p.1 ≠ q') → T q' = some Y' → ∀ b, (β' q).Own b → (β' q').Own b → False := by
   intro q q' X Y' hm hnm hnI hY' b hh hh'
   rw [hG.loc q' hnm] at hh'
   rcases (hG.own _ hm b hh).2.2 with h3 | h3
   ·have := (hs.mem.own q' Y' hY' b hh').1
    omega
   ·exact hapart q' Y' hY' hnI b hh' h3
  rcases hT q X hq with hm | ⟨hnm, hnI, Y, hY, hYr⟩ <;> rcases hT q' X' hq' with hm' | ⟨hnm', hnI', Y', hY', hYr'⟩
  ·exact hG.sep _ hm _ hm' b hh hh'
  ·exact (hmix q q' X Y' hm hnm' hnI' hY' b hh hh').elim
  ·exact (hmix q' q X' Y hm' hnm hnI hY b hh' hh).elim
  ·rw [hG.loc q hnm] at hh
   rw [hG.loc q' hnm'] at hh'
   exact hs.mem.sep q q' Y Y' hY hY' b hh hh'
 ·refine (hG.block b (Nat.lt_of_lt_of_le hb hs.mem.size) fun hpb => ?_).trans (hs.mem.block b hb hp)
  obtain ⟨p, _, Z, hg, h1⟩ := hpass b hpb
  rcases (hs.mem.own p.1 Z hg b h1).2.2 with h3 | h3
  ·omega
  ·exact hp h3
 ·rcases (hG.sup b hb).2 with hb | hb | hb
  ·exact hs.mem.sup b hb
  ·exact .inr (.inl (Nat.le_trans hs.mem.size hb))
  ·obtain ⟨p, _, Z, hg, h1⟩ := hpass b hb
   exact .inr (hs.mem.own p.1 Z hg b h1).2.2
 ·obtain ⟨h1, h2⟩ := hs.mem.fix q l hl
  exact ⟨h1, (hG.loc q fun hm => by have := hlow q hm; omega).trans h2⟩
 ·rcases hT q X hq with hm | ⟨hnm, hnI, Y, hY, hYr⟩
  ·obtain ⟨h1, h3⟩ := hG.clm _ hm b hh
   refine ⟨h1, ?_⟩
   rcases h3 with h3 | h3 | h3
   ·exact .inl (Nat.le_trans hs.mem.size h3)
   ·obtain ⟨p, _, Z, hg, h4⟩ := hpass _ h3
    exact (hs.mem.own p.1 Z hg b h4).2.2.imp id .inl
   ·obtain ⟨p, hp, h4⟩ := h3
    obtain ⟨Z, hZ⟩ := hI p hp
    exact (hs.mem.clm p.1 Z hZ b h4).2
  ·rw [hG.loc q hnm] at hh
   obtain ⟨h1, h2⟩ := hs.mem.clm q Y hY b hh
   exact ⟨hG.sub b h1, h2⟩
 ·have hmix : ∀ q q' X Y', (q, X) ∈ O → q' ∉ mv → (∀ p ∈ I, p.1 ≠ q') → T q' = some Y' → ∀ b, b ∈ (β' q).clm → b ∈ (β' q').clm → False := by
   intro q q' X Y' hm hnm hnI hY' b hh hh'
   rw [hG.loc q' hnm] at hh'
   have hSb := (hs.mem.clm q' Y' hY' b hh').1
   rcases (hG.clm _ hm b hh).2 with h3 | h3 | h3
   ·have := hs.mem.lt b hSb
    omega
   ·exact hSn b hSb h3
   ·obtain ⟨p, hp, h4⟩ := h3
    obtain ⟨Z, hZ⟩ := hI p hp
    exact hnI p hp (hs.mem.sepc p.1 q' _ _ hZ hY' b h4 hh')
  rcases hT q X hq with hm | ⟨hnm, hnI, Y, hY, hYr⟩ <;> rcases hT q' X' hq' with hm' | ⟨hnm', hnI', Y', hY', hYr'⟩
  ·exact hG.sepc _ hm _ hm' b hh hh'
  ·exact (hmix q q' X Y' hm hnm' hnI' hY' b hh hh').elim
  ·exact (hmix q' q X' Y hm' hnm hnI hY b hh' hh).elim
  ·rw [hG.loc q hnm] at hh
   rw [hG.loc q' hnm'] at hh'
   exact hs.mem.sepc q q' Y Y' hY hY' b hh hh'
theorem AV.kill_nil (x : AV) : x.kill [] = x := AV.kill_id fun _ _ h => by cases h
theorem Ob.kill_nil (X : Ob) : X.kill [] = X := Ob.kill_id fun _ _ h => by cases h
theorem OInst.step {e : EX} {a : Act} {w : World} {S : Nat → Prop} {β : Nat → OLoc} {l : List Oper} {K : Act → World → Prop} {Q : Exit → Act → World → Prop} {i : Nat} (hi : OInst Γ.n P o e) (ha : App l.toArray o e g T) (hs : SimF Γ g T a w S β) (ho : l.toArray[i]? = some o)
  (hK : ∀ a' w' S' β', SimF Γ (gE o e g) (TE e T) a' w' S' β' → K a' w') : wpOp P l.toArray Q i K a w := by
 unfold wpOp
 rw [ho]
 dsimp only
 have hyield : ∀ (j : Nat) (d : Nat) (b : Bool), (l.toArray[j]?).bind (·.dst) = some d → g d = some (B b) → yielded l.toArray a.tmps j = some b := by
  intro j d b hj hv
  obtain ⟨v, hv1, hv2⟩ := hs.tm d _ hv
  rw [hv2.bool_inv] at hv1
  simp only [yielded, hj, Option.bind_some, hv1]
 cases e with
 | skip =>
  obtain ⟨j, want, d, hg, hj, hv⟩ := ha.skip rfl
  have hw : Region.wanted o (yielded l.toArray a.tmps) = false := by
   rcases hv with hv | hv
   ·have hy := hyield j d _ hj hv
    simp only [Region.wanted, hg, hy]; cases want <;> rfl
   ·obtain ⟨v, hv1, hv2⟩ := hs.tm d _ hv
    obtain ⟨us, rfl, hu⟩ := hv2.tup_inv
    cases hu
    have hyl : yielded l.toArray a.tmps j = none := by simp only [yielded, hj, Option.bind_some, hv1]
    simp only [Region.wanted, hg, hyl]; rfl
  rw [hw, if_neg (by simp)]
  refine hK _ _ S β ?_
  have hG : GrowX w S β [] [] [] w S β := ⟨rfl, rfl, rfl, Nat.le_refl _, fun _ _ _ => rfl, fun _ h => h, fun b hb => ⟨hs.mem.lt b hb, .inl hb⟩, fun _ _ => rfl, by simp, by simp, by simp, by simp, by simp⟩
  have := GrowX.simF (us := []) (av := fun _ => none) (r := .tup []) (v := undef) hG (RepVs.tup .nil .nil) hs hi.dst (by simp) (by simp) (by simp) (by simp)
  exact this
 | run av us I y O mv =>
  obtain ⟨hop, hlow, hOin⟩ := hi.run av us I y O mv rfl
  obtain ⟨hg, hrd, hob, hmv⟩ := ha.run av us I y O mv rfl
  have hw : Region.wanted o (yielded l.toArray a.tmps) = true := by
   rcases hg with hg | ⟨j, want, d, hg, hj, hv⟩
   ·simp [Region.wanted, hg]
   ·have hy := hyield j d _ hj hv
    simp [Region.wanted, hg, hy]
  rw [hw, if_pos rfl]
  left
  have hob2 : ∀ p ∈ us ++ I, ∃ Z, T p.1 = some Z ∧ (ObRep w S β (β p.1) Z → ObRep w S β (β p.1) p.2) := fun p hp => by
   obtain ⟨K, Z, hz, hk⟩ := hob p hp
   exact ⟨Z, hz, fun h => hk ▸ h.killO (fun _ _ => rfl) (fun _ _ => rfl) (fun _ h => h) fun _ _ => rfl⟩
  refine hop a w S β hs.defers hs.sz hs.mem.lt (fun x X hx hxm => ?_) ⟨fun p hp => ?_, fun p hp b hh => ?_, fun p hp q hq b hh hh' => ?_, fun p hp b hh => ?_, fun p hp q hq b hh hh' => ?_⟩ _ _ fun v w' S' β' hG hy => hK _ _ S' β' (hG.simF hy hs hi.dst (fun p hp => ?_) hlow hOin hmv)
  ·obtain ⟨K, Z, hz, hk⟩ := hrd x X hx hxm
   have hr : RepV w S β Z (a.eval x) := by
    cases x with
    | tmp t =>
     obtain ⟨v, hv, hr⟩ := hs.tm t Z hz
     have : a.eval (.tmp t) = v := by simp [Act.eval, Array.getD_eq_getD_getElem?, hv]
     rw [this]; exact hr
    | const v => exact P4q hz
    | func f => simp only [evF, Option.some.injEq] at hz; subst hz; exact RepV.one (.d (.fn_ f))
    | global g => simp [evF] at hz
   rw [← hk]
   exact hr.killV (fun _ _ => rfl) (fun _ h => h) fun _ _ => rfl
  ·obtain ⟨Z, hz, h⟩ := hob2 p hp
   exact h (hs.mem.ob p.1 Z hz)
  ·obtain ⟨Z, hz, h⟩ := hob2 p hp
   exact ⟨(hs.mem.own p.1 Z hz b hh).1, (hs.mem.own p.1 Z hz b hh).2.1⟩
  ·obtain ⟨Z, hz, _⟩ := hob2 p hp
   obtain ⟨Z', hz', _⟩ := hob2 q hq
   exact hs.mem.sep p.1 q.1 Z Z' hz hz' b hh hh'
  ·obtain ⟨Z, hz, h⟩ := hob2 p hp
   exact (hs.mem.clm p.1 Z hz b hh).1
  ·obtain ⟨Z, hz, _⟩ := hob2 p hp
   obtain ⟨Z', hz', _⟩ := hob2 q hq
   exact hs.mem.sepc p.1 q.1 Z Z' hz hz' b hh hh'
  ·obtain ⟨Z, hz, _⟩ := hob2 p (List.mem_append_right _ hp)
   exact ⟨Z, hz⟩
def a9Bq (o1 : Oper) (e1 : EX) (o2 : Oper) (e2 : EX) : Prop := (∀ q ∈ e1.tch, q ∉ e2.keys) ∧ (∀ q ∈ e2.tch, q ∉ e1.keys) ∧ (∀ q ∈ e1.ks, q ∉ e2.all o2) ∧ ∀ q ∈ e2.ks, q ∉ e1.all o1
def a3gq (ops : Array Oper) (a x : Nat × Oper × EX) : Prop := E2q ops ops.size x.1 a.1 = true ∨ a9Bq a.2.1 a.2.2 x.2.1 x.2.2
end
theorem adXq {Γ : Cx} {P : Program} {l : List Oper} {s s' : St} {L : List (Nat × Oper × EX)} {id : Nat} {Q : Exit → St → Prop} (hm : P.follows .mixedOrders = true) (hok : J4q l.toArray = true) (hL : L.map (fun x => x.1) = List.range l.length) (hLo : ∀ x ∈ L, l[x.1]? = some x.2.1) (hinst : ∀ x ∈ L, OInst Γ.n P x.2.1 x.2.2) (hpair : L.Pairwise (a3gq l.toArray)) (hch : Chain l.toArray L s.get s.gob s'.get s'.gob) (hQ : Q .normal s') : awp Γ P (.region id l.toArray true) Q s := by
 intro a w S β hs
 have hn : l.toArray.size = l.length := by simp
 simp only [J4q, List.all_eq_true, List.mem_range, hn] at hok
 have hlow : ∀ (i : Nat) (o : Oper), l[i]? = some o → ∀ e ∈ o.after, Region.binds .any e = true → e.on < i := by
  intro i o hi e he hb
  have h1 := hok i (List.getElem?_eq_some_iff.1 hi).1
  simp only [List.getElem?_toArray, hi, Bool.and_eq_true] at h1
  have h2 := Array.all_eq_true_iff_forall_mem.1 h1.1 e he
  simpa [hb] using h2
 have hord : ∀ (i j : Nat) (oi oj : Oper), l[i]? = some oi → l[j]? = some oj → j < i → E2q l.toArray l.length i j = false → (∀ t, oj.dst = some t → t ∉ g9q l.toArray oi) ∧ ∀ t, oi.dst = some t → t ∉ g9q l.toArray oj := by
  intro i j oi oj hi hj hji hr
  have h1 := hok i (List.getElem?_eq_some_iff.1 hi).1
  simp only [List.getElem?_toArray, hi, Bool.and_eq_true, List.all_eq_true, List.mem_range] at h1
  have h2 := h1.2 j (List.getElem?_eq_some_iff.1 hj).1
  simp only [hj, Bool.or_eq_true, Bool.not_eq_true', decide_eq_false_iff_not, Bool.and_eq_true, List.all_eq_true, List.contains_eq_mem] at h2
  rcases h2 with (h2 | h2) | h2
  ·exact absurd hji h2
  ·exact ⟨fun t ht => h2.1 t (by simp [ht]), fun t ht => h2.2 t (by simp [ht])⟩
  ·rw [hr] at h2; cases h2
 refine wp_region_any hm ?_
 have hready : ∀ (listed : Array Bool), listed.size = l.length → Region.ready .any l.toArray listed = [] → ∀ j, j < l.length → listed.getD j false = true := by
  intro listed hsz hr j hj
  apply Classical.byContradiction
  intro hne
  obtain ⟨m, ⟨hm1, hm2⟩, hmin⟩ := afmq (fun j => j < l.length ∧ listed.getD j false ≠ true) ⟨j, hj, hne⟩
  have hmem : m ∈ Region.ready .any l.toArray listed := by
   rw [mem_ready]
   refine ⟨?_, l[m], by simp [hm1], fun e he hb => ?_⟩
   ·have : m < listed.size := by omega
    simp only [Array.getD_eq_getD_getElem?, Array.getElem?_eq_getElem this, Option.getD_some] at hm2 ⊢
    simpa using hm2
   ·have hlt := hlow m l[m] (List.getElem?_eq_getElem hm1) e he hb
    apply Classical.byContradiction
    intro hn2
    have := hmin e.on ⟨by omega, hn2⟩
    omega
  rw [hr] at hmem
  simp at hmem
 have hsorted : L.Pairwise fun a b => a.1 < b.1 := by
  have : (L.map fun x => x.1).Pairwise (· < ·) := by rw [hL]; exact List.pairwise_lt_range
  exact List.pairwise_map.1 this
 have hhas : ∀ i, i < l.length → ∃ x ∈ L, x.1 = i := fun i hi => by
  have : i ∈ L.map fun x => x.1 := by rw [hL]; exact List.mem_range.2 hi
  obtain ⟨x, hx, e⟩ := List.mem_map.1 this
  exact ⟨x, hx, e⟩
 have hdone : ∀ (M : List (Nat × Oper × EX)) (listed : Array Bool) (g : Nat → Option AV) (T : Nat → Option Ob) (a : Act) (w : World) (S : Nat → Prop) (β : Nat → OLoc), M = L.filter (fun x => !listed.getD x.1 false) → Chain l.toArray M g T s'.get s'.gob → (∀ j, j < l.length → listed.getD j false = true) → SimF Γ g T a w S β → ∃ s' S' β', Q .normal s' ∧ Sim Γ s' a w S' β' := by
  intro M listed g T a w S β hM hc hall hsim
  have : M = [] := by
   rw [hM, List.filter_eq_nil_iff]
   intro x hx
   have : x.1 < l.length := List.mem_range.1 (hL ▸ List.mem_map.2 ⟨x, hx, rfl⟩)
   simp only [hall _ this]; simp
  subst this
  generalize hg' : s'.get = g' at hc
  generalize hT' : s'.gob = T' at hc
  cases hc
  subst hg'; subst hT'
  exact ⟨s', S, β, hQ, hsim⟩
 have key : ∀ (fuel : Nat) (listed : Array Bool) (M : List (Nat × Oper × EX)) (g : Nat → Option AV) (T : Nat → Option Ob) (a : Act) (w : World) (S : Nat → Prop) (β : Nat → OLoc), listed.size = l.length → a4Mq l.toArray (fun j => listed.getD j false) →
   M = L.filter (fun x => !listed.getD x.1 false) → Chain l.toArray M g T s'.get s'.gob → SimF Γ g T a w S β → M.length ≤ fuel →
   wpAny P .any l.toArray (fun e a' w' => ∃ s' S' β', Q e s' ∧ Sim Γ s' a' w' S' β') fuel listed a w := by
  intro fuel
  induction fuel with
  | zero =>
   intro listed M g T a w S β hsz hc hM hch hsim hfu
   have hnil := List.eq_nil_of_length_eq_zero (Nat.le_zero.1 hfu)
   have hall : ∀ j, j < l.length → listed.getD j false = true := by
    intro j hj
    obtain ⟨x, hx, rfl⟩ := hhas j hj
    rw [hnil] at hM
    have := List.filter_eq_nil_iff.1 hM.symm x hx
    simpa using this
   refine ⟨?_, hdone M listed g T a w S β hM hch hall hsim⟩
   simp only [Region.ready]
   rw [List.filter_eq_nil_iff]
   intro j hj
   simp only [List.mem_range, hn] at hj
   have h1 := hall j hj
   have h2 : listed.getD j true = true := by
    simp only [Array.getD_eq_getD_getElem?] at h1 ⊢
    cases hx : listed[j]? with
    | none => rw [hx] at h1; simp at h1
    | some b => rw [hx] at h1; simpa using h1
   simp [h2]
  | succ fuel ih =>
   intro listed M g T a w S β hsz hc hM hch hsim hfu
   refine ⟨fun hr => hdone M listed g T a w S β hM hch (hready listed hsz hr) hsim, fun i hi => ?_⟩
   rw [mem_ready] at hi
   obtain ⟨hil, o, ho, hpre⟩ := hi
   have ho' : l[i]? = some o := by simpa using ho
   have hin : i < l.length := (List.getElem?_eq_some_iff.1 ho').1
   have hisz : i < listed.size := by omega
   have hDi : listed.getD i false = false := by
    simp only [Array.getD_eq_getD_getElem?, Array.getElem?_eq_getElem hisz, Option.getD_some] at hil ⊢
    exact hil
   obtain ⟨x, hxL, hxi⟩ := hhas i hin
   have hxo : x.2.1 = o := by
    have := hLo x hxL
    rw [hxi, ho'] at this
    exact (Option.some.inj this).symm
   have hxM : x ∈ M := by rw [hM]; exact List.mem_filter.2 ⟨hxL, by simp [hxi, hDi]⟩
   obtain ⟨A, C, hAC⟩ := List.append_of_mem hxM
   have hMs : M.Pairwise fun a b => a.1 < b.1 := by rw [hM]; exact hsorted.filter _
   have hMp : M.Pairwise (a3gq l.toArray) := by rw [hM]; exact hpair.filter _
   rw [hAC] at hch hMs hMp
   have hA : ∀ b ∈ A, a3iq l.toArray b.2.1 b.2.2 x.2.1 x.2.2 := by
    intro b hb
    have hbM : b ∈ M := by rw [hAC]; simp [hb]
    rw [hM] at hbM
    obtain ⟨hbL, hbl⟩ := List.mem_filter.1 hbM
    have hlt : b.1 < x.1 := (List.pairwise_append.1 hMs).2.2 b hb x (by simp)
    have hnr : E2q l.toArray l.length i b.1 = false := by
     cases hr : E2q l.toArray l.length i b.1 with
     | false => rfl
     | true =>
      exfalso
      have := L4q hc _ i b.1 hr fun o' ho'' e he hb' => by
       rw [ho] at ho''; cases ho''
       exact hpre e he hb'
      simp [this] at hbl
    have hT : a9Bq b.2.1 b.2.2 x.2.1 x.2.2 := by
     rcases (List.pairwise_append.1 hMp).2.2 b hb x (by simp) with h | h
     ·rw [hxi, hn, hnr] at h; cases h
     ·exact h
    obtain ⟨h1, h2⟩ := hord x.1 b.1 _ _ (hLo x hxL) (hLo b hbL) hlt (by rw [hxi]; exact hnr)
    exact ⟨h1, h2, hT.1, hT.2.1, hT.2.2.1, hT.2.2.2⟩
   have hfr := Chain.front hch hA
   obtain ⟨xi, xo, xe⟩ := x
   subst hxi; subst hxo
   cases hfr with
   | cons happ hrest =>
    refine OInst.step (hinst _ hxL) happ hsim ho fun a' w' S' β' hsim' => ?_
    have hset : ∀ j, (listed.setIfInBounds xi true).getD j false = if j = xi then true else listed.getD j false := by
     intro j
     by_cases h : j = xi
     ·subst h; simp [Array.getD_eq_getD_getElem?, hisz]
     ·simp only [Array.getD_eq_getD_getElem?, if_neg h]; rw [Array.getElem?_setIfInBounds_ne (Ne.symm h)]
    refine ih _ (A ++ C) _ _ a' w' S' β' (by simpa using hsz) ?_ ?_ hrest hsim' (by rw [hAC] at hfu; simp at hfu ⊢; omega)
    ·intro j oj hj hoj e' he' hb'
     dsimp only at hj ⊢
     rw [hset] at hj ⊢
     by_cases hji : j = xi
     ·subst hji
      rw [ho] at hoj; cases hoj
      have := hpre e' he' hb'
      rw [this]; simp
     ·rw [if_neg hji] at hj
      have := hc j oj hj hoj e' he' hb'
      dsimp only at this
      rw [this]; simp
    ·have h1 : L.filter (fun y => !(listed.setIfInBounds xi true).getD y.1 false) = (L.filter fun y => !listed.getD y.1 false).filter fun y => y.1 != xi := by
      rw [List.filter_filter]
      apply List.filter_congr
      intro y hy
      rw [hset]
      by_cases h : y.1 = xi
      ·simp [h]
      ·simp [h]
     rw [h1, ← hM, hAC]
     have hneA : ∀ b ∈ A, b.1 ≠ xi := fun b hb e => by
      have := (List.pairwise_append.1 hMs).2.2 b hb (xi, xo, xe) (by simp)
      simp at this; omega
     have hneC : ∀ b ∈ C, b.1 ≠ xi := fun b hb e => by
      have := (List.pairwise_cons.1 (List.pairwise_append.1 hMs).2.1).1 b hb
      simp at this; omega
     rw [List.filter_append, List.filter_cons]
     rw [if_neg (by simp)]
     rw [List.filter_eq_self.2 fun b hb => by simpa using hneA b hb, List.filter_eq_self.2 fun b hb => by simpa using hneC b hb]
 have h0 : ∀ j, (Array.replicate l.length false).getD j false = false := by
  intro j
  simp only [Array.getD_eq_getD_getElem?, Array.getElem?_replicate]
  split <;> rfl
 rw [hn]
 refine key l.length (Array.replicate l.length false) L s.get s.gob a _ S β (by simp) (fun i o h => by dsimp only at h; rw [h0] at h; cases h) ?_ hch ?_ ?_
 ·symm
  rw [List.filter_eq_self]
  intro x _
  rw [h0]; rfl
 ·exact ⟨hs.defers, hs.sz, fun i x hi => by
   obtain ⟨v, hv, hr⟩ := hs.tm i x hi
   exact ⟨v, hv, hr.mono (fun _ _ => rfl) (fun _ h => h) fun _ _ => rfl⟩,
   ⟨hs.mem.lt, fun o X ho => (hs.mem.ob o X ho).mono (fun _ _ => rfl) (fun _ _ => rfl) (fun _ h => h) fun _ _ => rfl, hs.mem.own, hs.mem.sep, hs.mem.os, hs.mem.tape, hs.mem.output, hs.mem.size, hs.mem.block, hs.mem.sub, hs.mem.sup, hs.mem.fix, hs.mem.clm, hs.mem.sepc⟩⟩
 ·have := congrArg List.length hL
  simp at this
  omega
def PRep (w : World) (S : Nat → Prop) (l : OLoc) (E es : Nat) (xs : List (List Da)) : Prop :=
 xs.length ≤ l.sc ∧ (xs.length ≤ 281474976710656 ∧ l.sc ≤ maxLen) ∧ (∀ x ∈ xs, x.length = es) ∧
  ((l.has = true ∧ ∃ cur, w.heap[l.blk]? = some (.cells cur E (0, 0)) ∧ cur.size = l.sc * es ∧ RepDs w S xs.flatten (cur.toList.take (xs.length * es))) ∨ (l.has = false ∧ l.sc = 0))
def mkP (c : Option Nat) (E es : Nat) (xs : List (List Da)) : Ob := match c with
 | none => .lst E es xs
 | some c => .fu E es xs c
def ahiq (c : Option Nat) (l : OLoc) (n : Nat) : Prop := match c with
 | none => l.sn = n ∧ (l.has = true → l.sa = some ⟨l.blk, 0, none⟩)
 | some c => l.sc = c
theorem a3lq {w : World} {S : Nat → Prop} {β : Nat → OLoc} {l : OLoc} {E es : Nat} {xs : List (List Da)} : ObRep w S β l (.lst E es xs) ↔ PRep w S l E es xs ∧ l.sn = xs.length ∧ (l.has = true → l.sa = some ⟨l.blk, 0, none⟩) := by
 constructor
 ·rintro (⟨h1, h2, h3, vs, h4, h5⟩ | ⟨h1, rfl, a, h2⟩)
  ·rcases h4.2 with ⟨hn, h0⟩ | ⟨g, cap, cur, hsv, _, hg, hcap, hcm, hcs, htk⟩
   ·rw [hn] at h1
    simp only [OLoc.sv, Value.slice.injEq] at hn
    obtain ⟨e1, e2, e3⟩ := hn
    have hh : l.has = false := by
     cases e : l.has
     ·rfl
     ·rw [e] at h1; simp [Value.ownBlock] at h1
    exact ⟨⟨by omega, ⟨h2, by rw [e3]; exact Nat.zero_le _⟩, h3, .inr ⟨hh, e3⟩⟩, by omega, by simp [hh]⟩
   ·rw [hsv] at h1
    simp only [OLoc.sv, Value.slice.injEq] at hsv
    obtain ⟨e1, e2, e3⟩ := hsv
    simp only [Value.ownBlock] at h1
    split at h1
    ·rename_i hh
     simp at h1
     subst h1
     exact ⟨⟨by omega, ⟨h2, by omega⟩, h3, .inl ⟨hh, cur, hg, by rw [hcs, e3], by rw [htk]; exact h5⟩⟩, e2, fun _ => e1⟩
    ·simp at h1
  ·simp only [OLoc.sv, Value.slice.injEq] at h2
   exact ⟨⟨by simp, ⟨by simp, by rw [h2.2.2]; exact Nat.zero_le _⟩, by simp, .inr ⟨h1, h2.2.2⟩⟩, by simpa using h2.2.1, by simp [h1]⟩
 ·rintro ⟨⟨h1, ⟨h2, h2'⟩, h3, h4⟩, h5, h6⟩
  rcases h4 with ⟨hh, cur, hg, hcs, hr⟩ | ⟨hh, h0⟩
  ·have hsv : l.sv = .slice (some ⟨l.blk, 0, none⟩) xs.length l.sc := by simp [OLoc.sv, h6 hh, h5]
   refine .inl ⟨by rw [hsv, hh]; rfl, h2, h3, _, ⟨?_, .inr ⟨l.blk, l.sc, cur, hsv, Nat.zero_le _, hg, h1, h2', hcs, rfl⟩⟩, hr⟩
   have hz : cur.toList.length = l.sc * es := by simpa using hcs
   rw [List.length_take, hz]
   exact Nat.min_eq_left (Nat.mul_le_mul_right _ h1)
  ·have : xs = [] := List.eq_nil_of_length_eq_zero (by omega)
   subst this
   exact .inr ⟨hh, rfl, l.sa, by simp [OLoc.sv, h0, h5]⟩
theorem o3q {c : Option Nat} {w : World} {S : Nat → Prop} {β : Nat → OLoc} {l : OLoc} {E es : Nat} {xs : List (List Da)} : ObRep w S β l (mkP c E es xs) ↔ PRep w S l E es xs ∧ ahiq c l xs.length := by
 cases c with
 | none => exact a3lq
 | some c =>
  constructor
  ·rintro ⟨h1, h2, h3, h4, h5⟩
   subst h1
   exact ⟨⟨h2, h3, h4, h5⟩, rfl⟩
  ·rintro ⟨⟨h2, h3, h4, h5⟩, h1⟩
   have h1 : l.sc = c := h1
   subst h1
   exact ⟨rfl, h2, h3, h4, h5⟩
theorem a9Gq {xs : List (List Da)} {lo m : Nat} : xs.flatten = (xs.take lo).flatten ++ (((xs.drop lo).take m).flatten ++ (xs.drop (lo + m)).flatten) := by
 rw [← List.flatten_append, ← List.flatten_append]
 congr 1
 rw [← List.drop_drop, List.take_append_drop, List.take_append_drop]
theorem PRep.part {w : World} {S : Nat → Prop} {l : OLoc} {E es lo m : Nat} {xs : List (List Da)} (h : PRep w S l E es xs) (hlo : lo + m ≤ xs.length) :
  ∃ vs : List Value, vs.length = m * es ∧ RepDs w S ((xs.drop lo).take m).flatten vs ∧ (0 < m → l.has = true) ∧ ∀ j u, vs[j]? = some u → w.cell? ⟨l.blk, lo * es + j, none⟩ = some u := by
 obtain ⟨h1, _, h3, h4⟩ := h
 by_cases hm : m = 0
 ·subst hm
  exact ⟨[], by simp, by simpa using RepDs.nil, by omega, by simp⟩
 ·rcases h4 with ⟨hh, cur, hg, hcs, hr⟩ | ⟨_, h0⟩
  ·rw [a9Gq (lo := lo) (m := m)] at hr
   obtain ⟨v1, v2, e, d1, d2⟩ := hr.split
   obtain ⟨v3, v4, rfl, d3, d4⟩ := d2.split
   have l1 : v1.length = lo * es := by rw [d1.len, i0q h3 (by omega)]
   have l3 : v3.length = m * es := by
    rw [d3.len, q1q (es := es) (fun y hy => h3 y (List.mem_of_mem_drop (List.mem_of_mem_take hy))), List.length_take, List.length_drop, Nat.min_eq_left (by omega)]
   refine ⟨v3, l3, d3, fun _ => hh, fun j u hu => ?_⟩
   have hj : j < v3.length := (List.getElem?_eq_some_iff.1 hu).1
   rw [n7q hg, ← Array.getElem?_toList]
   have : (cur.toList.take (xs.length * es))[lo * es + j]? = some u := by
    rw [e, List.getElem?_append_right (by omega), l1, Nat.add_sub_cancel_left, List.getElem?_append_left hj]; exact hu
   rw [List.getElem?_take] at this
   split at this
   ·exact this
   ·cases this
  ·omega
theorem PRep.put {w : World} {S : Nat → Prop} {l : OLoc} {E es lo : Nat} {xs ys : List (List Da)} {us : List Value} {cur : Array Value} (h : PRep w S l E es xs) (hh : l.has = true) (hg : w.heap[l.blk]? = some (.cells cur E (0, 0))) (hnS : ¬ S l.blk) (hlo : lo ≤ xs.length) (hc : lo + ys.length ≤ l.sc) (h48 : lo + ys.length ≤ 281474976710656) (hes : ∀ y ∈ ys, y.length = es) (hr : RepDs w S ys.flatten us) :
  PRep (w.setRow l.blk (cur.toList.take (lo * es) ++ us ++ cur.toList.drop (lo * es + us.length)).toArray) S l E es (xs.take lo ++ ys ++ xs.drop (lo + ys.length)) := by
 obtain ⟨h1, ⟨h2, h2'⟩, h3, h4⟩ := h
 rcases h4 with ⟨_, cur', hg', hcs, hd⟩ | ⟨hf, _⟩
 rotate_left
 ·rw [hh] at hf; cases hf
 have : cur' = cur := by rw [hg] at hg'; simpa using hg'.symm
 subst this
 have hS : ∀ b, S b → (w.setRow l.blk (cur'.toList.take (lo * es) ++ us ++ cur'.toList.drop (lo * es + us.length)).toArray).heap[b]? = w.heap[b]? := fun b hb => setRow_other w _ b _ fun e => hnS (e ▸ hb)
 have lus : us.length = ys.length * es := by rw [hr.len, q1q hes]
 have hlen : (xs.take lo ++ ys ++ xs.drop (lo + ys.length)).length = max xs.length (lo + ys.length) := by
  simp only [List.length_append, List.length_take, List.length_drop]; omega
 have hall : ∀ x ∈ xs.take lo ++ ys ++ xs.drop (lo + ys.length), x.length = es := fun x hx => by
  rcases List.mem_append.1 hx with hx | hx
  ·rcases List.mem_append.1 hx with hx | hx
   ·exact h3 x (List.mem_of_mem_take hx)
   ·exact hes x hx
  ·exact h3 x (List.mem_of_mem_drop hx)
 have hcz : cur'.toList.length = l.sc * es := by simpa using hcs
 have e1 : lo * es ≤ l.sc * es := Nat.mul_le_mul_right _ (by omega)
 have e2 : lo * es + ys.length * es ≤ l.sc * es := by rw [← Nat.add_mul]; exact Nat.mul_le_mul_right _ hc
 refine ⟨by rw [hlen]; omega, ⟨by rw [hlen]; omega, h2'⟩, hall, .inl ⟨hh, _, setRow_heap w _ cur' _ E _ hg, ?_, ?_⟩⟩
 ·simp only [List.size_toArray, List.length_append, List.length_take, List.length_drop, hcz, lus]; omega
 ·simp only [List.toList_toArray]
  rw [hlen]
  rw [a9Gq (lo := lo) (m := ys.length)] at hd
  obtain ⟨v1, v2, e, d1, d2⟩ := hd.split
  obtain ⟨v3, v4, rfl, d3, d4⟩ := d2.split
  have l1 : v1.length = lo * es := by rw [d1.len, i0q h3 hlo]
  have l3 : v3.length = (min ys.length (xs.length - lo)) * es := by
   rw [d3.len, q1q (es := es) (fun y hy => h3 y (List.mem_of_mem_drop (List.mem_of_mem_take hy))), List.length_take, List.length_drop]
  have l4 : v4.length = (xs.length - (lo + ys.length)) * es := by
   rw [d4.len, q1q (es := es) (fun y hy => h3 y (List.mem_of_mem_drop hy)), List.length_drop]
  have e3 : xs.length * es ≤ l.sc * es := Nat.mul_le_mul_right _ h1
  have hcur : cur'.toList = v1 ++ (v3 ++ v4) ++ cur'.toList.drop (xs.length * es) := by rw [← e]; exact (List.take_append_drop _ _).symm
  have key : (cur'.toList.take (lo * es) ++ us ++ cur'.toList.drop (lo * es + us.length)).take (max xs.length (lo + ys.length) * es) = v1 ++ us ++ v4 := by
   have t1 : cur'.toList.take (lo * es) = v1 := by
    rw [hcur, List.append_assoc]
    exact List.take_left' l1
   rw [t1]
   by_cases hb : lo + ys.length ≤ xs.length
   ·have m1 : max xs.length (lo + ys.length) = xs.length := by omega
    have l3' : v3.length = ys.length * es := by rw [l3, Nat.min_eq_left (by omega)]
    have t2 : cur'.toList.drop (lo * es + us.length) = v4 ++ cur'.toList.drop (xs.length * es) := by
     conv => lhs; rw [hcur]
     rw [List.append_assoc, ← List.append_assoc v1, List.append_assoc, ← List.append_assoc, List.append_assoc]
     rw [show v1 ++ (v3 ++ v4 ++ cur'.toList.drop (xs.length * es)) = (v1 ++ v3) ++ (v4 ++ cur'.toList.drop (xs.length * es)) by simp [List.append_assoc]]
     exact List.drop_left' (by rw [List.length_append, l1, l3', lus])
    rw [t2, m1, ← List.append_assoc]
    refine List.take_left' ?_
    have hle : xs.length = lo + (ys.length + (xs.length - (lo + ys.length))) := by omega
    rw [List.length_append, List.length_append, l1, lus, l4]
    conv => rhs; rw [hle]
    rw [Nat.add_mul, Nat.add_mul, Nat.add_assoc]
   ·have m1 : max xs.length (lo + ys.length) = lo + ys.length := by omega
    have : v4 = [] := List.eq_nil_of_length_eq_zero (by rw [l4, show xs.length - (lo + ys.length) = 0 by omega]; simp)
    rw [this, m1, List.append_nil]
    refine List.take_left' ?_
    rw [List.length_append, l1, lus, Nat.add_mul]
  rw [key, List.flatten_append, List.flatten_append]
  exact ((d1.app hr).app d4).mono hS fun _ h => h
section
variable {Γ : Cx} {P : Program} {ops : Array Oper} {rest : List Oper} {o : Oper} {K : St → Prop} {s : St} {t : TypeId} {x z : Operand} {av : Operand → Option AV}
theorem aeOq {k es lo n : Nat} {e : TypeId} (ho : o.op = .call { callee := .builtin .len, args := #[x], argTypes := #[t] }) (ht : P.underlying t = some (.slice e)) (hx : av x = some (.one (.ps k es lo n))) : OpP P o av [] (Z n) [] := by
 refine b9q fun a w S β _ hr hu => ⟨goInt n, ?_, RepV.int _ _⟩
 have h := (hr x _ hx (by simp [ho, Op.operands, Call.operands])).one_inv
 generalize hv : a.eval x = v at h
 cases h
 simp [execOp, ho, resolve, invoke, builtin, hv, Builtin.len_, run_underlying ht]
theorem aevq {k E es es' lo n c : Nat} {xs : List (List Da)} {e : TypeId} (ho : o.op = .call { callee := .builtin .cap, args := #[x], argTypes := #[t] }) (ht : P.underlying t = some (.slice e)) (hx : av x = some (.one (.ps k es lo n))) : OpP P o av [(k, .fu E es' xs c)] (Z ((c - lo : Nat) : Int)) [] := by
 refine b9q fun a w S β _ hr hu => ⟨goInt (c - lo : Nat), ?_, RepV.int _ _⟩
 have h := (hr x _ hx (by simp [ho, Op.operands, Call.operands])).one_inv
 have hc : (β k).sc = c := (hu (k, .fu E es' xs c) (by simp)).1
 generalize hv : a.eval x = v at h
 cases h with
 | ps h1 h2 h3 =>
  rename_i c'
  have : c' = c - lo := by omega
  subst this
  simp [execOp, ho, resolve, invoke, builtin, hv, Builtin.cap_, run_underlying ht]
theorem aeRq {e : TypeId} (ho : o.op = .call { callee := .builtin .cap, args := #[x], argTypes := #[t] }) (ht : P.underlying t = some (.slice e)) (hx : av x = some (.one .e0)) : OpP P o av [] (Z 0) [] := by
 refine b9q fun a w S β _ hr hu => ⟨goInt 0, ?_, RepV.int _ _⟩
 have h := (hr x _ hx (by simp [ho, Op.operands, Call.operands])).one_inv
 generalize hv : a.eval x = v at h
 cases h
 simp [execOp, ho, resolve, invoke, builtin, hv, Builtin.cap_, run_underlying ht]
theorem acPq {k' es lo m : Nat} {k : IntKind} {n : Nat} {e : TypeId} {j : TypeInfo} (ho : o.op = .indexAddr t x z) (ht : P.underlying t = some (.slice e)) (hj : P.info? e = some j) (hes : j.size = es) (hx : av x = some (.one (.ps k' es lo m))) (hz : av z = some (I k (n : Int)))
  (hn : n < m) : OpP P o av [] (.one (.op k' ((lo + n) * es))) [] := by
 refine b9q fun a w S β _ hr hu => ⟨.pointer (some ⟨(β k').blk, (lo + n) * es, none⟩), ?_, RepV.one .op⟩
 have ez := (hr z _ hz (by simp [ho, Op.operands])).int_inv
 have h := (hr x _ hx (by simp [ho, Op.operands])).one_inv
 generalize hv : a.eval x = v at h
 cases h with
 | ps h1 h2 h3 =>
  have ha := h3 (by omega)
  subst ha
  subst hes
  simp [execOp, ho, hv, ez, Instr.indexAt, run_underlying ht, asIntOf, sizeOf, typeInfo, hj, hn, Nat.not_le.2 hn, n3q, Nat.add_mul]
theorem K1q {k0 es lo n : Nat} {lo' hi : Option Operand} {k k' : IntKind} {l h c : Nat} {X0 : Ob} {e : TypeId} {j : TypeInfo} (hX : ∀ w S β, ObRep w S β (β k0) X0 → c ≤ (β k0).sc) (ho : o.op = .slice t x lo' hi none) (ht : P.underlying t = some (.slice e)) (hj : P.info? e = some j) (hes : j.size = es) {X : AV} (hx : av x = some X) (hxr : ∀ w S β v, ObRep w S β (β k0) X0 → RepV w S β X v → RepA w S β (.ps k0 es lo n) v)
  (hlo : (lo' = none ∧ l = 0) ∨ ∃ u, lo' = some u ∧ av u = some (I k (l : Int))) (hhi : (hi = none ∧ h = n) ∨ ∃ u, hi = some u ∧ av u = some (I k' (h : Int))) (hlh : l ≤ h) (hs : h ≤ n ∨ lo + h ≤ c) : OpP P o av [(k0, X0)] (.one (.ps k0 es (lo + l) (h - l))) [] := by
 refine b9q fun a w S β _ hr hu => ?_
 have h0 := hxr _ _ _ _ (hu (k0, X0) (by simp)) (hr x _ hx (by simp [ho, Op.operands]))
 have hcs := hX w S β (hu (k0, X0) (by simp))
 generalize hv0 : a.eval x = v at h0
 cases h0 with
 | @ps _ _ _ _ ad cap h1 h2 h3 =>
  have hc : h ≤ cap := by omega
  refine ⟨.slice (if cap = l then ad else ad.map (·.add (l * j.size))) (h - l) (cap - l), ?_, RepV.one (.ps (by omega) (by omega) fun hp => ?_)⟩
  ·rcases hlo with ⟨rfl, rfl⟩ | ⟨u, rfl, hu⟩ <;> rcases hhi with ⟨rfl, rfl⟩ | ⟨v, rfl, hv⟩
   ·simp [execOp, ho, hv0, Instr.sliceAt, Instr.slice, run_underlying ht, Instr.sliceBounds, sizeOf, typeInfo, hj]
   ·have e3 := (hr v _ hv (by simp [ho, Op.operands])).int_inv
    simp [execOp, ho, hv0, e3, Instr.sliceAt, Instr.slice, run_underlying ht, Instr.sliceBounds, Instr.sliceBound, asIntOf, hc, Nat.not_lt.2 hc, sizeOf, typeInfo, hj]
   ·have e2 := (hr u _ hu (by simp [ho, Op.operands])).int_inv
    simp [execOp, ho, hv0, e2, Instr.sliceAt, Instr.slice, run_underlying ht, Instr.sliceBounds, Instr.sliceBound, asIntOf, hlh, Nat.not_lt.2 hlh, sizeOf, typeInfo, hj]
   ·have e2 := (hr u _ hu (by simp [ho, Op.operands])).int_inv
    have e3 := (hr v _ hv (by simp [ho, Op.operands])).int_inv
    simp [execOp, ho, hv0, e2, e3, Instr.sliceAt, Instr.slice, run_underlying ht, Instr.sliceBounds, Instr.sliceBound, asIntOf, hc, hlh, Nat.not_lt.2 hc, Nat.not_lt.2 hlh, sizeOf, typeInfo, hj]
  ·have ha := h3 (by omega)
   subst ha
   rw [if_neg (by omega)]
   simp [n3q, hes, Nat.add_mul]
theorem acnq {k0 es lo n : Nat} {lo' hi mx : Operand} {k k' k2 : IntKind} {l h m : Nat} {e : TypeId} {j : TypeInfo} (ho : o.op = .slice t x (some lo') (some hi) (some mx)) (ht : P.underlying t = some (.slice e)) (hj : P.info? e = some j) (hx : av x = some (.one (.ps k0 es lo n)))
  (h1 : av lo' = some (I k (l : Int))) (h2 : av hi = some (I k' (h : Int))) (h3 : av mx = some (I k2 (m : Int))) (hlh : l ≤ h) (hhm : h ≤ m) (hm : m ≤ n) : OpP P o av [] (.one .junk) [] := by
 refine b9q fun a w S β _ hr _ => ?_
 have h0 := (hr x _ hx (by simp [ho, Op.operands])).one_inv
 generalize hv0 : a.eval x = v at h0
 cases h0 with
 | @ps _ _ _ _ ad cap g1 g2 g3 =>
  have hc : m ≤ cap := by omega
  have e1 := (hr lo' _ h1 (by simp [ho, Op.operands])).int_inv
  have e2 := (hr hi _ h2 (by simp [ho, Op.operands])).int_inv
  have e3 := (hr mx _ h3 (by simp [ho, Op.operands])).int_inv
  refine ⟨.slice (if m = l then ad else ad.map (·.add (l * j.size))) (h - l) (m - l), ?_, RepV.one .junk⟩
  simp [execOp, ho, hv0, e1, e2, e3, Instr.sliceAt, Instr.slice, run_underlying ht, Instr.sliceBounds, Instr.sliceBound, asIntOf, hc, hlh, hhm, sizeOf, typeInfo, hj]
theorem acRq {lo' hi : Option Operand} {k k' : IntKind} {e : TypeId} {j : TypeInfo} (ho : o.op = .slice t x lo' hi none) (ht : P.underlying t = some (.slice e)) (hj : P.info? e = some j) (hx : av x = some (.one .e0))
  (hlo : lo' = none ∨ ∃ u, lo' = some u ∧ av u = some (I k 0)) (hhi : hi = none ∨ ∃ u, hi = some u ∧ av u = some (I k' 0)) : OpP P o av [] (.one .e0) [] := by
 refine b9q fun a w S β _ hr hu => ?_
 have h0 := (hr x _ hx (by simp [ho, Op.operands])).one_inv
 generalize hv0 : a.eval x = v at h0
 cases h0
 refine ⟨.slice none 0 0, ?_, RepV.one .e0⟩
 rcases hlo with rfl | ⟨u, rfl, hu⟩ <;> rcases hhi with rfl | ⟨v, rfl, hv⟩
 ·simp [execOp, ho, hv0, Instr.sliceAt, Instr.slice, run_underlying ht, Instr.sliceBounds, sizeOf, typeInfo, hj]
 ·have e3 := (hr v _ hv (by simp [ho, Op.operands])).int_inv
  simp [execOp, ho, hv0, e3, Instr.sliceAt, Instr.slice, run_underlying ht, Instr.sliceBounds, Instr.sliceBound, asIntOf, sizeOf, typeInfo, hj]
 ·have e2 := (hr u _ hu (by simp [ho, Op.operands])).int_inv
  simp [execOp, ho, hv0, e2, Instr.sliceAt, Instr.slice, run_underlying ht, Instr.sliceBounds, Instr.sliceBound, asIntOf, sizeOf, typeInfo, hj]
 ·have e2 := (hr u _ hu (by simp [ho, Op.operands])).int_inv
  have e3 := (hr v _ hv (by simp [ho, Op.operands])).int_inv
  simp [execOp, ho, hv0, e2, e3, Instr.sliceAt, Instr.slice, run_underlying ht, Instr.sliceBounds, Instr.sliceBound, asIntOf, sizeOf, typeInfo, hj]
theorem RepA.ps_of_ol {w : World} {S : Nat → Prop} {β : Nat → OLoc} {k E es : Nat} {xs : List (List Da)} {v : Value} (hX : ObRep w S β (β k) (.lst E es xs)) (h : RepA w S β (.ol k) v) : RepA w S β (.ps k es 0 xs.length) v := by
 cases h
 obtain ⟨⟨h1, _, _, h4⟩, h5, h6⟩ := a3lq.1 hX
 simp only [OLoc.sv]
 rw [h5]
 refine .ps h1 (by omega) fun hp => ?_
 rcases h4 with ⟨hh, _⟩ | ⟨_, h0⟩
 ·rw [h6 hh]; simp
 ·omega
end
theorem r3q (P : Program) (w : World) (a : Addr) : (loadCells a 0).run P w = .ok #[] w := by
 have := run_loadCells_list (P := P) w a [] (by simp)
 simpa using this
theorem a30q (P : Program) (w : World) (a : Addr) (i : Nat) : (storeCells a [] i).run P w = .ok () w := by
 simp [storeCells]
theorem Src.of_part {w : World} {S : Nat → Prop} {β : Nat → OLoc} {k E es lo n : Nat} {c : Option Nat} {xs : List (List Da)} {v : Value} (hX : ObRep w S β (β k) (mkP c E es xs)) (h : RepA w S β (.ps k es lo n) v) (hl : lo + n ≤ xs.length) :
  Src w (RepDs w S ((xs.drop lo).take n).flatten) es ((xs.drop lo).take n).length v := by
 obtain ⟨hp, _⟩ := o3q.1 hX
 have hlen : ((xs.drop lo).take n).length = n := by rw [List.length_take, List.length_drop]; omega
 obtain ⟨vs, h1, h2, h3, h4⟩ := hp.part hl
 cases h with
 | @ps _ _ _ _ a cap g1 g2 g3 =>
  rw [hlen]
  refine ⟨by have := hp.2.1.1; omega, ?_⟩
  by_cases hn : n = 0
  ·subst hn
   exact .inl ⟨a, cap, rfl, rfl, by simpa using RepDs.nil⟩
  ·have ha := g3 (by omega)
   subst ha
   exact .inr ⟨_, cap, vs, rfl, h1, ⟨h2, h2.oneCells⟩, fun j u hu => by rw [n3q]; exact h4 j u hu⟩
theorem Src.first {w : World} {S : Nat → Prop} {es m : Nat} {ys : List (List Da)} {v : Value} (h : Src w (RepDs w S ys.flatten) es ys.length v) (hes : ∀ y ∈ ys, y.length = es) (hm : m ≤ ys.length) :
  ∃ us, us.length = m * es ∧ RepDs w S (ys.take m).flatten us ∧ ∀ P : Program, (Builtin.lenOf v).run P w = .ok ys.length w ∧ (Builtin.firstCells es m v).run P w = .ok us.toArray w := by
 rcases h.val with ⟨a, c, rfl, h0, _⟩ | ⟨a, c, us, rfl, h1, ⟨h2, _⟩, h3⟩
 ·have : m = 0 := by omega
  subst this
  refine ⟨[], by simp, by simpa using RepDs.nil, fun P => ⟨by simp [Builtin.lenOf, h0], ?_⟩⟩
  cases a with
  | none => simp [Builtin.firstCells]
  | some a => simpa [Builtin.firstCells] using r3q P w a
 ·have e : ys.flatten = (ys.take m).flatten ++ (ys.drop m).flatten := by rw [← List.flatten_append, List.take_append_drop]
  rw [e] at h2
  obtain ⟨v1, v2, rfl, d1, d2⟩ := h2.split
  have l1 : v1.length = m * es := by rw [d1.len, i0q hes hm]
  refine ⟨v1, l1, d1, fun P => ⟨by simp [Builtin.lenOf], ?_⟩⟩
  have := run_loadCells_list (P := P) w a v1 (fun j u hu => h3 j u (by rw [List.getElem?_append_left (List.getElem?_eq_some_iff.1 hu).1]; exact hu))
  rw [l1] at this
  simpa [Builtin.firstCells] using this
theorem abQq {w : World} {S : Nat → Prop} {β : Nat → OLoc} {k E es lo n m : Nat} {c : Option Nat} {xs : List (List Da)} {v : Value} (hX : ObRep w S β (β k) (mkP c E es xs)) (h : RepA w S β (.ps k es lo n) v) (hl : lo + m ≤ xs.length) :
  ∃ us, us.length = m * es ∧ RepDs w S ((xs.drop lo).take m).flatten us ∧ ∀ P : Program, (Builtin.lenOf v).run P w = .ok n w ∧ (m ≤ n → (Builtin.firstCells es m v).run P w = .ok us.toArray w) := by
 obtain ⟨hp, _⟩ := o3q.1 hX
 obtain ⟨vs, h1, h2, h3, h4⟩ := hp.part hl
 cases h with
 | @ps _ _ _ _ a cap g1 g2 g3 =>
  refine ⟨vs, h1, h2, fun P => ⟨by simp [Builtin.lenOf], fun hmn => ?_⟩⟩
  by_cases hm : m = 0
  ·subst hm
   have : vs = [] := List.eq_nil_of_length_eq_zero (by simpa using h1)
   subst this
   cases a with
   | none => simp [Builtin.firstCells]
   | some a => simpa [Builtin.firstCells] using r3q P w a
  ·have ha := g3 (by omega)
   subst ha
   have := run_loadCells_list (P := P) w ⟨(β k).blk, lo * es, none⟩ vs (fun j u hu => by rw [n3q]; exact h4 j u hu)
   rw [h1] at this
   simpa [Builtin.firstCells] using this
section
variable {Γ : Cx} {P : Program} {o : Oper} {s : St} {t t' : TypeId} {x z : Operand}
theorem Sim.putP {a : Act} {w : World} {S : Nat → Prop} {β : Nat → OLoc} {k E es lo : Nat} {c : Option Nat} {xs ys : List (List Da)} {us : List Value} {ad : Option Addr} {n cap : Nat} (hs : Sim Γ s a w S β) (hk : s.gob k = some (mkP c E es xs)) (hv : RepA w S β (.ps k es lo n) (.slice ad n cap)) (hlo : lo ≤ xs.length) (hn : ys.length ≤ cap) (hroom : c = none → lo + ys.length ≤ xs.length) (h48 : lo + ys.length ≤ 281474976710656)
  (hes : ∀ y ∈ ys, y.length = es) (hr : RepDs w S ys.flatten us) (hl : us.length = ys.length * es) : ∃ w', (∀ b, ad = some b → (storeCells b us).run P w = .ok () w') ∧ (ad = none → w' = w) ∧ Sim Γ (s.setOb k (mkP c E es (xs.take lo ++ ys ++ xs.drop (lo + ys.length)))) a w' S β := by
 have hX := hs.mem.ob k _ hk
 obtain ⟨hp, hside⟩ := o3q.1 hX
 have same : ys.length = 0 → Sim Γ (s.setOb k (mkP c E es (xs.take lo ++ ys ++ xs.drop (lo + ys.length)))) a w S β := fun h0 => by
  have : ys = [] := List.eq_nil_of_length_eq_zero h0
  subst this
  simp only [List.append_nil, List.length_nil, Nat.add_zero, List.take_append_drop]
  exact hs.setX hk fun h => h
 cases hv with
 | ps g1 g2 g3 =>
  by_cases h0 : ys.length = 0
  ·have hu : us = [] := List.eq_nil_of_length_eq_zero (by rw [hl, h0]; simp)
   subst hu
   exact ⟨w, fun b _ => a30q P w b 0, fun _ => rfl, same h0⟩
  ·have ha := g3 (by omega)
   have hh : (β k).has = true := by
    rcases hp.2.2.2 with ⟨hh, _⟩ | ⟨_, hz⟩
    ·exact hh
    ·omega
   obtain ⟨cur, hg, hcs⟩ : ∃ cur, w.heap[(β k).blk]? = some (.cells cur E (0, 0)) ∧ cur.size = (β k).sc * es := by
    rcases hp.2.2.2 with ⟨_, cur, h1, h2, _⟩ | ⟨_, hz⟩
    ·exact ⟨cur, h1, h2⟩
    ·omega
   have hnS := (hs.mem.own k _ hk _ (.inl ⟨hh, rfl⟩)).2.1
   have hput := hp.put hh hg hnS hlo (by omega) h48 hes hr
   refine ⟨_, fun b hb => ?_, fun hn => ?_, hs.setRow hk hh hg (o3q.2 ⟨hput, ?_⟩)⟩
   ·rw [ha] at hb
    cases hb
    have e2 : lo * es + us.length ≤ cur.size := by rw [hl, hcs, ← Nat.add_mul]; exact Nat.mul_le_mul_right _ (by omega)
    have := run_storeCells_at P (β k).blk (lo * es) E us 0 cur w hg (by simpa using e2) hr.oneCells
    simpa using this
   ·rw [ha] at hn; cases hn
   ·cases c with
    | none =>
     have := hroom rfl
     refine ⟨?_, hside.2⟩
     rw [hside.1]
     simp only [List.length_append, List.length_take, List.length_drop]
     omega
    | some c => exact hside
theorem a7iq {k E es lo n nn : Nat} {c : Option Nat} {xs ys : List (List Da)} {i : TypeInfo} (ho : o.op = .call { callee := .builtin .copy, args := #[x, z], argTypes := #[t, t'] }) (hd : o.dst.all (· < Γ.n) = true) (ht : P.underlying t = some (.slice E)) (hi : P.info? E = some i) (hes : i.size = es) (hx : s.ev x = some (.one (.ps k es lo n))) (hk : s.gob k = some (mkP c E es xs))
  (hsrc : ∀ a w S β, Sim Γ s a w S β → (∀ y ∈ ys, y.length = es) ∧ ∃ us, us.length = min nn n * es ∧ RepDs w S ys.flatten us ∧ ∀ P : Program, (Builtin.lenOf (a.eval z)).run P w = .ok nn w ∧ (Builtin.firstCells es (min nn n) (a.eval z)).run P w = .ok us.toArray w) (hyl : ys.length = min nn n) (hlo : lo ≤ xs.length) (hroom : c = none → lo + min nn n ≤ xs.length) (h48 : lo + min nn n ≤ 281474976710656) :
  XOp Γ P o s ((s.setOb k (mkP c E es (xs.take lo ++ ys ++ xs.drop (lo + min nn n)))).upd o.dst (Z ((min nn n : Nat) : Int)) []) := by
 intro a w S β K' R hs hK
 have hv := (hs.eval hx).one_inv
 obtain ⟨hyes, us, h1, h2, h3⟩ := hsrc a w S β hs
 obtain ⟨r1, r2⟩ := h3 P
 generalize hva : a.eval x = v at hv
 obtain ⟨ad, cap, rfl, hnc⟩ : ∃ ad cap, v = .slice ad n cap ∧ n ≤ cap := by cases hv; exact ⟨_, _, rfl, by assumption⟩
 obtain ⟨w', g1, g2, g3⟩ := hs.putP (P := P) (ys := ys) hk hv hlo (by rw [hyl]; omega) (by rw [hyl]; exact hroom) (by rw [hyl]; exact h48) hyes h2 (by rw [h1, hyl])
 rw [hyl] at g3
 have he : (execOp a.eval o).run P w = .ok (.value (goInt (min nn n : Nat))) w' := by
  have hm : Nat.min nn n = min nn n := rfl
  have hz : (sizeOf E).run P w = .ok es w := by simp [sizeOf, typeInfo, hi, hes]
  cases ad with
  | none =>
   have := g2 rfl
   subst this
   simp [execOp, ho, resolve, invoke, builtin, hva, Builtin.copy_, run_underlying ht, hz, r1, hm, r2]
  | some b =>
   have := g1 b rfl
   simp [execOp, ho, resolve, invoke, builtin, hva, Builtin.copy_, run_underlying ht, hz, r1, hm, r2, this]
 unfold Oper.wp
 rw [he, Oper.upon_value]
 exact hK _ _ S β (g3.upd (Grow.refl g3.mem.lt) (RepV.int _ _) hd rfl)
end
theorem a2iq (z : Array Value) (hz : 0 < z.size) (n : Nat) : (Builtin.zeroCells z n).toList = (List.replicate n z.toList).flatten := B5q z hz n
theorem a8Lq {P : Program} {w : World} {S : Nat → Prop} {e : TypeId} {n b m : Nat} {cs : List At} {zd : List Da} {j : TypeInfo} {zv : Value} (hz : zv.cells.size = n) (hpos : 0 < n) (hc : n1q zv.cells.toList = some cs) (hzd : toDs cs = some zd) :
  RepDs w S (List.replicate m zd).flatten (Builtin.zeroCells zv.cells m).toList ∧ zd.length = n := by
 have hzr : RepDs w S zd zv.cells.toList := (z0q (w := w) (S := S) (β := fun _ => ⟨0, none, 0, 0, false, [], []⟩) hc).toDs hzd
 refine ⟨?_, by have := hzr.len; simp at this; omega⟩
 rw [a2iq _ (by omega)]
 exact a17q hzr m
section
variable {Γ : Cx} {P : Program} {o : Oper} {s : St} {t t' : TypeId} {x z : Operand}
theorem aciq {k E es lo n b : Nat} {c : Option Nat} {xs : List (List Da)} {cs : List At} {zd : List Da} (hz : ZeroOk P E es b cs) (hzd : toDs cs = some zd) (hpos : 0 < es) (ho : o.op = .call { callee := .builtin .clear, args := #[x], argTypes := #[t] }) (hd : o.dst.all (· < Γ.n) = true) (ht : P.underlying t = some (.slice E)) (hx : s.ev x = some (.one (.ps k es lo n))) (hk : s.gob k = some (mkP c E es xs))
  (hl : lo + n ≤ xs.length) : XOp Γ P o s ((s.setOb k (mkP c E es (xs.take lo ++ List.replicate n zd ++ xs.drop (lo + n)))).upd o.dst (.tup []) []) := by
 intro a w S β K' R hs hK
 obtain ⟨j, zv, z1, z2, z3, z4, z5, z6⟩ := hz
 have hv := (hs.eval hx).one_inv
 generalize hva : a.eval x = v at hv
 obtain ⟨ad, cap, rfl, hnc⟩ : ∃ ad cap, v = .slice ad n cap ∧ n ≤ cap := by cases hv; exact ⟨_, _, rfl, by assumption⟩
 obtain ⟨hzr, hzl⟩ := a8Lq (P := P) (w := w) (S := S) (e := E) (b := b) (m := n) (j := j) z5 hpos z6 hzd
 have hp := o3q.1 (hs.mem.ob k _ hk)
 obtain ⟨w', g1, g2, g3⟩ := hs.putP (P := P) (ys := List.replicate n zd) hk hv (by omega) (by simpa using hnc) (fun _ => by simpa using hl) (by have := hp.1.2.1.1; simp; omega) (fun y hy => by rw [List.eq_of_mem_replicate hy, hzl]) hzr (by simp [size_zeroCells, z5])
 simp only [List.length_replicate] at g3
 have he : (execOp a.eval o).run P w = .ok (.value (.tuple #[])) w' := by
  have hzv : ∀ w, (zeroValue E).run P w = .ok zv w := fun w => by simp [zeroValue, typeInfo, z1, z4]
  cases ad with
  | none =>
   have := g2 rfl
   subst this
   simp [execOp, ho, resolve, invoke, builtin, hva, Builtin.clear_, run_underlying ht]
  | some b =>
   have h1 := g1 b rfl
   cases n with
   | zero =>
    have h0 : (Builtin.zeroCells zv.cells 0).toList = [] := by simp [Builtin.zeroCells]
    rw [h0] at h1
    have : w' = w := by simpa [storeCells] using h1.symm
    subst this
    simp [execOp, ho, resolve, invoke, builtin, hva, Builtin.clear_, run_underlying ht]
   | succ n => simp [execOp, ho, resolve, invoke, builtin, hva, Builtin.clear_, run_underlying ht, hzv, h1]
 unfold Oper.wp
 rw [he, Oper.upon_value]
 exact hK _ _ S β (g3.upd (Grow.refl g3.mem.lt) (RepVs.tup .nil .nil) hd rfl)
theorem adBq {av : Operand → Option AV} {k off n E es c : Nat} {xs : List (List Da)} {r : List Da} {d : TypeDesc} {j : TypeInfo} (ho : o.op = .load t x) (ht : P.underlying t = some d) (hd : E0q d = true) (hj : P.info? t = some j) (hx : av x = some (.one (.op k off))) (hn : xs[n]? = some r) (hoff : off = n * es) (hc : j.size = es) : OpP P o av [(k, .fu E es xs c)] (.dat r) [] := by
 refine b9q fun a w S β _ hr hu => ?_
 have h := (hr x _ hx (by simp [ho, Op.operands])).one_inv
 have hnl : n < xs.length := (List.getElem?_eq_some_iff.1 hn).1
 obtain ⟨vs, g1, g2, _, g4⟩ := (o3q (c := some c).1 (hu (k, .fu E es xs c) (by simp))).1.part (lo := n) (m := 1) (by omega)
 have hrow : (xs.drop n).take 1 = [r] := by
  rw [List.take_one]
  simp [hn]
 rw [hrow] at g2
 simp only [List.flatten_cons, List.flatten_nil, List.append_nil] at g2
 generalize hv : a.eval x = v at h
 cases h
 refine ⟨.agg vs.toArray, ?_, RepVs.dat g2 RepVs.nil⟩
 have hld := run_loadCells_list (P := P) w ⟨(β k).blk, off, none⟩ vs (fun q u hu => by rw [n3q, hoff]; exact g4 q u hu)
 rw [show vs.length = j.size by rw [g1, hc]; simp] at hld
 simp only [execOp, ho, hv, Instr.loadAt, Instr.sureAddr, loadVar, Sem.run_bind, Sem.run_pure, Result.andThen_ok, n2q ht, hd, sizeOf, typeInfo, program, Sem.run, hj, hld, if_true]
theorem acIq {av : Operand → Option AV} {k off n E c : Nat} {xs : List (List Da)} {x0 : Da} {d : TypeDesc} (ho : o.op = .load t x) (ht : P.underlying t = some d) (hd : E0q d = false) (hx : av x = some (.one (.op k off))) (hn : xs[n]? = some [x0]) (hoff : off = n) : OpP P o av [(k, .fu E 1 xs c)] (.one (.d x0)) [] := by
 refine b9q fun a w S β _ hr hu => ?_
 have h := (hr x _ hx (by simp [ho, Op.operands])).one_inv
 have hnl : n < xs.length := (List.getElem?_eq_some_iff.1 hn).1
 obtain ⟨vs, g1, g2, _, g4⟩ := (o3q (c := some c).1 (hu (k, .fu E 1 xs c) (by simp))).1.part (lo := n) (m := 1) (by omega)
 have hrow : (xs.drop n).take 1 = [[x0]] := by
  rw [List.take_one]
  simp [hn]
 rw [hrow] at g2
 simp only [List.flatten_cons, List.flatten_nil, List.append_nil] at g2
 obtain ⟨u, rfl⟩ : ∃ u, vs = [u] := by
  match vs, g1 with
  | [u], _ => exact ⟨u, rfl⟩
 generalize hv : a.eval x = v at h
 cases h
 refine ⟨u, ?_, RepV.one (.d g2)⟩
 have hc := g4 0 u rfl
 simp only [Nat.mul_one, Nat.add_zero] at hc
 rw [← hoff] at hc
 simp [execOp, ho, hv, Instr.loadAt, Instr.sureAddr, loadVar, n2q ht, hd, run_load, hc]
end
section
variable {Γ : Cx} {P : Program} {o : Oper} {s : St} {t t' : TypeId} {x z : Operand}
structure a15q (P : Program) (s : St) (t' : TypeId) (E es : Nat) (zv : Value) (z : Operand) (ys : List (List Da)) : Prop where
  h : ∀ (Γ : Cx) (a : Act) (w : World) (S : Nat → Prop) (β : Nat → OLoc), Sim Γ s a w S β → (∀ y ∈ ys, y.length = es) ∧ ∃ us : List Value, us.length = ys.length * es ∧ RepDs w S ys.flatten us ∧
    ((∃ e', P.underlying t' = some (.slice e') ∧ (Builtin.lenOf (a.eval z)).run P w = .ok ys.length w ∧ (∀ w' : World, (Builtin.lenOf (a.eval z)).run P w' = .ok ys.length w') ∧ (Builtin.firstCells es ys.length (a.eval z)).run P w = .ok us.toArray w ∧ (Builtin.firstCells es ys.length (a.eval z)).run P w.drew = .ok us.toArray w.drew) ∨
     ∃ kn kq, P.underlying t' = some (.int kn) ∧ a.eval z = .int kq ys.length ∧ us = (Builtin.zeroCells zv.cells ys.length).toList)
theorem Src.firstD {w : World} {S : Nat → Prop} {es : Nat} {ys : List (List Da)} {v : Value} (h : Src w (RepDs w S ys.flatten) es ys.length v) :
  ∃ us, us.length = ys.length * es ∧ RepDs w S ys.flatten us ∧ ∀ P : Program, (∀ w' : World, (Builtin.lenOf v).run P w' = .ok ys.length w') ∧ (Builtin.firstCells es ys.length v).run P w = .ok us.toArray w ∧ (Builtin.firstCells es ys.length v).run P w.drew = .ok us.toArray w.drew := by
 rcases h.val with ⟨a, c, rfl, h0, h1⟩ | ⟨a, c, us, rfl, h1, ⟨h2, _⟩, h3⟩
 ·refine ⟨[], by simp [h0], h1, fun P => ⟨fun w' => by simp [Builtin.lenOf, h0], ?_⟩⟩
  rw [h0]
  cases a with
  | none => simp [Builtin.firstCells]
  | some a => exact ⟨by simpa [Builtin.firstCells] using r3q P w a, by simpa [Builtin.firstCells] using r3q P w.drew a⟩
 ·refine ⟨us, h1, h2, fun P => ⟨fun w' => by simp [Builtin.lenOf], ?_⟩⟩
  have := run_loadCells_list (P := P) w a us (fun j u hu => h3 j u hu)
  have this2 := run_loadCells_list (P := P) w.drew a us (fun j u hu => by simpa using h3 j u hu)
  rw [h1] at this this2
  exact ⟨by simpa [Builtin.firstCells] using this, by simpa [Builtin.firstCells] using this2⟩
theorem adiq {E es e' : Nat} {zv : Value} {ys : List (List Da)} (ht' : P.underlying t' = some (.slice e')) (h : ∀ (Γ : Cx) a w S β, Sim Γ s a w S β → (∀ y ∈ ys, y.length = es) ∧ Src w (RepDs w S ys.flatten) es ys.length (a.eval z)) : a15q P s t' E es zv z ys := ⟨fun Γ a w S β hs => by
 obtain ⟨hyes, h⟩ := h Γ a w S β hs
 obtain ⟨us, h1, h2, h3⟩ := h.firstD
 obtain ⟨r1, r2, r3⟩ := h3 P
 exact ⟨hyes, us, h1, h2, .inl ⟨e', ht', r1 w, r1, r2, r3⟩⟩⟩
theorem a9Aq {E es b m : Nat} {kn kq : IntKind} {zv : Value} {cs : List At} {zd : List Da} (ht' : P.underlying t' = some (.int kn)) (hz : zv.cells.size = es) (hpos : 0 < es) (hc : n1q zv.cells.toList = some cs) (hzd : toDs cs = some zd) (hz1 : s.ev z = some (I kq (m : Int))) : a15q P s t' E es zv z (List.replicate m zd) := ⟨fun Γ a w S β hs => by
 obtain ⟨h1, h2⟩ := a8Lq (P := P) (w := w) (S := S) (e := E) (b := b) (m := m) (j := default) hz hpos hc hzd
 have := (hs.eval hz1).int_inv
 exact ⟨fun y hy => by rw [List.eq_of_mem_replicate hy, h2], _, by simp [size_zeroCells, hz], h1, .inr ⟨kn, kq, ht', by simpa using this, by simp⟩⟩⟩
theorem a7gq {k E es lo n b : Nat} {c : Option Nat} {xs ys : List (List Da)} {zv : Value} {i : TypeInfo} (ho : o.op = .call { callee := .builtin .append, args := #[x, z], argTypes := #[t, t'] }) (hd : o.dst.all (· < Γ.n) = true) (ht : P.underlying t = some (.slice E)) (hi : P.info? E = some i) (hes : i.size = es) (hz : i.zero = some zv) (hx : s.ev x = some (.one (.ps k es lo n))) (hk : s.gob k = some (mkP c E es xs))
  (hsrc : a15q P s t' E es zv z ys) (hlo : lo + n ≤ xs.length) (hpos : 0 < es) (hroom : lo + n + ys.length ≤ (c.getD xs.length)) (h48 : lo + n + ys.length ≤ 281474976710656) (hb : ys.length * i.bytes ≤ 281474976710656) :
  XOp Γ P o s ((s.setOb k (mkP c E es (xs.take (lo + n) ++ ys ++ xs.drop (lo + n + ys.length)))).upd o.dst (.one (.ps k es lo (n + ys.length))) []) := by
 intro a w S β K' R hs hK
 have hv := (hs.eval hx).one_inv
 obtain ⟨hyes, us, h1, h2, h3⟩ := hsrc.h Γ a w S β hs
 obtain ⟨hp, hside⟩ := o3q.1 (hs.mem.ob k _ hk)
 generalize hva : a.eval x = v at hv
 have hcap : c.getD xs.length ≤ (β k).sc := by
  cases c with
  | none => exact hp.1
  | some c => have : (β k).sc = c := hside; simp [this]
 cases hv with
 | @ps _ _ _ _ ad cap g1 g2 g3 =>
  have hpar : RepA w S β (.ps k es (lo + n) (cap - n)) (.slice (ad.map (·.add (n * es))) (cap - n) (cap - n)) := .ps (Nat.le_refl _) (by omega) fun hp => by rw [g3 (by omega)]; simp [n3q, Nat.add_mul]
  obtain ⟨w', p1, p2, p3⟩ := hs.putP (P := P) (ys := ys) hk hpar hlo (by omega) (fun e => by subst e; simpa using hroom) h48 hyes h2 h1
  have hroom' : n + ys.length ≤ cap := by omega
  have he : (execOp a.eval o).run P w = .ok (.value (.slice ad (n + ys.length) cap)) w' := by
   have hsz : (sizeOf E).run P w = .ok es w := by simp [sizeOf, typeInfo, hi, hes]
   have hst : ad = none → w' = w := fun e => p2 (by rw [e]; rfl)
   rcases h3 with ⟨e', ht', r0, r1, r2, _⟩ | ⟨kn, kq, ht', hz1, hzu⟩
   ·cases ad with
    | none =>
     have := hst rfl
     subst this
     simp [execOp, ho, resolve, invoke, builtin, hva, Builtin.append_, run_underlying ht, run_underlying ht', hsz, r0, hroom', r2]
    | some b =>
     have := p1 _ rfl
     simp [execOp, ho, resolve, invoke, builtin, hva, Builtin.append_, run_underlying ht, run_underlying ht', hsz, r0, hroom', r2, this]
   ·have hw : IntKind.i64.wrap (ys.length : Int) = ys.length := by rw [IntKind.wrap_i64]; omega
    have hneg : ¬ ((ys.length : Int) < 0) := by omega
    have h48i : ¬ (281474976710656 < (ys.length : Int) * (i.bytes : Int)) := by rw [← Int.natCast_mul]; omega
    have hzv : (zeroValue E).run P w = .ok zv w := by simp [zeroValue, typeInfo, hi, hz]
    have hti : (typeInfo E).run P w = .ok i w := by simp [typeInfo, hi]
    by_cases h0 : ys.length = 0
    ·have hys : ys = [] := List.eq_nil_of_length_eq_zero h0
     subst hys
     simp only [List.length_nil, Nat.zero_mul] at h1 hw hneg h48i
     have hus : us = [] := List.eq_nil_of_length_eq_zero h1
     subst hus
     have hw0 : IntKind.i64.wrap (0 : Int) = 0 := by rw [IntKind.wrap_i64]; rfl
     cases ad with
     | none =>
      have := hst rfl
      subst this
      simp [execOp, ho, resolve, invoke, builtin, hva, hz1, Builtin.append_, run_underlying ht, run_underlying ht', hsz, asInt, asIntOf, hw0, hti, g1]
     | some b =>
      have := p1 _ rfl
      simp [execOp, ho, resolve, invoke, builtin, hva, hz1, Builtin.append_, run_underlying ht, run_underlying ht', hsz, asInt, asIntOf, hw0, hti, g1, this]
    ·have hns : ¬ (ys.length * es = 0) := Nat.mul_ne_zero h0 (by omega)
     rw [hzu] at p1
     have hne : ys ≠ [] := fun e => h0 (by rw [e]; rfl)
     have hes0 : es ≠ 0 := by omega
     cases ad with
     | none => exact absurd (g3 (by omega)) (by simp)
     | some b =>
      have := p1 _ rfl
      simp [execOp, ho, resolve, invoke, builtin, hva, hz1, Builtin.append_, run_underlying ht, run_underlying ht', hsz, asInt, asIntOf, hw, hneg, hti, h48i, hns, hne, hes0, hroom', hzv, this]
  unfold Oper.wp
  rw [he, Oper.upon_value]
  refine hK _ _ S β (p3.upd (Grow.refl p3.mem.lt) (RepV.one (.ps hroom' g2 g3)) hd rfl)
end
section
variable {Γ : Cx} {P : Program} {o : Oper} {s : St} {t t' : TypeId} {x z : Operand}
theorem a4Nq {w : World} {S : Nat → Prop} {E es n cap : Nat} {ad : Option Addr} {zv : Value} {i : TypeInfo} {olds ys : List (List Da)} {vs us : List Value} {vz : Value} (ty : TypeId) (ht : P.underlying t = some (.slice E)) (hi : P.info? E = some i) (hes : i.size = es) (hz : i.zero = some zv) (hzs : zv.cells.size = es) (hpos : 0 < es)
    (hvl : vs.length = n * es) (hold : (Builtin.firstCells es n (.slice ad n cap)).run P w.drew = .ok vs.toArray w.drew) (hul : us.length = ys.length * es)
    (h3 : (∃ e', P.underlying t' = some (.slice e') ∧ (Builtin.lenOf vz).run P w = .ok ys.length w ∧ (∀ w' : World, (Builtin.lenOf vz).run P w' = .ok ys.length w') ∧ (Builtin.firstCells es ys.length vz).run P w = .ok us.toArray w ∧ (Builtin.firstCells es ys.length vz).run P w.drew = .ok us.toArray w.drew) ∨
     ∃ kn kq, P.underlying t' = some (.int kn) ∧ vz = .int kq ys.length ∧ us = (Builtin.zeroCells zv.cells ys.length).toList) (hone : ∀ u ∈ us, u.oneCell' = true) (hg : cap < n + ys.length) (hnc : n ≤ cap) (hb : (n + ys.length) * i.bytes ≤ 140737488355328) (h48 : n + ys.length ≤ 281474976710656) :
    ∃ (g : Nat) (rest : Array Value), n + ys.length ≤ g ∧ g ≤ maxLen ∧ (vs.toArray ++ us.toArray ++ rest).size = g * es ∧ (Builtin.append_ #[t, t'] ty #[.slice ad n cap, vz]).run P w = .ok (.slice (some ⟨w.heap.size, 0, none⟩) (n + ys.length) g) (w.drew.alloc (.cells (vs.toArray ++ us.toArray ++ rest) E)) := by
  refine ⟨grownCap w (n + ys.length) cap E, Builtin.zeroCells zv.cells (grownCap w (n + ys.length) cap E - (n + ys.length)), grownCap_ge .., grownCap_le_maxLen _ _ _ _ (by unfold maxLen; omega), ?_, ?_⟩
  · have := grownCap_ge w (n + ys.length) cap E
    simp only [Array.size_append, List.size_toArray, size_zeroCells, hzs, hvl, hul]
    rw [← Nat.add_mul, ← Nat.add_mul]
    congr 1; omega
  · subst hes
    have hfit := growslice_fits (bytes := i.bytes) hg hb
    rcases h3 with ⟨e', ht', r0, r1, r2, r3⟩ | ⟨kn, kq, ht', rfl, rfl⟩
    · have := run_append_grow_src (P := P) w t t' ty E i zv ht hi hz ad n cap vs hold vz ys.length us ⟨.inl ⟨e', ht'⟩, r1, r2, r3, hul, hone⟩ hg (by omega) hfit
      rw [this]
      simp
    · have hkb : ys.length * i.bytes ≤ 281474976710656 := Nat.le_trans (Nat.mul_le_mul_right _ (Nat.le_add_left _ n)) (by omega)
      have := Lib.run_append_grow_zeros (P := P) w t t' ty E i zv kq kn ht ht' hi hz ad n cap vs hold ys.length (by omega) hpos hg (by omega) hkb hfit
      rw [this]
theorem Grow.drew {w w' : World} {S S' : Nat → Prop} {β β' : Nat → OLoc} {nob : List (Nat × Ob)} (h : Grow w.drew S β nob w' S' β') : Grow w S β nob w' S' β' := ⟨h.os, h.tape, h.output, h.size, h.block, h.sub, h.sup, h.loc, h.ob, h.own, h.sep, h.clm, h.sepc⟩
theorem achq {k E es lo n c d : Nat} {xs ys : List (List Da)} {zv : Value} {i : TypeInfo} (ho : o.op = .call { callee := .builtin .append, args := #[x, z], argTypes := #[t, t'] }) (ht : P.underlying t = some (.slice E)) (hi : P.info? E = some i) (hes : i.size = es) (hz : i.zero = some zv) (hzs : zv.cells.size = es) (hx : s.ev x = some (.one (.ps k es lo n))) (hk : s.gob k = some (.fu E es xs c))
  (hsrc : a15q P s t' E es zv z ys) (hlo : lo + n ≤ xs.length) (hpos : 0 < es) (hroom : c < lo + n + ys.length) (h48 : n + ys.length ≤ 281474976710656) (hb : (n + ys.length) * i.bytes ≤ 140737488355328) : OpL P o s (.one (.ol d)) [(d, .lst E es ((xs.drop lo).take n ++ ys))] := by
 intro Γ a w S β hs K R hK
 have hv := (hs.eval hx).one_inv
 obtain ⟨hyes, us, h1, h2, h3⟩ := hsrc.h Γ a w S β hs
 obtain ⟨hp, hside⟩ := (o3q (c := some c)).1 (hs.mem.ob k _ hk)
 have hside : (β k).sc = c := hside
 obtain ⟨vs, v1, v2, _, v4⟩ := hp.part hlo
 have hlen : ((xs.drop lo).take n).length = n := by rw [List.length_take, List.length_drop]; omega
 generalize hva : a.eval x = v at hv
 cases hv with
 | @ps _ _ _ _ ad cap g1 g2 g3 =>
  have hold : (Builtin.firstCells es n (.slice ad n cap)).run P w.drew = .ok vs.toArray w.drew := by
   by_cases hn : n = 0
   ·subst hn
    have : vs = [] := List.eq_nil_of_length_eq_zero (by simpa using v1)
    subst this
    cases ad with
    | none => simp [Builtin.firstCells]
    | some a => simpa [Builtin.firstCells] using r3q P w.drew a
   ·have ha := g3 (by omega)
    subst ha
    have := run_loadCells_list (P := P) w.drew ⟨(β k).blk, lo * es, none⟩ vs (fun j u hu => by rw [n3q]; simpa using v4 j u hu)
    rw [v1] at this
    simpa [Builtin.firstCells] using this
  obtain ⟨g, rest, r1, r2, r3, r4⟩ := a4Nq (w := w) (S := S) (olds := (xs.drop lo).take n) (ys := ys) (vs := vs) (us := us) (vz := a.eval z) o.type ht hi hes hz hzs hpos v1 hold h1 h3 h2.oneCells (by omega) g1 hb h48
  have he : (execOp a.eval o).run P w = .ok (.value (.slice (some ⟨w.heap.size, 0, none⟩) (n + ys.length) g)) (w.drew.alloc (.cells (vs.toArray ++ us.toArray ++ rest) E)) := by
   simp only [execOp, ho, resolve, invoke, builtin, Sem.run_bind, Sem.run_pure, Result.andThen_ok, List.map_toArray, List.map_cons, List.map_nil, hva, r4]
  have hL := a3oq (w := w.drew) (S := S) (β := β) (d := d) (E := E) (es := es) (cap := g) (xs := (xs.drop lo).take n ++ ys) (c := vs.toArray ++ us.toArray ++ rest) hs.mem.lt r3 (by simp only [List.length_append, hlen]; exact r1) r2 (fun y hy => by
   rcases List.mem_append.1 hy with hy | hy
   ·exact hp.2.2.1 y (List.mem_of_mem_drop (List.mem_of_mem_take hy))
   ·exact hyes y hy) (by simp only [List.length_append, hlen]; exact h48) (by
    have e : (vs.toArray ++ us.toArray ++ rest).toList.take (((xs.drop lo).take n ++ ys).length * es) = vs ++ us := by
     simp only [Array.toList_append, List.length_append, hlen]
     exact List.take_left' (by simp [v1, h1, Nat.add_mul])
    rw [e, List.flatten_append]
    exact (v2.app h2).mono (fun _ _ => rfl) fun _ h => h)
  simp only [List.length_append, hlen] at hL
  unfold Oper.wp
  rw [he, Oper.upon_value]
  exact hK _ _ S _ hL.1.drew hL.2
theorem aelq {E es d : Nat} {ys : List (List Da)} {zv : Value} {i : TypeInfo} (ho : o.op = .call { callee := .builtin .append, args := #[x, z], argTypes := #[t, t'] }) (ht : P.underlying t = some (.slice E)) (hi : P.info? E = some i) (hes : i.size = es) (hz : i.zero = some zv) (hzs : zv.cells.size = es) (hx : s.ev x = some (.one .e0))
  (hsrc : a15q P s t' E es zv z ys) (hpos : 0 < es) (h48 : ys.length ≤ 281474976710656) (hb : ys.length * i.bytes ≤ 140737488355328) : OpL P o s (.one (.ol d)) [(d, .lst E es ys)] := by
 intro Γ a w S β hs K R hK
 have hv := (hs.eval hx).one_inv
 obtain ⟨hyes, us, h1, h2, h3⟩ := hsrc.h Γ a w S β hs
 generalize hva : a.eval x = v at hv
 cases hv
 by_cases h0 : ys.length = 0
 ·have hys : ys = [] := List.eq_nil_of_length_eq_zero h0
  subst hys
  have hsz : (sizeOf E).run P w = .ok es w := by simp [sizeOf, typeInfo, hi, hes]
  have hti : (typeInfo E).run P w = .ok i w := by simp [typeInfo, hi]
  have hw0 : IntKind.i64.wrap (0 : Int) = 0 := by rw [IntKind.wrap_i64]; rfl
  have hus : us = [] := List.eq_nil_of_length_eq_zero (by simpa using h1)
  subst hus
  have he : (execOp a.eval o).run P w = .ok (.value (.slice none 0 0)) w := by
   rcases h3 with ⟨e', ht', r0, r1, r2, _⟩ | ⟨kn, kq, ht', hz1, hzu⟩
   ·simp only [List.length_nil] at r0 r2
    simp [execOp, ho, resolve, invoke, builtin, hva, Builtin.append_, run_underlying ht, run_underlying ht', hsz, r0, r2]
   ·simp only [List.length_nil] at hz1
    simp [execOp, ho, resolve, invoke, builtin, hva, hz1, Builtin.append_, run_underlying ht, run_underlying ht', hsz, asInt, asIntOf, hw0, hti]
  unfold Oper.wp
  rw [he, Oper.upon_value]
  let l0 : OLoc := ⟨0, none, 0, 0, false, [], []⟩
  have hl0 : ∀ b, ¬ l0.Own b := fun b hb => by rcases hb with ⟨h, _⟩ | h <;> simp [l0] at h
  refine hK _ _ S (fun q => if q = d then l0 else β q) ⟨rfl, rfl, rfl, Nat.le_refl _, fun _ _ => rfl, fun _ h => h, fun b hb => ⟨hs.mem.lt b hb, .inl hb⟩, fun q hq => if_neg fun e => hq _ (List.mem_singleton.2 rfl) e.symm, fun p hp => ?_, fun p hp b hb => ?_, fun p hp q hq b hb => ?_, fun p hp b hb => ?_, fun p hp q hq b hb => ?_⟩ ?_
  ·rw [List.mem_singleton.1 hp]
   exact .inr ⟨by simp [l0], rfl, none, by simp [l0, OLoc.sv]⟩
  ·rw [List.mem_singleton.1 hp] at hb; simp only [if_pos] at hb; exact (hl0 b hb).elim
  ·rw [List.mem_singleton.1 hp] at hb; simp only [if_pos] at hb; exact (hl0 b hb).elim
  ·rw [List.mem_singleton.1 hp] at hb; simp [l0] at hb
  ·rw [List.mem_singleton.1 hp] at hb; simp [l0] at hb
  ·refine RepV.one ?_
   have : (.slice none 0 0 : Value) = ((fun q => if q = d then l0 else β q) d).sv := by simp [l0, OLoc.sv]
   rw [this]; exact .ol
 ·obtain ⟨g, rest, r1, r2, r3, r4⟩ := a4Nq (w := w) (S := S) (olds := []) (ys := ys) (vs := []) (us := us) (vz := a.eval z) (n := 0) (cap := 0) (ad := none) o.type ht hi hes hz hzs hpos (by simp) (by simp [Builtin.firstCells]) h1 h3 h2.oneCells (by omega) (Nat.le_refl _) (by simpa using hb) (by simpa using h48)
  simp only [Nat.zero_add] at r1 r4
  have he : (execOp a.eval o).run P w = .ok (.value (.slice (some ⟨w.heap.size, 0, none⟩) ys.length g)) (w.drew.alloc (.cells ([].toArray ++ us.toArray ++ rest) E)) := by
   simp only [execOp, ho, resolve, invoke, builtin, Sem.run_bind, Sem.run_pure, Result.andThen_ok, List.map_toArray, List.map_cons, List.map_nil, hva, r4]
  have hL := a3oq (w := w.drew) (S := S) (β := β) (d := d) (E := E) (es := es) (cap := g) (xs := ys) (c := [].toArray ++ us.toArray ++ rest) hs.mem.lt r3 r1 r2 hyes h48 (by
    have e : ([].toArray ++ us.toArray ++ rest).toList.take (ys.length * es) = us := by
     simp only [Array.toList_append, List.nil_append]
     exact List.take_left' h1
    rw [e]
    exact h2.mono (fun _ _ => rfl) fun _ h => h)
  unfold Oper.wp
  rw [he, Oper.upon_value]
  exact hK _ _ S _ hL.1.drew hL.2
end
section
variable {Γ : Cx} {P : Program} {o : Oper} {s : St} {t t' : TypeId} {x z : Operand}
def afoq (P : Program) (f : FuncId) : Prop := ∃ fn tS tR e size, P.funcs[f]? = some fn ∧ (fn.name == "runtime.NumGoroutine") = false ∧ fn.body.isNone = true ∧ Extern.findNext fn = none ∧ Extern.find fn = some (Extern.SlicesOverlaps.overlaps #[tS, tS] #[tR]) ∧ P.underlying tS = some (.slice e) ∧ (P.info? e).map (·.size) = some size
theorem a16q {w : World} {b : Nat} {cur : Array Value} {E : TypeId} (hg : w.heap[b]? = some (.cells cur E (0, 0))) : w.shape? b = some (E, cur.size) := by
 simp [World.shape?, hg]
theorem a0mq {w : World} {b i : Nat} {cur : Array Value} {E : TypeId} (hg : w.heap[b]? = some (.cells cur E (0, 0))) : w.frozen? ⟨b, i, none⟩ = false := by
 simp [World.frozen?, hg]
theorem afaq {P : Program} (w : World) (tS tR e : TypeId) (ht : P.underlying tS = some (.slice e)) (size : Nat) (hz : ∀ w, (Go.sizeOf e).run P w = .ok size w) (a b : Option Addr) (la ca lb cb : Nat) (h0 : la = 0 ∨ lb = 0) :
  (Extern.SlicesOverlaps.overlaps #[tS, tS] #[tR] #[.slice a la ca, .slice b lb cb]).run P w = .ok (.bool false) w := by
 change Sem.run P (α := Value) (do
  let some t := (#[tS, tS] : Array TypeId)[0]? | stuck "slices.overlaps: no parameter types"
  let .slice elem ← underlying t | stuck "slices.overlaps: slice type expected"
  let size ← sizeOf elem
  match a, b with
  | some a, some b =>
   if la = 0 ∨ lb = 0 ∨ size = 0 then pure (Value.bool false)
   else if a.block != b.block && (← frozen a) && (← frozen b) then unsupported .addressObserved
   else do
    if a.block != b.block then do
     noView a; noView b
     if ← mayBeOne a b then return Value.bool ((← choose (.extern "sameAddr.stringBytes" 2)) == 1)
    pure (Value.bool (a.block == b.block && a.off < b.off + lb * size && b.off < a.off + la * size))
  | _, _ => pure (Value.bool false)) w = _
 have h1 : la = 0 ∨ lb = 0 ∨ size = 0 := by rcases h0 with h | h <;> simp [h]
 cases a <;> cases b <;> simp [run_underlying ht, hz, h1]
theorem aglq {k1 k2 E1 es1 lo1 n1 E2 es2 lo2 n2 : Nat} {c1 c2 : Option Nat} {xs1 xs2 : List (List Da)} {ts : Array TypeId} {f : FuncId} (hf : afoq P f) (ho : o.op = .call { callee := .value (.func f), args := #[x, z], argTypes := ts }) (hk1 : s.gob k1 = some (mkP c1 E1 es1 xs1)) (hk2 : s.gob k2 = some (mkP c2 E2 es2 xs2)) (hne : k1 ≠ k2)
  (hx : s.ev x = some (.one (.ps k1 es1 lo1 n1)) ∨ (s.ev x = some (.one (.ol k1)) ∧ c1 = none)) (hz : s.ev z = some (.one (.ps k2 es2 lo2 n2))) (hpos : 0 < es2) : OpL P o s (B false) [] := by
 intro Γ a w S β hs K R hK
 obtain ⟨fn, tS, tR, e, size, f1, f2, f3, f4, f5, f6, f7⟩ := hf
 have hX1 := hs.mem.ob k1 _ hk1
 have hX2 := hs.mem.ob k2 _ hk2
 obtain ⟨p1, _⟩ := o3q.1 hX1
 obtain ⟨p2, _⟩ := o3q.1 hX2
 have hv1 : ∃ es lo n, RepA w S β (.ps k1 es lo n) (a.eval x) := by
  rcases hx with hx | ⟨hx, rfl⟩
  ·exact ⟨_, _, _, (hs.eval hx).one_inv⟩
  ·exact ⟨es1, 0, _, (RepA.ps_of_ol hX1 (hs.eval hx).one_inv)⟩
 obtain ⟨es1', lo1', n1', hv1⟩ := hv1
 have hv2 := (hs.eval hz).one_inv
 have hsz : ∀ w, (sizeOf e).run P w = .ok size w := by
  intro w
  cases hi : P.info? e with
  | none => rw [hi] at f7; simp at f7
  | some i =>
   rw [hi] at f7
   simp at f7
   simp [sizeOf, typeInfo, hi, f7]
 generalize hva : a.eval x = v1 at hv1
 generalize hvb : a.eval z = v2 at hv2
 cases hv1 with
 | @ps _ _ _ _ a1 cap1 g1 g2 g3 =>
  cases hv2 with
  | @ps _ _ _ _ a2 cap2 q1 q2 q3 =>
   have hrun : (Extern.SlicesOverlaps.overlaps #[tS, tS] #[tR] #[.slice a1 n1' cap1, .slice a2 n2 cap2]).run P w = .ok (.bool false) w := by
    by_cases h0 : n1' = 0 ∨ n2 = 0
    ·exact afaq w tS tR e f6 size hsz _ _ _ _ _ _ h0
    ·have e1 := g3 (by omega)
     have e2 := q3 (by omega)
     subst e1; subst e2
     have b1 : (β k1).has = true ∧ ∃ cur, w.heap[(β k1).blk]? = some (.cells cur E1 (0, 0)) := by
      rcases p1.2.2.2 with ⟨hh, cur, hg, _⟩ | ⟨_, hz⟩
      ·exact ⟨hh, cur, hg⟩
      ·omega
     have b2 : (β k2).has = true ∧ ∃ cur, w.heap[(β k2).blk]? = some (.cells cur E2 (0, 0)) ∧ cur.size = (β k2).sc * es2 := by
      rcases p2.2.2.2 with ⟨hh, cur, hg, hc, _⟩ | ⟨_, hz⟩
      ·exact ⟨hh, cur, hg, hc⟩
      ·omega
     obtain ⟨h1, cur1, hg1⟩ := b1
     obtain ⟨h2, cur2, hg2, hc2⟩ := b2
     refine Lib.run_overlaps_apart w tS tR e f6 size hsz _ _ _ _ _ _ (fun e => hne (hs.mem.sep k1 k2 _ _ hk1 hk2 _ (.inl ⟨h1, rfl⟩) (.inl ⟨h2, e.symm⟩))) _ _ _ _ (a16q hg1) (a16q hg2) ?_ (a0mq hg1) (a0mq hg1)
     rw [hc2]
     exact Nat.mul_ne_zero (by omega) (by omega)
   have hfe : a.eval (.func f) = .func (.func f) #[] #[] := rfl
   have he : (execOp a.eval o).run P w = .ok (.value (.bool false)) w := by
    simp only [execOp, ho, resolve, hfe, Deferred.ofValue, Sem.run_bind, Sem.run_pure, Result.andThen_ok, invoke]
    rw [show (#[] : Array Value) ++ Array.map a.eval #[x, z] ++ #[] = #[.slice a1 n1' cap1, .slice a2 n2 cap2] by simp [hva, hvb]]
    rw [run_callFunc_extern f1 f2 f3 f4 f5, hrun]
    rfl
   unfold Oper.wp
   rw [he, Oper.upon_value]
   exact hK _ _ S β (Grow.refl hs.mem.lt) (RepV.bool _)
end
theorem OpL.xop {Γ : Cx} {P : Program} {o : Oper} {s : St} {y : AV} {nob : List (Nat × Ob)} (h : OpL P o s y nob) (hd : o.dst.all (· < Γ.n) = true) (hfr : s.fresh nob = true) : XOp Γ P o s (s.upd o.dst y nob) :=
 fun a w S β K' R hs hK => h Γ a w S β hs K' R fun v w' S' β' hG hy => hK _ _ _ _ (hs.upd hG hy hd hfr)
def aaqq (k es n : Nat) : At → At
 | .ol o => if o == k then .ps k es 0 n else .ol o
 | x => x
theorem aeCq {Γ : Cx} {s : St} {a : Act} {w : World} {S : Nat → Prop} {β : Nat → OLoc} {k E es : Nat} {xs : List (List Da)} (hs : Sim Γ s a w S β) (hk : s.gob k = some (.lst E es xs)) : ∃ c, xs.length ≤ c ∧ c ≤ maxLen ∧ Sim Γ (s.mv (aaqq k es xs.length) k [] (.fu E es xs c)) a w S β := by
 have hX := hs.mem.ob k _ hk
 obtain ⟨hp, _⟩ := a3lq.1 hX
 refine ⟨(β k).sc, hp.1, hp.2.1.2, hs.mv (fun y v hy => ?_) ⟨rfl, rfl, rfl, Nat.le_refl _⟩ (fun _ _ _ => rfl) (fun _ _ => rfl) (fun l hl => (hs.mem.fix k l hl).2) ((o3q (c := some (β k).sc)).2 ⟨hp, rfl⟩) (fun b hb => ⟨(hs.mem.own k _ hk b hb).1, .inl ⟨_, hk, hb⟩⟩) (fun b hb => ⟨k, _, .inl rfl, hk, hb⟩)⟩
 cases y with
 | ol q =>
  simp only [aaqq]
  split
  ·rename_i e
   simp at e
   subst e
   exact RepA.ps_of_ol hX hy
  ·exact hy
 | _ => exact hy
theorem aenq {Γ : Cx} {s : St} {a : Act} {w : World} {S : Nat → Prop} {β : Nat → OLoc} {t k E es n : Nat} {c : Option Nat} {xs : List (List Da)} (hs : Sim Γ s a w S β) (hk : s.gob k = some (mkP c E es xs)) (hlow : k < 2000) (ht : s.get t = some (.one (.ps k es 0 n))) (hn : n ≤ xs.length) : ∃ β', Sim Γ (s.appd (some t) k [] (.lst E es (xs.take n))) a w S β' := by
 obtain ⟨hp, hside⟩ := o3q.1 (hs.mem.ob k _ hk)
 obtain ⟨v, hv, hr⟩ := hs.tm t _ ht
 have hr := hr.one_inv
 have htl : (xs.take n).length = n := by rw [List.length_take]; omega
 cases hr with
 | @ps _ _ _ _ ad cap g1 g2 g3 =>
  let l' : OLoc := { β k with sa := ad, sn := n, sc := cap, has := (β k).has && decide (0 < cap) }
  let β' : Nat → OLoc := fun q => if q = k then l' else β q
  have hβ : ∀ q, q ≠ k → β' q = β q := fun q h => if_neg h
  have hβk : β' k = l' := if_pos rfl
  have hc : cap = (β k).sc := by omega
  have hX : ObRep w S β' l' (.lst E es (xs.take n)) := by
   refine a3lq.2 ⟨⟨?_, ⟨?_, ?_⟩, fun y hy => hp.2.2.1 y (List.mem_of_mem_take hy), ?_⟩, ?_, fun hh => ?_⟩
   ·rw [htl]; exact g1
   ·rw [htl]; have := hp.2.1.1; omega
   ·show cap ≤ maxLen; rw [hc]; exact hp.2.1.2
   ·rcases hp.2.2.2 with ⟨hh, cur, hg, hcs, hd⟩ | ⟨hh, hz⟩
    ·by_cases h0 : 0 < cap
     ·refine .inl ⟨by simp [l', hh, h0], cur, hg, by show cur.size = cap * es; rw [hc]; exact hcs, ?_⟩
      have e : xs.flatten = (xs.take n).flatten ++ (xs.drop n).flatten := by rw [← List.flatten_append, List.take_append_drop]
      rw [e] at hd
      obtain ⟨v1, v2, e2, d1, d2⟩ := hd.split
      have l1 : v1.length = n * es := by rw [d1.len, i0q hp.2.2.1 hn]
      have : cur.toList.take ((xs.take n).length * es) = v1 := by
       rw [htl]
       have e3 : (cur.toList.take (xs.length * es)).take (n * es) = cur.toList.take (n * es) := by
        rw [List.take_take, Nat.min_eq_left (Nat.mul_le_mul_right _ hn)]
       rw [← e3, e2]
       exact List.take_left' l1
      rw [this]
      exact d1
     ·exact .inr ⟨by simp [l', h0], by show cap = 0; omega⟩
    ·exact .inr ⟨by simp [l', hh], by show cap = 0; omega⟩
   ·show n = (xs.take n).length
    rw [htl]
   ·have : 0 < cap := by
     by_cases h0 : 0 < cap
     ·exact h0
     ·simp [l', h0] at hh
    show ad = _
    rw [g3 this, Nat.zero_mul]
  have h2 := hs.mv (f := killL [k]) (k := k) (ks := []) (X := .lst E es (xs.take n)) (w' := w) (β' := β') (RepA.killL (fun _ _ => rfl) (fun _ h => h) fun o ho => hβ o (by simpa using ho)) ⟨rfl, rfl, rfl, Nat.le_refl _⟩ (fun _ _ _ => rfl) hβ (fun l hl => by have := (hs.mem.fix k l hl).1; omega) (by rw [hβk]; exact hX) (fun b hb => ?_) (fun b hb => ?_)
  ·refine ⟨β', h2.defers, h2.sz, fun i y hi => ?_, ⟨h2.mem.lt, fun q Y hq => ?_, fun q Y hq => ?_, fun q q' Y Y' hq hq' => ?_, h2.mem.os, h2.mem.tape, h2.mem.output, h2.mem.size, h2.mem.block, h2.mem.sub, h2.mem.sup, h2.mem.fix, fun q Y hq => ?_, fun q q' Y Y' hq hq' => ?_⟩⟩
   ·rw [a9Iq] at hi
    by_cases e : some t = some i
    ·rw [if_pos e] at hi
     simp at e hi
     subst e; subst hi
     refine ⟨_, hv, RepV.one ?_⟩
     have : (.slice ad n cap : Value) = (β' k).sv := by rw [hβk]; rfl
     rw [this]; exact .ol
    ·rw [if_neg e] at hi
     exact h2.tm i y (by simpa [St.mv, St.get, St.map, q4q] using hi)
   all_goals first
    | exact h2.mem.ob q Y hq
    | exact h2.mem.own q Y hq
    | exact h2.mem.sep q q' Y Y' hq hq'
    | exact h2.mem.clm q Y hq
    | exact h2.mem.sepc q q' Y Y' hq hq'
  ·rw [hβk] at hb
   have hb' : (β k).Own b := by
    rcases hb with ⟨h1, h2⟩ | h
    ·simp only [l', Bool.and_eq_true] at h1
     exact .inl ⟨h1.1, h2⟩
    ·exact .inr h
   exact ⟨(hs.mem.own k _ hk b hb').1, .inl ⟨_, hk, hb'⟩⟩
  ·rw [hβk] at hb
   exact ⟨k, _, .inl rfl, hk, hb⟩
def a2Hq (M : List Nat) : List Edge → Nat
 | [] => 0
 | e :: r => (match Region.binds .any e with
  | true => 2 ^ e.on ||| M.getD e.on 0
  | false => 0) ||| a2Hq M r
def p3q : List Oper → List Nat → List Nat
 | [], M => M
 | o :: r, M => p3q r (M ++ [a2Hq M o.after.toList])
theorem a3Iq {M : List Nat} {j : Nat} : ∀ {es : List Edge}, (a2Hq M es).testBit j = true → ∃ e ∈ es, Region.binds .any e = true ∧ (e.on = j ∨ (M.getD e.on 0).testBit j = true)
 | [], h => by simp [a2Hq] at h
 | e :: r, h => by
  simp only [a2Hq, Nat.testBit_or, Bool.or_eq_true] at h
  rcases h with h | h
  ·split at h
   ·rename_i hb
    simp only [Nat.testBit_or, Bool.or_eq_true, Nat.testBit_two_pow, decide_eq_true_eq] at h
    exact ⟨e, by simp, hb, h⟩
   ·simp at h
  ·obtain ⟨e', h1, h2⟩ := a3Iq h
   exact ⟨e', by simp [h1], h2⟩
theorem a1pq {ops : Array Oper} : ∀ (l pre : List Oper) (M : List Nat), ops.toList = pre ++ l → M.length = pre.length → (∀ i j, (M.getD i 0).testBit j = true → ∀ f, i < f → E2q ops f i j = true) →
  ∀ i j, ((p3q l M).getD i 0).testBit j = true → ∀ f, i < f → E2q ops f i j = true
 | [], pre, M, _, _, h => h
 | o :: r, pre, M, e, hl, h => by
  refine a1pq r (pre ++ [o]) _ (by simp [e]) (by simp [hl]) fun i j hb f hf => ?_
  rcases Nat.lt_trichotomy i M.length with h1 | h1 | h1
  ·rw [List.getD_eq_getElem?_getD, List.getElem?_append_left h1, ← List.getD_eq_getElem?_getD] at hb
   exact h i j hb f hf
  ·subst h1
   rw [List.getD_eq_getElem?_getD, List.getElem?_append_right (Nat.le_refl _)] at hb
   simp only [Nat.sub_self, List.getElem?_cons_zero, Option.getD_some] at hb
   obtain ⟨e', h1, h2, h3⟩ := a3Iq hb
   obtain ⟨f, rfl⟩ : ∃ g, f = g + 1 := ⟨f - 1, by omega⟩
   have ho : ops[M.length]? = some o := by
    rw [← Array.getElem?_toList, e, hl, List.getElem?_append_right (Nat.le_refl _)]; simp
   simp only [E2q, ho, Array.any_eq_true']
   refine ⟨e', by simpa using h1, ?_⟩
   simp only [Bool.and_eq_true, Bool.or_eq_true, beq_iff_eq]
   refine ⟨h2, h3.imp id fun h3 => ?_⟩
   have hlt : e'.on < M.length := by
    rcases Nat.lt_or_ge e'.on M.length with h4 | h4
    ·exact h4
    ·rw [List.getD_eq_getElem?_getD, List.getElem?_eq_none h4] at h3; simp at h3
   exact h _ j h3 f (by omega)
  ·rw [List.getD_eq_getElem?_getD, List.getElem?_eq_none (by simp; omega)] at hb
   simp at hb
structure ORow where
 d : Option Nat
 n : List Nat
 m : Nat
 lo : Bool
def a0tq (ops : Array Oper) : List Oper → List Nat → Nat → List ORow
 | o :: r, m :: M, i => ⟨o.dst, g9q ops o, m, o.after.all fun e => !Region.binds .any e || decide (e.on < i)⟩ :: a0tq ops r M (i + 1)
 | _, _, _ => []
def offD (d : Option Nat) (n : List Nat) : Bool := match d with
 | none => true
 | some t => !n.contains t
def W6q (x : ORow) : List ORow → Nat → Bool
 | [], _ => true
 | y :: r, j => ((offD y.d x.n && offD x.d y.n) || x.m.testBit j) && W6q x r (j + 1)
def a2Uq (all : List ORow) : List ORow → Nat → Bool
 | [], _ => true
 | x :: r, i => x.lo && W6q x (all.take i) 0 && a2Uq all r (i + 1)
def a6Xq (ops : Array Oper) : Bool :=
 let rs := a0tq ops ops.toList (p3q ops.toList []) 0
 decide (rs.length = ops.size) && a2Uq rs rs 0
theorem a2Sq {ops : Array Oper} : ∀ {l : List Oper} {M : List Nat} {k i : Nat} {x : ORow}, (a0tq ops l M k)[i]? = some x → ∃ o m, l[i]? = some o ∧ M[i]? = some m ∧ x = ⟨o.dst, g9q ops o, m, o.after.all fun e => !Region.binds .any e || decide (e.on < k + i)⟩
 | o :: r, m :: M, k, 0, x, h => by simp [a0tq] at h; exact ⟨o, m, rfl, rfl, h.symm⟩
 | o :: r, m :: M, k, i + 1, x, h => by
  simp only [a0tq, List.getElem?_cons_succ] at h
  obtain ⟨o', m', h1, h2, h3⟩ := a2Sq h
  exact ⟨o', m', h1, h2, by rw [h3]; simp only [ORow.mk.injEq, true_and]; congr 1; funext e; rw [show k + 1 + i = k + (i + 1) by omega]⟩
 | [], _, _, i, x, h => by simp [a0tq] at h
 | _ :: _, [], _, i, x, h => by simp [a0tq] at h
theorem a3Uq {x : ORow} : ∀ {l : List ORow} {k j : Nat} {y : ORow}, W6q x l k = true → l[j]? = some y → ((offD y.d x.n && offD x.d y.n) || x.m.testBit (k + j)) = true
 | y :: r, k, 0, y', h, hj => by simp [W6q] at h hj; subst hj; simpa using h.1
 | y :: r, k, j + 1, y', h, hj => by
  simp only [W6q, Bool.and_eq_true] at h
  have := a3Uq h.2 (by simpa using hj)
  rwa [show k + 1 + j = k + (j + 1) by omega] at this
 | [], _, j, y, h, hj => by simp at hj
theorem a5cq {all : List ORow} : ∀ {l : List ORow} {k i : Nat} {x : ORow}, a2Uq all l k = true → l[i]? = some x → x.lo = true ∧ W6q x (all.take (k + i)) 0 = true
 | x :: r, k, 0, x', h, hj => by simp [a2Uq] at h hj; subst hj; simpa using h.1
 | x :: r, k, i + 1, x', h, hj => by
  simp only [a2Uq, Bool.and_eq_true] at h
  have := a5cq h.2 (by simpa using hj)
  rwa [show k + 1 + i = k + (i + 1) by omega] at this
 | [], _, j, y, h, hj => by simp at hj
theorem a7qq {d : Option Nat} {n : List Nat} (h : offD d n = true) : (d.toList.all fun t => !n.contains t) = true := by
 cases d with
 | none => rfl
 | some t => simpa [offD] using h
theorem a7uq {ops : Array Oper} (h : a6Xq ops = true) : J4q ops = true := by
 simp only [a6Xq, Bool.and_eq_true, decide_eq_true_eq] at h
 obtain ⟨hlen, h⟩ := h
 have hm := a1pq (ops := ops) ops.toList [] [] (by simp) rfl (by simp)
 have get : ∀ i, i < ops.size → ∃ x, (a0tq ops ops.toList (p3q ops.toList []) 0)[i]? = some x := fun i hi => ⟨_, List.getElem?_eq_getElem (by rw [hlen]; exact hi)⟩
 unfold J4q
 rw [List.all_eq_true]
 intro i hi
 have hi := List.mem_range.1 hi
 obtain ⟨x, hx⟩ := get i hi
 obtain ⟨oi, mi, h1, h2, h3⟩ := a2Sq hx
 have ho : ops[i]? = some oi := by rw [← Array.getElem?_toList]; exact h1
 obtain ⟨k1, k2⟩ := a5cq h hx
 simp only [ho, Bool.and_eq_true]
 refine ⟨?_, ?_⟩
 ·rw [h3] at k1
  simpa using k1
 ·rw [List.all_eq_true]
  intro j hj
  have hj := List.mem_range.1 hj
  obtain ⟨y, hy⟩ := get j hj
  obtain ⟨oj, mj, g1, g2, g3⟩ := a2Sq hy
  have ho' : ops[j]? = some oj := by rw [← Array.getElem?_toList]; exact g1
  simp only [ho']
  by_cases hji : j < i
  ·have := a3Uq k2 (j := j) (y := y) (by rw [List.getElem?_take]; simp [hji, hy])
   rw [h3, g3] at this
   simp only [Bool.or_eq_true, Bool.and_eq_true, Nat.zero_add] at this
   rcases this with ⟨t1, t2⟩ | t
   ·simp only [Bool.or_eq_true, Bool.and_eq_true]
    exact .inl (.inr ⟨a7qq t1, a7qq t2⟩)
   ·have hb : ((p3q ops.toList []).getD i 0).testBit j = true := by rw [List.getD_eq_getElem?_getD, h2]; exact t
    simp only [Bool.or_eq_true]
    exact .inr (hm i j hb _ hi)
  ·simp [hji]
def eqDa : Da → Da → Option Bool
 | .int k m, .int k' n => if k = k' then some (decide (m = n)) else none
 | .bool b, .bool c => some (decide (b = c))
 | .str p, .str q => some (decide (p = q))
 | _, _ => none
def K4q : List Da → List Da → Option Bool
 | [], [] => some true
 | [x], [y] => eqDa x y
 | x :: xs, y :: ys => match eqDa x y, K4q xs ys with
  | some a, some b => some (a && b)
  | _, _ => none
 | _, _ => none
def acGq (P : Program) (t : TypeId) : Bool := match P.underlying t with
 | some (.int _) => true
 | some .bool => true
 | some .string => true
 | _ => false
def a4Iq (P : Program) : List Field → Nat → Bool
 | [], _ => true
 | f :: r, i => f.name != "_" && (f.offset == i && (acGq P f.type && a4Iq P r (i + 1)))
def eqOk (P : Program) (t : TypeId) : Bool := match P.underlying t with
 | some (.struct fs) => !P.stoodInHeld t && (!P.eqGuardType P.depth t && a4Iq P fs.toList 0)
 | _ => false
theorem aeXq {P : Program} {w : World} {S S' : Nat → Prop} {x y : Da} {u v : Value} {b : Bool} {t : TypeId} {d : Nat} (hx : RepDs w S [x] [u]) (hy : RepDs w S' [y] [v]) (h : eqDa x y = some b) (hf : acGq P t = true) : (Op.equalIn (d + 1) t u v).run P w = .ok b w ∨ ¬ (∃ k m, x = .int k m ∧ ∃ k', P.underlying t = some (.int k')) ∧ ¬ (∃ c, x = .bool c ∧ P.underlying t = some .bool) ∧ ¬ (∃ q, x = .str q ∧ P.underlying t = some .string) := by
 unfold eqDa at h
 split at h
 ·rename_i k m k' n
  split at h
  ·rename_i hk
   subst hk
   simp at h
   subst h
   rw [hx.int_inv, hy.int_inv]
   by_cases hu : ∃ k', P.underlying t = some (.int k')
   ·obtain ⟨k', hu⟩ := hu
    left
    rw [run_equalIn_int w d t k k' m n hu]
    congr 1
   ·exact .inr ⟨fun ⟨_, _, _, hh⟩ => hu hh, fun ⟨_, e, _⟩ => (by cases e), fun ⟨_, e, _⟩ => (by cases e)⟩
  ·simp at h
 ·rename_i p q
  simp at h
  subst h
  rw [hx.bool_inv, hy.bool_inv]
  by_cases hu : P.underlying t = some .bool
  ·left
   rw [run_equalIn_bool' w d t p q hu]
   congr 1
  ·exact .inr ⟨fun ⟨_, _, e, _⟩ => (by cases e), fun ⟨_, _, e⟩ => hu e, fun ⟨_, e, _⟩ => (by cases e)⟩
 ·rename_i p q
  simp at h
  subst h
  rw [hx.str_inv.1, hy.str_inv.1]
  by_cases hu : P.underlying t = some .string
  ·left
   rw [run_equalIn_string w d t p q hu, ← beq_toListBytes]
   congr 1
   by_cases e : p = q
   ·subst e; rw [beq_toListBytes]; simp
   ·simp only [e, decide_false]
    rw [beq_toListBytes]
    simp only [beq_eq_false_iff_ne, ne_eq]
    intro h
    rw [ByteArray.toList_eq, ByteArray.toList_eq] at h
    exact e (ByteArray.ext (Array.ext' h))
  ·exact .inr ⟨fun ⟨_, _, e, _⟩ => (by cases e), fun ⟨_, e, _⟩ => (by cases e), fun ⟨_, _, e⟩ => hu e⟩
 ·simp at h
def v1q (P : Program) : List Field → List Da → Bool
 | [], [] => true
 | f :: r, .int _ _ :: xs => (match P.underlying f.type with | some (.int _) => true | _ => false) && v1q P r xs
 | f :: r, .bool _ :: xs => (match P.underlying f.type with | some .bool => true | _ => false) && v1q P r xs
 | f :: r, .str _ :: xs => (match P.underlying f.type with | some .string => true | _ => false) && v1q P r xs
 | _, _ => false
theorem aeQq {P : Program} {f : Field} {r : List Field} {x : Da} {xs : List Da} (h : v1q P (f :: r) (x :: xs) = true) : v1q P r xs = true ∧ ((∃ k m, x = .int k m ∧ ∃ k', P.underlying f.type = some (.int k')) ∨ (∃ c, x = .bool c ∧ P.underlying f.type = some .bool) ∨ (∃ q, x = .str q ∧ P.underlying f.type = some .string)) := by
 cases x with
 | int k m =>
  simp only [v1q, Bool.and_eq_true] at h
  refine ⟨h.2, .inl ⟨k, m, rfl, ?_⟩⟩
  have := h.1
  split at this
  ·rename_i k' hk; exact ⟨k', hk⟩
  ·simp at this
 | bool c =>
  simp only [v1q, Bool.and_eq_true] at h
  refine ⟨h.2, .inr (.inl ⟨c, rfl, ?_⟩)⟩
  have := h.1
  split at this
  ·assumption
  ·simp at this
 | str q =>
  simp only [v1q, Bool.and_eq_true] at h
  refine ⟨h.2, .inr (.inr ⟨q, rfl, ?_⟩)⟩
  have := h.1
  split at this
  ·assumption
  ·simp at this
 | sl _ => simp [v1q] at h
 | fn _ => simp [v1q] at h
 | tg _ _ => simp [v1q] at h
theorem aamq {P : Program} {w : World} {S S' : Nat → Prop} {d : Nat} : ∀ (fs : List Field) (k : Nat) (xs ys : List Da) (us vs : List Value) (U V : Array Value) (b : Bool), a4Iq P fs k = true → v1q P fs xs = true → K4q xs ys = some b → RepDs w S xs us → RepDs w S' ys vs → (∀ i : Nat, U[k + i]? = us[i]?) → (∀ i : Nat, V[k + i]? = vs[i]?) →
  (Op.eqFields (d + 1) U V fs).run P w = .ok b w := by
 intro fs
 induction fs with
 | nil =>
  intro k xs ys us vs U V b _ hfit he _ _ _ _
  cases xs with
  | nil => cases ys <;> simp [K4q] at he; subst he; simp [Op.eqFields]
  | cons x r => cases x <;> simp [v1q] at hfit
 | cons f fs ih =>
  intro k xs ys us vs U V b hok hfit he hx hy hU hV
  simp only [a4Iq, Bool.and_eq_true, bne_iff_ne, ne_eq, beq_iff_eq] at hok
  obtain ⟨hn, ho, ht, hok⟩ := hok
  cases xs with
  | nil => simp [v1q] at hfit
  | cons x xs =>
   obtain ⟨hfit, hk⟩ := aeQq hfit
   cases ys with
   | nil => cases xs <;> simp [K4q] at he
   | cons y ys =>
    obtain ⟨u, us', rfl, hu, hus⟩ := hx.cons_inv
    obtain ⟨v, vs', rfl, hv, hvs⟩ := hy.cons_inv
    have hna : ∃ d, P.underlying f.type = some d ∧ E0q d = false := by
     unfold acGq at ht
     split at ht
     ·rename_i e; exact ⟨_, e, rfl⟩
     ·rename_i e; exact ⟨_, e, rfl⟩
     ·rename_i e; exact ⟨_, e, rfl⟩
     ·simp at ht
    obtain ⟨dd, hd, hag⟩ := hna
    have hpU : (part f.type U f.offset).run P w = .ok u w := by
     have := hU 0
     simp only [Nat.add_zero, List.getElem?_cons_zero] at this
     simp [part, n2q hd, hag, ho, this]
    have hpV : (part f.type V f.offset).run P w = .ok v w := by
     have := hV 0
     simp only [Nat.add_zero, List.getElem?_cons_zero] at this
     simp [part, n2q hd, hag, ho, this]
    have hb : ∃ b1, eqDa x y = some b1 ∧ ((xs = [] ∧ ys = [] ∧ b = b1) ∨ ∃ b2, K4q xs ys = some b2 ∧ b = (b1 && b2)) := by
     cases xs with
     | nil => cases ys with
      | nil => simp only [K4q] at he; exact ⟨b, he, .inl ⟨rfl, rfl, rfl⟩⟩
      | cons _ _ =>
       simp only [K4q] at he
       split at he
       ·rename_i h1 h2; simp [K4q] at h2
       ·simp at he
     | cons x2 xs2 =>
      simp only [K4q] at he
      split at he
      ·rename_i b1 b2 h1 h2; simp at he; exact ⟨b1, h1, .inr ⟨b2, h2, he.symm⟩⟩
      ·simp at he
    obtain ⟨b1, hb1, hb⟩ := hb
    have hrun : (Op.equalIn (d + 1) f.type u v).run P w = .ok b1 w := by
     rcases aeXq (d := d) hu hv hb1 ht with h | ⟨n1, n2, n3⟩
     ·exact h
     ·rcases hk with hk | hk | hk
      ·exact absurd hk n1
      ·exact absurd hk n2
      ·exact absurd hk n3
    have hrest : b1 = true → (Op.eqFields (d + 1) U V fs).run P w = .ok b w := by
     intro hb1t
     have hU' : ∀ i : Nat, U[(k + 1) + i]? = us'[i]? := fun i => by have := hU (i + 1); simp at this; rw [← this]; congr 1; omega
     have hV' : ∀ i : Nat, V[(k + 1) + i]? = vs'[i]? := fun i => by have := hV (i + 1); simp at this; rw [← this]; congr 1; omega
     rcases hb with ⟨rfl, rfl, rfl⟩ | ⟨b2, h2, rfl⟩
     ·subst hb1t
      exact ih (k + 1) [] [] us' vs' U V true hok hfit rfl hus hvs hU' hV'
     ·subst hb1t
      exact ih (k + 1) xs ys us' vs' U V _ hok hfit (by simpa using h2) hus hvs hU' hV'
    simp only [Op.eqFields, hn, ne_eq, not_false_eq_true, if_true, Sem.run_bind, hpU, hpV, Result.andThen_ok, hrun, Sem.run_ite]
    cases b1 with
    | true => simpa using hrest rfl
    | false =>
     have : b = false := by
      rcases hb with ⟨_, _, h⟩ | ⟨b2, _, h⟩
      ·exact h
      ·simpa using h
     simp [this]
theorem aadq {P : Program} {o : Oper} {av : Operand → Option AV} {x y : Operand} {t t' : TypeId} {fs : Array Field} {xs ys : List Da} {b : Bool} (ho : o.op = .binOp .eql t x y t') (hok : eqOk P t = true) (ht : P.underlying t = some (.struct fs)) (hfit : v1q P fs.toList xs = true) (hx : av x = some (.dat xs)) (hy : av y = some (.dat ys)) (he : K4q xs ys = some b) : OpP P o av [] (B b) [] := by
 refine b9q fun a w S β _ hr _ => ⟨.bool b, ?_, RepV.bool _⟩
 obtain ⟨us, e1, h1⟩ := (hr x _ hx (by simp [ho, Op.operands])).dat_inv
 obtain ⟨vs, e2, h2⟩ := (hr y _ hy (by simp [ho, Op.operands])).dat_inv
 simp only [eqOk, ht, Bool.and_eq_true, Bool.not_eq_true'] at hok
 have hff : P.fieldsOf t = fs := by simp [Program.fieldsOf, ht]
 have hrun : (Op.equalIn 10000 t (.agg us.toArray) (.agg vs.toArray)).run P w = .ok b w := by
  rw [show (10000 : Nat) = 9999 + 1 from rfl, run_equalIn_agg w 9999 t _ _ (by rw [hff]; exact ht) hok.1, hff]
  exact aamq (d := 9998) fs.toList 0 xs ys us vs _ _ b hok.2.2 hfit he h1 h2 (by simp) (by simp)
 simp [execOp, ho, e1, e2, run_eqGuard_agg w .eql t x y _ _ hok.2.1, run_eql_struct, hrun]
def WLoop (P : Program) (c : Code) (Q : Exit → Act → World → Prop) (a : Act) (w : World) : Prop := ∀ (b : Frame) (k : List Item) (cs : List Frame),
 ∃ e a' w', Q e a' w' ∧ Arrives P (lone (b.at a (.code c :: .inLoop c :: k)) cs w) b k cs e a' w'
section
variable {P : Program} {c : Code} {Q : Exit → Act → World → Prop} {a : Act} {w : World}
theorem WLoop.loop (h : WLoop P c Q a w) : (Code.loop c).wp P Q a w := fun b k cs =>
 let ⟨e, a', w', q, r⟩ := h b k cs; ⟨e, a', w', q, .of_steps (.one step_loop) r⟩
theorem WLoop.round (h : c.wp P (Exit.then (WLoop P c Q) Q) a w) : WLoop P c Q a w := by
 intro b k cs
 obtain ⟨e, a₁, w₁, hq, harr⟩ := h b (.inLoop c :: k) cs
 cases e with
 | normal =>
  obtain ⟨e₂, a₂, w₂, hq₂, harr₂⟩ := hq b k cs
  exact ⟨e₂, a₂, w₂, hq₂, .of_steps (Steps.trans harr (.one step_inLoop)) harr₂⟩
 | exit id => exact ⟨_, a₁, w₁, hq, .pass (x := .inLoop c) rfl (fun _ _ => .inl (by simp)) harr⟩
 | goto l => exact ⟨_, a₁, w₁, hq, .pass (x := .inLoop c) rfl (fun _ _ => .inl (by simp)) harr⟩
 | ret => exact ⟨_, a₁, w₁, hq, .pass (x := .inLoop c) rfl (fun _ _ => .inl (by simp)) harr⟩
 | panic ch => exact ⟨_, a₁, w₁, hq, .pass (x := .inLoop c) rfl (fun _ _ => .inl (by simp)) harr⟩
 | outgrown => exact ⟨_, a₁, w₁, hq, .pass (x := .inLoop c) rfl (fun _ _ => .inl (by simp)) harr⟩
end
def To (s s' : St) : Prop := ∀ (Γ : Cx) (a : Act) (w : World) (S : Nat → Prop) (β : Nat → OLoc), Sim Γ s a w S β → ∃ S' β', Sim Γ s' a w S' β'
theorem To.refl (s : St) : To s s := fun _ _ _ S β h => ⟨S, β, h⟩
theorem To.trans {s t u : St} (h : To s t) (k : To t u) : To s u := fun Γ a w S β hs => by
 obtain ⟨S', β', h'⟩ := h Γ a w S β hs
 exact k Γ a w S' β' h'
theorem To.frz {s : St} {tr : Bool} {k E es : Nat} {xs : List (List Da)} (hk : s.gob k = some (mkL tr E es xs)) (hpos : 0 < es) : To s (s.frz k xs) := fun _ _ _ S β hs => by
 obtain ⟨S', _, h⟩ := hs.frz hk hpos
 exact ⟨S', β, h⟩
theorem To.nilOb {s : St} {t d E es : Nat} (ht : s.get t = some (.one .e0)) (hf : s.fresh [(d, .lst E es [])] = true) : To s (s.nilOb t d E es) := fun _ _ _ S β hs => by
 obtain ⟨β', h⟩ := hs.nilOb ht hf
 exact ⟨S, β', h⟩
def WL (Γ : Cx) (P : Program) (c : Code) (N : St → Prop) (E : Exit → St → Prop) (s : St) : Prop := ∀ (a : Act) (w : World) (S : Nat → Prop) (β : Nat → OLoc), Sim Γ s a w S β →
 WLoop P c (fun e a' w' => ∃ s' S' β', a8Kq N E e s' ∧ Sim Γ s' a' w' S' β') a w
section
variable {Γ : Cx} {P : Program} {c : Code} {N : St → Prop} {E : Exit → St → Prop} {s s' : St} {ops : Array Oper} {l : List Oper} {K : St → Prop}
theorem W_to (h : To s s') (k : W Γ P c N E s') : W Γ P c N E s := fun a w S β hs => by
 obtain ⟨S', β', h'⟩ := h Γ a w S β hs
 exact k a w S' β' h'
theorem a3kq (h : To s s') (k : d5q Γ P ops l K s') : d5q Γ P ops l K s := fun a w S β R hs => by
 obtain ⟨S', β', h'⟩ := h Γ a w S β hs
 exact k a w S' β' R h'
theorem ah0q (h : To s s') (k : WL Γ P c N E s') : WL Γ P c N E s := fun a w S β hs => by
 obtain ⟨S', β', h'⟩ := h Γ a w S β hs
 exact k a w S' β' h'
theorem N8q {fn : Func} {r : AV} {I O : List (Nat × Ob)} {mv : List Nat} (h : To s s') (k : RetX P fn s' r I O mv) : RetX P fn s r I O mv := fun w0 S0 n β0 a w S β hs => by
 obtain ⟨S', β', h'⟩ := h _ a w S β hs
 exact k w0 S0 n β0 a w S' β' h'
theorem afVq (h : WL Γ P c N E s) : W Γ P (.loop c) N E s := fun a w S β hs => (h a w S β hs).loop
theorem aetq (h : W Γ P c (fun s' => WL Γ P c N E s') E s) : WL Γ P c N E s := by
 intro a w S β hs
 refine WLoop.round (Code.wp_mono ?_ (h a w S β hs))
 rintro e a' w' ⟨s', S', β', hq, hs'⟩
 cases e with
 | normal => exact hq a' w' S' β' hs'
 | _ => exact ⟨s', S', β', hq, hs'⟩
end
def a3pq (l : List (Nat × Nat)) (β : Nat → OLoc) (k : Nat) : OLoc := match l.find? fun p => p.2 == k with
 | some p => β p.1
 | none => β k
def a1mq (l : List (Nat × Nat)) : Bool := l.all fun p => (decide (p.2 < 2000) || p.1 == p.2) && l.all fun q => (p.2 != q.2 || p.1 == q.1) && (p.1 != q.1 || p.2 == q.2)
def a3rq (l : List (Nat × Nat)) (s : St) : List Nat → List (Nat × AV)
 | [] => []
 | t :: r => match s.get t with
  | some x => (t, x.map (k6q l)) :: a3rq l s r
  | none => a3rq l s r
def a1nq (l : List (Nat × Nat)) (s : St) : List (Nat × Nat) → List (Nat × Ob)
 | [] => []
 | (k, k') :: r => match s.gob k with
  | some X => (k', X.map (k6q l)) :: a1nq l s r
  | none => a1nq l s r
def St.ren (s : St) (l : List (Nat × Nat)) (ts : List Nat) : St := ⟨a3rq l s ts, a1nq l s l⟩
theorem a1Nq {l : List (Nat × Nat)} {s : St} {i : Nat} {y : AV} : ∀ {ts : List Nat}, a4q (a3rq l s ts) i = some y → ∃ x, s.get i = some x ∧ y = x.map (k6q l)
 | [], h => by simp [a3rq, a4q] at h
 | t :: r, h => by
  simp only [a3rq] at h
  split at h
  ·rename_i x hx
   simp only [a4q] at h
   split at h
   ·rename_i e; simp at e h; subst e; exact ⟨x, hx, h.symm⟩
   ·exact a1Nq h
  ·exact a1Nq h
theorem a0Lq {l : List (Nat × Nat)} {s : St} {i : Nat} {Y : Ob} : ∀ {m : List (Nat × Nat)}, a4q (a1nq l s m) i = some Y → ∃ k X, (k, i) ∈ m ∧ s.gob k = some X ∧ Y = X.map (k6q l)
 | [], h => by simp [a1nq, a4q] at h
 | (k, k') :: r, h => by
  simp only [a1nq] at h
  split at h
  ·rename_i X hX
   simp only [a4q] at h
   split at h
   ·rename_i e; simp at e h; subst e; exact ⟨k, X, by simp, hX, h.symm⟩
   ·obtain ⟨k2, X2, hm, h2⟩ := a0Lq h; exact ⟨k2, X2, by simp [hm], h2⟩
  ·obtain ⟨k2, X2, hm, h2⟩ := a0Lq h; exact ⟨k2, X2, by simp [hm], h2⟩
theorem To.ren {s : St} {l : List (Nat × Nat)} {ts : List Nat} (hg : a1mq l = true) : To s (s.ren l ts) := by
 simp only [a1mq, List.all_eq_true, Bool.and_eq_true, Bool.or_eq_true, decide_eq_true_eq, beq_iff_eq, bne_iff_ne, ne_eq] at hg
 intro Γ a w S β hs
 have hin : ∀ k k', (k, k') ∈ l → a3pq l β k' = β k := by
  intro k k' hm
  unfold a3pq
  split
  ·rename_i p hp
   have h1 := List.find?_some hp
   have h2 := List.mem_of_find?_eq_some hp
   simp only [beq_iff_eq] at h1
   rcases ((hg p h2).2 (k, k') hm).1 with h | h
   ·exact absurd h1 h
   ·rw [h]
  ·rename_i hn
   have := List.find?_eq_none.1 hn (k, k') hm
   simp at this
 have hf : ∀ o k, a4q l o = some k → a3pq l β k = β o := fun o k h => hin o k (f6q h)
 have hfix : ∀ o l', Γ.fix o l' → a3pq l β o = l' := by
  intro o l' h
  obtain ⟨h1, h2⟩ := hs.mem.fix o l' h
  unfold a3pq
  split
  ·rename_i p hp
   have h3 := List.find?_some hp
   have h4 := List.mem_of_find?_eq_some hp
   simp only [beq_iff_eq] at h3
   rcases (hg p h4).1 with h5 | h5
   ·omega
   ·rw [h5, h3]; exact h2
  ·exact h2
 have hT : ∀ o X, (s.ren l ts).gob o = some X → ∃ k Y, (k, o) ∈ l ∧ s.gob k = some Y ∧ X = Y.map (k6q l) := fun o X h => a0Lq h
 refine ⟨S, a3pq l β, hs.defers, hs.sz, fun i y hi => ?_, hs.mem.lt, fun o X ho => ?_, fun o X ho b hh => ?_, fun o o' X X' ho ho' b hh hh' => ?_, hs.mem.os, hs.mem.tape, hs.mem.output, hs.mem.size, hs.mem.block, hs.mem.sub, hs.mem.sup, fun o l' h => ⟨(hs.mem.fix o l' h).1, hfix o l' h⟩, fun o X ho b hh => ?_, fun o o' X X' ho ho' b hh hh' => ?_⟩
 ·obtain ⟨x, hx, rfl⟩ := a1Nq hi
  obtain ⟨v, hv, hr⟩ := hs.tm i x hx
  exact ⟨v, hv, hr.map (RepA.ren hf) fun _ _ h => h⟩
 ·obtain ⟨k, Y, hm, hk, rfl⟩ := hT o X ho
  rw [hin k o hm]
  exact (hs.mem.ob k Y hk).ren hf
 ·obtain ⟨k, Y, hm, hk, rfl⟩ := hT o X ho
  rw [hin k o hm] at hh
  exact hs.mem.own k Y hk b hh
 ·obtain ⟨k, Y, hm, hk, rfl⟩ := hT o X ho
  obtain ⟨k', Y', hm', hk', rfl⟩ := hT o' X' ho'
  rw [hin k o hm] at hh
  rw [hin k' o' hm'] at hh'
  have := hs.mem.sep k k' Y Y' hk hk' b hh hh'
  subst this
  rcases ((hg _ hm).2 _ hm').2 with h | h
  ·exact absurd rfl h
  ·exact h
 ·obtain ⟨k, Y, hm, hk, rfl⟩ := hT o X ho
  rw [hin k o hm] at hh
  exact hs.mem.clm k Y hk b hh
 ·obtain ⟨k, Y, hm, hk, rfl⟩ := hT o X ho
  obtain ⟨k', Y', hm', hk', rfl⟩ := hT o' X' ho'
  rw [hin k o hm] at hh
  rw [hin k' o' hm'] at hh'
  have := hs.mem.sepc k k' Y Y' hk hk' b hh hh'
  subst this
  rcases ((hg _ hm).2 _ hm').2 with h | h
  ·exact absurd rfl h
  ·exact h
theorem RepAs.setAt {w : World} {S : Nat → Prop} {β : Nat → OLoc} {y z : At} (hy : ∀ v, RepA w S β z v → RepA w S β y v) : ∀ {xs : List At} {vs : List Value} {q : Nat}, RepAs w S β xs vs → xs[q]? = some z → RepAs w S β (xs.set q y) vs := by
 intro xs
 induction xs with
 | nil => intro vs q _ h; simp at h
 | cons x r ih =>
  intro vs q h hq
  cases h with
  | cons h1 h2 =>
   cases q with
   | zero => simp at hq; subst hq; exact .cons (hy _ h1) h2
   | succ q => exact .cons h1 (ih h2 (by simpa using hq))
def St.nilCell (s : St) (k q d E es : Nat) (cs : List At) : St := ⟨s.tm, (k, .var (cs.set q (.ol d))) :: (d, .tr E es []) :: s.ob⟩
theorem To.nilCell {s : St} {k q d E es : Nat} {cs : List At} (hk : s.gob k = some (.var cs)) (hc : cs[q]? = some .e0) (hf : s.fresh [(d, .lst E es [])] = true) : To s (s.nilCell k q d E es cs) := by
 intro Γ a w S β hs
 let l0 : OLoc := ⟨0, none, 0, 0, false, [], []⟩
 have hl0 : ∀ b, ¬ l0.Own b := fun b hb => by rcases hb with ⟨h, _⟩ | h <;> simp [l0] at h
 let β' : Nat → OLoc := fun o => if o = d then l0 else β o
 have hlow := G9q hf _ (List.mem_singleton.2 rfl)
 have hβ : ∀ o, o ≠ d → β' o = β o := fun o ho => if_neg ho
 have hd : β' d = l0 := if_pos rfl
 have hkd : k ≠ d := fun e => (t8q hf hk).1 _ (List.mem_singleton.2 rfl) e.symm
 have hT : ∀ o X, (s.nilCell k q d E es cs).gob o = some X → (o = k ∧ X = .var (cs.set q (.ol d))) ∨ (o = d ∧ X = .tr E es []) ∨ (o ≠ d ∧ o ≠ k ∧ s.gob o = some X) := by
  intro o X ho
  simp only [St.nilCell, St.gob, a4q] at ho
  by_cases e : k = o
  ·subst e; simp at ho; exact .inl ⟨rfl, ho.symm⟩
  ·by_cases e2 : d = o
   ·subst e2; simp [e] at ho; exact .inr (.inl ⟨rfl, ho.symm⟩)
   ·simp [e, e2] at ho; exact .inr (.inr ⟨fun h => e2 h.symm, fun h => e h.symm, ho⟩)
 have hids : ∀ o X, s.gob o = some X → ∀ o' ∈ X.ids, β' o' = β o' := fun o X ho o' ho' => hβ o' fun e => (t8q hf ho).2 o' ho' _ (List.mem_singleton.2 rfl) e.symm
 have hnil : (.slice none 0 0 : Value) = (β' d).sv := by rw [hd]; rfl
 refine ⟨S, β', hs.defers, hs.sz, fun i x hi => ?_, ⟨hs.mem.lt, fun o X ho => ?_, fun o X ho b hh => ?_, fun o o' X X' ho ho' b hh hh' => ?_, hs.mem.os, hs.mem.tape, hs.mem.output, hs.mem.size, hs.mem.block, hs.mem.sub, hs.mem.sup, fun o l hl => ?_, fun o X ho b hh => ?_, fun o o' X X' ho ho' b hh hh' => ?_⟩⟩
 ·obtain ⟨v, hv, hr⟩ := hs.tm i x hi
  exact ⟨v, hv, hr.mono (fun _ _ => rfl) (fun _ h => h) fun o ho => hβ o fun e => N6q hf hi o ho _ (List.mem_singleton.2 rfl) e.symm⟩
 ·rcases hT o X ho with ⟨rfl, rfl⟩ | ⟨rfl, rfl⟩ | ⟨h1, h2, ho⟩
  ·rw [hβ o hkd]
   have h1 := (hs.mem.ob o _ hk).mono (w' := w) (S' := S) (β' := β') (fun _ _ => rfl) (fun _ _ => rfl) (fun _ h => h) (hids o _ hk)
   obtain ⟨hh, c, E0, hg, hr⟩ := h1
   refine ⟨hh, c, E0, hg, RepAs.setAt (z := .e0) (fun v hv => ?_) hr hc⟩
   cases hv
   rw [hnil]; exact .ol
  ·rw [hd]
   exact .inl ⟨rfl, by simp, by simp, [], [], ⟨by simp, .inl ⟨rfl, rfl⟩⟩, .nil, by simp, by simp⟩
  ·rw [hβ o h1]
   exact (hs.mem.ob o X ho).mono (fun _ _ => rfl) (fun _ _ => rfl) (fun _ h => h) (hids o X ho)
 ·rcases hT o X ho with ⟨rfl, rfl⟩ | ⟨rfl, rfl⟩ | ⟨h1, h2, ho⟩
  ·rw [hβ o hkd] at hh; exact hs.mem.own o _ hk b hh
  ·rw [hd] at hh; exact (hl0 b hh).elim
  ·rw [hβ o h1] at hh; exact hs.mem.own o X ho b hh
 ·have hold : ∀ o X, (s.nilCell k q d E es cs).gob o = some X → (β' o).Own b → o ≠ d ∧ ∃ Y, s.gob o = some Y := by
   intro o X ho hh
   rcases hT o X ho with ⟨rfl, rfl⟩ | ⟨rfl, rfl⟩ | ⟨h1, h2, ho⟩
   ·exact ⟨hkd, _, hk⟩
   ·rw [hd] at hh; exact (hl0 b hh).elim
   ·exact ⟨h1, _, ho⟩
  obtain ⟨h1, Y, hY⟩ := hold o X ho hh
  obtain ⟨h2, Y', hY'⟩ := hold o' X' ho' hh'
  rw [hβ o h1] at hh; rw [hβ o' h2] at hh'
  exact hs.mem.sep o o' Y Y' hY hY' b hh hh'
 ·obtain ⟨h1, h2⟩ := hs.mem.fix o l hl
  exact ⟨h1, (hβ o (by omega)).trans h2⟩
 ·rcases hT o X ho with ⟨rfl, rfl⟩ | ⟨rfl, rfl⟩ | ⟨h1, h2, ho⟩
  ·rw [hβ o hkd] at hh; exact hs.mem.clm o _ hk b hh
  ·rw [hd] at hh; cases hh
  ·rw [hβ o h1] at hh; exact hs.mem.clm o X ho b hh
 ·have hold : ∀ o X, (s.nilCell k q d E es cs).gob o = some X → b ∈ (β' o).clm → o ≠ d ∧ ∃ Y, s.gob o = some Y := by
   intro o X ho hh
   rcases hT o X ho with ⟨rfl, rfl⟩ | ⟨rfl, rfl⟩ | ⟨h1, h2, ho⟩
   ·exact ⟨hkd, _, hk⟩
   ·rw [hd] at hh; cases hh
   ·exact ⟨h1, _, ho⟩
  obtain ⟨h1, Y, hY⟩ := hold o X ho hh
  obtain ⟨h2, Y', hY'⟩ := hold o' X' ho' hh'
  rw [hβ o h1] at hh; rw [hβ o' h2] at hh'
  exact hs.mem.sepc o o' Y Y' hY hY' b hh hh'
def St.nilDat (s : St) (t : Nat) : St := ⟨(t, .one (.d (.sl []))) :: s.tm, s.ob⟩
theorem To.nilDat {s : St} {t : Nat} (ht : s.get t = some (.one .e0)) : To s (s.nilDat t) := by
 intro Γ a w S β hs
 refine ⟨S, β, hs.defers, hs.sz, fun i x hi => ?_, hs.mem⟩
 simp only [St.nilDat, St.get, a4q] at hi
 by_cases e : t = i
 ·subst e
  simp at hi
  subst hi
  obtain ⟨v, hv, hr⟩ := hs.tm t _ ht
  cases hr.one_inv
  exact ⟨_, hv, RepV.one (.d (RepDs.sl_nil _ _))⟩
 ·simp [e] at hi; exact hs.tm i x hi
structure Do (p : Prop) : Prop where
 h : p
inductive CK where
 | i (k : IntKind)
 | b
 | s
 | l
 | f
 | a
 deriving DecidableEq
def shC : CK → (Da → Prop) → Prop
 | .i k, K => ∃ n : Int, K (.int k n)
 | .b, K => ∃ b : Bool, K (.bool b)
 | .s, K => ∃ q : ByteArray, K (.str q)
 | .l, K => ∃ xs : List (List Da), K (.sl xs)
 | .f, K => ∃ f : FuncId, K (.fn f)
 | .a, K => ∃ d : Da, K d
def shp : List CK → (List Da → Prop) → Prop
 | [], K => K []
 | c :: r, K => shC c fun d => shp r fun ds => K (d :: ds)
theorem a9aq {c : CK} {K : Da → Prop} (h : shC c K) : ∃ d, K d := by
 cases c <;> exact h.elim fun _ h => ⟨_, h⟩
theorem C1q : ∀ {l : List CK} {K : List Da → Prop}, shp l K → ∃ ds, ds.length = l.length ∧ K ds
 | [], _, h => ⟨[], rfl, h⟩
 | c :: r, K, h => by
  obtain ⟨d, h⟩ := a9aq h
  obtain ⟨ds, hl, h⟩ := C1q h
  exact ⟨d :: ds, by simp [hl], h⟩
inductive RK where
 | k (c : CK)
 | o (E es : Nat)
 | e
inductive RS where
 | c (k : CK)
 | d (ks : List CK)
 | o (E es : Nat)
 | b (E es : Nat)
 | s (ks : List RK)
 | t (rs : List RS)
structure Env where
 tab : List (Nat × TI)
 zer : List (Nat × (Nat × Nat × List At))
 cks : List (Nat × List CK)
 sig : List (Nat × RS)
 fns : List Nat
 obj : List Nat
 ext : List Nat
 eqt : List (Nat × List CK)
 lw : Bool := false
 prm : List Nat := []
 cols : List (Nat × Nat) := []
 tkn : List (Nat × Nat) := []
 ovl : List Nat := []
def ahcq (P : Program) (f : FuncId) : Prop := ∃ fn, P.funcs[f]? = some fn ∧ (fn.name == "runtime.NumGoroutine") = false ∧ fn.body.isNone = true ∧ Extern.findNext fn = none ∧ Extern.find fn = some Extern.BytealgIndexByte.indexByte
def a13q (P : Program) : List Field → List CK → Bool
 | [], [] => true
 | f :: r, c :: ks => (match P.underlying f.type, c with
  | some (.int _), .i _ => true
  | some .bool, .b => true
  | some .string, .s => true
  | _, _ => false) && a13q P r ks
 | _, _ => false
def ckDa : List CK → List Da → Bool
 | [], [] => true
 | .i _ :: ks, .int _ _ :: xs => ckDa ks xs
 | .b :: ks, .bool _ :: xs => ckDa ks xs
 | .s :: ks, .str _ :: xs => ckDa ks xs
 | _, _ => false
def aflq (P : Program) (t : TypeId) (ks : List CK) : Bool := match P.underlying t with
 | some (.struct fs) => eqOk P t && a13q P fs.toList ks
 | _ => false
theorem a7kq {P : Program} : ∀ {fs : List Field} {ks : List CK} {xs : List Da}, a13q P fs ks = true → ckDa ks xs = true → v1q P fs xs = true
 | [], [], xs, _, h => by cases xs <;> simp_all [ckDa, v1q]
 | [], _ :: _, _, h, _ => by simp [a13q] at h
 | _ :: _, [], _, h, _ => by simp [a13q] at h
 | f :: r, c :: ks, xs, h, k => by
  simp only [a13q, Bool.and_eq_true] at h
  obtain ⟨h1, h2⟩ := h
  cases xs with
  | nil => cases c <;> simp [ckDa] at k
  | cons x xs =>
   cases c <;> cases x <;> simp only [ckDa, Bool.false_eq_true] at k <;> simp only [v1q, Bool.and_eq_true] <;> refine ⟨?_, a7kq h2 k⟩ <;> (split at h1 <;> simp_all)
def fnOk (P : Program) (f : FuncId) : Bool := match P.funcs[f]? with
 | some fn => !fn.body.isNone && !(fn.name == "runtime.NumGoroutine")
 | none => false
structure EnvOk (P : Program) (E : Env) : Prop where
 tab : TabOk P E.tab
 zer : ∀ t z, a4q E.zer t = some z → ZeroOk P t z.1 z.2.1 z.2.2
 fns : (E.fns.all fun f => fnOk P f) = true
 ext : ∀ f ∈ E.ext, ahcq P f
 eqt : (E.eqt.all fun p => aflq P p.1 p.2) = true
 ovl : ∀ f ∈ E.ovl, afoq P f
theorem a0aq {P : Program} {f : FuncId} (h : fnOk P f = true) : ∃ fn, P.funcs[f]? = some fn ∧ fn.body.isNone = false ∧ (fn.name == "runtime.NumGoroutine") = false := by
 unfold fnOk at h
 split at h
 ·rename_i fn hf
  simp only [Bool.and_eq_true, Bool.not_eq_true'] at h
  exact ⟨fn, hf, h.1, h.2⟩
 ·simp at h
def opt {α : Type} (z : Prop) (o : Option α) (K : α → Prop) : Prop := match o with
 | some a => K a
 | none => z
def chk (z : Prop) (b : Bool) (K : Prop) : Prop := match b with
 | true => K
 | false => z
def ifB (b : Bool) (p q : Prop) : Prop := match b with
 | true => p
 | false => q
theorem a0q {α : Type} {z : Prop} {o : Option α} {K : α → Prop} (hz : ¬ z) (h : opt z o K) : ∃ a, o = some a ∧ K a := by
 cases o with
 | some a => exact ⟨a, rfl, h⟩
 | none => exact absurd h hz
theorem a7q {z : Prop} {b : Bool} {K : Prop} (hz : ¬ z) (h : chk z b K) : b = true ∧ K := by
 cases b with
 | true => exact ⟨rfl, h⟩
 | false => exact absurd h hz
theorem g8q {b : Bool} {p q : Prop} (h1 : b = true → p) (h2 : b = false → q) : ifB b p q := by
 cases b with
 | true => exact h1 rfl
 | false => exact h2 rfl
theorem a6q {b : Bool} {p q : Prop} (hb : b = true) (h : p) : ifB b p q := by subst hb; exact h
theorem a2q {b : Bool} {p q : Prop} (hb : b = false) (h : q) : ifB b p q := by subst hb; exact h
theorem d2q {c : Prop} [Decidable c] {p q : Prop} (h1 : c → p) (h2 : ¬ c → q) : ifB (decide c) p q := g8q (fun h => h1 (of_decide_eq_true h)) fun h => h2 (of_decide_eq_false h)
def asL : Ob → Option (Bool × Nat × Nat × List (List Da))
 | .lst E es xs => some (false, E, es, xs)
 | .tr E es xs => some (true, E, es, xs)
 | _ => none
theorem H5q {X : Ob} {p : Bool × Nat × Nat × List (List Da)} (h : asL X = some p) : X = mkL p.1 p.2.1 p.2.2.1 p.2.2.2 := by
 cases X <;> simp [asL] at h <;> subst h <;> rfl
def asI : AV → Option (IntKind × Int)
 | .one (.d (.int k n)) => some (k, n)
 | _ => none
def asB : AV → Option Bool
 | .one (.d (.bool b)) => some b
 | _ => none
theorem afNq {X : AV} {k : IntKind} {n : Int} (h : asI X = some (k, n)) : X = I k n := by
 unfold asI at h
 split at h <;> simp at h
 obtain ⟨rfl, rfl⟩ := h
 rfl
theorem abAq {X : AV} {b : Bool} (h : asB X = some b) : X = B b := by
 unfold asB at h
 split at h <;> simp at h
 subst h
 rfl
theorem evI {s : St} {x : Operand} {p : IntKind × Int} (h : (s.ev x).bind asI = some p) : s.ev x = some (I p.1 p.2) := by
 cases hx : s.ev x with
 | none => rw [hx] at h; simp at h
 | some X => rw [hx] at h; exact congrArg some (afNq h)
def vBin (z : Prop) (pr : Nat) (op : BinOp) (X Y : AV) (k : AV → Prop) : Prop := match X, Y with
 | .one (.d (.int k1 m)), .one (.d (.int k2 n)) => match op with
  | .shl => Do (0 ≤ n ∧ n ≤ k1.bits) ∧ k (I k1 (k1.wrap (m * 2 ^ n.toNat)))
  | .shr => Do (0 ≤ n ∧ n ≤ k1.bits) ∧ k (I k1 (m / 2 ^ n.toNat))
  | .add => chk z (decide (k1 = k2)) (k (I k1 (k1.wrap (m + n))))
  | .sub => chk z (decide (k1 = k2)) (k (I k1 (k1.wrap (m - n))))
  | .mul => chk z (decide (k1 = k2)) (k (I k1 (k1.wrap (m * n))))
  | .quo => chk z (decide (k1 = k2)) (Do (n ≠ 0) ∧ k (I k1 (k1.wrap (m.tdiv n))))
  | .rem => chk z (decide (k1 = k2)) (Do (n ≠ 0) ∧ k (I k1 (m.tmod n)))
  | .lss => chk z (decide (k1 = k2)) (k (B (decide (m < n))))
  | .leq => chk z (decide (k1 = k2)) (k (B (decide (m ≤ n))))
  | .gtr => chk z (decide (k1 = k2)) (k (B (decide (n < m))))
  | .geq => chk z (decide (k1 = k2)) (k (B (decide (n ≤ m))))
  | .eql => chk z (decide (k1 = k2)) (k (B (decide (m = n))))
  | .neq => chk z (decide (k1 = k2)) (k (B (decide (m ≠ n))))
  | .and => chk z (decide (k1 = k2)) (k (I k1 (bits .and k1 m n)))
  | .or => chk z (decide (k1 = k2)) (k (I k1 (bits .or k1 m n)))
  | .xor => chk z (decide (k1 = k2)) (k (I k1 (bits .xor k1 m n)))
  | _ => z
 | .one (.d (.str p)), .one (.d (.str q)) => match op with
  | .eql => k (B (decide (p = q)))
  | .neq => k (B (decide (p ≠ q)))
  | .add => Do ((p ++ q).size ≤ 281474976710656) ∧ k (T (p ++ q))
  | _ => z
 | .one (.d (.bool b)), .one (.d (.bool c)) => match op with
  | .eql => chk z (decide (pr = 1)) (k (B (decide (b = c))))
  | .neq => chk z (decide (pr = 1)) (k (B (decide (b ≠ c))))
  | _ => z
 | _, _ => z
section
variable {P : Program} {E : Env} {z : Prop} {o : Oper} {s s0 : St}
theorem ac9q (hT : TabOk P E.tab) (hz : ¬ z) {op : BinOp} {t t' : TypeId} {x y : Operand} {X Y : AV} {i : TI} {k : AV → Prop} (ho : o.op = .binOp op t x y t') (ht : a4q E.tab t = some i) (hx : s.ev x = some X) (hy : s.ev y = some Y) (h : vBin z i.pr op X Y k) : ∃ r, OpS P o s s0 r [] ∧ k r := by
  unfold vBin at h
  split at h
  · rename_i k1 m k2 n
    split at h
    · exact ⟨_, c9q (afOq ho hx hy h.1.h.1 h.1.h.2), h.2⟩
    · exact ⟨_, c9q (agbq ho hx hy h.1.h.1 h.1.h.2), h.2⟩
    all_goals first
      | exact absurd h hz
      | (replace h := a7q hz h
         obtain ⟨hk, h⟩ := h
         obtain rfl := of_decide_eq_true hk
         first
           | exact ⟨_, c9q (afrq ho hx hy), h⟩
           | exact ⟨_, c9q (ag5q ho hx hy), h⟩
           | exact ⟨_, c9q (afQq ho hx hy), h⟩
           | exact ⟨_, c9q (afZq ho hx hy h.1.h), h.2⟩
           | exact ⟨_, c9q (afwq ho hx hy h.1.h), h.2⟩
           | exact ⟨_, c9q (afKq ho hx hy), h⟩
           | exact ⟨_, c9q (agiq ho hx hy), h⟩
           | exact ⟨_, c9q (ag9q ho hx hy), h⟩
           | exact ⟨_, c9q (afMq ho hx hy), h⟩
           | exact ⟨_, c9q (afzq ho hx hy), h⟩
           | exact ⟨_, c9q (ag1q ho hx hy), h⟩
           | exact ⟨_, c9q (afIq ho hx hy), h⟩
           | exact ⟨_, c9q (agIq ho hx hy), h⟩
           | exact ⟨_, c9q (ag2q ho hx hy), h⟩)
  · split at h
    · exact ⟨_, c9q (adPq ho hx hy), h⟩
    · exact ⟨_, c9q (adcq ho hx hy), h⟩
    · exact ⟨_, c9q (abMq ho hx hy h.1.h), h.2⟩
    · exact absurd h hz
  · split at h
    · obtain ⟨hk, h⟩ := a7q hz h
      exact ⟨_, advq hT ho hx hy ht (of_decide_eq_true hk), h⟩
    · obtain ⟨hk, h⟩ := a7q hz h
      exact ⟨_, ad8q hT ho hx hy ht (of_decide_eq_true hk), h⟩
    · exact absurd h hz
  · exact absurd h hz
end
def acSq (z : Prop) (E : Env) (op : BinOp) (t : TypeId) (pr : Nat) (X Y : AV) (k : AV → Prop) : Prop := match X, Y with
 | .dat xs, .dat ys => match op with
  | .eql => opt z (a4q E.eqt t) fun ks => chk z (ckDa ks xs) <| opt z (K4q xs ys) fun b => k (B b)
  | _ => z
 | X, Y => vBin z pr op X Y k
theorem aaGq {P : Program} {E : Env} {z : Prop} {o : Oper} {s s0 : St} (hE : EnvOk P E) (hz : ¬ z) {op : BinOp} {t t' : TypeId} {x y : Operand} {X Y : AV} {i : TI} {k : AV → Prop} (ho : o.op = .binOp op t x y t') (ht : a4q E.tab t = some i) (hx : s.ev x = some X) (hy : s.ev y = some Y) (h : acSq z E op t i.pr X Y k) : ∃ r, OpS P o s s0 r [] ∧ k r := by
 unfold acSq at h
 split at h
 ·split at h
  ·obtain ⟨ks, hks, h⟩ := a0q hz h
   obtain ⟨hc, h⟩ := a7q hz h
   obtain ⟨b, hb, h⟩ := a0q hz h
   have := List.all_eq_true.1 hE.eqt _ (f6q hks)
   simp only [aflq] at this
   split at this
   ·rename_i fs hfs
    simp only [Bool.and_eq_true] at this
    exact ⟨_, c9q (aadq ho this.1 hfs (a7kq this.2 hc) hx hy hb), h⟩
   ·simp at this
  ·exact absurd h hz
 ·exact ac9q hE.tab hz ho ht hx hy h
def orQ (K : Nat → Prop) : Nat → Nat → Prop
 | 0, _ => False
 | 1, q => K q
 | n + 1, q => K q ∨ orQ K n (q + 1)
theorem adbq {K : Nat → Prop} : ∀ {n q : Nat}, orQ K n q → ∃ q, K q
 | 0, _, h => h.elim
 | 1, q, h => ⟨q, h⟩
 | n + 2, q, h => by
  rcases h with h | h
  ·exact ⟨q, h⟩
  ·exact adbq h
def orH (h : Option Nat) (K : Nat → Prop) (n q : Nat) : Prop := match h with
 | some c => K c
 | none => orQ K n q
theorem a2Wq {h : Option Nat} {K : Nat → Prop} {n q : Nat} (hh : orH h K n q) : ∃ q, K q := by
 cases h with
 | some c => exact ⟨c, hh⟩
 | none => exact adbq hh
def a0gq (E : Env) : Operand → Option Nat
 | .tmp t => a4q E.cols t
 | _ => none
def Q0q (E : Env) : List Oper → List (Nat × Nat) → List (Nat × Nat)
 | [], M => M
 | o :: r, M => match o.dst, o.op with
  | some d, .indexAddr _ _ _ => Q0q E r ((d, 0) :: M)
  | some d, .fieldAddr t (.tmp y) q => match a4q M y, (a4q E.tab t).bind (fun i => i.fs[q]?) with
   | some c, some (some f) => Q0q E r ((d, c + f.1) :: M)
   | _, _ => Q0q E r M
  | some d, .move (.tmp y) => match a4q M y with
   | some c => Q0q E r ((d, c) :: M)
   | none => Q0q E r M
  | _, _ => Q0q E r M
theorem EnvOk.cols {P : Program} {E : Env} (h : EnvOk P E) (c : List (Nat × Nat)) : EnvOk P { E with cols := c } := ⟨h.tab, h.zer, h.fns, h.ext, h.eqt, h.ovl⟩
def adHq (z : Prop) (i : TI) (q : Nat) (X : AV) (k : AV → Prop) : Prop := opt z (i.fs[q]?) fun f => opt z f fun f => match f.2.2 with
 | false => opt z X.sc fun cs => opt z (cs[f.1]?) fun c => k (.one c)
 | true => match X with
  | .dat ds => k (.dat ((ds.drop f.1).take f.2.1))
  | _ => opt z X.sc fun cs => k (v2q ((cs.drop f.1).take f.2.1))
def a5mq (z : Prop) (i : TI) (q : Nat) (X : AV) (k : AV → Prop) : Prop := opt z (i.fs[q]?) fun f => opt z f fun f => chk z (decide (0 < f.2.1)) <| match X with
 | .one (.op o off) => k (.one (.op o (off + f.1)))
 | .one (.ep cs) => k (.one (.ep (cs.drop f.1)))
 | _ => z
def ac8q (z : Prop) (E : Env) (hc : Option Nat) (i : TI) (s0 : St) (X : AV) (k : AV → Prop) : Prop := match X with
 | .one (.ep cs) => match i.agg with
  | false => opt z (cs[0]?) fun c => k (.one (.d c))
  | true => chk z (decide (i.n ≤ cs.length)) (k (.dat (cs.take i.n)))
 | .one (.op o off) => opt z (s0.gob o) fun X => match X with
  | .var cs => match i.agg with
   | false => opt z (cs[off]?) fun c => k (.one c)
   | true => chk z (decide (off + i.n ≤ cs.length)) (k (v2q ((cs.drop off).take i.n)))
  | .fu Ee es xs c => opt z (a4q E.cks Ee) fun ck => chk z (decide (ck.length = es) && decide (i.n = es)) <| ∃ n : Nat, off = n * es ∧ shp ck fun ds => xs[n]? = some ds ∧ match i.agg with
    | false => opt z (ds[0]?) fun c => chk z (decide (es = 1)) (k (.one (.d c)))
    | true => k (.dat ds)
  | X => opt z (asL X) fun p => opt z (a4q E.cks p.2.1) fun ck => chk z (decide (ck.length = p.2.2.1)) <| match decide (i.n = p.2.2.1) with
   | true => ∃ n : Nat, off = n * p.2.2.1 ∧ shp ck fun ds => p.2.2.2[n]? = some ds ∧ match i.agg with
    | false => opt z (ds[0]?) fun c => chk z (decide (p.2.2.1 = 1)) (k (.one (.d c)))
    | true => k (.dat ds)
   | false => chk z (!i.agg && decide (i.n = 1)) <| orH hc (fun q => ∃ n : Nat, off = n * p.2.2.1 + q ∧ shp ck fun ds => p.2.2.2[n]? = some ds ∧ opt z (ds[q]?) fun c => k (.one (.d c))) p.2.2.1 0
 | _ => z
def a5Jq (z : Prop) (E : Env) (i : TI) (s0 : St) (X : AV) (n : Int) (k : AV → Prop) : Prop := opt z i.el fun e => opt z (a4q E.tab e) fun i2 => match X with
 | .one (.d (.sl xs)) => opt z (a4q E.cks e) fun ck => chk z (decide (i.pr = 4 ∧ 0 < i2.n ∧ ck.length = i2.n)) <| ∃ m : Nat, n = (m : Int) ∧ shp ck fun ds => xs[m]? = some ds ∧ k (.one (.ep ds))
 | .one (.ol o) => opt z (s0.gob o) fun X => match X with
  | .mt Ee es xs => chk z (decide (i.pr = 4 ∧ i2.n = es)) <| ∃ m : Nat, n = (m : Int) ∧ Do (m < xs.length) ∧ k (.one (.op o (m * es)))
  | X => opt z (asL X) fun p => chk z (decide (i.pr = 4 ∧ i2.n = p.2.2.1 ∧ 0 < p.2.2.1)) <| ∃ m : Nat, n = (m : Int) ∧ Do (m < p.2.2.2.length) ∧ k (.one (.op o (m * p.2.2.1)))
 | .one (.op o off) => chk z (decide (10 ≤ i.pr ∧ 0 ≤ n ∧ n < (i.pr - 10 : Nat))) (k (.one (.op o (off + n.toNat * i2.n))))
 | .one (.ps o es lo l) => chk z (decide (i.pr = 4 ∧ i2.n = es)) <| ∃ m : Nat, n = (m : Int) ∧ Do (m < l) ∧ k (.one (.op o ((lo + m) * es)))
 | _ => z
def vLen (z : Prop) (i : TI) (s0 : St) (X : AV) (k : AV → Prop) : Prop := match X with
 | .one (.d (.str q)) => chk z (decide (i.pr = 2)) (k (Z q.size))
 | .one (.d (.sl xs)) => chk z (decide (i.pr = 4) && i.el.isSome) (k (Z xs.length))
 | .one .e0 => chk z (decide (i.pr = 4) && i.el.isSome) (k (Z 0))
 | .one (.ps _ _ _ n) => chk z (decide (i.pr = 4) && i.el.isSome) (k (Z n))
 | .one (.ol o) => opt z (s0.gob o) fun X => match X with
  | .mt Ee es xs => chk z (decide (i.pr = 4) && i.el.isSome) (k (Z xs.length))
  | X => opt z (asL X) fun p => chk z (decide (i.pr = 4) && i.el.isSome) (k (Z p.2.2.2.length))
 | _ => z
def w4q (z : Prop) (s : St) (u : Option Operand) (n0 : Nat) (K : Nat → Prop) : Prop := match u with
 | none => K n0
 | some x => opt z ((s.ev x).bind asI) fun p => ∃ n : Nat, p.2 = (n : Int) ∧ K n
def vCut (z : Prop) (E : Env) (i : TI) (s s0 : St) (X : AV) (lo hi : Option Operand) (k : AV → Prop) : Prop := match X with
 | .one (.d (.str q)) => chk z (decide (i.pr = 2)) <| w4q z s lo 0 fun l => w4q z s hi q.size fun h => Do (l ≤ h ∧ h ≤ q.size) ∧ k (T (q.extract l h))
 | .one (.d (.sl xs)) => opt z i.el fun e => opt z (a4q E.tab e) fun i2 => chk z (decide (i.pr = 4)) <| w4q z s lo 0 fun l => w4q z s hi xs.length fun h => Do (l ≤ h ∧ h ≤ xs.length) ∧ Do (∀ c ∈ xs, c.length = i2.n) ∧ k (L ((xs.take h).drop l))
 | .one (.ps o es l0 n) => opt z i.el fun e => opt z (a4q E.tab e) fun i2 => chk z (decide (i.pr = 4 ∧ i2.n = es)) <| w4q z s lo 0 fun l => w4q z s hi n fun h => match s0.gob o with
  | some (.fu _ _ _ c) => Do (l ≤ h ∧ (h ≤ n ∨ l0 + h ≤ c)) ∧ k (.one (.ps o es (l0 + l) (h - l)))
  | some (.lst _ _ _) => Do (l ≤ h ∧ h ≤ n) ∧ k (.one (.ps o es (l0 + l) (h - l)))
  | some (.tr _ _ _) => Do (l ≤ h ∧ h ≤ n) ∧ k (.one (.ps o es (l0 + l) (h - l)))
  | _ => z
 | .one (.ol o) => opt z i.el fun e => opt z (a4q E.tab e) fun i2 => match s0.gob o with
  | some (.lst Ee es xs) => chk z (decide (i.pr = 4 ∧ i2.n = es)) <| w4q z s lo 0 fun l => w4q z s hi xs.length fun h => Do (l ≤ h ∧ h ≤ xs.length) ∧ k (.one (.ps o es (0 + l) (h - l)))
  | some (.tr Ee es xs) => chk z (decide (i.pr = 4 ∧ i2.n = es)) <| w4q z s lo 0 fun l => w4q z s hi xs.length fun h => Do (l ≤ h ∧ h ≤ xs.length) ∧ k (.one (.ps o es (0 + l) (h - l)))
  | _ => z
 | .one .e0 => opt z i.el fun e => opt z (a4q E.tab e) fun i2 => chk z (decide (i.pr = 4)) <| w4q z s lo 0 fun l => w4q z s hi 0 fun h => Do (l = 0 ∧ h = 0) ∧ k (.one .e0)
 | _ => z
def ac4q (z : Prop) (E : Env) (i : TI) (s : St) (X : AV) (lo hi : Option Operand) (mx : Operand) (k : AV → Prop) : Prop := match X, lo, hi with
 | .one (.ps _ _ _ n), some lo, some hi => opt z i.el fun e => opt z (a4q E.tab e) fun _ => chk z (decide (i.pr = 4)) <| w4q z s (some lo) 0 fun l => w4q z s (some hi) n fun h => w4q z s (some mx) n fun m => Do (l ≤ h ∧ h ≤ m ∧ m ≤ n) ∧ k (.one .junk)
 | _, _, _ => z
def vCap (z : Prop) (i : TI) (s0 : St) (X : AV) (k : AV → Prop) : Prop := match X with
 | .one .e0 => chk z (decide (i.pr = 4) && i.el.isSome) (k (Z 0))
 | .one (.ps o es lo n) => chk z (decide (i.pr = 4) && i.el.isSome) <| match s0.gob o with
  | some (.fu _ _ _ c) => k (Z ((c - lo : Nat) : Int))
  | _ => z
 | _ => z
def a48q (z : Prop) (E : Env) (i i2 : TI) (s0 : St) (X : AV) (k : AV → Prop) : Prop := match X with
 | .one (.d (.int kk n)) => match i2.ik with
  | some k' => k (I k' (k'.wrap n))
  | none => chk z (decide (i2.pr = 2)) (Do ((Utf8.encode n).size ≤ 281474976710656) ∧ k (T (Utf8.encode n)))
 | .one (.d (.str q)) => chk z (decide (i.pr = 2 ∧ i2.pr = 2)) (k (T q))
 | .one (.ol o) => opt z (s0.gob o) fun X => match X with
  | X => opt z (asL X) fun p => opt z i.el fun e => opt z (a4q E.tab e) fun ie => chk z (decide (i.pr = 4 ∧ i2.pr = 2 ∧ p.2.2.1 = 1 ∧ ie.ik = some .u8)) (∃ ns : List Int, p.2.2.2 = ns.map (fun n => [Da.int .u8 n]) ∧ k (T (strOfNums ns)))
 | _ => z
section
variable {P : Program} {E : Env} {z : Prop} {o : Oper} {s s0 : St} {t : TypeId} {x y : Operand} {X : AV} {i : TI} {k : AV → Prop}
theorem a9lq (hT : TabOk P E.tab) (hz : ¬ z) {q : Nat} (ho : o.op = .field t x q) (ht : a4q E.tab t = some i) (hx : s.ev x = some X) (h : adHq z i q X k) : ∃ r, OpS P o s s0 r [] ∧ k r := by
 replace h := a0q hz h
 obtain ⟨f, hf, h⟩ := h
 replace h := a0q hz h
 obtain ⟨⟨off, n, a⟩, rfl, h⟩ := h
 cases a with
 | false =>
  obtain ⟨cs, hcs, h⟩ := a0q hz h
  obtain ⟨c, hc, h⟩ := a0q hz h
  exact ⟨_, adGq hT ho ht hf hx hcs hc, h⟩
 | true =>
  simp only at h
  split at h
  ·exact ⟨_, adVq hT ho ht hf hx, h⟩
  ·obtain ⟨cs, hcs, h⟩ := a0q hz h
   exact ⟨_, a7lq hT ho ht hf hx hcs, h⟩
theorem a4rq (hT : TabOk P E.tab) (hz : ¬ z) {q : Nat} (ho : o.op = .fieldAddr t x q) (ht : a4q E.tab t = some i) (hx : s.ev x = some X) (h : a5mq z i q X k) : ∃ r, OpS P o s s0 r [] ∧ k r := by
 replace h := a0q hz h
 obtain ⟨f, hf, h⟩ := h
 replace h := a0q hz h
 obtain ⟨⟨off, n, a⟩, rfl, h⟩ := h
 obtain ⟨hn, h⟩ := a7q hz h
 have hn := of_decide_eq_true hn
 split at h
 ·exact ⟨_, a8jq hT ho ht hf hn hx, h⟩
 ·exact ⟨_, a85q hT ho ht hf hn hx, h⟩
 ·exact absurd h hz
theorem aaZq {hq : Option Nat} (hT : TabOk P E.tab) (hz : ¬ z) (ho : o.op = .load t x) (ht : a4q E.tab t = some i) (hx : s.ev x = some X) (h : ac8q z E hq i s0 X k) : ∃ r, OpS P o s s0 r [] ∧ k r := by
 unfold ac8q at h
 split at h
 ·split at h
  ·rename_i ha
   obtain ⟨c, hc, h⟩ := a0q hz h
   exact ⟨_, adMq hT ho ht ha hx hc, h⟩
  ·rename_i ha
   obtain ⟨hl, h⟩ := a7q hz h
   exact ⟨_, abVq hT ho ht ha hx (of_decide_eq_true hl), h⟩
 ·obtain ⟨Y, hY, h⟩ := a0q hz h
  split at h
  ·split at h
   ·rename_i ha
    obtain ⟨c, hc, h⟩ := a0q hz h
    exact ⟨_, ad0q hT ho ht ha hx hY hc, h⟩
   ·rename_i ha
    obtain ⟨hl, h⟩ := a7q hz h
    exact ⟨_, adqq hT ho ht ha hx hY (of_decide_eq_true hl), h⟩
  ·rename_i Ee es xs c
   obtain ⟨ck, _, h⟩ := a0q hz h
   obtain ⟨hl, n, hoff, h⟩ := a7q hz h
   simp only [Bool.and_eq_true, decide_eq_true_eq] at hl
   obtain ⟨ds, hds, hn, h⟩ := C1q h
   obtain ⟨d1, j1, hd, hj, g1, g2, g3, _⟩ := b2q (hT t i ht)
   split at h
   ·rename_i ha
    obtain ⟨c0, hc0, h⟩ := a0q hz h
    obtain ⟨he, h⟩ := a7q hz h
    have he := of_decide_eq_true he
    subst he
    obtain ⟨c1, rfl⟩ : ∃ c1, ds = [c1] := by
     match ds, (hds.trans hl.1) with
     | [c1], _ => exact ⟨c1, rfl⟩
    simp at hc0
    subst hc0
    exact ⟨_, ⟨_, acIq ho hd (g1.trans ha) hx hn (by omega), hY, trivial⟩, h⟩
   ·rename_i ha
    exact ⟨_, ⟨_, adBq ho hd (g1.trans ha) hj hx hn hoff (g2.trans hl.2), hY, trivial⟩, h⟩
  ·obtain ⟨⟨tr, Ee, es, xs⟩, hp, h⟩ := a0q hz h
   have hp := H5q hp
   rw [hp] at hY
   dsimp only at h hY
   obtain ⟨ck, hck, h⟩ := a0q hz h
   obtain ⟨hl, h⟩ := a7q hz h
   have hl1 := of_decide_eq_true hl
   split at h
   ·rename_i hl2
    have hl2 := of_decide_eq_true hl2
    obtain ⟨n, hoff, h⟩ := h
    obtain ⟨ds, hds, hn, h⟩ := C1q h
    split at h
    ·rename_i ha
     obtain ⟨c, hc, h⟩ := a0q hz h
     obtain ⟨_, h⟩ := a7q hz h
     exact ⟨_, a7cq (q := 0) hT ho ht ha hx hY hn hc (by omega), h⟩
    ·rename_i ha
     exact ⟨_, adrq hT ho ht ha hx hY hn hoff (by omega), h⟩
   ·obtain ⟨ha, h⟩ := a7q hz h
    simp only [Bool.and_eq_true, Bool.not_eq_true', decide_eq_true_eq] at ha
    obtain ⟨q, n, hoff, h⟩ := a2Wq h
    obtain ⟨ds, hds, hn, h⟩ := C1q h
    obtain ⟨c, hc, h⟩ := a0q hz h
    exact ⟨_, a7cq (q := q) hT ho ht ha.1 hx hY hn hc hoff, h⟩
 ·exact absurd h hz
theorem a4sq (hT : TabOk P E.tab) (hz : ¬ z) {kk : IntKind} {n : Int} (ho : o.op = .indexAddr t x y) (ht : a4q E.tab t = some i) (hx : s.ev x = some X) (hy : s.ev y = some (I kk n)) (h : a5Jq z E i s0 X n k) : ∃ r, OpS P o s s0 r [] ∧ k r := by
 obtain ⟨e, he, h⟩ := a0q hz h
 obtain ⟨i2, ht2, h⟩ := a0q hz h
 split at h
 ·obtain ⟨ck, hck, h⟩ := a0q hz h
  obtain ⟨hl, m, hnm, h⟩ := a7q hz h
  rw [hnm] at hy
  obtain ⟨h1, h2, h3⟩ := of_decide_eq_true hl
  obtain ⟨ds, hds, hm, h⟩ := C1q h
  exact ⟨_, adzq hT ho ht h1 he ht2 h2 hx hy hm (by omega), h⟩
 ·obtain ⟨Y, hY, h⟩ := a0q hz h
  split at h
  ·obtain ⟨hl, m, rfl, hm, h⟩ := a7q hz h
   obtain ⟨h1, h2⟩ := of_decide_eq_true hl
   exact ⟨_, ad6q hT ho ht h1 he ht2 hx hY h2 hy hm.h, h⟩
  obtain ⟨⟨tr, Ee, es, xs⟩, hp, h⟩ := a0q hz h
  have hp := H5q hp
  rw [hp] at hY
  dsimp only at h hY
  obtain ⟨hl, m, rfl, hm, h⟩ := a7q hz h
  obtain ⟨h1, h2, h3⟩ := of_decide_eq_true hl
  exact ⟨_, adyq hT ho ht h1 he ht2 hx hY h2 h3 hy hm.h, h⟩
 ·obtain ⟨hl, h⟩ := a7q hz h
  obtain ⟨h1, h2, h3⟩ := of_decide_eq_true hl
  obtain ⟨m, rfl⟩ := Int.eq_ofNat_of_zero_le h2
  exact ⟨_, adUq (m := i.pr - 10) hT ho ht he (by omega) ht2 hx hy (by omega), h⟩
 ·obtain ⟨hl, m, rfl, hm, h⟩ := a7q hz h
  obtain ⟨h1, h2⟩ := of_decide_eq_true hl
  obtain ⟨d, j, hd, hj, a1, a2, a3, a4, a5, a6, a7⟩ := b2q (hT t i ht)
  obtain ⟨d2, j2, hd2, hj2, g1, g2, g3, _⟩ := b2q (hT e i2 ht2)
  have := h0q (a4.trans he) (a6.trans h1); subst this
  exact ⟨_, c9q (acPq ho hd hj2 (g2.trans h2) hx hy hm.h), h⟩
 ·exact absurd h hz
theorem ackq (hT : TabOk P E.tab) (hz : ¬ z) (ho : o.op = .call { callee := .builtin .len, args := #[x], argTypes := #[t] }) (ht : a4q E.tab t = some i) (hx : s.ev x = some X) (h : vLen z i s0 X k) : ∃ r, OpS P o s s0 r [] ∧ k r := by
 unfold vLen at h
 split at h
 ·obtain ⟨hl, h⟩ := a7q hz h
  exact ⟨_, agdq hT ho hx ht (of_decide_eq_true hl), h⟩
 ·obtain ⟨hl, h⟩ := a7q hz h
  simp only [Bool.and_eq_true, decide_eq_true_eq, Option.isSome_iff_exists] at hl
  obtain ⟨h1, e, he⟩ := hl
  exact ⟨_, afFq hT ho hx ht h1 he, h⟩
 ·obtain ⟨hl, h⟩ := a7q hz h
  simp only [Bool.and_eq_true, decide_eq_true_eq, Option.isSome_iff_exists] at hl
  obtain ⟨h1, e, he⟩ := hl
  exact ⟨_, agaq hT ho hx ht h1 he, h⟩
 ·obtain ⟨hl, h⟩ := a7q hz h
  simp only [Bool.and_eq_true, decide_eq_true_eq, Option.isSome_iff_exists] at hl
  obtain ⟨h1, e, he⟩ := hl
  obtain ⟨d, j, hd, hj, a1, a2, a3, a4, a5, a6, a7⟩ := b2q (hT t i ht)
  have := h0q (a4.trans he) (a6.trans h1); subst this
  exact ⟨_, c9q (aeOq ho hd hx), h⟩
 ·obtain ⟨Y, hY, h⟩ := a0q hz h
  split at h
  ·obtain ⟨hl, h⟩ := a7q hz h
   simp only [Bool.and_eq_true, decide_eq_true_eq, Option.isSome_iff_exists] at hl
   obtain ⟨h1, e, he⟩ := hl
   exact ⟨_, afXq hT ho hx hY ht h1 he, h⟩
  obtain ⟨⟨tr, Ee, es, xs⟩, hp, h⟩ := a0q hz h
  have hp := H5q hp
  rw [hp] at hY
  dsimp only at h hY
  obtain ⟨hl, h⟩ := a7q hz h
  simp only [Bool.and_eq_true, decide_eq_true_eq, Option.isSome_iff_exists] at hl
  obtain ⟨h1, e, he⟩ := hl
  exact ⟨_, afDq hT ho hx hY ht h1 he, h⟩
 ·exact absurd h hz
theorem l8q (hz : ¬ z) {u : Option Operand} {n0 : Nat} {K : Nat → Prop} (h : w4q z s u n0 K) : ∃ (n : Nat) (kk : IntKind), ((u = none ∧ n = n0) ∨ ∃ v, u = some v ∧ s.ev v = some (I kk (n : Int))) ∧ K n := by
 unfold w4q at h
 split at h
 ·exact ⟨n0, .i64, .inl ⟨rfl, rfl⟩, h⟩
 ·obtain ⟨p, hp, n, hn, h⟩ := a0q hz h
  exact ⟨n, p.1, .inr ⟨_, rfl, by rw [← hn]; exact evI hp⟩, h⟩
theorem aaSq (hT : TabOk P E.tab) (hz : ¬ z) {lo hi : Option Operand} {mx : Operand} (ho : o.op = .slice t x lo hi (some mx)) (ht : a4q E.tab t = some i) (hx : s.ev x = some X) (h : ac4q z E i s X lo hi mx k) : ∃ r, OpS P o s s0 r [] ∧ k r := by
 unfold ac4q at h
 split at h
 ·rename_i k0 es l0 n lo hi
  obtain ⟨e, he, h⟩ := a0q hz h
  obtain ⟨i2, ht2, h⟩ := a0q hz h
  obtain ⟨hl, h⟩ := a7q hz h
  have p1 := of_decide_eq_true hl
  obtain ⟨l, k1, h1, h⟩ := l8q hz h
  obtain ⟨u, k2, h2, h⟩ := l8q hz h
  obtain ⟨m, k3, h3, ⟨g1, g2, g3⟩, h⟩ := l8q hz h
  obtain ⟨d, j, hd, hj, a1, a2, a3, a4, a5, a6, a7⟩ := b2q (hT t i ht)
  obtain ⟨d2, j2, hd2, hj2, _⟩ := b2q (hT e i2 ht2)
  have := h0q (a4.trans he) (a6.trans p1); subst this
  obtain ⟨x1, q1, h1⟩ : ∃ x1, some lo = some x1 ∧ s.ev x1 = some (I k1 (l : Int)) := by
   rcases h1 with ⟨q, _⟩ | ⟨x1, q, h⟩
   ·cases q
   ·exact ⟨x1, q, h⟩
  obtain ⟨x2, q2, h2⟩ : ∃ x1, some hi = some x1 ∧ s.ev x1 = some (I k2 (u : Int)) := by
   rcases h2 with ⟨q, _⟩ | ⟨x1, q, h⟩
   ·cases q
   ·exact ⟨x1, q, h⟩
  obtain ⟨x3, q3, h3⟩ : ∃ x1, some mx = some x1 ∧ s.ev x1 = some (I k3 (m : Int)) := by
   rcases h3 with ⟨q, _⟩ | ⟨x1, q, h⟩
   ·cases q
   ·exact ⟨x1, q, h⟩
  cases q1; cases q2; cases q3
  exact ⟨_, ⟨_, acnq ho hd hj2 hx h1 h2 h3 g1 g2 g3, trivial⟩, h⟩
 ·exact absurd h hz
theorem acwq (hT : TabOk P E.tab) (hz : ¬ z) {lo hi : Option Operand} (ho : o.op = .slice t x lo hi none) (ht : a4q E.tab t = some i) (hx : s.ev x = some X) (h : vCut z E i s s0 X lo hi k) : ∃ r, OpS P o s s0 r [] ∧ k r := by
 unfold vCut at h
 split at h
 ·obtain ⟨hl, h⟩ := a7q hz h
  obtain ⟨l, k1, h1, h⟩ := l8q hz h
  obtain ⟨u, k2, h2, ⟨h3, h4⟩, h⟩ := l8q hz h
  exact ⟨_, agfq hT ho ht (of_decide_eq_true hl) hx h1 h2 h3 h4, h⟩
 ·obtain ⟨e, he, h⟩ := a0q hz h
  obtain ⟨i2, ht2, h⟩ := a0q hz h
  obtain ⟨hl, h⟩ := a7q hz h
  obtain ⟨l, k1, h1, h⟩ := l8q hz h
  obtain ⟨u, k2, h2, ⟨h3, h4⟩, ⟨h5⟩, h⟩ := l8q hz h
  exact ⟨_, ag3q hT ho ht (of_decide_eq_true hl) he ht2 h5 hx h1 h2 h3 h4, h⟩
 ·obtain ⟨e, he, h⟩ := a0q hz h
  obtain ⟨i2, ht2, h⟩ := a0q hz h
  obtain ⟨hl, h⟩ := a7q hz h
  obtain ⟨p1, p2⟩ := of_decide_eq_true hl
  obtain ⟨l, k1, h1, h⟩ := l8q hz h
  obtain ⟨u, k2, h2, h⟩ := l8q hz h
  obtain ⟨d, j, hd, hj, a1, a2, a3, a4, a5, a6, a7⟩ := b2q (hT t i ht)
  obtain ⟨d2, j2, hd2, hj2, g1, g2, g3, _⟩ := b2q (hT e i2 ht2)
  have := h0q (a4.trans he) (a6.trans p1); subst this
  split at h
  ·rename_i Ee es' xs c hY
   obtain ⟨⟨h3, h4⟩, h⟩ := h
   exact ⟨_, ⟨_, K1q (c := c) (fun w S β hX => by have : _ = c := hX.1; omega) ho hd hj2 (g2.trans p2) hx (fun w S β v _ hv => hv.one_inv) h1 h2 h3 h4, hY, trivial⟩, h⟩
  ·rename_i Ee es' xs hY
   obtain ⟨⟨h3, h4⟩, h⟩ := h
   exact ⟨_, ⟨_, K1q (c := 0) (fun w S β hX => Nat.zero_le _) ho hd hj2 (g2.trans p2) hx (fun w S β v _ hv => hv.one_inv) h1 h2 h3 (.inl h4), hY, trivial⟩, h⟩
  ·rename_i Ee es' xs hY
   obtain ⟨⟨h3, h4⟩, h⟩ := h
   exact ⟨_, ⟨_, K1q (c := 0) (fun w S β hX => Nat.zero_le _) ho hd hj2 (g2.trans p2) hx (fun w S β v _ hv => hv.one_inv) h1 h2 h3 (.inl h4), hY, trivial⟩, h⟩
  ·exact absurd h hz
 ·obtain ⟨e, he, h⟩ := a0q hz h
  obtain ⟨i2, ht2, h⟩ := a0q hz h
  split at h
  ·rename_i Ee es xs hY
   obtain ⟨hl, h⟩ := a7q hz h
   obtain ⟨p1, p2⟩ := of_decide_eq_true hl
   obtain ⟨l, k1, h1, h⟩ := l8q hz h
   obtain ⟨u, k2, h2, ⟨h3, h4⟩, h⟩ := l8q hz h
   obtain ⟨d, j, hd, hj, a1, a2, a3, a4, a5, a6, a7⟩ := b2q (hT t i ht)
   obtain ⟨d2, j2, hd2, hj2, g1, g2, g3, _⟩ := b2q (hT e i2 ht2)
   have := h0q (a4.trans he) (a6.trans p1); subst this
   exact ⟨_, ⟨_, K1q (c := 0) (fun w S β hX => Nat.zero_le _) ho hd hj2 (g2.trans p2) hx (fun w S β v hX hv => RepA.ps_of_ol hX hv.one_inv) h1 h2 h3 (.inl h4), hY, trivial⟩, h⟩
  ·rename_i Ee es xs hY
   obtain ⟨hl, h⟩ := a7q hz h
   obtain ⟨p1, p2⟩ := of_decide_eq_true hl
   obtain ⟨l, k1, h1, h⟩ := l8q hz h
   obtain ⟨u, k2, h2, ⟨h3, h4⟩, h⟩ := l8q hz h
   obtain ⟨d, j, hd, hj, a1, a2, a3, a4, a5, a6, a7⟩ := b2q (hT t i ht)
   obtain ⟨d2, j2, hd2, hj2, g1, g2, g3, _⟩ := b2q (hT e i2 ht2)
   have := h0q (a4.trans he) (a6.trans p1); subst this
   exact ⟨_, ⟨_, K1q (c := 0) (fun w S β hX => Nat.zero_le _) ho hd hj2 (g2.trans p2) hx (fun w S β v hX hv => RepA.ps_of_ol hX.lst_of_tr hv.one_inv) h1 h2 h3 (.inl h4), hY, trivial⟩, h⟩
  ·exact absurd h hz
 ·obtain ⟨e, he, h⟩ := a0q hz h
  obtain ⟨i2, ht2, h⟩ := a0q hz h
  obtain ⟨hl, h⟩ := a7q hz h
  have p1 := of_decide_eq_true hl
  obtain ⟨l, k1, h1, hA⟩ := l8q hz h
  obtain ⟨u, k2, h2, ⟨h3, h4⟩, hB⟩ := l8q hz hA
  subst h3; subst h4
  obtain ⟨d, j, hd, hj, a1, a2, a3, a4, a5, a6, a7⟩ := b2q (hT t i ht)
  obtain ⟨d2, j2, hd2, hj2, g1, g2, g3, _⟩ := b2q (hT e i2 ht2)
  have := h0q (a4.trans he) (a6.trans p1); subst this
  exact ⟨_, c9q (acRq (k := k1) (k' := k2) ho hd hj2 hx (h1.imp (fun h => h.1) id) (h2.imp (fun h => h.1) id)), hB⟩
 ·exact absurd h hz
theorem acLq (hT : TabOk P E.tab) (hz : ¬ z) (ho : o.op = .call { callee := .builtin .cap, args := #[x], argTypes := #[t] }) (ht : a4q E.tab t = some i) (hx : s.ev x = some X) (h : vCap z i s0 X k) : ∃ r, OpS P o s s0 r [] ∧ k r := by
 unfold vCap at h
 split at h
 ·obtain ⟨hl, h⟩ := a7q hz h
  simp only [Bool.and_eq_true, decide_eq_true_eq, Option.isSome_iff_exists] at hl
  obtain ⟨h1, e, he⟩ := hl
  obtain ⟨d, j, hd, hj, a1, a2, a3, a4, a5, a6, a7⟩ := b2q (hT t i ht)
  have := h0q (a4.trans he) (a6.trans h1); subst this
  exact ⟨_, c9q (aeRq ho hd hx), h⟩
 ·obtain ⟨hl, h⟩ := a7q hz h
  simp only [Bool.and_eq_true, decide_eq_true_eq, Option.isSome_iff_exists] at hl
  obtain ⟨h1, e, he⟩ := hl
  obtain ⟨d, j, hd, hj, a1, a2, a3, a4, a5, a6, a7⟩ := b2q (hT t i ht)
  have := h0q (a4.trans he) (a6.trans h1); subst this
  split at h
  ·rename_i Ee es' xs c hY
   exact ⟨_, ⟨_, aevq ho hd hx, hY, trivial⟩, h⟩
  ·exact absurd h hz
 ·exact absurd h hz
end
end AM
end Go.Proofs.YtajcoogpmockiaaGreat
