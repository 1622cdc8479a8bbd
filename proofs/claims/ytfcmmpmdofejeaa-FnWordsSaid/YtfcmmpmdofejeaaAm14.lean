/- Calls that are handed objects of the caller's own, and calls of function values; no conditions. -/
import Derived.Test.YtfcmmpmdofejeaaAm11
set_option linter.unusedSimpArgs false
set_option linter.unusedVariables false
namespace Go.Proofs.Ytfcmmpmdofejeaa
namespace AM
open Go

def passOf (I : List (Nat × Ob)) (β : Nat → OLoc) (b : Nat) : Prop := ∃ p ∈ I, (β p.1).Own b
def pcOf (I : List (Nat × Ob)) (β : Nat → OLoc) (b : Nat) : Prop := ∃ p ∈ I, b ∈ (β p.1).clm
def fixOf (I : List (Nat × Ob)) (β : Nat → OLoc) (o : Nat) (l : OLoc) : Prop := 2000 ≤ o ∧ (∃ p ∈ I, p.1 = o) ∧ β o = l

/-- What a call may do to the world that was handed the objects I: it leaves the objects O; those of mv lie where they did not. -/
structure GrowX (w : World) (S : Nat → Prop) (β : Nat → OLoc) (I O : List (Nat × Ob)) (mv : List Nat) (w' : World) (S' : Nat → Prop) (β' : Nat → OLoc) : Prop where
  os : w'.os = w.os
  tape : w'.tape = w.tape
  output : w'.output = w.output
  size : w.heap.size ≤ w'.heap.size
  block : ∀ b, b < w.heap.size → ¬ passOf I β b → w'.heap[b]? = w.heap[b]?
  sub : ∀ b, S b → S' b
  sup : ∀ b, S' b → b < w'.heap.size ∧ (S b ∨ w.heap.size ≤ b ∨ passOf I β b)
  loc : ∀ o, o ∉ mv → β' o = β o
  ob : ∀ p ∈ O, ObRep w' S' β' (β' p.1) p.2
  own : ∀ p ∈ O, ∀ b, (β' p.1).Own b → b < w'.heap.size ∧ ¬ S' b ∧ (w.heap.size ≤ b ∨ passOf I β b)
  sep : ∀ p ∈ O, ∀ q ∈ O, ∀ b, (β' p.1).Own b → (β' q.1).Own b → p.1 = q.1
  clm : ∀ p ∈ O, ∀ b ∈ (β' p.1).clm, S' b ∧ (w.heap.size ≤ b ∨ passOf I β b ∨ pcOf I β b)
  sepc : ∀ p ∈ O, ∀ q ∈ O, ∀ b ∈ (β' p.1).clm, b ∈ (β' q.1).clm → p.1 = q.1

/-- The objects that are handed in. -/
structure InOk (w : World) (S : Nat → Prop) (β : Nat → OLoc) (I : List (Nat × Ob)) : Prop where
  ob : ∀ p ∈ I, ObRep w S β (β p.1) p.2
  own : ∀ p ∈ I, ∀ b, (β p.1).Own b → b < w.heap.size ∧ ¬ S b
  sep : ∀ p ∈ I, ∀ q ∈ I, ∀ b, (β p.1).Own b → (β q.1).Own b → p.1 = q.1
  clm : ∀ p ∈ I, ∀ b ∈ (β p.1).clm, S b
  sepc : ∀ p ∈ I, ∀ q ∈ I, ∀ b ∈ (β p.1).clm, b ∈ (β q.1).clm → p.1 = q.1

def XCall (P : Program) (f : FuncId) (xs : List AV) (r : AV) (I O : List (Nat × Ob)) (mv : List Nat) : Prop :=
  ∀ (w : World) (S : Nat → Prop) (β : Nat → OLoc) (vs : List Value), (∀ b, S b → b < w.heap.size) → RepVs w S β xs vs → InOk w S β I →
    Calls P f vs.toArray w fun e w' => ∃ v S' β', e = .returned v ∧ GrowX w S β I O mv w' S' β' ∧ RepV w' S' β' r v

/-- What stands at the end of a function that was handed objects. -/
def RetX (P : Program) (fn : Func) (s : St) (r : AV) (I O : List (Nat × Ob)) (mv : List Nat) : Prop :=
  ∀ (w0 : World) (S0 : Nat → Prop) (n : Nat) (β0 : Nat → OLoc) (a : Act) (w : World) (S : Nat → Prop) (β : Nat → OLoc), Sim ⟨n, w0, S0, passOf I β0, fixOf I β0, pcOf I β0⟩ s a w S β →
    ∃ v S' β', (results fn a.tmps).run P w = .ok v w ∧ GrowX w0 S0 β0 I O mv w S' β' ∧ RepV w S' β' r v

/-- The results, read. -/
def ResOk (P : Program) (fn : Func) (s : St) (r : AV) : Prop := ∀ (Γ : Cx) (a : Act) (w : World) (S : Nat → Prop) (β : Nat → OLoc), Sim Γ s a w S β → ∃ v, (results fn a.tmps).run P w = .ok v w ∧ RepV w S β r v

section
variable {P : Program} {fn : Func} {s : St} {r : AV} {I O : List (Nat × Ob)} {mv : List Nat}
theorem resOk_tmp {t : Nat} (hr : fn.results = #[.tmp t]) (ht : s.get t = some r) : ResOk P fn s r := by
  intro Γ a w S β hs
  obtain ⟨v, hv, hrep⟩ := hs.tm t r ht
  refine ⟨v, ?_, hrep⟩
  rw [results_tmp hr]
  simp [Array.getD_eq_getD_getElem?, hv]
theorem resOk_tmps {ts : List Nat} {rs : List AV} (hr : fn.results = (ts.map ResultVar.tmp).toArray) (hl : ts.length ≠ 1) (ht : ts.map s.get = rs.map some) : ResOk P fn s (.tup rs) := by
  intro Γ a w S β hs
  refine ⟨_, getAll_run hr hl _ _, RepVs.tup ?_ .nil⟩
  clear hr hl
  induction ts generalizing rs with
  | nil => simp at ht; subst ht; exact .nil
  | cons t ts ih =>
    cases rs with
    | nil => simp at ht
    | cons r rs =>
      simp only [List.map_cons, List.cons.injEq] at ht
      obtain ⟨v, hv, hrep⟩ := hs.tm t r ht.1
      have : a.tmps.getD t undef = v := by simp [Array.getD_eq_getD_getElem?, hv]
      simp only [List.map_cons, this]
      exact RepVs.cons hrep (ih ht.2)
theorem resOk_cell {t k : Nat} {ty : TypeId} {cs : List At} {d : TypeDesc} {j : TypeInfo} (hr : fn.results = #[.cell t ty]) (hd : P.underlying ty = some d) (hag : aggD d = true) (hj : P.info? ty = some j) (ht : s.get t = some (.one (.op k 0))) (hk : s.gob k = some (.var cs)) (hl : cs.length = j.size) (hm : mkAgg cs = r) : ResOk P fn s r := by
  intro Γ a w S β hs
  obtain ⟨v, hv, hrep⟩ := hs.tm t _ ht
  cases hrep.one_inv
  obtain ⟨hh, ar, E, hg, hrp⟩ := hs.mem.ob k _ hk
  have hlen := hrp.len
  simp only [Array.length_toList] at hlen
  refine ⟨.agg ar, ?_, ?_⟩
  · have hld := run_loadCells_list (P := P) w ⟨(β k).blk, 0, none⟩ ar.toList (fun q u hu => by
      rw [add_lit, cell_of_cells hg, ← Array.getElem?_toList, Nat.zero_add]; exact hu)
    simp only [Array.length_toList] at hld
    have hsz : ar.size = j.size := by omega
    rw [hsz] at hld
    simp [results, hr, hv, asAddr, loadVar, run_isAgg hd, hag, sizeOf, typeInfo, hj, hld]
  · have h2 := hrp.mk
    rw [hm] at h2
    simp only [Array.toArray_toList] at h2
    exact h2

/-- Whatever is named lies in place, or is known to have moved. -/
def okIds (I O : List (Nat × Ob)) (mv : List Nat) (r : AV) : Bool :=
  (r.ids ++ (O.map fun p => p.1 :: p.2.ids).flatten).all fun o => mv.contains o || (decide (2000 ≤ o) && I.any (·.1 == o))

theorem retX_of (hres : ResOk P fn s r) (hO : ∀ p ∈ O, s.gob p.1 = some p.2) (hids : ∀ o ∈ r.ids ++ (O.map fun p => p.1 :: p.2.ids).flatten, o ∈ mv ∨ (2000 ≤ o ∧ ∃ p ∈ I, p.1 = o)) : RetX P fn s r I O mv := by
  intro w0 S0 n β0 a w S β hs
  obtain ⟨v, hrun, hrep⟩ := hres _ a w S β hs
  let β' : Nat → OLoc := fun o => if o ∈ mv then β o else β0 o
  have key : ∀ o ∈ r.ids ++ (O.map fun p => p.1 :: p.2.ids).flatten, β' o = β o := by
    intro o ho
    by_cases hm : o ∈ mv
    · exact if_pos hm
    · rcases hids o ho with h | ⟨h1, h2⟩
      · exact absurd h hm
      · have := (hs.mem.fix o (β0 o) ⟨h1, h2, rfl⟩).2
        rw [this]; exact if_neg hm
  have kO : ∀ p ∈ O, β' p.1 = β p.1 ∧ ∀ o ∈ p.2.ids, β' o = β o := by
    intro p hp
    refine ⟨key _ (List.mem_append_right _ (List.mem_flatten.2 ⟨_, List.mem_map.2 ⟨p, hp, rfl⟩, by simp⟩)), fun o ho => key _ (List.mem_append_right _ (List.mem_flatten.2 ⟨_, List.mem_map.2 ⟨p, hp, rfl⟩, by simp [ho]⟩))⟩
  refine ⟨v, S, β', hrun, ⟨hs.mem.os, hs.mem.tape, hs.mem.output, hs.mem.size, fun b hb hp => hs.mem.block b hb hp, hs.mem.sub, fun b hb => ⟨hs.mem.lt b hb, hs.mem.sup b hb⟩, fun o ho => if_neg ho, fun p hp => ?_, fun p hp b hh => ?_, fun p hp q hq b hh hh' => ?_, fun p hp b hh => ?_, fun p hp q hq b hh hh' => ?_⟩, hrep.mono (fun _ _ => rfl) (fun _ h => h) fun o ho => key o (List.mem_append_left _ ho)⟩
  · rw [(kO p hp).1]
    exact (hs.mem.ob p.1 p.2 (hO p hp)).mono (fun _ _ => rfl) (fun _ _ => rfl) (fun _ h => h) (kO p hp).2
  · rw [(kO p hp).1] at hh
    obtain ⟨h1, h2, h3⟩ := hs.mem.own p.1 p.2 (hO p hp) b hh
    exact ⟨h1, h2, h3⟩
  · rw [(kO p hp).1] at hh
    rw [(kO q hq).1] at hh'
    exact hs.mem.sep p.1 q.1 _ _ (hO p hp) (hO q hq) b hh hh'
  · rw [(kO p hp).1] at hh
    exact hs.mem.clm p.1 p.2 (hO p hp) b hh
  · rw [(kO p hp).1] at hh
    rw [(kO q hq).1] at hh'
    exact hs.mem.sepc p.1 q.1 _ _ (hO p hp) (hO q hq) b hh hh'

theorem okIds_spec (h : okIds I O mv r = true) : ∀ o ∈ r.ids ++ (O.map fun p => p.1 :: p.2.ids).flatten, o ∈ mv ∨ (2000 ≤ o ∧ ∃ p ∈ I, p.1 = o) := by
  intro o ho
  have := List.all_eq_true.1 h o ho
  simp only [Bool.or_eq_true, Bool.and_eq_true, decide_eq_true_eq, List.any_eq_true, beq_iff_eq, List.contains_iff_mem] at this
  exact this
theorem retX_ok (hres : ResOk P fn s r) (hO : usOk s O) (hids : okIds I O mv r = true) : RetX P fn s r I O mv := retX_of hres (usOk_spec hO) (okIds_spec hids)
theorem retX_frz {k E es : Nat} {xs : List (List Da)} (hk : s.gob k = some (mkL false E es xs)) (hpos : 0 < es) (h : RetX P fn (s.frz k xs) r I O mv) : RetX P fn s r I O mv := by
  intro w0 S0 n β0 a w S β hs
  obtain ⟨S', _, hs'⟩ := hs.frz hk hpos
  exact h w0 S0 n β0 a w S' β hs'
theorem retX_ent {s' : St} (he : Ent s s') (h : RetX P fn s' r I O mv) : RetX P fn s r I O mv := fun w0 S0 n β0 a w S β hs => h w0 S0 n β0 a w S β (he.sim hs)

theorem xcall_W {f : FuncId} {c : Code} {xs : List AV} (hf : P.funcs[f]? = some fn) (hb : fn.body = some c) (n : Nat) (hn : fn.ntmps = n) (hl : xs.length ≤ n)
    (h : ∀ w0 S0 β0, W ⟨n, w0, S0, passOf I β0, fixOf I β0, pcOf I β0⟩ P c (fun s => RetX P fn s r I O mv) (retE fun s => RetX P fn s r I O mv) ⟨St.enter 0 xs, I⟩) : XCall P f xs r I O mv := by
  subst hn
  intro w S β vs hlt hr hin
  refine calls_of_wp hf hb ?_
  have hvl : vs.length = xs.length := by
    clear h hl hlt
    have : ∀ xs vs, RepVs w S β xs vs → vs.length = xs.length := by intro xs vs h; induction h <;> simp_all
    exact this _ _ hr
  have hgob : ∀ o X, (⟨St.enter 0 xs, I⟩ : St).gob o = some X → (o, X) ∈ I := fun o X ho => look_mem ho
  have hsim : Sim ⟨fn.ntmps, w, S, passOf I β, fixOf I β, pcOf I β⟩ ⟨St.enter 0 xs, I⟩ { tmps := vs.toArray ++ Array.replicate (fn.ntmps - vs.toArray.size) undef, defers := [] } w S β := by
    refine ⟨rfl, by simp; omega, fun i x hi => ?_, ⟨hlt, ?_, ?_, ?_, rfl, rfl, rfl, Nat.le_refl _, fun _ _ _ => rfl, fun _ h => h, fun _ h => .inl h, fun o l h => ⟨h.1, h.2.2⟩, fun o X ho b hh => ?_, fun o o' X X' ho ho' b hh hh' => ?_⟩⟩
    · obtain ⟨v, _, hv, hrep⟩ := enter_get hr 0 i x hi
      refine ⟨v, ?_, hrep⟩
      simp only [Nat.sub_zero] at hv
      have hi2 : i < vs.length := (List.getElem?_eq_some_iff.1 hv).1
      rw [Array.getElem?_append_left (by simpa using hi2)]
      simpa using hv
    · intro o X ho; exact hin.ob (o, X) (hgob o X ho)
    · intro o X ho b hh
      obtain ⟨h1, h2⟩ := hin.own (o, X) (hgob o X ho) b hh
      exact ⟨h1, h2, .inr ⟨(o, X), hgob o X ho, hh⟩⟩
    · intro o o' X X' ho ho' b hh hh'
      exact hin.sep (o, X) (hgob o X ho) (o', X') (hgob o' X' ho') b hh hh'
    · exact ⟨hin.clm (o, X) (hgob o X ho) b hh, .inr (.inr ⟨(o, X), hgob o X ho, hh⟩)⟩
    · exact hin.sepc (o, X) (hgob o X ho) (o', X') (hgob o' X' ho') b hh hh'
  refine Code.wp_mono ?_ (h w S β _ w S β hsim)
  rintro e a' w' ⟨s', S', β', hq, hs'⟩
  cases e with
  | normal =>
    obtain ⟨v, S2, β2, hrun, hG, hrep⟩ := hq w S _ β _ _ _ _ hs'
    exact ⟨hs'.defers, v, hrun, v, S2, β2, rfl, hG, hrep⟩
  | ret =>
    obtain ⟨v, S2, β2, hrun, hG, hrep⟩ := hq w S _ β _ _ _ _ hs'
    exact ⟨hs'.defers, v, hrun, v, S2, β2, rfl, hG, hrep⟩
  | exit id => exact hq.elim
  | goto l => exact hq.elim
  | panic ch => exact hq.elim
  | outgrown => exact hq.elim
end

/-! The caller -/
def droppedIds (I O : List (Nat × Ob)) : List Nat := (I.map (·.1)).filter fun i => !O.any (·.1 == i)
def St.xkill (s : St) (ks : List Nat) : St := match ks with
  | [] => s
  | _ => s.map (killL ks)
def St.xupd (s : St) (dst : Option Nat) (r : AV) (I O : List (Nat × Ob)) (mv : List Nat) : St :=
  let s1 := s.xkill (mv ++ droppedIds I O)
  { tm := match dst with | some d => (d, r) :: s1.tm | none => s1.tm, ob := O ++ withoutL s1.ob (droppedIds I O) }

theorem get_xupd (s : St) (dst : Option Nat) (r : AV) (I O : List (Nat × Ob)) (mv : List Nat) (i : Nat) : (s.xupd dst r I O mv).get i = if dst = some i then some r else (s.xkill (mv ++ droppedIds I O)).get i := by
  cases dst with
  | none => simp [St.xupd, St.get]
  | some d =>
    simp only [St.xupd, St.get, look, Option.some.injEq]
    by_cases h : d = i <;> simp [h]
theorem gob_xupd (s : St) (dst : Option Nat) (r : AV) (I O : List (Nat × Ob)) (mv : List Nat) (o : Nat) : (s.xupd dst r I O mv).gob o = (look O o).or (if o ∈ droppedIds I O then none else (s.xkill (mv ++ droppedIds I O)).gob o) := by
  simp only [St.xupd, St.gob, look_append, look_withoutL]

section
variable {w w' : World} {S S' : Nat → Prop} {β β' : Nat → OLoc} {ks : List Nat}
theorem xkill_get {s : St} (hk : ∀ b, S b → w'.heap[b]? = w.heap[b]?) (hs : ∀ b, S b → S' b) (hβ : ∀ o, o ∉ ks → β' o = β o) {i : Nat} {x : AV} (h : (s.xkill ks).get i = some x) : ∃ y, s.get i = some y ∧ ∀ v, RepV w S β y v → RepV w' S' β' x v := by
  unfold St.xkill at h
  split at h
  · exact ⟨x, h, fun v hv => hv.mono hk hs fun o _ => hβ o (by simp)⟩
  · have e : (s.map (AM.killL ks)).get i = (s.get i).map (·.map (AM.killL ks)) := look_mapTm ..
    rw [e] at h
    cases hY : s.get i with
    | none => rw [hY] at h; simp at h
    | some Y =>
      rw [hY] at h; simp at h; subst h
      exact ⟨Y, rfl, fun v hv => hv.map (RepA.killL hk hs hβ) fun xs cs h => h.mono hk hs⟩
theorem xkill_gob {s : St} (hk : ∀ b, S b → w'.heap[b]? = w.heap[b]?) (hs : ∀ b, S b → S' b) (hβ : ∀ o, o ∉ ks → β' o = β o) {o : Nat} {X : Ob} (h : (s.xkill ks).gob o = some X) : ∃ Y, s.gob o = some Y ∧ ∀ l : OLoc, (∀ b, l.Own b → w'.heap[b]? = w.heap[b]?) → ObRep w S β l Y → ObRep w' S' β' l X := by
  unfold St.xkill at h
  split at h
  · exact ⟨X, h, fun l hb hv => hv.mono hb hk hs fun o _ => hβ o (by simp)⟩
  · have e : (s.map (AM.killL ks)).gob o = (s.gob o).map (·.map (AM.killL ks)) := look_mapOb ..
    rw [e] at h
    cases hY : s.gob o with
    | none => rw [hY] at h; simp at h
    | some Y =>
      rw [hY] at h; simp at h; subst h
      exact ⟨Y, rfl, fun l hb hv => hv.map (RepA.killL hk hs hβ) hb hk hs⟩
end

section
variable {Γ : Cx} {P : Program} {ops : Array Oper} {rest : List Oper} {o : Oper} {K : St → Prop} {s : St} {I O : List (Nat × Ob)} {mv : List Nat} {r : AV}
theorem GrowX.sim {a : Act} {w w' : World} {S S' : Nat → Prop} {β β' : Nat → OLoc} {v : Value} {dst : Option Nat} (hG : GrowX w S β I O mv w' S' β') (hr : RepV w' S' β' r v) (hs : Sim Γ s a w S β) (hd : dst.all (· < Γ.n) = true)
    (hI : ∀ p ∈ I, s.gob p.1 = some p.2) (hlow : ∀ m ∈ mv, m < 2000) (hOin : ∀ p ∈ O, (∃ q ∈ I, q.1 = p.1) ∨ p.1 ∈ mv) (hmv : ∀ m ∈ mv, (∃ p ∈ I, p.1 = m) ∨ s.gob m = none) : Sim Γ (s.xupd dst r I O mv) (a.put dst v) w' S' β' := by
  have hpass : ∀ b, passOf I β b → ∃ p ∈ I, s.gob p.1 = some p.2 ∧ (β p.1).Own b := fun b ⟨p, hp, h1⟩ => ⟨p, hp, hI p hp, h1⟩
  have hSn : ∀ b, S b → ¬ passOf I β b := by
    intro b hb hp
    obtain ⟨p, _, hg, h1⟩ := hpass b hp
    exact (hs.mem.own p.1 p.2 hg b h1).2.1 hb
  have hk : ∀ b, S b → w'.heap[b]? = w.heap[b]? := fun b hb => hG.block b (hs.mem.lt b hb) (hSn b hb)
  have hβ : ∀ q, q ∉ mv ++ droppedIds I O → β' q = β q := fun q hq => hG.loc q fun h => hq (List.mem_append_left _ h)
  have hT : ∀ q X, (s.xupd dst r I O mv).gob q = some X → (q, X) ∈ O ∨ (q ∉ mv ∧ (∀ p ∈ I, p.1 ≠ q) ∧ ∃ Y, s.gob q = some Y ∧ ∀ l : OLoc, (∀ b, l.Own b → w'.heap[b]? = w.heap[b]?) → ObRep w S β l Y → ObRep w' S' β' l X) := by
    intro q X hq
    rw [gob_xupd] at hq
    cases hl : look O q with
    | some Y => rw [hl] at hq; simp at hq; subst hq; exact .inl (look_mem hl)
    | none =>
      rw [hl] at hq
      simp only [Option.none_or] at hq
      split at hq
      · simp at hq
      · rename_i hnd
        obtain ⟨Y, hY, hYr⟩ := xkill_gob hk hG.sub hβ hq
        have hnO : ∀ p ∈ O, p.1 ≠ q := fun p hp e => look_some_of_mem O hp (e ▸ hl)
        have hnI : ∀ p ∈ I, p.1 ≠ q := by
          intro p hp e
          refine hnd ?_
          simp only [droppedIds, List.mem_filter, List.mem_map, Bool.not_eq_true', List.any_eq_false, beq_iff_eq]
          exact ⟨⟨p, hp, e⟩, fun p' hp' => hnO p' hp'⟩
        refine .inr ⟨fun hm => ?_, hnI, Y, hY, hYr⟩
        rcases hmv q hm with ⟨p, hp, e⟩ | h
        · exact hnI p hp e
        · rw [hY] at h; simp at h
  have hapart : ∀ q Y, s.gob q = some Y → (∀ p ∈ I, p.1 ≠ q) → ∀ b, (β q).Own b → ¬ passOf I β b := by
    intro q Y hY hn b hh hp
    obtain ⟨p, hpI, hg, h1⟩ := hpass _ hp
    exact hn p hpI (hs.mem.sep p.1 q _ _ hg hY b h1 hh)
  refine ⟨?_, ?_, fun i x hi => ?_, ⟨fun b hb => (hG.sup b hb).1, fun q X hq => ?_, fun q X hq b hh => ?_, fun q q' X X' hq hq' b hh hh' => ?_, hG.os.trans hs.mem.os, hG.tape.trans hs.mem.tape, hG.output.trans hs.mem.output, Nat.le_trans hs.mem.size hG.size, fun b hb hp => ?_, fun b hb => hG.sub b (hs.mem.sub b hb), fun b hb => ?_, fun q l hl => ?_, fun q X hq b hh => ?_, fun q q' X X' hq hq' b hh hh' => ?_⟩⟩
  · cases dst <;> simp [Act.put, hs.defers]
  · cases dst <;> simp [Act.put, hs.sz]
  · rw [get_xupd] at hi
    by_cases hdi : dst = some i
    · rw [if_pos hdi] at hi
      simp at hi
      subst hi; subst hdi
      simp at hd
      exact ⟨v, by simp [Act.put, hs.sz, hd], hr⟩
    · rw [if_neg hdi] at hi
      obtain ⟨y, hy, hyr⟩ := xkill_get hk hG.sub hβ hi
      obtain ⟨u, hu, hur⟩ := hs.tm i y hy
      refine ⟨u, ?_, hyr u hur⟩
      cases dst with
      | none => exact hu
      | some d =>
        simp only [Act.put]
        rw [Array.getElem?_setIfInBounds_ne (fun e => hdi (by rw [e]))]
        exact hu
  · rcases hT q X hq with hm | ⟨hnm, hnI, Y, hY, hYr⟩
    · exact hG.ob _ hm
    · rw [hG.loc q hnm]
      exact hYr _ (fun b hh => hG.block _ (hs.mem.own q Y hY b hh).1 (hapart q Y hY hnI b hh)) (hs.mem.ob q Y hY)
  · rcases hT q X hq with hm | ⟨hnm, hnI, Y, hY, hYr⟩
    · obtain ⟨h1, h2, h3⟩ := hG.own _ hm b hh
      refine ⟨h1, h2, ?_⟩
      rcases h3 with h3 | h3
      · exact .inl (Nat.le_trans hs.mem.size h3)
      · obtain ⟨p, _, hg, h4⟩ := hpass _ h3
        exact (hs.mem.own p.1 p.2 hg b h4).2.2
    · rw [hG.loc q hnm] at hh
      obtain ⟨h1, h2, h3⟩ := hs.mem.own q Y hY b hh
      refine ⟨Nat.lt_of_lt_of_le h1 hG.size, fun hb => ?_, h3⟩
      rcases (hG.sup _ hb).2 with hb | hb | hb
      · exact h2 hb
      · omega
      · exact hapart q Y hY hnI b hh hb
  · have hmix : ∀ q q' X Y', (q, X) ∈ O → q' ∉ mv → (∀ p ∈ I, p.1 ≠ q') → s.gob q' = some Y' → ∀ b, (β' q).Own b → (β' q').Own b → False := by
      intro q q' X Y' hm hnm hnI hY' b hh hh'
      rw [hG.loc q' hnm] at hh'
      rcases (hG.own _ hm b hh).2.2 with h3 | h3
      · have := (hs.mem.own q' Y' hY' b hh').1
        omega
      · exact hapart q' Y' hY' hnI b hh' h3
    rcases hT q X hq with hm | ⟨hnm, hnI, Y, hY, hYr⟩ <;> rcases hT q' X' hq' with hm' | ⟨hnm', hnI', Y', hY', hYr'⟩
    · exact hG.sep _ hm _ hm' b hh hh'
    · exact (hmix q q' X Y' hm hnm' hnI' hY' b hh hh').elim
    · exact (hmix q' q X' Y hm' hnm hnI hY b hh' hh).elim
    · rw [hG.loc q hnm] at hh
      rw [hG.loc q' hnm'] at hh'
      exact hs.mem.sep q q' Y Y' hY hY' b hh hh'
  · refine (hG.block b (Nat.lt_of_lt_of_le hb hs.mem.size) fun hpb => ?_).trans (hs.mem.block b hb hp)
    obtain ⟨p, _, hg, h1⟩ := hpass b hpb
    rcases (hs.mem.own p.1 p.2 hg b h1).2.2 with h3 | h3
    · omega
    · exact hp h3
  · rcases (hG.sup b hb).2 with hb | hb | hb
    · exact hs.mem.sup b hb
    · exact .inr (.inl (Nat.le_trans hs.mem.size hb))
    · obtain ⟨p, _, hg, h1⟩ := hpass b hb
      exact .inr (hs.mem.own p.1 p.2 hg b h1).2.2
  · obtain ⟨h1, h2⟩ := hs.mem.fix q l hl
    exact ⟨h1, (hG.loc q fun hm => by have := hlow q hm; omega).trans h2⟩
  · rcases hT q X hq with hm | ⟨hnm, hnI, Y, hY, hYr⟩
    · obtain ⟨h1, h3⟩ := hG.clm _ hm b hh
      refine ⟨h1, ?_⟩
      rcases h3 with h3 | h3 | h3
      · exact .inl (Nat.le_trans hs.mem.size h3)
      · obtain ⟨p, _, hg, h4⟩ := hpass _ h3
        exact (hs.mem.own p.1 p.2 hg b h4).2.2.imp id .inl
      · obtain ⟨p, hp, h4⟩ := h3
        exact (hs.mem.clm p.1 p.2 (hI p hp) b h4).2
    · rw [hG.loc q hnm] at hh
      obtain ⟨h1, h2⟩ := hs.mem.clm q Y hY b hh
      exact ⟨hG.sub b h1, h2⟩
  · have hmix : ∀ q q' X Y', (q, X) ∈ O → q' ∉ mv → (∀ p ∈ I, p.1 ≠ q') → s.gob q' = some Y' → ∀ b, b ∈ (β' q).clm → b ∈ (β' q').clm → False := by
      intro q q' X Y' hm hnm hnI hY' b hh hh'
      rw [hG.loc q' hnm] at hh'
      have hSb := (hs.mem.clm q' Y' hY' b hh').1
      rcases (hG.clm _ hm b hh).2 with h3 | h3 | h3
      · have := hs.mem.lt b hSb
        omega
      · exact hSn b hSb h3
      · obtain ⟨p, hp, h4⟩ := h3
        exact hnI p hp (hs.mem.sepc p.1 q' _ _ (hI p hp) hY' b h4 hh')
    rcases hT q X hq with hm | ⟨hnm, hnI, Y, hY, hYr⟩ <;> rcases hT q' X' hq' with hm' | ⟨hnm', hnI', Y', hY', hYr'⟩
    · exact hG.sepc _ hm _ hm' b hh hh'
    · exact (hmix q q' X Y' hm hnm' hnI' hY' b hh hh').elim
    · exact (hmix q' q X' Y hm' hnm hnI hY b hh' hh).elim
    · rw [hG.loc q hnm] at hh
      rw [hG.loc q' hnm'] at hh'
      exact hs.mem.sepc q q' Y Y' hY hY' b hh hh'

/-- An operation that may write what stands in the state. -/
def XOp (Γ : Cx) (P : Program) (o : Oper) (s s' : St) : Prop := ∀ (a : Act) (w : World) (S : Nat → Prop) (β : Nat → OLoc) (K' : Act → World → Prop) (R : Exit → Act → World → Prop), Sim Γ s a w S β →
  (∀ a' w' S' β', Sim Γ s' a' w' S' β' → K' a' w') → o.wp P a w K' R
/-- An operation that reads a state, and makes something. -/
def OpL (P : Program) (o : Oper) (s : St) (y : AV) (nob : List (Nat × Ob)) : Prop := ∀ (Γ : Cx) (a : Act) (w : World) (S : Nat → Prop) (β : Nat → OLoc), Sim Γ s a w S β → ∀ (K : Act → World → Prop) (R : Exit → Act → World → Prop),
  (∀ v w' S' β', Grow w S β nob w' S' β' → RepV w' S' β' y v → K (a.put o.dst v) w') → o.wp P a w K R
theorem st_x {s' : St} (h : XOp Γ P o s s') (hg : o.guard = none) (hr : aOps Γ P ops rest K s') : aOps Γ P ops (o :: rest) K s := by
  intro a w S β R hs hR
  exact wpList_plain hg fun K' hK => h a w S β K' R hs fun a' w' S' β' hs' => hK _ _ (hr _ _ _ _ R hs' hR)
theorem st_xg {s' : St} {j d : Nat} {want b : Bool} (h : XOp Γ P o s s') (hg : o.guard = some (j, want)) (hj : (ops[j]?).bind (·.dst) = some d) (hb : s.get d = some (B b)) (e : b = want) (hr : aOps Γ P ops rest K s') : aOps Γ P ops (o :: rest) K s := by
  subst e
  intro a w S β R hs hR
  have hyl := yielded_of (Γ := Γ) hj (.inr hs) hb
  refine wpList_step fun K' hK => ?_
  have hw : Region.wanted o (yielded ops a.tmps) = true := by simp only [Region.wanted, hg, hyl]; cases b <;> rfl
  rw [hw, if_pos rfl]
  exact h a w S β K' R hs fun a' w' S' β' hs' => hK _ _ (hr _ _ _ _ R hs' hR)

/-- A function value, called. -/
def VCall (P : Program) (v : AV) (xs : List AV) (r : AV) (I O : List (Nat × Ob)) (mv : List Nat) : Prop := match v with
  | .one (.d (.fn f)) => (∃ fn, P.funcs[f]? = some fn ∧ fn.body.isNone = false ∧ (fn.name == "runtime.NumGoroutine") = false) ∧ XCall P f xs r I O mv
  | .one (.clo f caps) => (∃ fn, P.funcs[f]? = some fn ∧ fn.body.isNone = false ∧ (fn.name == "runtime.NumGoroutine") = false) ∧ XCall P f (xs ++ caps.map fun p => .one (.op p.1 p.2)) r I O mv
  | _ => False

theorem RepVs.append {w : World} {S : Nat → Prop} {β : Nat → OLoc} {xs ys : List AV} {vs us : List Value} (h : RepVs w S β xs vs) (k : RepVs w S β ys us) : RepVs w S β (xs ++ ys) (vs ++ us) := by
  induction h with
  | nil => simpa using k
  | one h _ ih => exact .one h ih
  | dat h _ ih => exact .dat h ih
  | agg h _ ih => exact .agg h ih
  | tup h _ _ ih => exact .tup h ih
theorem caps_rep {w : World} {S : Nat → Prop} {β : Nat → OLoc} (caps : List (Nat × Nat)) : RepVs w S β (caps.map fun p => .one (.op p.1 p.2)) (caps.map (capV β)) := by
  induction caps with
  | nil => exact .nil
  | cons p r ih => exact .one .op ih

theorem xop_vcall {sV : St} (hV : ∀ a w S β, Sim Γ s a w S β → Sim Γ sV a w S β) {c : Operand} {ag : List Operand} {ts : Array TypeId} {v : AV} {xs : List AV} (ho : o.op = .call { callee := .value c, args := ag.toArray, argTypes := ts }) (hc : sV.ev c = some v) (has : argsA sV.ev ag = some xs) (hv : VCall P v xs r I O mv) (hd : o.dst.all (· < Γ.n) = true)
    (hI : ∀ p ∈ I, s.gob p.1 = some p.2) (hlow : ∀ m ∈ mv, m < 2000) (hOin : ∀ p ∈ O, (∃ q ∈ I, q.1 = p.1) ∨ p.1 ∈ mv) (hmv : ∀ m ∈ mv, (∃ p ∈ I, p.1 = m) ∨ s.gob m = none) : XOp Γ P o s (s.xupd o.dst r I O mv) := by
  intro a w S β K' R hs hK
  have h1 := argsA_rep (w := w) (S := S) (β := β) (ρ := a.eval) ag xs (fun x X hx _ => (hV a w S β hs).eval hx) has
  have hcv := (hV a w S β hs).eval hc
  have hin : InOk w S β I := ⟨fun p hp => hs.mem.ob p.1 p.2 (hI p hp), fun p hp b hh => ⟨(hs.mem.own p.1 p.2 (hI p hp) b hh).1, (hs.mem.own p.1 p.2 (hI p hp) b hh).2.1⟩, fun p hp q hq b hh hh' => hs.mem.sep p.1 q.1 _ _ (hI p hp) (hI q hq) b hh hh', fun p hp b hh => (hs.mem.clm p.1 p.2 (hI p hp) b hh).1, fun p hp q hq b hh hh' => hs.mem.sepc p.1 q.1 _ _ (hI p hp) (hI q hq) b hh hh'⟩
  have main : ∃ f cs us, (∃ fn, P.funcs[f]? = some fn ∧ fn.body.isNone = false ∧ (fn.name == "runtime.NumGoroutine") = false) ∧ XCall P f (xs ++ cs) r I O mv ∧ a.eval c = .func (.func f) #[] us.toArray ∧ RepVs w S β cs us := by
    unfold VCall at hv
    split at hv
    · rename_i f
      refine ⟨f, [], [], hv.1, by simpa using hv.2, by simpa using hcv.fn_inv, .nil⟩
    · rename_i f caps
      have := hcv.one_inv
      generalize hg : a.eval c = u at this
      cases this
      exact ⟨f, _, _, hv.1, hv.2, rfl, caps_rep caps⟩
    · exact hv.elim
  obtain ⟨f, cs, us, ⟨fn, hf, hb, hname⟩, hx, hev, hcr⟩ := main
  have he : (execOp a.eval o).run P w = .ok (.enter f (ag.map a.eval ++ us).toArray) w := by
    simp only [execOp, ho, resolve, hev, Deferred.ofValue, Sem.run_bind, Sem.run_pure, Result.andThen_ok, invoke, List.map_toArray]
    rw [show (#[] : Array Value) ++ (ag.map a.eval).toArray ++ us.toArray = (ag.map a.eval ++ us).toArray by simp]
    exact run_call_func hf hb hname _ _
  unfold Oper.wp
  rw [he, Oper.upon_enter]
  refine (hx w S β _ hs.mem.lt (h1.append hcr) hin).mono ?_
  rintro e w' ⟨v, S', β', rfl, hG, hrep⟩
  exact hK _ _ S' β' (hG.sim hrep hs hd hI hlow hOin hmv)

/-- The same by one check. -/
def xok (s : St) (I O : List (Nat × Ob)) (mv : List Nat) : Bool :=
  (mv.all fun m => decide (m < 2000) && (I.any (·.1 == m) || (s.gob m).isNone)) && O.all fun p => I.any (·.1 == p.1) || mv.contains p.1
theorem os_vcall {sV : St} (hV : ∀ a w S β, Sim Γ s a w S β → Sim Γ sV a w S β) {c : Operand} {ag : List Operand} {ts : Array TypeId} {v : AV} {xs : List AV} (hv : VCall P v xs r I O mv) (ho : o.op = .call { callee := .value c, args := ag.toArray, argTypes := ts }) (hc : sV.ev c = some v) (has : argsA sV.ev ag = some xs) (hd : o.dst.all (· < Γ.n) = true)
    (hI : usOk s I) (hok : xok s I O mv = true) : XOp Γ P o s (s.xupd o.dst r I O mv) := by
  simp only [xok, Bool.and_eq_true, List.all_eq_true, Bool.or_eq_true, decide_eq_true_eq, List.any_eq_true, beq_iff_eq, List.contains_iff_mem, Option.isNone_iff_eq_none] at hok
  exact xop_vcall hV ho hc has hv hd (usOk_spec hI) (fun m hm => (hok.1 m hm).1) hok.2 fun m hm => (hok.1 m hm).2
theorem vcall_fn {f : FuncId} {fn : Func} {xs : List AV} (hx : XCall P f xs r I O mv) (hf : P.funcs[f]? = some fn) (hb : fn.body.isNone = false) (hname : (fn.name == "runtime.NumGoroutine") = false) : VCall P (.one (.d (.fn f))) xs r I O mv := ⟨⟨fn, hf, hb, hname⟩, hx⟩
theorem vcall_clo {f : FuncId} {fn : Func} {xs ys : List AV} {caps : List (Nat × Nat)} (hx : XCall P f ys r I O mv) (e : xs ++ (caps.map fun p => .one (.op p.1 p.2)) = ys) (hf : P.funcs[f]? = some fn) (hb : fn.body.isNone = false) (hname : (fn.name == "runtime.NumGoroutine") = false) : VCall P (.one (.clo f caps)) xs r I O mv := ⟨⟨fn, hf, hb, hname⟩, by subst e; exact hx⟩
end

section
variable {P : Program} {f : FuncId} {xs : List AV} {r : AV} {I O : List (Nat × Ob)} {mv : List Nat}
/-- A call that is handed nothing leaves whatever there is. -/
theorem XCall.of (h : ACall P f xs r []) : XCall P f xs r I I [] := by
  intro w S β vs hlt hr hin
  refine (h w S β vs hlt hr).mono ?_
  rintro e w' ⟨v, S', β', rfl, hG, hrep⟩
  have hk : ∀ b, S b → w'.heap[b]? = w.heap[b]? := fun b hb => hG.block b (hlt b hb)
  have hβ : β' = β := funext fun o => hG.loc o (by simp)
  subst hβ
  refine ⟨v, S', β', rfl, ⟨hG.os, hG.tape, hG.output, hG.size, fun b hb _ => hG.block b hb, hG.sub, fun b hb => ⟨(hG.sup b hb).1, (hG.sup b hb).2.imp id .inl⟩, fun _ _ => rfl, fun p hp => ?_, fun p hp b hh => ?_, hin.sep, fun p hp b hh => ⟨hG.sub b (hin.clm p hp b hh), .inr (.inr ⟨p, hp, hh⟩)⟩, hin.sepc⟩, hrep⟩
  · exact (hin.ob p hp).mono (fun b hh => hG.block _ (hin.own p hp b hh).1) hk hG.sub fun _ _ => rfl
  · obtain ⟨h1, h2⟩ := hin.own p hp b hh
    refine ⟨Nat.lt_of_lt_of_le h1 hG.size, fun hb => ?_, .inr ⟨p, hp, hh⟩⟩
    rcases (hG.sup _ hb).2 with hb | hb
    · exact h2 hb
    · omega
/-- And the other way round. -/
theorem XCall.plain (h : XCall P f xs r [] [] []) : ACall P f xs r [] := by
  intro w S β vs hlt hr
  refine (h w S β vs hlt hr ⟨by simp, by simp, by simp, by simp, by simp⟩).mono ?_
  rintro e w' ⟨v, S', β', rfl, hG, hrep⟩
  exact ⟨v, S', β', rfl, ⟨hG.os, hG.tape, hG.output, hG.size, fun b hb => hG.block b hb (fun ⟨p, hp, _⟩ => by simp at hp), hG.sub, fun b hb => ⟨(hG.sup b hb).1, (hG.sup b hb).2.imp id fun h => h.resolve_right fun ⟨p, hp, _⟩ => by simp at hp⟩, fun o _ => hG.loc o (by simp), by simp, by simp, by simp, by simp, by simp⟩, hrep⟩
end

end AM
end Go.Proofs.Ytfcmmpmdofejeaa
