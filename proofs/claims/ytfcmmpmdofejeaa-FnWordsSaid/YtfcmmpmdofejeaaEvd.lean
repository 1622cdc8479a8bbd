/- Instances of operations in regions of drawn order; no conditions. -/
import Derived.Test.YtfcmmpmdofejeaaEv5
import Derived.Test.YtfcmmpmdofejeaaAm22
set_option linter.unusedSimpArgs false
set_option linter.unusedVariables false
namespace Go.Proofs.Ytfcmmpmdofejeaa
namespace AM
open Go

def renLoc (l2 : List (Nat × Nat)) (β : Nat → OLoc) (o : Nat) : OLoc := match look l2 o with | some k => β k | none => β o

section
variable {w w' : World} {S S' : Nat → Prop} {β βf : Nat → OLoc} {I' O : List (Nat × Ob)} {mv : List Nat} {r : AV} {v : Value} {l1 l2 : List (Nat × Nat)}
theorem inOk_ren (hok : renOk l1 l2 I' O mv = true) (hin : InOk w S β I') : InOk w S (renLoc l2 β) (renO l1 I') := by
  simp only [renOk, Bool.and_eq_true, List.all_eq_true, beq_iff_eq, Bool.or_eq_true, bne_iff_ne, ne_eq] at hok
  obtain ⟨⟨⟨⟨k1, k2⟩, k3⟩, k4⟩, k5⟩ := hok
  have hinj : ∀ a b k, look l2 a = some k → look l2 b = some k → a = b := by
    intro a b k ha hb
    rcases k2 (a, k) (look_mem ha) (b, k) (look_mem hb) with h | h
    · exact absurd rfl h
    · exact h
  have hc : ∀ o k, look l1 o = some k → (renLoc l2 β) k = β o := by
    intro o k ho
    have := k1 (o, k) (look_mem ho)
    simp only [renLoc, this]
  have hloc : ∀ p ∈ I', ∃ k, look l1 p.1 = some k ∧ (renLoc l2 β) k = β p.1 := by
    intro p hp
    obtain ⟨k, hk⟩ := Option.isSome_iff_exists.1 (k4 p hp)
    exact ⟨k, hk, hc _ _ hk⟩
  have hpass : ∀ b, passOf (renO l1 I') (renLoc l2 β) b ↔ passOf I' β b := by
    intro b
    rw [renO_map]
    constructor
    · rintro ⟨q, hq, h1⟩
      obtain ⟨p, hp, rfl⟩ := List.mem_map.1 hq
      obtain ⟨k, hk, hkb⟩ := hloc p hp
      simp only [hk, Option.getD_some, hkb] at h1
      exact ⟨p, hp, h1⟩
    · rintro ⟨p, hp, h1⟩
      obtain ⟨k, hk, hkb⟩ := hloc p hp
      exact ⟨_, List.mem_map.2 ⟨p, hp, rfl⟩, by simp only [hk, Option.getD_some, hkb]; exact h1⟩
  have hpc : ∀ b, pcOf (renO l1 I') (renLoc l2 β) b ↔ pcOf I' β b := by
    intro b
    rw [renO_map]
    constructor
    · rintro ⟨q, hq, h1⟩
      obtain ⟨p, hp, rfl⟩ := List.mem_map.1 hq
      obtain ⟨k, hk, hkb⟩ := hloc p hp
      simp only [hk, Option.getD_some, hkb] at h1
      exact ⟨p, hp, h1⟩
    · rintro ⟨p, hp, h1⟩
      obtain ⟨k, hk, hkb⟩ := hloc p hp
      exact ⟨_, List.mem_map.2 ⟨p, hp, rfl⟩, by simp only [hk, Option.getD_some, hkb]; exact h1⟩
  have hin' : InOk w S (renLoc l2 β) (renO l1 I') := by
    rw [renO_map]
    refine ⟨fun q hq => ?_, fun q hq => ?_, fun q hq q' hq' => ?_, fun q hq => ?_, fun q hq q' hq' => ?_⟩
    · obtain ⟨p, hp, rfl⟩ := List.mem_map.1 hq
      obtain ⟨k, hk, hkb⟩ := hloc p hp
      simp only [hk, Option.getD_some, hkb]
      exact (hin.ob p hp).ren hc
    · obtain ⟨p, hp, rfl⟩ := List.mem_map.1 hq
      obtain ⟨k, hk, hkb⟩ := hloc p hp
      simp only [hk, Option.getD_some, hkb]
      exact hin.own p hp
    · obtain ⟨p, hp, rfl⟩ := List.mem_map.1 hq
      obtain ⟨p', hp', rfl⟩ := List.mem_map.1 hq'
      obtain ⟨k, hk, hkb⟩ := hloc p hp
      obtain ⟨k', hk', hkb'⟩ := hloc p' hp'
      simp only [hk, hk', Option.getD_some, hkb, hkb']
      intro b h1 h2
      have := hin.sep p hp p' hp' b h1 h2
      rw [this, hk'] at hk
      simpa using hk.symm
    · obtain ⟨p, hp, rfl⟩ := List.mem_map.1 hq
      obtain ⟨k, hk, hkb⟩ := hloc p hp
      simp only [hk, Option.getD_some, hkb]
      exact hin.clm p hp
    · obtain ⟨p, hp, rfl⟩ := List.mem_map.1 hq
      obtain ⟨p', hp', rfl⟩ := List.mem_map.1 hq'
      obtain ⟨k, hk, hkb⟩ := hloc p hp
      obtain ⟨k', hk', hkb'⟩ := hloc p' hp'
      simp only [hk, hk', Option.getD_some, hkb, hkb']
      intro b h1 h2
      have := hin.sepc p hp p' hp' b h1 h2
      rw [this, hk'] at hk
      simpa using hk.symm
  exact hin'
theorem growX_ren (hok : renOk l1 l2 I' O mv = true) (hG : GrowX w S (renLoc l2 β) (renO l1 I') O mv w' S' βf) (hrep : RepV w' S' βf r v) : ∃ β2, GrowX w S β I' (renO l2 O) (mv.map fun m => (look l2 m).getD m) w' S' β2 ∧ RepV w' S' β2 (r.map (renAt l2)) v := by
  simp only [renOk, Bool.and_eq_true, List.all_eq_true, beq_iff_eq, Bool.or_eq_true, bne_iff_ne, ne_eq] at hok
  obtain ⟨⟨⟨⟨k1, k2⟩, k3⟩, k4⟩, k5⟩ := hok
  have hinj : ∀ a b k, look l2 a = some k → look l2 b = some k → a = b := by
    intro a b k ha hb
    rcases k2 (a, k) (look_mem ha) (b, k) (look_mem hb) with h | h
    · exact absurd rfl h
    · exact h
  have hc : ∀ o k, look l1 o = some k → (renLoc l2 β) k = β o := by
    intro o k ho
    have := k1 (o, k) (look_mem ho)
    simp only [renLoc, this]
  have hloc : ∀ p ∈ I', ∃ k, look l1 p.1 = some k ∧ (renLoc l2 β) k = β p.1 := by
    intro p hp
    obtain ⟨k, hk⟩ := Option.isSome_iff_exists.1 (k4 p hp)
    exact ⟨k, hk, hc _ _ hk⟩
  have hpass : ∀ b, passOf (renO l1 I') (renLoc l2 β) b ↔ passOf I' β b := by
    intro b
    rw [renO_map]
    constructor
    · rintro ⟨q, hq, h1⟩
      obtain ⟨p, hp, rfl⟩ := List.mem_map.1 hq
      obtain ⟨k, hk, hkb⟩ := hloc p hp
      simp only [hk, Option.getD_some, hkb] at h1
      exact ⟨p, hp, h1⟩
    · rintro ⟨p, hp, h1⟩
      obtain ⟨k, hk, hkb⟩ := hloc p hp
      exact ⟨_, List.mem_map.2 ⟨p, hp, rfl⟩, by simp only [hk, Option.getD_some, hkb]; exact h1⟩
  have hpc : ∀ b, pcOf (renO l1 I') (renLoc l2 β) b ↔ pcOf I' β b := by
    intro b
    rw [renO_map]
    constructor
    · rintro ⟨q, hq, h1⟩
      obtain ⟨p, hp, rfl⟩ := List.mem_map.1 hq
      obtain ⟨k, hk, hkb⟩ := hloc p hp
      simp only [hk, Option.getD_some, hkb] at h1
      exact ⟨p, hp, h1⟩
    · rintro ⟨p, hp, h1⟩
      obtain ⟨k, hk, hkb⟩ := hloc p hp
      exact ⟨_, List.mem_map.2 ⟨p, hp, rfl⟩, by simp only [hk, Option.getD_some, hkb]; exact h1⟩
  let β2 : Nat → OLoc := fun k => match mv.find? fun m => look l2 m == some k with | some m => βf m | none => β k
  have hf : ∀ o k, look l2 o = some k → β2 k = βf o := by
    intro o k ho
    simp only [β2]
    split
    · rename_i m hm
      have h1 := List.find?_some hm
      simp only [beq_iff_eq] at h1
      rw [hinj _ _ _ h1 ho]
    · rename_i hm
      have hom : o ∉ mv := by
        intro hmem
        have := List.find?_eq_none.1 hm o hmem
        simp [ho] at this
      rw [hG.loc o hom]
      simp only [renLoc, ho]
  have hlocO : ∀ p ∈ O, ∃ k, look l2 p.1 = some k ∧ β2 k = βf p.1 := by
    intro p hp
    obtain ⟨k, hk⟩ := Option.isSome_iff_exists.1 (k5 p hp)
    exact ⟨k, hk, hf _ _ hk⟩
  refine ⟨β2, ⟨hG.os, hG.tape, hG.output, hG.size, fun b hb hp => hG.block b hb fun h => hp ((hpass b).1 h), hG.sub, fun b hb => ⟨(hG.sup b hb).1, (hG.sup b hb).2.imp id fun h => h.imp id (hpass b).1⟩, fun k hk => ?_, fun q hq => ?_, fun q hq => ?_, fun q hq q' hq' => ?_, fun q hq => ?_, fun q hq q' hq' => ?_⟩, hrep.map (RepA.ren hf) fun _ _ h => h⟩
  · simp only [β2]
    split
    · rename_i m hm
      have h1 := List.find?_some hm
      have h2 := List.mem_of_find?_eq_some hm
      simp only [beq_iff_eq] at h1
      exact absurd (List.mem_map.2 ⟨m, h2, by simp [h1]⟩) hk
    · rfl
  · rw [renO_map] at hq
    obtain ⟨p, hp, rfl⟩ := List.mem_map.1 hq
    obtain ⟨k, hk, hkb⟩ := hlocO p hp
    simp only [hk, Option.getD_some, hkb]
    exact (hG.ob p hp).ren hf
  · rw [renO_map] at hq
    obtain ⟨p, hp, rfl⟩ := List.mem_map.1 hq
    obtain ⟨k, hk, hkb⟩ := hlocO p hp
    simp only [hk, Option.getD_some, hkb]
    intro b hh
    obtain ⟨h1, h2, h3⟩ := hG.own p hp b hh
    exact ⟨h1, h2, h3.imp id (hpass _).1⟩
  · rw [renO_map] at hq hq'
    obtain ⟨p, hp, rfl⟩ := List.mem_map.1 hq
    obtain ⟨p', hp', rfl⟩ := List.mem_map.1 hq'
    obtain ⟨k, hk, hkb⟩ := hlocO p hp
    obtain ⟨k', hk', hkb'⟩ := hlocO p' hp'
    simp only [hk, hk', Option.getD_some, hkb, hkb']
    intro b h1 h2
    have := hG.sep p hp p' hp' b h1 h2
    rw [this, hk'] at hk
    simpa using hk.symm
  · rw [renO_map] at hq
    obtain ⟨p, hp, rfl⟩ := List.mem_map.1 hq
    obtain ⟨k, hk, hkb⟩ := hlocO p hp
    simp only [hk, Option.getD_some, hkb]
    intro b hh
    obtain ⟨h1, h3⟩ := hG.clm p hp b hh
    exact ⟨h1, h3.imp id (Or.imp (hpass _).1 (hpc _).1)⟩
  · rw [renO_map] at hq hq'
    obtain ⟨p, hp, rfl⟩ := List.mem_map.1 hq
    obtain ⟨p', hp', rfl⟩ := List.mem_map.1 hq'
    obtain ⟨k, hk, hkb⟩ := hlocO p hp
    obtain ⟨k', hk', hkb'⟩ := hlocO p' hp'
    simp only [hk, hk', Option.getD_some, hkb, hkb']
    intro b h1 h2
    have := hG.sepc p hp p' hp' b h1 h2
    rw [this, hk'] at hk
    simpa using hk.symm
end

section
variable {n : Nat} {P : Program} {o : Oper} {y : AV} {nob us I : List (Nat × Ob)} {ts : List (Nat × AV)}
theorem Grow.toX {w w' : World} {S S' : Nat → Prop} {β β' : Nat → OLoc} (h : Grow w S β nob w' S' β') : GrowX w S β [] nob (nob.map (·.1)) w' S' β' :=
  ⟨h.os, h.tape, h.output, h.size, fun b hb _ => h.block b hb, h.sub, fun b hb => ⟨(h.sup b hb).1, (h.sup b hb).2.imp id .inl⟩, fun q hq => h.loc q fun p hp e => hq (List.mem_map.2 ⟨p, hp, e⟩), h.ob,
    fun p hp b hb => ⟨(h.own p hp b hb).2.1, (h.own p hp b hb).2.2, .inl (h.own p hp b hb).1⟩, h.sep, fun p hp b hb => ⟨(h.clm p hp b hb).1, .inl (h.clm p hp b hb).2⟩, h.sepc⟩

/-- The slots that an operation reads. -/
def tsOf (s : St) : List Operand → List (Nat × AV)
  | [] => []
  | .tmp t :: r => match s.get t with
    | some x => (t, x) :: tsOf s r
    | none => tsOf s r
  | _ :: r => tsOf s r
theorem look_tsOf {s : St} {t : Nat} {x : AV} : ∀ {l : List Operand}, look (tsOf s l) t = some x → s.get t = some x ∧ .tmp t ∈ l
  | [], h => by simp [tsOf, look] at h
  | .tmp t' :: r, h => by
    simp only [tsOf] at h
    split at h
    · rename_i x' hx
      simp only [look] at h
      split at h
      · rename_i e
        simp only [beq_iff_eq] at e
        subst e
        simp at h; subst h
        exact ⟨hx, by simp⟩
      · obtain ⟨h1, h2⟩ := look_tsOf h
        exact ⟨h1, by simp [h2]⟩
    · obtain ⟨h1, h2⟩ := look_tsOf h
      exact ⟨h1, by simp [h2]⟩
  | .const _ :: r, h => by obtain ⟨h1, h2⟩ := look_tsOf (l := r) h; exact ⟨h1, by simp [h2]⟩
  | .func _ :: r, h => by obtain ⟨h1, h2⟩ := look_tsOf (l := r) h; exact ⟨h1, by simp [h2]⟩
  | .global _ :: r, h => by obtain ⟨h1, h2⟩ := look_tsOf (l := r) h; exact ⟨h1, by simp [h2]⟩

theorem sim_small {a : Act} {w : World} {S : Nat → Prop} {β : Nat → OLoc} {fx : Nat → OLoc → Prop} {ob : List (Nat × Ob)} {pa pc : Nat → Prop} (hd : a.defers = []) (hn : a.tmps.size = n) (hlt : ∀ b, S b → b < w.heap.size) (htm : ∀ t x, look ts t = some x → ∃ v, a.tmps[t]? = some v ∧ RepV w S β x v) (hin : InOk w S β ob)
    (hpa : ∀ p ∈ ob, ∀ b, (β p.1).Own b → pa b) (hpc : ∀ p ∈ ob, ∀ b ∈ (β p.1).clm, pc b) (hfx : ∀ q l, fx q l → 2000 ≤ q ∧ β q = l) : Sim ⟨n, w, S, pa, fx, pc⟩ ⟨ts, ob⟩ a w S β := by
  have hgob : ∀ q X, (⟨ts, ob⟩ : St).gob q = some X → (q, X) ∈ ob := fun q X hq => look_mem hq
  refine ⟨hd, hn, htm, ⟨hlt, fun q X hq => hin.ob (q, X) (hgob q X hq), fun q X hq b hh => ?_, fun q q' X X' hq hq' b hh hh' => hin.sep (q, X) (hgob q X hq) (q', X') (hgob q' X' hq') b hh hh', rfl, rfl, rfl, Nat.le_refl _, fun _ _ _ => rfl, fun _ h => h, fun _ h => .inl h, hfx, fun q X hq b hh => ?_, fun q q' X X' hq hq' b hh hh' => hin.sepc (q, X) (hgob q X hq) (q', X') (hgob q' X' hq') b hh hh'⟩⟩
  · obtain ⟨h1, h2⟩ := hin.own (q, X) (hgob q X hq) b hh
    exact ⟨h1, h2, .inr (hpa (q, X) (hgob q X hq) b hh)⟩
  · exact ⟨hin.clm (q, X) (hgob q X hq) b hh, .inr (.inr (hpc (q, X) (hgob q X hq) b hh))⟩

/-- The slots are read by the operation. -/
def tsB (n : Nat) (o : Oper) (ts : List (Nat × AV)) : Bool := ts.all fun p => decide (p.1 < n) && (opTmps o).contains p.1
theorem opTmps_mem {o : Oper} {t : Nat} (h : t ∈ opTmps o) : Operand.tmp t ∈ o.op.operands := by
  simp only [opTmps, List.mem_filterMap] at h
  obtain ⟨x, h1, h2⟩ := h
  cases x with
  | tmp t' => simp at h2; subst h2; simpa using h1
  | _ => simp at h2
theorem tsB_spec {a : Act} {w : World} {S : Nat → Prop} {β : Nat → OLoc} {ob : List (Nat × Ob)} (h : tsB n o ts = true) (hn : a.tmps.size = n) (hr : ∀ x X, (⟨ts, ob⟩ : St).ev x = some X → x ∈ o.op.operands → RepV w S β X (a.eval x)) : ∀ t x, look ts t = some x → ∃ v, a.tmps[t]? = some v ∧ RepV w S β x v := by
  intro t x hx
  have := List.all_eq_true.1 h _ (look_mem hx)
  simp only [Bool.and_eq_true, decide_eq_true_eq, List.contains_iff_mem] at this
  have h1 := hr (.tmp t) x hx (opTmps_mem this.2)
  have hlt : t < a.tmps.size := by omega
  refine ⟨a.tmps[t], Array.getElem?_eq_getElem hlt, ?_⟩
  have : a.eval (.tmp t) = a.tmps[t] := by simp [Act.eval, Array.getD_eq_getD_getElem?, Array.getElem?_eq_getElem hlt]
  rw [← this]; exact h1

theorem opX_ofL (h : OpL P o ⟨ts, us⟩ y nob) (hts : tsB n o ts = true) : OpX n P o (St.ev ⟨ts, us⟩) us [] y nob (nob.map (·.1)) := by
  intro a w S β hd hn hlt hr hin K Q hK
  rw [List.append_nil] at hin
  refine h ⟨n, w, S, passOf us β, fun _ _ => False, pcOf us β⟩ a w S β ?_ K Q fun v w' S' β' hG hy => hK v w' S' β' hG.toX hy
  exact sim_small hd hn hlt (tsB_spec hts hn hr) hin (fun p hp b hb => ⟨p, hp, hb⟩) (fun p hp b hb => ⟨p, hp, hb⟩) (fun _ _ h => h.elim)

/-- Without its guard. -/
def Oper.ng (o : Oper) : Oper := { o with guard := none }
theorem wp_conv {a : Act} {w : World} {K0 K : Act → World → Prop} {R Q : Exit → Act → World → Prop} (hR : ∀ e a w, R e a w → e = .normal) (h : (Oper.ng o).wp P a w K0 R) (hdef : ∀ a' w', K0 a' w' → a'.defers = []) (hK : ∀ v w', K0 (a.put o.dst v) w' → K (a.put o.dst v) w') : o.wp P a w K Q := by
  unfold Oper.wp at *
  have he : execOp a.eval (Oper.ng o) = execOp a.eval o := rfl
  rw [he] at h
  generalize (execOp a.eval o).run P w = r at *
  have hlet : ¬ LetsOut R := fun ⟨_, _, hl⟩ => absurd (hR _ _ _ hl) (by simp)
  cases r with
  | ok m w' =>
    cases m with
    | value v => exact hK v w' h
    | skip => exact hK _ w' h
    | defer d =>
      have := hdef _ _ h
      cases hdd : o.dst <;> simp [Oper.ng, Act.put, hdd] at this
    | enter f args =>
      exact Calls.mono h fun e w'' he => by
        cases e with
        | returned v => exact hK v w'' he
        | panicked ch => exact absurd (hR _ _ _ he) (by simp)
        | outgrown => exact absurd he hlet
    | row rw args => exact Rows.mono h fun v w'' he => hK v w'' he
    | _ => exact h
  | halt x w' =>
    cases x with
    | panic v => exact absurd (hR _ _ _ h) (by simp)
    | _ => exact h

/-- Whatever is named lies in place, or is known to have moved. -/
def hiIds (O : List (Nat × Ob)) (mv : List Nat) (r : AV) : Bool :=
  (r.ids ++ (O.map fun p => p.1 :: p.2.ids).flatten).all fun o => mv.contains o || decide (2000 ≤ o)
/-- What stands behind a step: what was made, and the objects. -/
def stepY (d : Option Nat) (s' : St) : Option AV := match d with
  | some d => s'.get d
  | none => some (.tup [])
theorem opX_step {s' : St} {y0 : AV} {O0 : List (Nat × Ob)} {mv0 : List Nat} {l1 l2 : List (Nat × Nat)} (h : Step n P (Oper.ng o) ⟨mapTm (renAt l1) ts, renO l1 I⟩ s') (hts : tsB n o ts = true) (hd : o.dst.all (· < n) = true) (hy : stepY o.dst s' = some y0) (hO : usOk s' O0) (hids : hiIds O0 mv0 y0 = true) (hok : renOk l1 l2 I O0 mv0 = true) :
    OpX n P o (St.ev ⟨ts, I⟩) [] I (y0.map (renAt l2)) (renO l2 O0) (mv0.map fun m => (look l2 m).getD m) := by
  intro a w S β hdf hn hlt hr hin K Q hK
  rw [List.nil_append] at hin
  have hin' := inOk_ren hok hin
  have k1 : ∀ q k, look l1 q = some k → renLoc l2 β k = β q := by
    intro q k hq
    have hok := hok
    simp only [renOk, Bool.and_eq_true, List.all_eq_true, beq_iff_eq] at hok
    have := hok.1.1.1.1 (q, k) (look_mem hq)
    simp only [renLoc, this]
  have htm : ∀ t x, look (mapTm (renAt l1) ts) t = some x → ∃ v, a.tmps[t]? = some v ∧ RepV w S (renLoc l2 β) x v := by
    intro t x hx
    rw [look_mapTm] at hx
    cases hz : look ts t with
    | none => rw [hz] at hx; simp at hx
    | some z =>
      rw [hz] at hx; simp at hx; subst hx
      obtain ⟨v, hv, hrv⟩ := tsB_spec (ob := I) hts hn hr t z hz
      exact ⟨v, hv, hrv.map (RepA.ren k1) fun _ _ h => h⟩
  have hsim := sim_small (ts := mapTm (renAt l1) ts) (fx := fun q l => 2000 ≤ q ∧ renLoc l2 β q = l) (pa := passOf (renO l1 I) (renLoc l2 β)) (pc := pcOf (renO l1 I) (renLoc l2 β)) hdf hn hlt htm hin' (fun p hp b hb => ⟨p, hp, hb⟩) (fun p hp b hb => ⟨p, hp, hb⟩) fun q l h => h
  let Γ : Cx := ⟨n, w, S, passOf (renO l1 I) (renLoc l2 β), fun q l => 2000 ≤ q ∧ renLoc l2 β q = l, pcOf (renO l1 I) (renLoc l2 β)⟩
  let R : Exit → Act → World → Prop := fun e a' w' => e = .normal ∧ ∃ S' β', Sim Γ s' a' w' S' β'
  have hwl := h Γ rfl #[Oper.ng o] [] (fun s => s = s') rfl (aOps_nil rfl) a w S (renLoc l2 β) R hsim (fun a' w' s1 S' β' e hs' => by subst e; exact ⟨rfl, S', β', hs'⟩)
  unfold wpList at hwl
  rw [if_pos (by simp [Region.wanted, Oper.ng])] at hwl
  have hwp : (Oper.ng o).wp P a w (wpList P #[Oper.ng o] R []) R := by
    rcases hwl with h | ⟨_, _, _, hl⟩
    · exact h
    · exact absurd hl.1 (by simp)
  refine wp_conv (fun e a w h => h.1) hwp (fun a' w' h => h.2.elim fun S' h => h.elim fun β' h => h.defers) fun v w' hk => ?_
  obtain ⟨_, S', βf, hs'⟩ := hk
  -- what was made
  obtain ⟨u, hu1, hu2⟩ : ∃ u, a.put o.dst v = a.put o.dst u ∧ RepV w' S' βf y0 u := by
    cases hdd : o.dst with
    | none =>
      rw [hdd] at hy
      simp only [stepY, Option.some.injEq] at hy
      subst hy
      exact ⟨.tuple #[], rfl, RepVs.tup .nil .nil⟩
    | some d =>
      rw [hdd] at hy hd hs'
      simp only [stepY] at hy
      obtain ⟨u, hu, hrep⟩ := hs'.tm d _ hy
      simp at hd
      refine ⟨u, ?_, hrep⟩
      have : (a.put (some d) v).tmps[d]? = some v := by simp [Act.put, hn, hd]
      rw [this] at hu
      cases hu
      rfl
  rw [hu1]
  -- the memory
  let βg : Nat → OLoc := fun q => if q ∈ mv0 then βf q else renLoc l2 β q
  have hin2 : ∀ q ∈ y0.ids ++ (O0.map fun p => p.1 :: p.2.ids).flatten, βg q = βf q := by
    intro q hq
    have := List.all_eq_true.1 hids q hq
    simp only [Bool.or_eq_true, List.contains_iff_mem, decide_eq_true_eq] at this
    by_cases hm : q ∈ mv0
    · exact if_pos hm
    · rcases this with h | h
      · exact absurd h hm
      · show (if q ∈ mv0 then βf q else renLoc l2 β q) = βf q
        rw [if_neg hm]
        exact ((hs'.mem.fix q (renLoc l2 β q) ⟨h, rfl⟩).2).symm
  have kO : ∀ p ∈ O0, s'.gob p.1 = some p.2 ∧ βg p.1 = βf p.1 ∧ ∀ q ∈ p.2.ids, βg q = βf q := fun p hp =>
    ⟨usOk_spec hO p hp, hin2 _ (List.mem_append_right _ (List.mem_flatten.2 ⟨_, List.mem_map.2 ⟨p, hp, rfl⟩, by simp⟩)), fun q hq => hin2 _ (List.mem_append_right _ (List.mem_flatten.2 ⟨_, List.mem_map.2 ⟨p, hp, rfl⟩, by simp [hq]⟩))⟩
  have hG : GrowX w S (renLoc l2 β) (renO l1 I) O0 mv0 w' S' βg := by
    refine ⟨hs'.mem.os, hs'.mem.tape, hs'.mem.output, hs'.mem.size, fun b hb hp => hs'.mem.block b hb hp, hs'.mem.sub, fun b hb => ⟨hs'.mem.lt b hb, hs'.mem.sup b hb⟩, fun q hq => if_neg hq, fun p hp => ?_, fun p hp b hh => ?_, fun p hp q hq b hh hh' => ?_, fun p hp b hh => ?_, fun p hp q hq b hh hh' => ?_⟩
    · obtain ⟨h1, h2, h3⟩ := kO p hp
      rw [h2]
      exact (hs'.mem.ob p.1 p.2 h1).mono (fun _ _ => rfl) (fun _ _ => rfl) (fun _ h => h) h3
    · obtain ⟨h1, h2, h3⟩ := kO p hp
      rw [h2] at hh
      exact hs'.mem.own p.1 p.2 h1 b hh
    · obtain ⟨h1, h2, h3⟩ := kO p hp
      obtain ⟨g1, g2, g3⟩ := kO q hq
      rw [h2] at hh
      rw [g2] at hh'
      exact hs'.mem.sep p.1 q.1 _ _ h1 g1 b hh hh'
    · obtain ⟨h1, h2, h3⟩ := kO p hp
      rw [h2] at hh
      exact hs'.mem.clm p.1 p.2 h1 b hh
    · obtain ⟨h1, h2, h3⟩ := kO p hp
      obtain ⟨g1, g2, g3⟩ := kO q hq
      rw [h2] at hh
      rw [g2] at hh'
      exact hs'.mem.sepc p.1 q.1 _ _ h1 g1 b hh hh'
  obtain ⟨β2, hG2, hr2⟩ := growX_ren hok hG (hu2.mono (fun _ _ => rfl) (fun _ h => h) fun q hq => hin2 q (List.mem_append_left _ hq))
  exact hK u w' S' β2 hG2 hr2
end


/-! The computing machine for such regions -/
def killTm (ks : List Nat) : List (Nat × AV) → List (Nat × AV)
  | [] => []
  | (i, x) :: r => (i, x.kill ks) :: killTm ks r
def killObs (ks : List Nat) : List (Nat × Ob) → List (Nat × Ob)
  | [] => []
  | (i, x) :: r => (i, x.kill ks) :: killObs ks r
theorem look_killTm (ks : List Nat) (l : List (Nat × AV)) (i : Nat) : look (killTm ks l) i = (look l i).map (·.kill ks) := by
  induction l with
  | nil => rfl
  | cons p l ih => obtain ⟨k, x⟩ := p; simp only [killTm, look]; split <;> simp [ih]
theorem look_killObs (ks : List Nat) (l : List (Nat × Ob)) (i : Nat) : look (killObs ks l) i = (look l i).map (·.kill ks) := by
  induction l with
  | nil => rfl
  | cons p l ih => obtain ⟨k, x⟩ := p; simp only [killObs, look]; split <;> simp [ih]
/-- The state behind an instance. -/
def St.xd (s : St) (dst : Option Nat) (e : EX) : St := match e.I with
  | [] => s.upd dst e.y e.O
  | _ :: _ => ⟨(match dst with | some d => [(d, e.y)] | none => []) ++ killTm e.ks s.tm, e.O ++ withoutL (killObs e.ks s.ob) e.drop⟩
theorem xd_get {s : St} {o : Oper} {e : EX} (hf : e.I = [] → ∀ i x, s.get i = some x → x.kill e.ks = x) : (s.xd o.dst e).get = gE o e s.get := by
  funext i
  unfold St.xd
  split
  · rename_i hI
    rw [get_upd]
    unfold gE
    by_cases h : o.dst = some i
    · simp [h]
    · simp only [h, if_false]
      cases hx : s.get i with
      | none => rfl
      | some x => simp [hf hI i x hx]
  · unfold gE
    cases hd : o.dst with
    | none => simp [St.get, look_killTm]
    | some d =>
      simp only [St.get, List.singleton_append, look, Option.some.injEq]
      by_cases h : d = i
      · simp [h]
      · simp [h, look_killTm]
theorem xd_gob {s : St} {o : Oper} {e : EX} (hf : e.I = [] → ∀ q X, s.gob q = some X → X.kill e.ks = X) : (s.xd o.dst e).gob = TE e s.gob := by
  funext q
  unfold St.xd
  split
  · rename_i hI
    rw [gob_upd]
    unfold TE
    have hdr : e.drop = [] := by simp [EX.drop, hI, droppedIds]
    rw [hdr]
    simp only [List.not_mem_nil, if_false]
    cases hx : s.gob q with
    | none => rfl
    | some x => simp [hf hI q x hx]
  · unfold TE
    simp only [St.gob, look_append, look_withoutL, look_killObs]

def getObs0 (s : St) : List Nat → List (Nat × Ob)
  | [] => []
  | k :: r => match s.gob k with
    | some X => (k, X) :: getObs0 s r
    | none => getObs0 s r
theorem getObs0_spec {s : St} : ∀ {l : List Nat} {p : Nat × Ob}, p ∈ getObs0 s l → s.gob p.1 = some p.2
  | k :: r, p, h => by
    simp only [getObs0] at h
    split at h
    · rename_i X hX
      rcases List.mem_cons.1 h with rfl | h
      · exact hX
      · exact getObs0_spec h
    · exact getObs0_spec h
/-- Objects that stay where they are bear numbers from 2000 on. -/
def lowOb (I : List (Nat × Ob)) (k : Nat) : Bool := match look I k with
  | some (.var _) => false
  | some _ => decide (k < 2000)
  | none => false
/-- A copy leaves its list where it is. -/
def lowI (o : Oper) (I : List (Nat × Ob)) : List (Nat × Ob) := match o.op with
  | .call c => (match c.callee with
    | .builtin .copy => []
    | .builtin .clear => []
    | _ => I)
  | _ => I
def mkL1 (I : List (Nat × Ob)) : Nat → List Nat → List (Nat × Nat)
  | _, [] => []
  | n, k :: r => match lowOb I k with
    | true => (k, k) :: mkL1 I n r
    | false => (k, n) :: mkL1 I (n + 1) r
def ded (ob : List (Nat × Ob)) : List (Nat × Ob) → List Nat → List (Nat × Ob)
  | [], _ => []
  | (k, _) :: r, seen => match seen.contains k with
    | true => ded ob r seen
    | false => match look ob k with
      | some X => (k, X) :: ded ob r (k :: seen)
      | none => ded ob r seen
theorem ded_us {s : St} : ∀ {l : List (Nat × Ob)} {seen : List Nat}, usOk s (ded s.ob l seen)
  | [], _ => trivial
  | (k, X) :: r, seen => by
    simp only [ded]
    split
    · exact ded_us
    · split
      · rename_i X hX
        exact ⟨hX, ded_us⟩
      · exact ded_us
def swapL (l : List (Nat × Nat)) : List (Nat × Nat) := l.map fun p => (p.2, p.1)
def newL (l1 : List (Nat × Nat)) (O : List (Nat × Ob)) : List Nat := (O.map (·.1)).filter fun k => !l1.any fun p => p.2 == k
def lowL (l1 : List (Nat × Nat)) : List Nat := (l1.map (·.2)).filter fun k => decide (k < 2000)
/-- What is asked of an instance in a state. -/
def mvB (s : St) (I O : List (Nat × Ob)) (mv : List Nat) : Bool :=
  (mv.all fun m => decide (m < 2000) && (I.any (·.1 == m) || (s.gob m).isNone)) && O.all fun p => I.any (·.1 == p.1) || mv.contains p.1

/-! What is computed once: lists and structures written out before they are used -/
def frcN (n : Nat) (k : Nat → Prop) : Prop := match n with
  | 0 => k 0
  | m + 1 => k (Nat.succ m)
def frcL : List Nat → (List Nat → Prop) → Prop
  | [], k => k []
  | x :: r, k => frcN x fun x => frcL r fun r => k (x :: r)
def frcP : List (Nat × Nat) → (List (Nat × Nat) → Prop) → Prop
  | [], k => k []
  | (x, y) :: r, k => frcN x fun x => frcN y fun y => frcP r fun r => k ((x, y) :: r)
def frcA (a : At) (k : At → Prop) : Prop := match a with
  | .d x => k (.d x)
  | .e0 => k .e0
  | .ol o => frcN o fun o => k (.ol o)
  | .op o off => frcN o fun o => k (.op o off)
  | .ep cs => k (.ep cs)
  | .clo f caps => k (.clo f caps)
  | .raw a n c => k (.raw a n c)
  | .ps o es lo n => frcN o fun o => k (.ps o es lo n)
  | .junk => k .junk
def frcAs : List At → (List At → Prop) → Prop
  | [], k => k []
  | x :: r, k => frcA x fun x => frcAs r fun r => k (x :: r)
mutual
def frcV : AV → (AV → Prop) → Prop
  | .one x, k => frcA x fun x => k (.one x)
  | .dat xs, k => k (.dat xs)
  | .agg xs, k => frcAs xs fun xs => k (.agg xs)
  | .tup ys, k => frcVs ys fun ys => k (.tup ys)
def frcVs : List AV → (List AV → Prop) → Prop
  | [], k => k []
  | y :: r, k => frcV y fun y => frcVs r fun r => k (y :: r)
end
def frcO (X : Ob) (k : Ob → Prop) : Prop := match X with
  | .var cs => frcAs cs fun cs => k (.var cs)
  | .lst E es xs => k (.lst E es xs)
  | .tr E es xs => k (.tr E es xs)
  | .tk xs => k (.tk xs)
  | .mt E es xs => k (.mt E es xs)
  | .mu E es xs m q a n c => k (.mu E es xs m q a n c)
  | .fu E es xs c => k (.fu E es xs c)
def frcTm : List (Nat × AV) → (List (Nat × AV) → Prop) → Prop
  | [], k => k []
  | (i, x) :: r, k => frcN i fun i => frcV x fun x => frcTm r fun r => k ((i, x) :: r)
def frcOb : List (Nat × Ob) → (List (Nat × Ob) → Prop) → Prop
  | [], k => k []
  | (i, x) :: r, k => frcN i fun i => frcO x fun x => frcOb r fun r => k ((i, x) :: r)
theorem frcN_eq (n : Nat) (k : Nat → Prop) : frcN n k = k n := by cases n <;> rfl
theorem frcL_eq : ∀ (l : List Nat) (k : List Nat → Prop), frcL l k = k l
  | [], k => rfl
  | x :: r, k => by simp only [frcL, frcN_eq, frcL_eq r]
theorem frcP_eq : ∀ (l : List (Nat × Nat)) (k : List (Nat × Nat) → Prop), frcP l k = k l
  | [], k => rfl
  | (x, y) :: r, k => by simp only [frcP, frcN_eq, frcP_eq r]
theorem frcA_eq (a : At) (k : At → Prop) : frcA a k = k a := by cases a <;> simp only [frcA, frcN_eq]
theorem frcAs_eq : ∀ (l : List At) (k : List At → Prop), frcAs l k = k l
  | [], k => rfl
  | x :: r, k => by simp only [frcAs, frcA_eq, frcAs_eq r]
mutual
theorem frcV_eq : ∀ (y : AV) (k : AV → Prop), frcV y k = k y
  | .one x, k => by simp only [frcV, frcA_eq]
  | .dat xs, k => rfl
  | .agg xs, k => by simp only [frcV, frcAs_eq]
  | .tup ys, k => by simp only [frcV, frcVs_eq ys]
theorem frcVs_eq : ∀ (l : List AV) (k : List AV → Prop), frcVs l k = k l
  | [], k => rfl
  | y :: r, k => by simp only [frcVs, frcV_eq y, frcVs_eq r]
end
theorem frcO_eq (X : Ob) (k : Ob → Prop) : frcO X k = k X := by cases X <;> simp only [frcO, frcAs_eq]
theorem frcTm_eq : ∀ (l : List (Nat × AV)) (k : List (Nat × AV) → Prop), frcTm l k = k l
  | [], k => rfl
  | (i, x) :: r, k => by simp only [frcTm, frcN_eq, frcV_eq, frcTm_eq r]
theorem frcOb_eq : ∀ (l : List (Nat × Ob)) (k : List (Nat × Ob) → Prop), frcOb l k = k l
  | [], k => rfl
  | (i, x) :: r, k => by simp only [frcOb, frcN_eq, frcO_eq, frcOb_eq r]

/-- A call that is lent lists. -/
def vLend (z : Prop) (P : Program) (E : Env) (o : Oper) (s : St) (k : AV → List (Nat × Ob) → Prop) : Prop := match o.op with
  | .call c => match c.callee with
    | .value v => opt z (argsA s.ev c.args.toList) fun xs =>
      let sF := frzAll s (olIds xs)
      opt z (argsA sF.ev c.args.toList) fun xs' => opt z (sF.ev v) fun V' => vCall z P E (o.dst.getD 0) V' xs' fun y nob => chk z (y.closed && (nob.all fun p => isTr p.2)) <| match E.lw with
        | true => k y (thaw nob)
        | false => k y nob
    | _ => z
  | _ => z
/-- 0: reads; 1: is lent lists; 2: writes; 3: a call that is handed objects. -/
def dKind (E : Env) (s : St) (o : Oper) : Nat := match o.op with
  | .store _ _ _ => 2
  | .buildSlice _ _ _ => match (litIds s o).isEmpty with
    | true => 0
    | false => 2
  | .call c => match c.callee with
    | .value v => match isExtV E v with
      | true => 0
      | false => match s.ev v, argsA s.ev c.args.toList with
        | some (.one (.d (.fn f))), some xs => match (E.obj.contains f && !noIds xs) || (look E.tkn f).isSome with
          | true => 3
          | false => match look E.sig f with
            | some sg => match noIds xs && !(E.lw && sg.closed) with
              | true => 0
              | false => match sg.closed, argsA (frzAll s (olIds xs)).ev c.args.toList with
                | true, some xs' => match noIds xs' with
                  | true => 1
                  | false => 3
                | _, _ => 3
            | none => 0
        | _, _ => 3
    | .builtin .append => 2
    | .builtin .copy => 2
    | .builtin .clear => 2
    | _ => 0
  | _ => 0
where isExtV (E : Env) : Operand → Bool
  | .func f => E.ext.contains f
  | _ => false
/-- 0: reads no memory; 1: reads what its operands name; 2: may read all that is reached. -/
def opSort (o : Oper) : Nat := match o.op with
  | .call c => match c.callee with
    | .value _ => 2
    | _ => 1
  | .move _ => 0
  | .assign _ => 0
  | .fieldAddr _ _ _ => 0
  | .extract _ _ => 0
  | .makeFunc _ _ _ => 0
  | .build _ _ => 0
  | _ => 1
def storeVar (s : St) (o : Oper) : Option Nat := match o.op with
  | .store _ x _ => match s.ev x with
    | some (.one (.op k _)) => match s.gob k with
      | some (.var _) => some k
      | _ => none
    | _ => none
  | _ => none
def dFin (z : Prop) (o : Oper) (s : St) (ts : List (Nat × AV)) (I : List (Nat × Ob)) (l1 : List (Nat × Nat)) (k : EX → Prop) (s' : St) : Prop :=
  opt z (stepY o.dst s') fun y0 => frcOb (ded s'.ob s'.ob []) fun O0 => frcL (newL l1 O0) fun nw => frcP (swapL l1 ++ nw.map fun k => (k, k)) fun l2 => frcL (lowL l1 ++ nw) fun mv0 => frcL (mv0.map fun m => (look l2 m).getD m) fun mv => frcOb (renO l2 O0) fun O => frcV (y0.map (renAt l2)) fun y =>
    chk z (hiIds O0 mv0 y0 && renOk l1 l2 I O0 mv0 && mvB s I O mv && (!I.isEmpty || (s.fresh O && mv.all fun m => O.any (·.1 == m)))) (k (.run (St.ev ⟨ts, I⟩) [] I y O mv))
def dStep (z : Prop) (P : Program) (E : Env) (n : Nat) (o : Oper) (s : St) (y3 : Bool) (ts : List (Nat × AV)) (I : List (Nat × Ob)) (k : EX → Prop) : Prop :=
  frcP (mkL1 (lowI o I) 2000 (addAll (addAll [] (AV.idsT (ts.map (·.2)))) (obIds I))) fun l1 => frcTm (mapTm (renAt l1) ts) fun tm => frcOb (renO l1 I) fun ob => match y3 with
    | true => vY z P E n (Oper.ng o) ⟨tm, ob⟩ (dFin z o s ts I l1 k)
    | false => vA z E n (Oper.ng o) ⟨tm, ob⟩ (dFin z o s ts I l1 k)
/-- Variables that name some of these. -/
def coIds (l : List Nat) : List (Nat × Ob) → List Nat
  | [] => []
  | (k, .var cs) :: r => match (AV.idsL cs).any l.contains with
    | true => k :: coIds l r
    | false => coIds l r
  | _ :: r => coIds l r
def coStore (s : St) (o : Oper) (l : List Nat) : List Nat := match o.op with
  | .store _ _ _ => addAll l (coIds l s.ob)
  | _ => l
def dX (z : Prop) (P : Program) (E : Env) (n : Nat) (o : Oper) (s : St) (k : EX → Prop) : Prop :=
  frcTm (tsOf s o.op.operands.toList) fun ts => frcL (addAll [] (AV.idsT (ts.map (·.2)))) fun ids => 
  chk z (o.dst.all (· < n) && tsB n o ts) <| match dKind E s o with
    | 0 => frcOb (getObs0 s (match opSort o with | 0 => [] | 1 => ids | _ => reachOb s 8 ids)) fun us =>
      vS z P E o ⟨ts, us⟩ ⟨ts, us⟩ fun y nob => chk z (s.fresh nob) (k (.run (St.ev ⟨ts, us⟩) us [] y nob (nob.map (·.1))))
    | 1 => frcOb (getObs0 s (reachOb s 8 ids)) fun us =>
      vLend z P E o ⟨ts, us⟩ fun y nob => chk z (s.fresh nob) (k (.run (St.ev ⟨ts, us⟩) us [] y nob (nob.map (·.1))))
    | q => frcOb (getObs0 s (match storeVar s o with | some q => [q] | none => coStore s o (reachOb s 8 ids))) fun I => dStep z P E n o s (q == 3) ts I k
/-- A list of numbers as one number. -/
def maskN : List Nat → Nat
  | [] => 0
  | x :: r => Nat.lor (Nat.pow 2 x) (maskN r)
def disj (a b : Nat) : Bool := Nat.beq (Nat.land a b) 0
/-- What an instance touches, reads or writes, forgets, and speaks of. -/
structure Msk where
  tc : Nat
  ke : Nat
  ks : Nat
  al : Nat
def mskOf (o : Oper) (e : EX) : Msk := ⟨maskN e.tch, maskN e.keys, maskN e.ks, maskN (e.all o)⟩
def frcM (m : Msk) (k : Msk → Prop) : Prop := frcN m.tc fun tc => frcN m.ke fun ke => frcN m.ks fun ks => frcN m.al fun al => k ⟨tc, ke, ks, al⟩
theorem frcM_eq (m : Msk) (k : Msk → Prop) : frcM m k = k m := by simp only [frcM, frcN_eq]
def Msk.off (a b : Msk) : Bool := disj a.tc b.ke && disj b.tc a.ke && disj a.ks b.al && disj b.ks a.al
/-- Against those ahead. -/
def pairsX (m : Nat) (x : Msk) : List (Nat × Msk) → Bool
  | [] => true
  | (j, y) :: r => match y.off x with
    | true => pairsX m x r
    | false => m.testBit j && pairsX m x r
def isCallX : EX → Bool
  | .run _ [] [] _ [] _ => false
  | .run _ _ _ _ _ _ => true
  | .skip => false
def frcS (s : St) (e : EX) (k : St → Prop) : Prop := match isCallX e with
  | false => k s
  | true => frcTm s.tm fun tm => frcOb s.ob fun ob => k ⟨tm, ob⟩
theorem frcS_eq (s : St) (e : EX) (k : St → Prop) : frcS s e k = k s := by
  unfold frcS
  split
  · rfl
  · simp only [frcTm_eq, frcOb_eq]
def vDX (P : Program) (E : Env) (n rg : Nat) (ops : Array Oper) (ms : List Nat) : List Oper → Nat → St → List (Nat × Msk) → (St → Prop) → Prop
  | [], _, s, _, k => k s
  | o :: r, ix, s, acc, k =>
    let nx := fun (s : St) (e : EX) => frcM (mskOf o e) fun mk => chk (Stop rg ix) (pairsX (ms.getD ix 0) mk acc) (frcS (s.xd o.dst e) e fun s' => vDX P E n rg ops ms r (ix + 1) s' ((ix, mk) :: acc) k)
    match o.guard with
    | none => dX (Stop rg ix) P E n o s (nx s)
    | some jw => opt (Stop rg ix) ((ops[jw.1]?).bind (·.dst)) fun d => opt (Stop rg ix) (s.get d) fun g => match g with
      | .one (.d (.bool b)) =>
        let gd := fun (bb : Bool) => let s1 := s.upd (some d) (B bb) []; match bb == jw.2 with
          | true => dX (Stop rg ix) P E n o s1 (nx s1)
          | false => chk (Stop rg ix) (o.dst.all (· < n)) (nx s1 .skip)
        ifB b (gd true) (gd false)
      | .tup ys => chk (Stop rg ix) (ys.isEmpty && o.dst.all (· < n)) (nx s .skip)
      | _ => Stop rg ix

section
variable {Γ : Cx} {P : Program} {E : Env} {z : Prop} {o : Oper} {s : St} {n : Nat} {ops : Array Oper}
/-- An instance that can run in a state. -/
structure Runs (n : Nat) (P : Program) (s : St) (o : Oper) (e : EX) : Prop where
  inst : OInst n P o e
  isRun : ∃ av us I y O mv, e = .run av us I y O mv ∧ (∀ x X, av x = some X → x ∈ o.op.operands → ∃ K Z, evF s.get x = some Z ∧ Z.kill K = X) ∧ (∀ p ∈ us ++ I, ∃ K Z, s.gob p.1 = some Z ∧ Z.kill K = p.2) ∧ ∀ m ∈ mv, (∃ p ∈ I, p.1 = m) ∨ s.gob m = none
  frT : e.I = [] → ∀ i x, s.get i = some x → x.kill e.ks = x
  frO : e.I = [] → ∀ q X, s.gob q = some X → X.kill e.ks = X

theorem reads_of {ob : List (Nat × Ob)} {l : List Operand} : ∀ x X, (St.ev ⟨tsOf s l, ob⟩) x = some X → ∃ K Z, evF s.get x = some Z ∧ Z.kill K = X := by
  intro x X hx
  refine ⟨[], X, ?_, AV.kill_nil X⟩
  cases x with
  | tmp t => exact (look_tsOf hx).1
  | const v => exact hx
  | func f => exact hx
  | global g => exact hx
theorem runs_L {us nob : List (Nat × Ob)} {y : AV} (h : OpL P o ⟨tsOf s o.op.operands.toList, us⟩ y nob) (hd : o.dst.all (· < n) = true) (hts : tsB n o (tsOf s o.op.operands.toList) = true) (hus : ∀ p ∈ us, s.gob p.1 = some p.2) (hf : s.fresh nob = true) :
    Runs n P s o (.run (St.ev ⟨tsOf s o.op.operands.toList, us⟩) us [] y nob (nob.map (·.1))) := by
  have hks : ∀ q, q ∈ (EX.run (St.ev ⟨tsOf s o.op.operands.toList, us⟩) us [] y nob (nob.map (·.1))).ks → ∃ p ∈ nob, p.1 = q := fun q hq => by
    rcases List.mem_append.1 hq with h | h
    · obtain ⟨p, hp, e⟩ := List.mem_map.1 h; exact ⟨p, hp, e⟩
    · simp [EX.drop, droppedIds, EX.I] at h
  refine ⟨⟨hd, fun av us' I y' O mv e => ?_⟩, ⟨_, _, _, _, _, _, rfl, fun x X hx _ => reads_of x X hx, fun p hp => ?_, fun m hm => .inr ?_⟩, fun _ i x hx => ?_, fun _ q X hq => ?_⟩
  · cases e
    exact ⟨opX_ofL h hts, fun m hm => by obtain ⟨p, hp, rfl⟩ := List.mem_map.1 hm; exact fresh_lt hf p hp, fun p hp => .inr (List.mem_map.2 ⟨p, hp, rfl⟩)⟩
  · rw [List.append_nil] at hp
    exact ⟨[], _, hus p hp, Ob.kill_nil _⟩
  · obtain ⟨p, hp, rfl⟩ := List.mem_map.1 hm
    cases hX : s.gob p.1 with
    | none => rfl
    | some X => exact absurd rfl ((fresh_ob hf hX).1 p hp)
  · exact AV.kill_id fun q hq hk => by
      obtain ⟨p, hp, e⟩ := hks q hk
      exact fresh_tm hf hx q hq p hp e
  · exact Ob.kill_id fun r hr hk => by
      obtain ⟨p, hp, e⟩ := hks r hk
      exact (fresh_ob hf hq).2 r hr p hp e
theorem vLend_sound {k : AV → List (Nat × Ob) → Prop} (hE : EnvOk P E) (hz : ¬ z) (h : vLend z P E o s k) : ∃ y nob, OpL P o s y nob ∧ k y nob := by
  unfold vLend at h
  split at h
  · rename_i c ho
    obtain ⟨callee, args, ats⟩ := c
    simp only at h
    split at h
    · rename_i v
      obtain ⟨xs, hxs, h⟩ := opt_inv hz h
      obtain ⟨xs', hxs', h⟩ := opt_inv hz h
      obtain ⟨V', hV', h⟩ := opt_inv hz h
      have ho' : o.op = .call { callee := .value v, args := args.toList.toArray, argTypes := ats } := by simpa using ho
      obtain ⟨y, nob, h1, h⟩ := vCall_sound (s0 := frzAll s _) hE hz ho' hV' hxs' h
      obtain ⟨hc, h⟩ := chk_inv hz h
      simp only [Bool.and_eq_true] at hc
      split at h
      · exact ⟨_, _, opL_lendM h1 hc.1 hc.2, h⟩
      · exact ⟨_, _, opL_lend h1 hc.1 hc.2, h⟩
    · exact absurd h hz
  · exact absurd h hz
theorem step_of_x {s' : St} (h : ∀ Γ : Cx, Γ.n = n → XOp Γ P o s s') : Step n P o s s' := fun Γ hn ops rest K hg hr => st_x (h Γ hn) hg hr
theorem dStep_sound {k : EX → Prop} {y3 : Bool} {ids : List Nat} (hE : EnvOk P E) (hz : ¬ z) (hd : o.dst.all (· < n) = true) (hts : tsB n o (tsOf s o.op.operands.toList) = true) (h : dStep z P E n o s y3 (tsOf s o.op.operands.toList) (getObs0 s ids) k) : ∃ e, Runs n P s o e ∧ k e := by
  unfold dStep at h
  simp only [frcP_eq, frcTm_eq, frcOb_eq] at h
  generalize mkL1 (lowI o (getObs0 s ids)) 2000 (addAll (addAll [] (AV.idsT ((tsOf s o.op.operands.toList).map (·.2)))) (obIds (getObs0 s ids))) = l1 at h
  have fin : ∀ (s' : St), Step n P (Oper.ng o) ⟨mapTm (renAt l1) (tsOf s o.op.operands.toList), renO l1 (getObs0 s ids)⟩ s' → dFin z o s (tsOf s o.op.operands.toList) (getObs0 s ids) l1 k s' → ∃ e, Runs n P s o e ∧ k e := by
    intro s' hstep h
    unfold dFin at h
    obtain ⟨y0, hy, h⟩ := opt_inv hz h
    simp only [frcOb_eq, frcL_eq, frcP_eq, frcV_eq] at h
    obtain ⟨hc, h⟩ := chk_inv hz h
    rw [Bool.and_eq_true] at hc
    obtain ⟨hc, c5⟩ := hc
    simp only [Bool.and_eq_true, mvB, List.all_eq_true, Bool.or_eq_true, decide_eq_true_eq, List.any_eq_true, beq_iff_eq, List.contains_iff_mem, Option.isNone_iff_eq_none] at hc
    obtain ⟨⟨c1, c2⟩, c3, c4⟩ := hc
    have hfr : ∀ mv O, getObs0 s ids = [] → (!(getObs0 s ids).isEmpty || (s.fresh O && mv.all fun m => O.any (·.1 == m))) = true → ∀ q ∈ mv ++ droppedIds (getObs0 s ids) O, s.fresh O = true ∧ ∃ p ∈ O, p.1 = q := by
      intro mv O hI hh q hq
      rw [hI] at hh hq
      simp only [List.isEmpty_nil, Bool.not_true, Bool.false_or, Bool.and_eq_true, List.all_eq_true, List.any_eq_true, beq_iff_eq] at hh
      simp only [droppedIds, List.map_nil, List.filter_nil, List.append_nil] at hq
      exact ⟨hh.1, hh.2 q hq⟩
    refine ⟨_, ⟨⟨hd, fun av us' I y' O mv e => ?_⟩, ⟨_, _, _, _, _, _, rfl, fun x X hx _ => reads_of x X hx, fun p hp => ?_, fun m hm => (c3 m hm).2⟩, fun hI i x hx => AV.kill_id fun q hq hk => ?_, fun hI q0 X hX => Ob.kill_id fun q hq hk => ?_⟩, h⟩
    · cases e
      exact ⟨opX_step hstep hts hd hy ded_us c1 c2, fun m hm => (c3 m hm).1, c4⟩
    · rw [List.nil_append] at hp
      exact ⟨[], _, getObs0_spec hp, Ob.kill_nil _⟩
    · obtain ⟨h1, p, hp, e⟩ := hfr _ _ hI c5 q hk
      exact fresh_tm h1 hx q hq p hp e
    · obtain ⟨h1, p, hp, e⟩ := hfr _ _ hI c5 q hk
      exact (fresh_ob h1 hX).2 q hq p hp e
  cases y3 with
  | true =>
    obtain ⟨s', h1, h⟩ := vY_step hE hz h
    exact fin s' (step_of_x h1) h
  | false =>
    obtain ⟨s', h1, h⟩ := vA_step hE hz h
    exact fin s' h1 h
theorem dX_sound {k : EX → Prop} (hE : EnvOk P E) (hz : ¬ z) (h : dX z P E n o s k) : ∃ e, Runs n P s o e ∧ k e := by
  unfold dX at h
  simp only [frcTm_eq, frcL_eq, frcOb_eq] at h
  obtain ⟨hc, h⟩ := chk_inv hz h
  simp only [Bool.and_eq_true] at hc
  obtain ⟨hd, hts⟩ := hc
  split at h
  · obtain ⟨y, nob, h1, h⟩ := vS_sound hE hz h
    obtain ⟨hf, h⟩ := chk_inv hz h
    exact ⟨_, runs_L (opL_of h1) hd hts (fun p hp => getObs0_spec hp) hf, h⟩
  · obtain ⟨y, nob, h1, h⟩ := vLend_sound hE hz h
    obtain ⟨hf, h⟩ := chk_inv hz h
    exact ⟨_, runs_L h1 hd hts (fun p hp => getObs0_spec hp) hf, h⟩
  · exact dStep_sound hE hz hd hts h

theorem testBit_maskN {q : Nat} : ∀ {a : List Nat}, q ∈ a → (maskN a).testBit q = true
  | x :: r, h => by
    have e : maskN (x :: r) = 2 ^ x ||| maskN r := rfl
    rw [e, Nat.testBit_or]
    rcases List.mem_cons.1 h with rfl | h
    · rw [Nat.testBit_two_pow_self]; rfl
    · rw [testBit_maskN h]; simp
theorem disj_of {a b : List Nat} (h : disj (maskN a) (maskN b) = true) : ∀ q ∈ a, q ∉ b := by
  intro q ha hb
  have h0 : maskN a &&& maskN b = 0 := Nat.eq_of_beq_eq_true h
  have := congrArg (fun m => m.testBit q) h0
  simp only [Nat.testBit_and, testBit_maskN ha, testBit_maskN hb, Nat.zero_testBit] at this
  cases this
theorem off_of {o1 o2 : Oper} {e1 e2 : EX} (h : (mskOf o1 e1).off (mskOf o2 e2) = true) : TApart o1 e1 o2 e2 := by
  simp only [Msk.off, mskOf, Bool.and_eq_true] at h
  exact ⟨disj_of h.1.1.1, disj_of h.1.1.2, disj_of h.1.2, disj_of h.2⟩
def accS (acc : List (Nat × Oper × EX)) : List (Nat × Msk) := acc.map fun a => (a.1, mskOf a.2.1 a.2.2)
theorem pairsX_of {ix : Nat} {e : EX} (hix : ix < ops.size) : ∀ {acc : List (Nat × Oper × EX)}, pairsX ((masks ops.toList []).getD ix 0) (mskOf o e) (accS acc) = true → ∀ a ∈ acc, PairX ops a (ix, o, e)
  | [], _, a, ha => by cases ha
  | (j, o', e') :: r, h, a, ha => by
    have h : pairsX ((masks ops.toList []).getD ix 0) (mskOf o e) ((j, mskOf o' e') :: accS r) = true := h
    have h2 : (((masks ops.toList []).getD ix 0).testBit j = true ∨ (mskOf o' e').off (mskOf o e) = true) ∧ pairsX ((masks ops.toList []).getD ix 0) (mskOf o e) (accS r) = true := by
      simp only [pairsX] at h
      cases h1 : (mskOf o' e').off (mskOf o e) with
      | true =>
        rw [h1] at h
        exact ⟨.inr rfl, h⟩
      | false =>
        rw [h1] at h
        simp only [Bool.and_eq_true] at h
        exact ⟨.inl h.1, h.2⟩
    rcases List.mem_cons.1 ha with rfl | ha
    · exact h2.1.imp (fun hb => masks_spec (ops := ops) ops.toList [] [] (by simp) rfl (by simp) ix j hb _ hix) off_of
    · exact pairsX_of hix h2.2 a ha
/-- The run in the order of the text. -/
structure XRun (n : Nat) (P : Program) (ops : Array Oper) (l : List Oper) (ix : Nat) (s : St) (acc : List (Nat × Oper × EX)) (L : List (Nat × Oper × EX)) (s' : St) : Prop where
  chain : Chain ops L s.get s.gob s'.get s'.gob
  ixs : L.map (fun x => x.1) = List.range' ix l.length
  opsL : ∀ x ∈ L, l[x.1 - ix]? = some x.2.1
  inst : ∀ x ∈ L, OInst n P x.2.1 x.2.2
  pair : L.Pairwise (PairX ops)
  apart : ∀ a ∈ acc, ∀ x ∈ L, PairX ops a x
theorem XRun.cons {o : Oper} {r : List Oper} {ix : Nat} {acc L : List (Nat × Oper × EX)} {s' : St} {e : EX} (hi : OInst n P o e) (ha : App ops o e s.get s.gob) (hT : e.I = [] → ∀ i x, s.get i = some x → x.kill e.ks = x) (hO : e.I = [] → ∀ q X, s.gob q = some X → X.kill e.ks = X)
    (hp : ∀ a ∈ acc, PairX ops a (ix, o, e)) (h : XRun n P ops r (ix + 1) (s.xd o.dst e) ((ix, o, e) :: acc) L s') : XRun n P ops (o :: r) ix s acc ((ix, o, e) :: L) s' := by
  obtain ⟨h1, h2, h3, h4, h5, h6⟩ := h
  rw [xd_get hT, xd_gob hO] at h1
  have hge : ∀ x ∈ L, ix + 1 ≤ x.1 := fun x hx => by
    have : x.1 ∈ List.range' (ix + 1) r.length := h2 ▸ List.mem_map.2 ⟨x, hx, rfl⟩
    exact (List.mem_range'_1.1 this).1
  refine ⟨.cons ha h1, by simp [h2, List.range'_succ], fun x hx => ?_, fun x hx => ?_, List.pairwise_cons.2 ⟨fun x hx => h6 _ (by simp) x hx, h5⟩, fun a hac x hx => ?_⟩
  · rcases List.mem_cons.1 hx with rfl | hx
    · simp
    · have hg := hge x hx
      have := h3 x hx
      rw [show x.1 - ix = (x.1 - (ix + 1)) + 1 by omega]
      simpa using this
  · rcases List.mem_cons.1 hx with rfl | hx
    · exact hi
    · exact h4 x hx
  · rcases List.mem_cons.1 hx with rfl | hx
    · exact hp a hac
    · exact h6 a (by simp [hac]) x hx
theorem XRun.same {l : List Oper} {ix d : Nat} {x : AV} {acc L : List (Nat × Oper × EX)} {s' : St} (hx : s.get d = some x) (h : XRun n P ops l ix (s.upd (some d) x []) acc L s') : XRun n P ops l ix s acc L s' := by
  have e1 : (s.upd (some d) x []).get = s.get := funext fun i => by
    rw [get_upd]
    split
    · rename_i e; simp at e; subst e; exact hx.symm
    · rfl
  have e2 : (s.upd (some d) x []).gob = s.gob := funext fun i => by rw [gob_upd]; simp [look]
  obtain ⟨h1, h2, h3, h4, h5, h6⟩ := h
  rw [e1, e2] at h1
  exact ⟨h1, h2, h3, h4, h5, h6⟩
theorem vDX_sound {k : St → Prop} {rg : Nat} (hE : EnvOk P E) : ∀ {l : List Oper} {ix : Nat} {s : St} {acc : List (Nat × Oper × EX)}, ix + l.length ≤ ops.size → vDX P E n rg ops (masks ops.toList []) l ix s (accS acc) k → ∃ L s', XRun n P ops l ix s acc L s' ∧ k s'
  | [], ix, s, acc, _, h => ⟨[], s, ⟨.nil, rfl, by simp, by simp, .nil, by simp⟩, h⟩
  | o :: r, ix, s, acc, hl, h => by
    simp only [List.length_cons] at hl
    have nx : ∀ (s : St) (e : EX), OInst n P o e → App ops o e s.get s.gob → (e.I = [] → ∀ i x, s.get i = some x → x.kill e.ks = x) → (e.I = [] → ∀ q X, s.gob q = some X → X.kill e.ks = X) →
        (frcM (mskOf o e) fun mk => chk (Stop rg ix) (pairsX ((masks ops.toList []).getD ix 0) mk (accS acc)) (frcS ((s).xd o.dst e) e fun s' => vDX P E n rg ops (masks ops.toList []) r (ix + 1) s' ((ix, mk) :: accS acc) k)) → ∃ L s', XRun n P ops (o :: r) ix s acc L s' ∧ k s' := by
      intro s e hi ha hT hO h
      simp only [frcM_eq, frcS_eq] at h
      obtain ⟨h1, h⟩ := chk_inv no_stop h
      obtain ⟨L, s', hx, h⟩ := vDX_sound (acc := (ix, o, e) :: acc) hE (by omega) h
      exact ⟨_, s', XRun.cons hi ha hT hO (pairsX_of (by omega) h1) hx, h⟩
    have run : ∀ (s : St) (e : EX), Runs n P s o e → (o.guard = none ∨ ∃ j want d, o.guard = some (j, want) ∧ (ops[j]?).bind (·.dst) = some d ∧ s.get d = some (B want)) →
        (frcM (mskOf o e) fun mk => chk (Stop rg ix) (pairsX ((masks ops.toList []).getD ix 0) mk (accS acc)) (frcS ((s).xd o.dst e) e fun s' => vDX P E n rg ops (masks ops.toList []) r (ix + 1) s' ((ix, mk) :: accS acc) k)) → ∃ L s', XRun n P ops (o :: r) ix s acc L s' ∧ k s' := by
      intro s e hr hg h
      refine nx s e hr.inst ⟨fun av us I y O mv he => ?_, fun he => ?_⟩ hr.frT hr.frO h
      · obtain ⟨av', us', I', y', O', mv', he', h1, h2, h3⟩ := hr.isRun
        rw [he] at he'
        cases he'
        exact ⟨hg, h1, h2, h3⟩
      · obtain ⟨av', us', I', y', O', mv', he', _⟩ := hr.isRun
        rw [he] at he'; cases he'
    have skip : ∀ (s : St), o.dst.all (· < n) = true → (∃ j want d, o.guard = some (j, want) ∧ (ops[j]?).bind (·.dst) = some d ∧ (s.get d = some (B (!want)) ∨ s.get d = some (.tup []))) →
        (frcM (mskOf o EX.skip) fun mk => chk (Stop rg ix) (pairsX ((masks ops.toList []).getD ix 0) mk (accS acc)) (frcS ((s).xd o.dst EX.skip) EX.skip fun s' => vDX P E n rg ops (masks ops.toList []) r (ix + 1) s' ((ix, mk) :: accS acc) k)) → ∃ L s', XRun n P ops (o :: r) ix s acc L s' ∧ k s' := by
      intro s hd hg h
      exact nx s .skip ⟨hd, fun _ _ _ _ _ _ e => nomatch e⟩ ⟨fun _ _ _ _ _ _ e => (nomatch e), fun _ => hg⟩ (fun _ i x _ => AV.kill_nil x) (fun _ q X _ => Ob.kill_nil X) h
    simp only [vDX] at h
    split at h
    · rename_i hg
      obtain ⟨e, hr, h⟩ := dX_sound hE no_stop h
      exact run s e hr (.inl hg) h
    · rename_i jw hg
      obtain ⟨j, want⟩ := jw
      obtain ⟨d, hd, h⟩ := opt_inv no_stop h
      obtain ⟨g, hgd, h⟩ := opt_inv no_stop h
      split at h
      · rename_i b
        have gd : ∀ bb : Bool, s.get d = some (B bb) → (match bb == want with
          | true => dX (Stop rg ix) P E n o (s.upd (some d) (B bb) []) fun e => (frcM (mskOf o e) fun mk => chk (Stop rg ix) (pairsX ((masks ops.toList []).getD ix 0) mk (accS acc)) (frcS (((s.upd (some d) (B bb) [])).xd o.dst e) e fun s' => vDX P E n rg ops (masks ops.toList []) r (ix + 1) s' ((ix, mk) :: accS acc) k))
          | false => chk (Stop rg ix) (o.dst.all (· < n)) ((frcM (mskOf o EX.skip) fun mk => chk (Stop rg ix) (pairsX ((masks ops.toList []).getD ix 0) mk (accS acc)) (frcS (((s.upd (some d) (B bb) [])).xd o.dst EX.skip) EX.skip fun s' => vDX P E n rg ops (masks ops.toList []) r (ix + 1) s' ((ix, mk) :: accS acc) k)))) → ∃ L s', XRun n P ops (o :: r) ix s acc L s' ∧ k s' := by
          intro bb hbb hh
          have hget : (s.upd (some d) (B bb) []).get d = some (B bb) := by rw [get_upd]; simp
          have key : ∃ L s', XRun n P ops (o :: r) ix (s.upd (some d) (B bb) []) acc L s' ∧ k s' := by
            by_cases e : bb = want
            · subst e
              simp only [beq_self_eq_true] at hh
              obtain ⟨e, hr, hh⟩ := dX_sound hE no_stop hh
              exact run _ e hr (.inr ⟨j, bb, d, hg, hd, hget⟩) hh
            · have e2 : bb = !want := by cases bb <;> cases want <;> simp_all
              subst e2
              have e3 : ((!want) == want) = false := by cases want <;> rfl
              rw [e3] at hh
              obtain ⟨h1, hh⟩ := chk_inv no_stop hh
              exact skip _ h1 ⟨j, want, d, hg, hd, .inl hget⟩ hh
          obtain ⟨L, s', hx, hk⟩ := key
          exact ⟨L, s', XRun.same hbb hx, hk⟩
        cases b with
        | true => exact gd true hgd h
        | false => exact gd false hgd h
      · rename_i ys
        obtain ⟨h1, h⟩ := chk_inv no_stop h
        simp only [Bool.and_eq_true, List.isEmpty_iff] at h1
        obtain ⟨h2, h3⟩ := h1
        rw [h2] at hgd
        exact skip s h3 ⟨j, want, d, hg, hd, .inr hgd⟩ h
      · exact absurd h no_stop
theorem W_drawX {k : St → Prop} {N : St → Prop} {Ex : Exit → St → Prop} {rg id : Nat} {l : List Oper} (hE : EnvOk P E) (hm : P.follows .mixedOrders = true) (hok : drawOk l.toArray = true) (hN : ∀ s, k s → N s) (h : vDX P E Γ.n rg l.toArray (masks l []) l 0 s [] k) : W Γ P (.region id l.toArray true) N Ex s := by
  obtain ⟨L, s', hx, hk⟩ := vDX_sound (ops := l.toArray) (l := l) (ix := 0) (acc := []) hE (by simp) h
  have hixs : L.map (fun x => x.1) = List.range l.length := by rw [hx.ixs, List.range_eq_range']
  exact awp_drawX hm hok hixs (fun x hxL => by simpa using hx.opsL x hxL) hx.inst hx.pair hx.chain (hN _ hk)
end

end AM
end Go.Proofs.Ytfcmmpmdofejeaa
