/- Lists whose rows own their blocks: sealed, put into rows of others, stored; no conditions. -/
import Derived.Test.YtfcmmpmdofejeaaAm19
set_option linter.unusedSimpArgs false
set_option linter.unusedVariables false
namespace Go.Proofs.Ytfcmmpmdofejeaa
namespace AM
open Go

section
variable {w w' : World} {S S' : Nat → Prop} {β β' : Nat → OLoc}
/-- The slice of a list whose rows own their blocks, as data. -/
theorem slT_of_tr {l : OLoc} {E es : Nat} {xs : List (List Da)} (h : ObRep w S β l (.tr E es xs)) : ∃ fp, RepT w [.sl xs] [l.sv] fp ∧ (∀ b ∈ fp, (S b ∧ b ∈ l.clm) ∨ (l.has = true ∧ b = l.blk)) ∧ ((l.has = true → ∀ b ∈ l.clm, b ≠ l.blk) → fp.Nodup) := by
  rcases h with ⟨h1, h2, h3, vs, fp, h4, h5, h6, h7⟩ | ⟨_, rfl, ad, hz0⟩
  rotate_left
  · rw [hz0]; exact ⟨[], .sl0 .nil, by simp, by simp⟩
  rcases h4.2 with ⟨hsv, h0⟩ | ⟨g, cap, cur, hsv, _, hg, hcap, hcm, hcsz, htk⟩
  · have := List.eq_nil_of_length_eq_zero h0
    subst this
    rw [hsv]
    exact ⟨[], .sl0 .nil, by simp, by simp⟩
  · by_cases hn : xs.length = 0
    · have := List.eq_nil_of_length_eq_zero hn
      subst this
      rw [hsv]
      exact ⟨[], .sl0 .nil, by simp, by simp⟩
    · rw [hsv] at h1 ⊢
      have hbh : l.has = true ∧ g = l.blk := by
        simp only [Value.ownBlock] at h1
        split at h1
        · rename_i e; exact ⟨e, by simpa using h1⟩
        · simp at h1
      refine ⟨g :: (fp ++ []), .sl1 h5 rfl (by omega) hcap h2 h3 hg htk.symm .nil, fun b hb => ?_, fun hne => ?_⟩
      · simp only [List.append_nil, List.mem_cons] at hb
        rcases hb with rfl | hb
        · exact .inr hbh
        · exact .inl (h6 b hb)
      · simp only [List.append_nil, List.nodup_cons]
        exact ⟨fun hm => hne hbh.1 g (h6 g hm).2 hbh.2, h7⟩
end

def OLoc.blkL (l : OLoc) : List Nat := if l.has then [l.blk] else []
/-- A list is sealed: it is written no more, and keeps its blocks. -/
def OLoc.seal (l : OLoc) : OLoc := { l with has := false, sub := [], clm := l.blkL ++ l.clm }
def notOp (k : Nat) : At → At
  | .op o off => if o == k then .junk else .op o off
  | .clo f caps => if (caps.map (·.1)).contains k then .junk else .clo f caps
  | .ps o es lo n => if o == k then .junk else .ps o es lo n
  | x => x
def St.seal (s : St) (k : Nat) (xs : List (List Da)) : St :=
  let s1 := s.map (notOp k)
  { s1 with ob := (k, .tk xs) :: s1.ob }

section
variable {Γ : Cx} {P : Program} {ops : Array Oper} {rest : List Oper} {o : Oper} {K : St → Prop} {s : St} {Q : Exit → St → Prop} {t : TypeId} {x z : Operand}
theorem Sim.seal {k E es : Nat} {xs : List (List Da)} (hk : s.gob k = some (.tr E es xs)) (hlow : k < 2000) {a : Act} {w : World} {S : Nat → Prop} {β : Nat → OLoc} (hs : Sim Γ s a w S β) : ∃ S' β', Sim Γ (s.seal k xs) a w S' β' := by
  obtain ⟨fp, t1, t2, t3⟩ := slT_of_tr (hs.mem.ob k _ hk)
  have hsm := (mkL_len (tr := true) (hs.mem.ob k _ hk)).1
  let S' : Nat → Prop := fun b => S b ∨ ((β k).has = true ∧ b = (β k).blk)
  have hsub : ∀ b, S b → S' b := fun b hb => .inl hb
  let β' : Nat → OLoc := fun o => if o = k then (β k).seal else β o
  have hβ : ∀ o, o ≠ k → β' o = β o := fun o h => if_neg h
  have hβk : β' k = (β k).seal := if_pos rfl
  have hsv : (β' k).sv = (β k).sv := by rw [hβk]; rfl
  have hkown : ∀ b, (β k).has = true → b = (β k).blk → (β k).Own b := fun b h1 h2 => .inl ⟨h1, h2.symm⟩
  have hbk : ∀ b ∈ (β k).blkL, (β k).has = true ∧ b = (β k).blk := by
    intro b hb
    unfold OLoc.blkL at hb
    split at hb
    · rename_i h; exact ⟨h, by simpa using hb⟩
    · cases hb
  have hf : ∀ y v, RepA w S β y v → RepA w S' β' (notOp k y) v := by
    intro y v hy
    cases hy with
    | d h => exact .d (h.mono (fun _ _ => rfl) hsub)
    | e0 => exact .e0
    | @ol o =>
      simp only [notOp]
      by_cases e : o = k
      · subst e; rw [← hsv]; exact .ol
      · rw [← hβ o e]; exact .ol
    | @op o off =>
      simp only [notOp]
      split
      · exact .junk
      · rename_i e; rw [← hβ o (by simpa using e)]; exact .op
    | ep h1 h2 h3 => exact .ep (h1.mono (fun _ _ => rfl) hsub) (h2.imp id fun h => ⟨hsub _ h.1, h.2⟩) h3
    | @clo f caps =>
      simp only [notOp]
      split
      · exact .junk
      · rename_i e
        have : caps.map (capV β) = caps.map (capV β') := List.map_congr_left fun p hp => by
          unfold capV; rw [hβ p.1 (fun h => e (by simp only [List.contains_iff_mem, List.mem_map]; exact ⟨p, hp, h⟩))]
        rw [this]; exact .clo
    | @ps o es lo n a c h1 h2 h3 =>
      simp only [notOp]
      split
      · exact .junk
      · rename_i e
        rw [← hβ o (by simpa using e)] at h2 h3
        exact .ps h1 h2 h3
    | raw => exact .raw
    | junk => exact .junk
  have hT : ∀ o X, (s.seal k xs).gob o = some X → (o = k ∧ X = .tk xs) ∨ (o ≠ k ∧ ∃ Y, s.gob o = some Y ∧ X = Y.map (notOp k)) := by
    intro o X ho
    simp only [St.seal, St.gob, look, St.map, look_mapOb] at ho
    by_cases e : k = o
    · simp [e] at ho; exact .inl ⟨e.symm, ho.symm⟩
    · simp [e] at ho
      obtain ⟨Y, hY, rfl⟩ := ho
      exact .inr ⟨fun h => e h.symm, Y, hY, rfl⟩
  have hSown : ∀ b, S' b → ∀ o X, o ≠ k → s.gob o = some X → ¬ (β o).Own b := by
    intro b hb o X hne ho hh
    rcases hb with hb | ⟨h1, h2⟩
    · exact (hs.mem.own o X ho b hh).2.1 hb
    · exact hne (hs.mem.sep o k X _ ho hk b hh (hkown b h1 h2))
  have hclk : ∀ b ∈ (β k).clm, b ≠ (β k).blk ∨ (β k).has = false := by
    intro b hb
    cases hh : (β k).has with
    | false => exact .inr rfl
    | true =>
      refine .inl fun e => ?_
      exact (hs.mem.own k _ hk b (hkown b hh e)).2.1 (hs.mem.clm k _ hk b hb).1
  have hck : ∀ b, b ∈ (β' k).clm → ((β k).has = true ∧ b = (β k).blk) ∨ b ∈ (β k).clm := by
    intro b hb
    rw [hβk] at hb
    rcases List.mem_append.1 hb with hb | hb
    · exact .inl (hbk b hb)
    · exact .inr hb
  refine ⟨S', β', hs.defers, hs.sz, fun i y hi => ?_, ⟨fun b hb => ?_, fun o X ho => ?_, fun o X ho b hh => ?_, fun o o' X X' ho ho' b hh hh' => ?_, hs.mem.os, hs.mem.tape, hs.mem.output, hs.mem.size, hs.mem.block, fun b hb => hsub b (hs.mem.sub b hb), fun b hb => ?_, fun o l hl => ?_, fun o X ho b hh => ?_, fun o o' X X' ho ho' b hh hh' => ?_⟩⟩
  · have e : (s.seal k xs).get i = (s.get i).map (·.map (notOp k)) := look_mapTm ..
    rw [e] at hi
    cases hY : s.get i with
    | none => rw [hY] at hi; simp at hi
    | some Y =>
      rw [hY] at hi; simp at hi; subst hi
      obtain ⟨v, hv, hr⟩ := hs.tm i Y hY
      exact ⟨v, hv, hr.map hf fun xs cs h => h.mono (fun _ _ => rfl) hsub⟩
  · rcases hb with hb | ⟨h1, h2⟩
    · exact hs.mem.lt b hb
    · exact (hs.mem.own k _ hk b (hkown b h1 h2)).1
  · rcases hT o X ho with ⟨rfl, rfl⟩ | ⟨hne, Y, hY, rfl⟩
    · refine ⟨by rw [hβk]; rfl, hsm, fp, by rw [hsv]; exact t1, fun b hb => ?_, ?_⟩
      · rcases t2 b hb with ⟨h1, h2⟩ | ⟨h1, h2⟩
        · exact ⟨hsub b h1, by rw [hβk]; exact List.mem_append_right _ h2⟩
        · exact ⟨.inr ⟨h1, h2⟩, by rw [hβk]; exact List.mem_append_left _ (by simp [OLoc.blkL, h1, h2])⟩
      · exact t3 fun hh b hb => (hclk b hb).resolve_right (by simp [hh])
    · rw [hβ o hne]
      exact (hs.mem.ob o Y hY).map hf (fun _ _ => rfl) (fun _ _ => rfl) hsub
  · rcases hT o X ho with ⟨rfl, rfl⟩ | ⟨hne, Y, hY, rfl⟩
    · rw [hβk] at hh
      rcases hh with ⟨h1, _⟩ | hh
      · cases h1
      · cases hh
    · rw [hβ o hne] at hh
      obtain ⟨h1, h2, h3⟩ := hs.mem.own o Y hY b hh
      exact ⟨h1, fun hb => hSown b hb o Y hne hY hh, h3⟩
  · rcases hT o X ho with ⟨rfl, rfl⟩ | ⟨hne, Y, hY, rfl⟩ <;> rcases hT o' X' ho' with ⟨rfl, rfl⟩ | ⟨hne', Y', hY', rfl⟩
    · rfl
    · rw [hβk] at hh; rw [hβ o' hne'] at hh'
      rcases hh with ⟨h1, _⟩ | hh
      · cases h1
      · cases hh
    · rw [hβk] at hh'; rw [hβ o hne] at hh
      rcases hh' with ⟨h1, _⟩ | hh'
      · cases h1
      · cases hh'
    · rw [hβ o hne] at hh; rw [hβ o' hne'] at hh'
      exact hs.mem.sep o o' Y Y' hY hY' b hh hh'
  · rcases hb with hb | ⟨h1, h2⟩
    · exact hs.mem.sup b hb
    · exact .inr (hs.mem.own k _ hk b (hkown b h1 h2)).2.2
  · obtain ⟨h1, h2⟩ := hs.mem.fix o l hl
    exact ⟨h1, (hβ o (by omega)).trans h2⟩
  · rcases hT o X ho with ⟨rfl, rfl⟩ | ⟨hne, Y, hY, rfl⟩
    · rcases hck b hh with ⟨h1, h2⟩ | h1
      · exact ⟨.inr ⟨h1, h2⟩, (hs.mem.own o _ hk b (hkown b h1 h2)).2.2.imp id .inl⟩
      · obtain ⟨m1, m2⟩ := hs.mem.clm o _ hk b h1
        exact ⟨hsub b m1, m2⟩
    · rw [hβ o hne] at hh
      obtain ⟨m1, m2⟩ := hs.mem.clm o Y hY b hh
      exact ⟨hsub b m1, m2⟩
  · have hmix : ∀ o Y, o ≠ k → s.gob o = some Y → b ∈ (β' k).clm → b ∈ (β o).clm → False := by
      intro o Y hne hY h1 h2
      rcases hck b h1 with ⟨h3, h4⟩ | h3
      · exact (hs.mem.own k _ hk b (hkown b h3 h4)).2.1 (hs.mem.clm o Y hY b h2).1
      · exact hne (hs.mem.sepc o k Y _ hY hk b h2 h3)
    rcases hT o X ho with ⟨rfl, rfl⟩ | ⟨hne, Y, hY, rfl⟩ <;> rcases hT o' X' ho' with ⟨rfl, rfl⟩ | ⟨hne', Y', hY', rfl⟩
    · rfl
    · rw [hβ o' hne'] at hh'
      exact (hmix o' Y' hne' hY' hh hh').elim
    · rw [hβ o hne] at hh
      exact (hmix o Y hne hY hh' hh).elim
    · rw [hβ o hne] at hh; rw [hβ o' hne'] at hh'
      exact hs.mem.sepc o o' Y Y' hY hY' b hh hh'

/-- The state in which one object is another one, and some are gone. -/
def St.mv (s : St) (f : At → At) (k : Nat) (ks : List Nat) (X : Ob) : St := ⟨(s.map f).tm, (k, X) :: withoutL (s.map f).ob ks⟩
theorem gob_mv (f : At → At) (k : Nat) (ks : List Nat) (X : Ob) (o : Nat) : (s.mv f k ks X).gob o = if o = k then some X else if o ∈ ks then none else (s.gob o).map (·.map f) := by
  simp only [St.mv, St.gob, look, look_withoutL, St.map, look_mapOb]
  by_cases h : k = o
  · subst h; simp
  · simp [h, Ne.symm h]
theorem Sim.mv {f : At → At} {k : Nat} {ks : List Nat} {X : Ob} {a : Act} {w w' : World} {S : Nat → Prop} {β β' : Nat → OLoc} (hs : Sim Γ s a w S β) (hf : ∀ y v, RepA w S β y v → RepA w' S β' (f y) v)
    (hos : w'.os = w.os ∧ w'.tape = w.tape ∧ w'.output = w.output ∧ w.heap.size ≤ w'.heap.size) (hkeep : ∀ b, b < w.heap.size → (∀ X0, s.gob k = some X0 → ¬ (β k).Own b) → w'.heap[b]? = w.heap[b]?)
    (hβ : ∀ o, o ≠ k → β' o = β o) (hfix : ∀ l, Γ.fix k l → β' k = l) (hX : ObRep w' S β' (β' k) X) (hown : ∀ b, (β' k).Own b → b < w'.heap.size ∧ ((∃ X0, s.gob k = some X0 ∧ (β k).Own b) ∨ w.heap.size ≤ b))
    (hclm : ∀ b ∈ (β' k).clm, ∃ q X0, (q = k ∨ q ∈ ks) ∧ s.gob q = some X0 ∧ b ∈ (β q).clm) : Sim Γ (s.mv f k ks X) a w' S β' := by
  have hS : ∀ b, S b → w'.heap[b]? = w.heap[b]? := fun b hb => hkeep b (hs.mem.lt b hb) fun X0 h0 hh => (hs.mem.own k X0 h0 b hh).2.1 hb
  have hT : ∀ o Y, (s.mv f k ks X).gob o = some Y → (o = k ∧ Y = X) ∨ (o ≠ k ∧ o ∉ ks ∧ ∃ Z, s.gob o = some Z ∧ Y = Z.map f) := by
    intro o Y ho
    rw [gob_mv] at ho
    by_cases e : o = k
    · rw [if_pos e] at ho; simp at ho; exact .inl ⟨e, ho.symm⟩
    · rw [if_neg e] at ho
      by_cases e2 : o ∈ ks
      · rw [if_pos e2] at ho; simp at ho
      · rw [if_neg e2] at ho
        cases hY : s.gob o with
        | none => rw [hY] at ho; simp at ho
        | some Z => rw [hY] at ho; simp at ho; exact .inr ⟨e, e2, Z, rfl, ho.symm⟩
  refine ⟨hs.defers, hs.sz, fun i y hi => ?_, ⟨fun b hb => Nat.lt_of_lt_of_le (hs.mem.lt b hb) hos.2.2.2, fun o Y ho => ?_, fun o Y ho b hh => ?_, fun o o' Y Y' ho ho' b hh hh' => ?_, hos.1.trans hs.mem.os, hos.2.1.trans hs.mem.tape, hos.2.2.1.trans hs.mem.output, Nat.le_trans hs.mem.size hos.2.2.2, fun b hb hp => ?_, hs.mem.sub, hs.mem.sup, fun o l hl => ?_, fun o Y ho b hh => ?_, fun o o' Y Y' ho ho' b hh hh' => ?_⟩⟩
  · have e : (s.mv f k ks X).get i = (s.get i).map (·.map f) := look_mapTm ..
    rw [e] at hi
    cases hY : s.get i with
    | none => rw [hY] at hi; simp at hi
    | some Y =>
      rw [hY] at hi; simp at hi; subst hi
      obtain ⟨v, hv, hr⟩ := hs.tm i Y hY
      exact ⟨v, hv, hr.map hf fun xs cs h => h.mono hS fun _ h => h⟩
  · rcases hT o Y ho with ⟨rfl, rfl⟩ | ⟨hne, _, Z, hZ, rfl⟩
    · exact hX
    · rw [hβ o hne]
      exact (hs.mem.ob o Z hZ).map hf (fun b hh => hkeep b (hs.mem.own o Z hZ b hh).1 fun X0 h0 hk => hne (hs.mem.sep o k Z X0 hZ h0 b hh hk)) hS fun _ h => h
  · rcases hT o Y ho with ⟨rfl, rfl⟩ | ⟨hne, _, Z, hZ, rfl⟩
    · obtain ⟨h1, h2⟩ := hown b hh
      rcases h2 with ⟨X0, h0, h2⟩ | h2
      · obtain ⟨_, m2, m3⟩ := hs.mem.own o X0 h0 b h2
        exact ⟨h1, m2, m3⟩
      · exact ⟨h1, fun hb => by have := hs.mem.lt b hb; omega, .inl (Nat.le_trans hs.mem.size h2)⟩
    · rw [hβ o hne] at hh
      obtain ⟨m1, m2, m3⟩ := hs.mem.own o Z hZ b hh
      exact ⟨Nat.lt_of_lt_of_le m1 hos.2.2.2, m2, m3⟩
  · have hmix : ∀ o Z, o ≠ k → s.gob o = some Z → (β' k).Own b → (β o).Own b → False := by
      intro o Z hne hZ h1 h2
      rcases (hown b h1).2 with ⟨X0, h0, h3⟩ | h3
      · exact hne (hs.mem.sep o k Z X0 hZ h0 b h2 h3)
      · have := (hs.mem.own o Z hZ b h2).1; omega
    rcases hT o Y ho with ⟨rfl, rfl⟩ | ⟨hne, _, Z, hZ, rfl⟩ <;> rcases hT o' Y' ho' with ⟨rfl, rfl⟩ | ⟨hne', _, Z', hZ', rfl⟩
    · rfl
    · rw [hβ o' hne'] at hh'; exact (hmix o' Z' hne' hZ' hh hh').elim
    · rw [hβ o hne] at hh; exact (hmix o Z hne hZ hh' hh).elim
    · rw [hβ o hne] at hh; rw [hβ o' hne'] at hh'
      exact hs.mem.sep o o' Z Z' hZ hZ' b hh hh'
  · refine (hkeep b (Nat.lt_of_lt_of_le hb hs.mem.size) fun X0 h0 hk => ?_).trans (hs.mem.block b hb hp)
    rcases (hs.mem.own k X0 h0 b hk).2.2 with h1 | h1
    · omega
    · exact hp h1
  · obtain ⟨h1, h2⟩ := hs.mem.fix o l hl
    refine ⟨h1, ?_⟩
    by_cases e : o = k
    · subst e; exact hfix l hl
    · exact (hβ o e).trans h2
  · rcases hT o Y ho with ⟨rfl, rfl⟩ | ⟨hne, _, Z, hZ, rfl⟩
    · obtain ⟨q, X0, _, h0, h1⟩ := hclm b hh
      exact hs.mem.clm q X0 h0 b h1
    · rw [hβ o hne] at hh
      exact hs.mem.clm o Z hZ b hh
  · have hmix : ∀ o Z, o ≠ k → o ∉ ks → s.gob o = some Z → b ∈ (β' k).clm → b ∈ (β o).clm → False := by
      intro o Z hne hn hZ h1 h2
      obtain ⟨q, X0, hq, h0, h3⟩ := hclm b h1
      have := hs.mem.sepc o q Z X0 hZ h0 b h2 h3
      subst this
      exact hq.elim hne hn
    rcases hT o Y ho with ⟨rfl, rfl⟩ | ⟨hne, hn, Z, hZ, rfl⟩ <;> rcases hT o' Y' ho' with ⟨rfl, rfl⟩ | ⟨hne', hn', Z', hZ', rfl⟩
    · rfl
    · rw [hβ o' hne'] at hh'; exact (hmix o' Z' hne' hn' hZ' hh hh').elim
    · rw [hβ o hne] at hh; exact (hmix o Z hne hn hZ hh' hh).elim
    · rw [hβ o hne] at hh; rw [hβ o' hne'] at hh'
      exact hs.mem.sepc o o' Z Z' hZ hZ' b hh hh'

/-- Cells that own their blocks, as data; and the sealed lists that they name. -/
def toDsT (s : St) : List At → Option (List Da × List Nat)
  | [] => some ([], [])
  | .d x :: r => match x.flat, toDsT s r with
    | true, some p => some (x :: p.1, p.2)
    | _, _ => none
  | .e0 :: r => match toDsT s r with
    | some p => some (.sl [] :: p.1, p.2)
    | none => none
  | .ol k :: r => match s.gob k, toDsT s r with
    | some (.tk xs), some p => some (.sl xs :: p.1, k :: p.2)
    | _, _ => none
  | _ => none
theorem toDsT_rep {a : Act} {w : World} {S : Nat → Prop} {β : Nat → OLoc} (hs : Sim Γ s a w S β) : ∀ {cs : List At} {vs : List Value} {ds : List Da} {ks : List Nat}, RepAs w S β cs vs → toDsT s cs = some (ds, ks) → ks.Nodup → ∃ fp, RepT w ds vs fp ∧ (∀ b ∈ fp, S b ∧ ∃ k X, k ∈ ks ∧ s.gob k = some X ∧ b ∈ (β k).clm) ∧ fp.Nodup
  | [], vs, ds, ks, h, hd, _ => by
    simp [toDsT] at hd
    obtain ⟨rfl, rfl⟩ := hd
    cases h
    exact ⟨[], .nil, by simp, by simp⟩
  | c :: r, vs, ds, ks, h, hd, hn => by
    cases h with
    | @cons _ v _ us h1 h2 =>
    cases c with
    | d x =>
      simp only [toDsT] at hd
      split at hd
      · rename_i p hx hp
        simp at hd
        obtain ⟨rfl, rfl⟩ := hd
        obtain ⟨fp, a1, a2, a3⟩ := toDsT_rep hs h2 (show toDsT s r = some (p.1, p.2) by rw [hp]) hn
        cases h1 with
        | d h1 =>
          obtain ⟨f0, h1, _⟩ := h1
          have := (h1.flatT (by simpa using hx)).app a1
          exact ⟨fp, by simpa using this, a2, a3⟩
      · simp at hd
    | e0 =>
      simp only [toDsT] at hd
      split at hd
      · rename_i p hp
        simp at hd
        obtain ⟨rfl, rfl⟩ := hd
        obtain ⟨fp, a1, a2, a3⟩ := toDsT_rep hs h2 (show toDsT s r = some (p.1, p.2) by rw [hp]) hn
        cases h1
        exact ⟨fp, .sl0 a1, a2, a3⟩
      · simp at hd
    | ol k =>
      simp only [toDsT] at hd
      split at hd
      · rename_i xs p hk hp
        simp at hd
        obtain ⟨rfl, rfl⟩ := hd
        have hn' := List.nodup_cons.1 hn
        obtain ⟨fp, a1, a2, a3⟩ := toDsT_rep hs h2 (show toDsT s r = some (p.1, p.2) by rw [hp]) hn'.2
        cases h1
        obtain ⟨_, _, f0, b1, b2, b3⟩ := hs.mem.ob k _ hk
        have := b1.app a1
        refine ⟨f0 ++ fp, this, fun b hb => ?_, List.nodup_append.2 ⟨b3, a3, fun b hb b' hb' e => ?_⟩⟩
        · rcases List.mem_append.1 hb with hb | hb
          · exact ⟨(b2 b hb).1, k, _, by simp, hk, (b2 b hb).2⟩
          · obtain ⟨m1, q, X, m2, m3, m4⟩ := a2 b hb
            exact ⟨m1, q, X, by simp [m2], m3, m4⟩
        · subst e
          obtain ⟨m1, q, X, m2, m3, m4⟩ := a2 b hb'
          have := hs.mem.sepc k q _ X hk m3 b (b2 b hb).2 m4
          subst this
          exact hn'.1 m2
      · simp at hd
    | _ => simp [toDsT] at hd

/-- All claims of some objects. -/
def clmL (β : Nat → OLoc) : List Nat → List Nat
  | [] => []
  | k :: r => (β k).clm ++ clmL β r
theorem mem_clmL {β : Nat → OLoc} {b : Nat} : ∀ {ks : List Nat}, b ∈ clmL β ks ↔ ∃ k ∈ ks, b ∈ (β k).clm
  | [] => by simp [clmL]
  | k :: r => by simp [clmL, mem_clmL (ks := r)]

theorem fresh_ne {nob : List (Nat × Ob)} (h : s.fresh nob = true) {p : Nat × Ob} (hp : p ∈ nob) : s.gob p.1 = none ∧ p.1 < 2000 := by
  refine ⟨?_, fresh_lt h p hp⟩
  cases hk : s.gob p.1 with
  | none => rfl
  | some X => exact absurd rfl ((fresh_ob h hk).1 p hp)

/-- A list written out, some of whose cells are sealed lists: these go into it. -/
theorem aOps_lit {d n e : Nat} {ps : List (Nat × Operand)} {i : TypeInfo} {zv : Value} {cs out : List At} {ds : List Da} {ks : List Nat} {pa : List (Nat × List At)} (ho : o.op = .buildSlice t n ps.toArray) (hg : o.guard = none) (hdst : o.dst = some d) (hdn : d < Γ.n) (ht : P.underlying t = some (.slice e)) (hi : P.info? e = some i) (hz : i.zero = some zv) (hzs : zv.cells.size = i.size) (hpos : 0 < i.size)
    (hc : constAts zv.cells.toList = some cs) (hsm : n * i.size ≤ 16777216) (has : partsA s.ev ps = some pa) (hf : fillA (fun q => some (q * i.size, i.size)) (List.replicate n cs).flatten pa = some out) (hd : toDsT s out = some (ds, ks)) (hn : ks.Nodup) (hfr : s.fresh [(d, .lst e i.size [])] = true)
    (h : aOps Γ P ops rest K (s.appd (some d) d ks (.tr e i.size (chunk i.size n ds)))) : aOps Γ P ops (o :: rest) K s := by
  intro a w S β R hs hR
  refine wpList_plain hg fun K' hK => ?_
  obtain ⟨ov, he, hrep, e2⟩ := buildSlice_run (ρa := a) (w := w) (S := S) (β := β) ho ht hi hz hzs hpos hc hsm has hf fun x X hx _ => hs.eval hx
  obtain ⟨fp, r1, r2, r3⟩ := toDsT_rep hs hrep hd hn
  have hlen : ds.length = n * i.size := by have e1 := r1.len; simp at e1; omega
  obtain ⟨g1, g2, g3⟩ := chunk_spec n ds hlen
  obtain ⟨hgn, hlow⟩ := fresh_ne hfr (List.mem_singleton.2 rfl)
  dsimp only at hgn hlow
  have hnn : n ≤ n * i.size := Nat.le_mul_of_pos_right n hpos
  unfold Oper.wp
  rw [he, Oper.upon_value]
  let l' : OLoc := ⟨w.heap.size, some ⟨w.heap.size, 0, none⟩, n, n, true, [], clmL β ks⟩
  let β' : Nat → OLoc := fun q => if q = d then l' else β q
  have hβ : ∀ q, q ≠ d → β' q = β q := fun q h => if_neg h
  have hβd : β' d = l' := if_pos rfl
  have hold : ∀ b, b < w.heap.size → (w.alloc (.cells ov e)).heap[b]? = w.heap[b]? := fun b hb => Go.RowKit.Below.heap_alloc w _ b hb
  have hSo : ∀ b, S b → (w.alloc (.cells ov e)).heap[b]? = w.heap[b]? := fun b hb => hold b (hs.mem.lt b hb)
  have hmv := hs.mv (w' := w.alloc (.cells ov e)) (β' := β') (f := killL (d :: ks)) (k := d) (ks := ks) (X := .tr e i.size (chunk i.size n ds))
    (fun y v hy => RepA.killL hSo (fun _ h => h) (fun q hq => hβ q fun e => hq (by simp [e])) y v hy) ⟨rfl, rfl, rfl, by simp⟩ (fun b hb _ => hold b hb) hβ
    (fun l hl => by have := (hs.mem.fix d l hl).1; omega) (by
      rw [hβd]
      refine .inl ⟨rfl, by rw [g2]; omega, g3, ov.toList, fp, ?_, ?_, fun b hb => ?_, r3⟩
      · have := ownsRow_new (w := w) (E := e) (es := i.size) (n := n) (cap := n) (c := ov) e2 (Nat.le_refl _) (by unfold maxLen; omega)
        rw [List.take_of_length_le (by simp [e2])] at this
        simpa [g2, l', OLoc.sv] using this
      · rw [g1]; exact r1.keep fun b hb => hSo b (r2 b hb).1
      · obtain ⟨m1, k, X, m2, m3, m4⟩ := r2 b hb
        exact ⟨m1, mem_clmL.2 ⟨k, m2, m4⟩⟩)
    (fun b hb => by
      rw [hβd] at hb
      rcases hb with ⟨_, rfl⟩ | hb
      · exact ⟨by simp [l'], .inr (Nat.le_refl _)⟩
      · cases hb)
    (fun b hb => by
      rw [hβd] at hb
      obtain ⟨k, hk, hb⟩ := mem_clmL.1 hb
      have : (s.gob k).isSome := by
        clear hf has he hR h hK r1 r2 r3 hlen g1 hrep
        have key : ∀ (cs : List At) (ds : List Da) (ks : List Nat), toDsT s cs = some (ds, ks) → ∀ k ∈ ks, (s.gob k).isSome := by
          intro cs
          induction cs with
          | nil => intro ds ks h; simp [toDsT] at h; obtain ⟨rfl, rfl⟩ := h; simp
          | cons c r ih =>
            intro ds ks h
            cases c <;> simp only [toDsT] at h <;> first | (split at h) | skip
            all_goals first
              | (simp at h; done)
              | (rename_i p hp; simp at h; obtain ⟨rfl, rfl⟩ := h; exact ih _ _ (show toDsT s r = some (p.1, p.2) by rw [hp]))
              | (rename_i p hx hp; simp at h; obtain ⟨rfl, rfl⟩ := h; exact ih _ _ (show toDsT s r = some (p.1, p.2) by rw [hp]))
              | (rename_i xs p hx hp; simp at h; obtain ⟨rfl, rfl⟩ := h
                 intro k hk
                 rcases List.mem_cons.1 hk with rfl | hk
                 · simp [hx]
                 · exact ih _ _ (show toDsT s r = some (p.1, p.2) by rw [hp]) k hk)
        exact key _ _ _ hd k hk
      obtain ⟨X, hX⟩ := Option.isSome_iff_exists.1 this
      exact ⟨k, X, .inr hk, hX, hb⟩)
  have hput := hmv.upd (dst := some d) (y := .one (.ol d)) (v := .slice (some ⟨w.heap.size, 0, none⟩) n n) (nob := []) (Grow.refl hmv.mem.lt) (RepV.one (by
    have e3 : (Value.slice (some ⟨w.heap.size, 0, none⟩) n n) = (β' d).sv := by rw [hβd]; rfl
    rw [e3]; exact .ol)) (by simpa using hdn) rfl
  rw [hdst]
  exact hK _ _ (h _ _ S β' R hput hR)

theorem RepA.locs {w w' : World} {S S' : Nat → Prop} {β β' : Nat → OLoc} {y : At} {v : Value} (hk : ∀ b, S b → w'.heap[b]? = w.heap[b]?) (hs : ∀ b, S b → S' b) (hβ : ∀ o ∈ y.ids, (β' o).sv = (β o).sv ∧ (β' o).blk = (β o).blk) (h : RepA w S β y v) : RepA w' S' β' y v := by
  cases h with
  | d h => exact .d (h.mono hk hs)
  | e0 => exact .e0
  | @ol o => rw [← (hβ o (by simp [At.ids])).1]; exact .ol
  | @op o off => rw [← (hβ o (by simp [At.ids])).2]; exact .op
  | ep h1 h2 h3 => exact (RepA.ep (β := β) h1 h2 h3).mono hk hs (by simp [At.ids])
  | @clo f caps =>
    have : caps.map (capV β) = caps.map (capV β') := List.map_congr_left fun p hp => by
      unfold capV; rw [(hβ p.1 (by simp only [At.ids, List.mem_map]; exact ⟨p, hp, rfl⟩)).2]
    rw [this]; exact .clo
  | @ps o es lo n a c h1 h2 h3 =>
    obtain ⟨e1, e2⟩ := hβ o (by simp [At.ids])
    simp only [OLoc.sv, Value.slice.injEq] at e1
    rw [← e1.2.2] at h2
    rw [← e2] at h3
    exact .ps h1 h2 h3
  | raw => exact .raw
  | junk => exact .junk
theorem killL_locs {w w' : World} {S S' : Nat → Prop} {β β' : Nat → OLoc} {ks : List Nat} {y : At} {v : Value} (hk : ∀ b, S b → w'.heap[b]? = w.heap[b]?) (hs : ∀ b, S b → S' b) (hβ : ∀ o, o ∉ ks → (β' o).sv = (β o).sv ∧ (β' o).blk = (β o).blk) (h : RepA w S β y v) : RepA w' S' β' (killL ks y) v := by
  unfold killL
  split
  · exact .junk
  · rename_i hc
    exact h.locs hk hs fun o ho => hβ o fun hm => hc (List.any_eq_true.2 ⟨o, ho, by simpa using hm⟩)

theorem toDsT_ks {cs : List At} : ∀ {ds : List Da} {ks : List Nat}, toDsT s cs = some (ds, ks) → ∀ k ∈ ks, (s.gob k).isSome := by
  induction cs with
  | nil => intro ds ks h; simp [toDsT] at h; obtain ⟨rfl, rfl⟩ := h; simp
  | cons c r ih =>
    intro ds ks h
    cases c <;> simp only [toDsT] at h <;> first | (split at h) | skip
    all_goals first
      | (simp at h; done)
      | (rename_i p hp; simp at h; obtain ⟨rfl, rfl⟩ := h; exact ih (show toDsT s r = some (p.1, p.2) by rw [hp]))
      | (rename_i p hx hp; simp at h; obtain ⟨rfl, rfl⟩ := h; exact ih (show toDsT s r = some (p.1, p.2) by rw [hp]))
      | (rename_i xs p hx hp; simp at h; obtain ⟨rfl, rfl⟩ := h
         intro k hk
         rcases List.mem_cons.1 hk with rfl | hk
         · simp [hx]
         · exact ih (show toDsT s r = some (p.1, p.2) by rw [hp]) k hk)

/-- A store into an element of a list whose rows own their blocks; sealed lists go into it. -/
theorem aOps_storeT {k off n q E es : Nat} {Z : AV} {zs : List At} {ds c : List Da} {ks : List Nat} {xs : List (List Da)} {j : TypeInfo} (ho : o.op = .store t x z) (hg : o.guard = none) (hd : o.dst = none) (hx : s.ev x = some (.one (.op k off))) (hz : s.ev z = some Z) (hc : Z.cells = some zs) (hds : toDsT s zs = some (ds, ks)) (hnd : ks.Nodup) (hkn : k ∉ ks) (hlow : ks = [] ∨ k < 2000)
    (hk : s.gob k = some (.tr E es xs)) (hj : P.info? t = some j) (hsz : j.size = ds.length) (hn : xs[n]? = some c) (hoff : off = n * es + q) (hq : q + ds.length ≤ c.length) (hpos : 0 < ds.length)
    (h : aOps Γ P ops rest K (s.mv (killL ks) k ks (.tr E es (xs.set n (c.take q ++ ds ++ c.drop (q + ds.length)))))) : aOps Γ P ops (o :: rest) K s := by
  intro a w S β R hs hR
  refine wpList_plain hg fun K' hK => ?_
  have h1 := (hs.eval hx).one_inv
  have h2 := hs.eval hz
  obtain ⟨fz, z1, z2, z3⟩ := toDsT_rep hs (h2.cells hc) hds hnd
  have hone := z1.repF.len
  have hcs : RepDs w S ds (a.eval z).cells.toList := ⟨fz, z1.repF, fun b hb => (z2 b hb).1⟩
  have hnl0 : n < xs.length := (List.getElem?_eq_some_iff.1 hn).1
  obtain ⟨hob, hsm, hle, vs, fp, hown, hrep, hfp, hfn⟩ := ObRep.posT (hs.mem.ob k _ hk) (by omega)
  generalize hv : a.eval x = v at h1
  cases h1
  have hnl : n < xs.length := (List.getElem?_eq_some_iff.1 hn).1
  have hcl : c.length = es := hle c (List.mem_of_getElem? hn)
  rcases hown.2 with ⟨_, h0⟩ | ⟨g, cap, cur, hsv, _, hgb, hcap, hcm, hcsz, htk⟩
  · omega
  have hbh : (β k).has = true ∧ g = (β k).blk := by
    rw [hsv] at hob
    simp only [Value.ownBlock] at hob
    split at hob
    · rename_i e; exact ⟨e, by simpa using hob⟩
    · simp at hob
  obtain ⟨hh, rfl⟩ := hbh
  have hsplit : xs.flatten = ((xs.take n).flatten ++ c.take q) ++ (((c.drop q).take ds.length) ++ (c.drop (q + ds.length) ++ (xs.drop (n + 1)).flatten)) := by
    rw [flatten_split hn]
    conv => lhs; rw [show c = c.take q ++ ((c.drop q).take ds.length ++ c.drop (q + ds.length)) by rw [← List.drop_drop, List.take_append_drop, List.take_append_drop]]
    simp [List.append_assoc]
  rw [hsplit] at hrep
  obtain ⟨v1, v2, f1, f2, rfl, rfl, d1, d2⟩ := hrep.split
  obtain ⟨v3, v4, f3, f4, rfl, rfl, d3, d4⟩ := d2.split
  have hl1 : v1.length = off := by rw [d1.len, List.length_append, flatten_take_len hle (Nat.le_of_lt hnl), List.length_take, hcl]; omega
  have hl3 : v3.length = ds.length := by rw [d3.len, List.length_take, List.length_drop, hcl]; omega
  have hlz := hcs.len
  simp only [Array.length_toList] at hlz
  have hne : n * es + es ≤ xs.length * es := by rw [← Nat.succ_mul]; exact Nat.mul_le_mul_right _ hnl
  have hxc : xs.length * es ≤ cap * es := Nat.mul_le_mul_right _ hcap
  have hst := run_storeCells_at P (β k).blk off E (a.eval z).cells.toList 0 cur w hgb (by simp; omega) hcs.oneCells
  simp only [Nat.add_zero, Array.length_toList] at hst
  have he : (execOp a.eval o).run P w = .ok .skip (w.setRow (β k).blk (cur.toList.take off ++ (a.eval z).cells.toList ++ cur.toList.drop (off + (a.eval z).cells.size)).toArray) := by
    have hszz : (a.eval z).cells.size = j.size := by omega
    simp only [execOp, ho, hv, Instr.storeAt, Instr.sureAddr, storeVar, sizeOf, typeInfo, program, Sem.run_bind, Sem.run, Sem.run_pure, Result.andThen_ok, hj, hszz, ne_eq, not_true_eq_false, if_false]
    rw [hszz] at hst
    simp [hst]
  unfold Oper.wp
  rw [he, Oper.upon_skip, hd]
  generalize hcnew : (cur.toList.take off ++ (a.eval z).cells.toList ++ cur.toList.drop (off + (a.eval z).cells.size)).toArray = cnew
  have hlen : (xs.set n (c.take q ++ ds ++ c.drop (q + ds.length))).length = xs.length := by simp
  have hcl' : (c.take q ++ ds ++ c.drop (q + ds.length)).length = es := by simp; omega
  have hSo : ∀ b, S b → (w.setRow (β k).blk cnew).heap[b]? = w.heap[b]? := fun b hb => setRow_other w _ b _ fun e => (hs.mem.own k _ hk _ (.inl ⟨hh, rfl⟩)).2.1 (e ▸ hb)
  let l' : OLoc := { β k with clm := (β k).clm ++ clmL β ks }
  let β' : Nat → OLoc := fun r => if r = k then l' else β r
  have hβ : ∀ r, r ≠ k → β' r = β r := fun r h => if_neg h
  have hβk : β' k = l' := if_pos rfl
  have hl'sv : l'.sv = (β k).sv := rfl
  refine hK _ _ (h _ _ S β' R (hs.mv (f := killL ks) (fun y v hy => killL_locs hSo (fun _ h => h) (fun r _ => ?_) hy) ⟨rfl, rfl, rfl, by simp [World.setRow]⟩ (fun b hb hno => ?_) hβ (fun l hl => ?_) ?_ (fun b hb => ?_) fun b hb => ?_) hR)
  · by_cases e : r = k
    · subst e; rw [hβk]; exact ⟨rfl, rfl⟩
    · rw [hβ r e]; exact ⟨rfl, rfl⟩
  · exact setRow_other w _ b _ fun e => hno _ hk (.inl ⟨hh, e.symm⟩)
  · obtain ⟨m1, m2⟩ := hs.mem.fix k l hl
    rw [hβk, ← m2]
    rcases hlow with rfl | hlow
    · simp [l', clmL]
    · omega
  · rw [hβk]
    refine .inl ⟨hob, by simpa using hsm, fun y hy => ?_, v1 ++ ((a.eval z).cells.toList ++ v4), f1 ++ (fz ++ f4), ⟨?_, .inr ⟨_, cap, _, by rw [hl'sv, hsv, hlen], Nat.zero_le _, setRow_heap w _ cur _ E _ hgb, by simpa using hcap, hcm, by rw [← hcnew]; simp; omega, ?_⟩⟩, ?_, fun b hb => ?_, ?_⟩
    · rcases List.mem_or_eq_of_mem_set hy with hy | hy
      · exact hle y hy
      · rw [hy]; exact hcl'
    · have := hown.1
      simp only [List.length_append, Array.length_toList, hlen] at this ⊢
      omega
    · have hcur : cur.toList = (v1 ++ (v3 ++ v4)) ++ cur.toList.drop (xs.length * es) := by rw [← htk]; exact (List.take_append_drop _ _).symm
      have h4 := hown.1
      simp only [List.length_append] at h4
      rw [hlen, ← hcnew, hcur]
      have e1 : ((v1 ++ (v3 ++ v4)) ++ cur.toList.drop (xs.length * es)).take off = v1 := by
        rw [List.append_assoc]; exact List.take_left' hl1
      have e2 : ((v1 ++ (v3 ++ v4)) ++ cur.toList.drop (xs.length * es)).drop (off + (a.eval z).cells.size) = v4 ++ cur.toList.drop (xs.length * es) := by
        rw [← List.append_assoc v1, List.append_assoc (v1 ++ v3)]
        exact List.drop_left' (by simp; omega)
      simp only [List.toList_toArray]
      rw [e1, e2]
      rw [show v1 ++ (a.eval z).cells.toList ++ (v4 ++ cur.toList.drop (xs.length * es)) = (v1 ++ ((a.eval z).cells.toList ++ v4)) ++ cur.toList.drop (xs.length * es) by simp [List.append_assoc]]
      apply List.take_left'
      simp only [List.length_append, Array.length_toList]
      omega
    · have hfl : (xs.set n (c.take q ++ ds ++ c.drop (q + ds.length))).flatten = ((xs.take n).flatten ++ c.take q) ++ (ds ++ (c.drop (q + ds.length) ++ (xs.drop (n + 1)).flatten)) := by
        have := flatten_split (xs := xs.set n (c.take q ++ ds ++ c.drop (q + ds.length))) (n := n) (c := c.take q ++ ds ++ c.drop (q + ds.length)) (by simp [hnl])
        rw [this, List.take_set_of_le (Nat.le_refl n), List.drop_set_of_lt (by omega)]
        simp [List.append_assoc]
      rw [hfl]
      refine (d1.app (z1.app d4)).keep fun b hb => hSo b ?_
      rcases List.mem_append.1 hb with hb | hb
      · exact (hfp b (by simp [hb])).1
      · rcases List.mem_append.1 hb with hb | hb
        · exact (z2 b hb).1
        · exact (hfp b (by simp [hb])).1
    · rcases List.mem_append.1 hb with hb | hb
      · exact ⟨(hfp b (by simp [hb])).1, List.mem_append_left _ (hfp b (by simp [hb])).2⟩
      · rcases List.mem_append.1 hb with hb | hb
        · obtain ⟨m1, r, X, m2, m3, m4⟩ := z2 b hb
          exact ⟨m1, List.mem_append_right _ (mem_clmL.2 ⟨r, m2, m4⟩)⟩
        · exact ⟨(hfp b (by simp [hb])).1, List.mem_append_left _ (hfp b (by simp [hb])).2⟩
    · have hz : ∀ b ∈ fz, b ∉ f1 ++ (f3 ++ f4) := by
        intro b hb hb2
        obtain ⟨m1, r, X, m2, m3, m4⟩ := z2 b hb
        have := hs.mem.sepc r k X _ m3 hk b m4 (hfp b hb2).2
        subst this
        exact hkn m2
      have n1 := List.nodup_append.1 hfn
      have n2 := List.nodup_append.1 n1.2.1
      refine List.nodup_append.2 ⟨n1.1, List.nodup_append.2 ⟨z3, n2.2.1, fun b hb b' hb' e => ?_⟩, fun b hb b' hb' e => ?_⟩
      · subst e; exact hz b hb (by simp [hb'])
      · subst e
        rcases List.mem_append.1 hb' with hb' | hb'
        · exact hz b hb' (by simp [hb])
        · exact n1.2.2 b hb b (by simp [hb']) rfl
  · rw [hβk] at hb
    have hb' : (β k).Own b := hb
    exact ⟨by have := (hs.mem.own k _ hk b hb').1; simpa [World.setRow] using this, .inl ⟨_, hk, hb'⟩⟩
  · rw [hβk] at hb
    rcases List.mem_append.1 hb with hb | hb
    · exact ⟨k, _, .inl rfl, hk, hb⟩
    · obtain ⟨r, hr, hb⟩ := mem_clmL.1 hb
      obtain ⟨X, hX⟩ := Option.isSome_iff_exists.1 (toDsT_ks hds r hr)
      exact ⟨r, X, .inr hr, hX, hb⟩

def flatB (rows : List (List Da)) : Bool := rows.all fun r => r.all Da.flat
theorem flatB_spec {rows : List (List Da)} (h : flatB rows = true) : flatRows rows := fun y hy => List.all_eq_true.1 h y hy
theorem flat_replicate {n : Nat} {zd : List Da} (h : zd.all Da.flat = true) : flatRows (List.replicate n zd) := by
  intro y hy
  rw [(List.mem_replicate.1 hy).2]; exact h
theorem OpP.up {av : Operand → Option AV} {us : List (Nat × Ob)} {y : AV} {d E es : Nat} {rows : List (List Da)} (h : OpP P o av us y [(d, .lst E es rows)]) {b : Bool} (hf : b = true → flatRows rows) : OpP P o av us y [(d, mkL b E es rows)] := by
  cases b with
  | false => exact h
  | true =>
    intro a w S β hlt hr hu K' Q hK
    refine h a w S β hlt hr hu K' Q fun v w' S' β' hG hy => hK v w' S' β' ⟨hG.os, hG.tape, hG.output, hG.size, hG.block, hG.sub, hG.sup, fun q hq => hG.loc q fun p hp => ?_, fun p hp => ?_, fun p hp => ?_, fun p hp q hq => ?_, fun p hp => ?_, fun p hp q hq => ?_⟩ hy
    · simp at hp; subst hp; exact hq (d, mkL true E es rows) (by simp)
    · simp at hp; subst hp; exact (hG.ob (d, .lst E es rows) (by simp)).tr_of_flat (hf rfl)
    · simp at hp; subst hp; exact hG.own (d, .lst E es rows) (by simp)
    · simp at hp hq; subst hp; subst hq; intros; rfl
    · simp at hp; subst hp; exact hG.clm (d, .lst E es rows) (by simp)
    · simp at hp hq; subst hp; subst hq; intros; rfl
theorem OpS.up {s0 : St} {y : AV} {d E es : Nat} {rows : List (List Da)} (h : OpS P o s s0 y [(d, .lst E es rows)]) {b : Bool} (hf : b = true → flatRows rows) : OpS P o s s0 y [(d, mkL b E es rows)] := by
  obtain ⟨us, h1, h2⟩ := h
  exact ⟨us, h1.up hf, h2⟩

theorem Sim.frzK {k : Nat} {xs : List (List Da)} (hk : s.gob k = some (.tk xs) ∨ ∃ E es, s.gob k = some (.mt E es xs)) {a : Act} {w : World} {S : Nat → Prop} {β : Nat → OLoc} (hs : Sim Γ s a w S β) : ∃ S', (∀ b, S b → S' b) ∧ Sim Γ (s.frz k xs) a w S' β := by
  have main : ∃ X fp, s.gob k = some X ∧ RepT w [.sl xs] [(β k).sv] fp ∧ ∀ b ∈ fp, S b ∨ (β k).Own b := by
    rcases hk with hk | ⟨E, es, hk⟩
    · obtain ⟨_, _, fp, h1, h2, _⟩ := hs.mem.ob k _ hk
      exact ⟨_, fp, hk, h1, fun b hb => .inl (h2 b hb).1⟩
    · obtain ⟨_, _, _, _, fp, h1, h2, _⟩ := hs.mem.ob k _ hk
      exact ⟨_, fp, hk, h1, fun b hb => .inr (.inr (h2 b hb))⟩
  obtain ⟨X0, fp, hk0, ht, hfp⟩ := main
  let S' : Nat → Prop := fun b => S b ∨ (β k).Own b
  have hsub : ∀ b, S b → S' b := fun b hb => .inl hb
  have hd : RepDs w S' [.sl xs] [(β k).sv] := ⟨fp, ht.repF, hfp⟩
  have hf : ∀ y v, RepA w S β y v → RepA w S' β (frzAt k xs y) v := by
    intro y v hy
    have hm := hy.mono (w' := w) (S' := S') (β' := β) (fun _ _ => rfl) hsub (fun _ _ => rfl)
    cases y with
    | ol o =>
      simp only [frzAt]
      split
      · rename_i e
        simp at e
        subst e
        cases hy
        exact .d hd
      · exact hm
    | op o off => simp only [frzAt]; split; exact .junk; exact hm
    | clo f caps => simp only [frzAt]; split; exact .junk; exact hm
    | _ => exact hm
  have hT : ∀ o' X, (s.frz k xs).gob o' = some X → o' ≠ k ∧ ∃ Y, s.gob o' = some Y ∧ X = Y.map (frzAt k xs) := by
    intro o' X h
    simp only [St.frz, St.gob, look_without, St.map, look_mapOb] at h
    split at h
    · simp at h
    · rename_i e
      cases hY : s.gob o' with
      | none => simp only [St.gob] at hY; rw [hY] at h; simp at h
      | some Y => have hY2 := hY; simp only [St.gob] at hY2; rw [hY2] at h; simp at h; exact ⟨fun e2 => e e2.symm, Y, rfl, h.symm⟩
  refine ⟨S', hsub, hs.defers, hs.sz, fun i y hi => ?_, ?_⟩
  · have : (s.frz k xs).get i = (s.get i).map (·.map (frzAt k xs)) := look_mapTm ..
    rw [this] at hi
    cases hY : s.get i with
    | none => rw [hY] at hi; simp at hi
    | some Y =>
      rw [hY] at hi; simp at hi; subst hi
      obtain ⟨v, hv, hr⟩ := hs.tm i Y hY
      exact ⟨v, hv, hr.map hf fun xs cs h => h.mono (fun _ _ => rfl) hsub⟩
  · refine ⟨fun b hb => ?_, fun o' X ho' => ?_, fun o' X ho' b hh => ?_, fun o1 o2 X1 X2 h1 h2 => ?_, hs.mem.os, hs.mem.tape, hs.mem.output, hs.mem.size, hs.mem.block, fun b hb => .inl (hs.mem.sub b hb), fun b hb => ?_, hs.mem.fix, fun o' X ho' b hh => ?_, fun o1 o2 X1 X2 h1 h2 => ?_⟩
    · rcases hb with hb | hb
      · exact hs.mem.lt b hb
      · exact (hs.mem.own k _ hk0 b hb).1
    · obtain ⟨hne, Y, hY, rfl⟩ := hT o' X ho'
      exact (hs.mem.ob o' Y hY).map hf (fun _ _ => rfl) (fun _ _ => rfl) hsub
    · obtain ⟨hne, Y, hY, rfl⟩ := hT o' X ho'
      obtain ⟨m1, m2, m3⟩ := hs.mem.own o' Y hY b hh
      refine ⟨m1, fun hb => ?_, m3⟩
      rcases hb with hb | hb
      · exact m2 hb
      · exact hne (hs.mem.sep o' k Y _ hY hk0 b hh hb)
    · obtain ⟨hne, Y, hY, rfl⟩ := hT o1 X1 h1
      obtain ⟨hne2, Y2, hY2, rfl⟩ := hT o2 X2 h2
      exact hs.mem.sep o1 o2 Y Y2 hY hY2
    · rcases hb with hb | hb
      · exact hs.mem.sup b hb
      · exact .inr (hs.mem.own k _ hk0 b hb).2.2
    · obtain ⟨hne, Y, hY, rfl⟩ := hT o' X ho'
      obtain ⟨m1, m2⟩ := hs.mem.clm o' Y hY b hh
      exact ⟨hsub b m1, m2⟩
    · obtain ⟨hne, Y, hY, rfl⟩ := hT o1 X1 h1
      obtain ⟨hne2, Y2, hY2, rfl⟩ := hT o2 X2 h2
      exact hs.mem.sepc o1 o2 Y Y2 hY hY2
/-- A sealed list, looked at: the blocks are as they were. -/
theorem Sim.view {k : Nat} {xs : List (List Da)} (hk : s.gob k = some (.tk xs)) {a : Act} {w : World} {S : Nat → Prop} {β : Nat → OLoc} (hs : Sim Γ s a w S β) : Sim Γ (s.frz k xs) a w S β := by
  obtain ⟨_, _, fp, h1, h2, _⟩ := hs.mem.ob k _ hk
  have hd : RepDs w S [.sl xs] [(β k).sv] := ⟨fp, h1.repF, fun b hb => (h2 b hb).1⟩
  have hf : ∀ y v, RepA w S β y v → RepA w S β (frzAt k xs y) v := by
    intro y v hy
    cases y with
    | ol o =>
      simp only [frzAt]
      split
      · rename_i e
        simp at e
        subst e
        cases hy
        exact .d hd
      · exact hy
    | op o off => simp only [frzAt]; split; exact .junk; exact hy
    | clo f caps => simp only [frzAt]; split; exact .junk; exact hy
    | _ => exact hy
  have hT : ∀ o' X, (s.frz k xs).gob o' = some X → ∃ Y, s.gob o' = some Y ∧ X = Y.map (frzAt k xs) := by
    intro o' X h
    simp only [St.frz, St.gob, look_without, St.map, look_mapOb] at h
    split at h
    · simp at h
    · cases hY : s.gob o' with
      | none => simp only [St.gob] at hY; rw [hY] at h; simp at h
      | some Y => have hY2 := hY; simp only [St.gob] at hY2; rw [hY2] at h; simp at h; exact ⟨Y, rfl, h.symm⟩
  refine ⟨hs.defers, hs.sz, fun i y hi => ?_, ⟨hs.mem.lt, fun o' X ho' => ?_, fun o' X ho' => ?_, fun o1 o2 X1 X2 h1 h2 => ?_, hs.mem.os, hs.mem.tape, hs.mem.output, hs.mem.size, hs.mem.block, hs.mem.sub, hs.mem.sup, hs.mem.fix, fun o' X ho' => ?_, fun o1 o2 X1 X2 h1 h2 => ?_⟩⟩
  · have : (s.frz k xs).get i = (s.get i).map (·.map (frzAt k xs)) := look_mapTm ..
    rw [this] at hi
    cases hY : s.get i with
    | none => rw [hY] at hi; simp at hi
    | some Y =>
      rw [hY] at hi; simp at hi; subst hi
      obtain ⟨v, hv, hr⟩ := hs.tm i Y hY
      exact ⟨v, hv, hr.map hf fun xs cs h => h⟩
  · obtain ⟨Y, hY, rfl⟩ := hT o' X ho'
    exact (hs.mem.ob o' Y hY).map hf (fun _ _ => rfl) (fun _ _ => rfl) fun _ h => h
  · obtain ⟨Y, hY, rfl⟩ := hT o' X ho'; exact hs.mem.own o' Y hY
  · obtain ⟨Y, hY, rfl⟩ := hT o1 X1 h1
    obtain ⟨Y2, hY2, rfl⟩ := hT o2 X2 h2
    exact hs.mem.sep o1 o2 Y Y2 hY hY2
  · obtain ⟨Y, hY, rfl⟩ := hT o' X ho'; exact hs.mem.clm o' Y hY
  · obtain ⟨Y, hY, rfl⟩ := hT o1 X1 h1
    obtain ⟨Y2, hY2, rfl⟩ := hT o2 X2 h2
    exact hs.mem.sepc o1 o2 Y Y2 hY hY2
end

end AM
end Go.Proofs.Ytfcmmpmdofejeaa
