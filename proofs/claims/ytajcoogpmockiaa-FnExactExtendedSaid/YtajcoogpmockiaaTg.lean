/- Cells that bear their values: what moves rows about moves their blocks; no conditions. -/
import Derived.Test.YtajcoogpmockiaaDt
set_option linter.unusedSimpArgs false
set_option linter.unusedVariables false
namespace Go.Proofs.Ytajcoogpmockiaa
namespace AM
open Go

mutual
/-- Data without their values. -/
def Da.ut : Da → Da
  | .tg _ ys => .sl (Da.utR ys)
  | .sl ys => .sl (Da.utR ys)
  | x => x
def Da.utL : List Da → List Da
  | [] => []
  | x :: r => x.ut :: Da.utL r
def Da.utR : List (List Da) → List (List Da)
  | [] => []
  | x :: r => Da.utL x :: Da.utR r
end
theorem utL_map (l : List Da) : Da.utL l = l.map Da.ut := by induction l <;> simp_all [Da.utL]
theorem utR_map (l : List (List Da)) : Da.utR l = l.map (List.map Da.ut) := by induction l <;> simp_all [Da.utR, utL_map]
theorem utR_flat (l : List (List Da)) : (Da.utR l).flatten = Da.utL l.flatten := by
  rw [utR_map, utL_map, List.map_flatten]
theorem RepF.ut {w : World} {xs : List Da} {vs : List Value} {fp : List Nat} (h : RepF w xs vs fp) : RepF w (Da.utL xs) vs fp := by
  induction h with
  | nil => exact .nil
  | int _ ih => exact .int ih
  | bool _ ih => exact .bool ih
  | str hs _ ih => exact .str hs ih
  | fn _ ih => exact .fn ih
  | sl0 h1 h2 h3 h4 _ ih => exact .sl0 (by rw [utR_flat, h1]; rfl) (by rw [utR_map]; simpa using h2) h3 h4 ih
  | @sl1 _ _ _ _ _ _ _ _ _ _ es _ h1 h2 h3 h4 h5 h6 _ ih1 ih2 =>
    refine .sl1 (es := es) (by rw [utR_flat]; exact ih1) (by rw [utR_map]; simpa using h1) h2 h3 (fun y hy => ?_) h5 h6 ih2
    rw [utR_map] at hy
    obtain ⟨x, hx, rfl⟩ := List.mem_map.1 hy
    rw [List.length_map]; exact h4 x hx
  | @tg v ys xs vs fi fp _ _ ih1 ih2 =>
    exact RepF.app ih1 ih2
theorem RepDs.ut {w : World} {S : Nat → Prop} {xs : List Da} {vs : List Value} (h : RepDs w S xs vs) : RepDs w S (Da.utL xs) vs := by
  obtain ⟨fp, h, hf⟩ := h
  exact ⟨fp, h.ut, hf⟩
def AV.ut : AV → AV
  | .one (.d x) => .one (.d x.ut)
  | .dat xs => .dat (Da.utL xs)
  | x => x
theorem RepV.ut {w : World} {S : Nat → Prop} {β : Nat → OLoc} {x : AV} {v : Value} (h : RepV w S β x v) : RepV w S β x.ut v := by
  unfold AV.ut
  split
  · have := h.one_inv
    cases this with
    | d h => exact RepV.one (.d h.ut)
  · obtain ⟨cs, rfl, h2⟩ := h.dat_inv
    exact RepVs.dat h2.ut .nil
  · exact h
theorem RepVs.ut {w : World} {S : Nat → Prop} {β : Nat → OLoc} {xs : List AV} {vs : List Value} (h : RepVs w S β xs vs) : RepVs w S β (xs.map AV.ut) vs := by
  induction h with
  | nil => exact .nil
  | one h _ ih => exact RepVs.cons (RepV.ut (RepVs.one h .nil)) ih
  | dat h _ ih => exact RepVs.cons (RepV.ut (RepVs.dat h .nil)) ih
  | agg h _ ih => exact RepVs.cons (RepV.ut (RepVs.agg h .nil)) ih
  | tup h _ _ ih => exact RepVs.cons (RepV.ut (RepVs.tup h .nil)) ih
/-- A call that reads data reads them with their values, too. -/
theorem XC.ut {P : Program} {f : FuncId} {xs : List AV} {I : List (Nat × Ob)} {r : AV} {O : List (Nat × Ob)} (h : XC P f (xs.map AV.ut) I r O) : XC P f xs I r O := ⟨fun w S β vs hlt hr hin => h.h w S β vs hlt hr.ut hin⟩

/-- Cells with their values. -/
def tagR : List Da → List Value → List Da
  | .sl ys :: xs, v :: vs => .tg v ys :: tagR xs vs
  | x :: xs, _ :: vs => x :: tagR xs vs
  | _, _ => []
/-- The top cells without their values. -/
def Da.u1 : Da → Da
  | .tg _ ys => .sl ys
  | x => x
theorem RepT.tagR {w : World} {xs : List Da} {vs : List Value} {fp : List Nat} (h : RepT w xs vs fp) : RepF w (tagR xs vs) vs fp ∧ (tagR xs vs).map Da.u1 = xs ∧ ∀ w' us fq, RepF w' (AM.tagR xs vs) us fq → us = vs := by
  induction h with
  | nil => exact ⟨.nil, rfl, fun w' us fq h => by cases h; rfl⟩
  | int _ ih =>
    refine ⟨.int ih.1, by simp [AM.tagR, Da.u1, ih.2.1], fun w' us fq h => ?_⟩
    cases h with | int h => rw [ih.2.2 _ _ _ h]
  | bool _ ih =>
    refine ⟨.bool ih.1, by simp [AM.tagR, Da.u1, ih.2.1], fun w' us fq h => ?_⟩
    cases h with | bool h => rw [ih.2.2 _ _ _ h]
  | str hs _ ih =>
    refine ⟨.str hs ih.1, by simp [AM.tagR, Da.u1, ih.2.1], fun w' us fq h => ?_⟩
    cases h with | str _ h => rw [ih.2.2 _ _ _ h]
  | sl0 _ ih =>
    refine ⟨?_, by simp [AM.tagR, Da.u1, ih.2.1], fun w' us fq h => ?_⟩
    · exact RepF.tg (fi := []) (.sl0 rfl rfl (Nat.zero_le _) (Nat.zero_le _) .nil) ih.1
    · cases h with | tg _ h => rw [ih.2.2 _ _ _ h]
  | @sl1 ys xs us vs fi fp b n cap es c E h0 h1 h2 h3 h4 h5 h6 h7 hx ih1 ih2 =>
    refine ⟨?_, by simp [AM.tagR, Da.u1, ih2.2.1], fun w' us fq h => ?_⟩
    · have h8 := (RepT.sl1 h0 h1 h2 h3 h4 h5 h6 h7 .nil).repF
      have := RepF.tg h8 ih2.1
      rw [List.append_nil, List.cons_append] at this
      exact this
    · cases h with | tg _ h => rw [ih2.2.2 _ _ _ h]

/-- A row, its values and its blocks. -/
abbrev RW := List Da × List Value × List Nat
theorem rows_T {w : World} {es : Nat} : ∀ {xs : List (List Da)} {vs : List Value} {fp : List Nat}, RepT w xs.flatten vs fp → ∃ rs : List RW, rs.map (·.1) = xs ∧ (rs.map (·.2.1)).flatten = vs ∧ (rs.map (·.2.2)).flatten = fp ∧ ∀ r ∈ rs, RepT w r.1 r.2.1 r.2.2
  | [], vs, fp, h => by
    cases h
    exact ⟨[], rfl, rfl, rfl, by simp⟩
  | x :: xs, vs, fp, h => by
    rw [List.flatten_cons] at h
    obtain ⟨v1, v2, f1, f2, rfl, rfl, h1, h2⟩ := h.split
    obtain ⟨rs, e1, e2, e3, e4⟩ := rows_T (es := es) h2
    refine ⟨(x, v1, f1) :: rs, by simp [e1], by simp [e2], by simp [e3], fun r hr => ?_⟩
    rcases List.mem_cons.1 hr with rfl | hr
    · exact h1
    · exact e4 r hr
theorem perm_lift {α β : Type} (g : α → β) {xs : List α} {ys : List β} (h : ys.Perm (xs.map g)) : ∃ zs : List α, zs.Perm xs ∧ zs.map g = ys := by
  generalize hm : xs.map g = m at h
  induction h generalizing xs with
  | nil => exact ⟨xs, .refl _, hm⟩
  | @cons x l1 l2 hp ih =>
    cases xs with
    | nil => simp at hm
    | cons a r =>
      simp only [List.map_cons, List.cons.injEq] at hm
      obtain ⟨zs, h1, h2⟩ := ih hm.2
      exact ⟨a :: zs, h1.cons a, by simp [hm.1, h2]⟩
  | swap x y l =>
    match xs, hm with
    | a :: b :: r, hm =>
      simp only [List.map_cons, List.cons.injEq] at hm
      exact ⟨b :: a :: r, .swap .., by simp [hm.1, hm.2.1, hm.2.2]⟩
    | [], hm => simp at hm
    | [a], hm => simp at hm
  | trans h1 h2 ih1 ih2 =>
    obtain ⟨zs, p1, e1⟩ := ih2 hm
    obtain ⟨ws, p2, e2⟩ := ih1 e1
    exact ⟨ws, p2.trans p1, e2⟩
theorem vals_of {w : World} {rs : List RW} {us : List Value} {fq : List Nat} (hT : ∀ r ∈ rs, ∃ w0 : World, RepT w0 r.1 r.2.1 r.2.2) (h : RepF w (rs.map fun r => tagR r.1 r.2.1).flatten us fq) : us = (rs.map (·.2.1)).flatten := by
  induction rs generalizing us fq with
  | nil => cases h; rfl
  | cons r rs ih =>
    rw [List.map_cons, List.flatten_cons] at h
    obtain ⟨v1, v2, f1, f2, rfl, rfl, h1, h2⟩ := h.split
    obtain ⟨w0, h0⟩ := hT r (by simp)
    rw [h0.tagR.2.2 _ _ _ h1, ih (fun r hr => hT r (by simp [hr])) h2]
    simp
theorem rowsT_join {w : World} {rs : List RW} (h : ∀ r ∈ rs, RepT w r.1 r.2.1 r.2.2) : RepT w (rs.map (·.1)).flatten (rs.map (·.2.1)).flatten (rs.map (·.2.2)).flatten := by
  induction rs with
  | nil => exact .nil
  | cons r rs ih =>
    simp only [List.map_cons, List.flatten_cons]
    exact (h r (by simp)).app (ih fun r hr => h r (by simp [hr]))
theorem rowsF_join {w : World} {rs : List RW} (h : ∀ r ∈ rs, RepT w r.1 r.2.1 r.2.2) : RepF w (rs.map fun r => tagR r.1 r.2.1).flatten (rs.map (·.2.1)).flatten (rs.map (·.2.2)).flatten := by
  induction rs with
  | nil => exact .nil
  | cons r rs ih =>
    simp only [List.map_cons, List.flatten_cons]
    exact (h r (by simp)).tagR.1.app (ih fun r hr => h r (by simp [hr]))

/-- What is left of the rows of a list is a list whose rows own their blocks, as they did. -/
theorem back_T {w w' : World} {S S' : Nat → Prop} {β : Nat → OLoc} {l' : OLoc} {cl : List Nat} {E es : Nat} {rs : List RW} {ys' ys l0 : List (List Da)} (hT : ∀ r ∈ rs, RepT w r.1 r.2.1 r.2.2) (hfp : ∀ b ∈ (rs.map (·.2.2)).flatten, S b ∧ b ∈ cl) (hnd : (rs.map (·.2.2)).flatten.Nodup) (hp : (ys' ++ l0).Perm (rs.map fun r => tagR r.1 r.2.1)) (hys : ys'.map (List.map Da.u1) = ys)
    (hX : ObRep w' S' β l' (.lst E es ys')) (hk : ∀ b, S b → w'.heap[b]? = w.heap[b]?) (hs : ∀ b, S b → S' b) (hcl : l'.clm = cl) : ObRep w' S' β l' (.tr E es ys) := by
  obtain ⟨zs, p1, e1⟩ := perm_lift (fun r : RW => tagR r.1 r.2.1) hp
  obtain ⟨r1, r2, rfl, g1, g2⟩ : ∃ r1 r2, zs = r1 ++ r2 ∧ r1.map (fun r : RW => tagR r.1 r.2.1) = ys' ∧ r2.map (fun r : RW => tagR r.1 r.2.1) = l0 := List.map_eq_append_iff.1 e1
  have hT1 : ∀ r ∈ r1, RepT w r.1 r.2.1 r.2.2 := fun r hr => hT r (p1.subset (List.mem_append_left _ hr))
  have hsub : ∀ r ∈ r1, r ∈ rs := fun r hr => p1.subset (List.mem_append_left _ hr)
  have hyl : ys = r1.map (·.1) := by
    rw [← hys, ← g1, List.map_map]
    exact List.map_congr_left fun r hr => (hT1 r hr).tagR.2.1
  have hnd1 : (r1.map (·.2.2)).flatten.Nodup := by
    have q1 : ((r1 ++ r2).map (·.2.2)).flatten.Perm (rs.map (·.2.2)).flatten := (p1.map _).flatten
    have q2 := q1.nodup_iff.2 hnd
    rw [List.map_append, List.flatten_append] at q2
    exact (List.nodup_append.1 q2).1
  have hfp1 : ∀ b ∈ (r1.map (·.2.2)).flatten, S b ∧ b ∈ cl := fun b hb => by
    obtain ⟨f, hf, hb⟩ := List.mem_flatten.1 hb
    obtain ⟨r, hr, rfl⟩ := List.mem_map.1 hf
    exact hfp b (List.mem_flatten.2 ⟨_, List.mem_map.2 ⟨r, hsub r hr, rfl⟩, hb⟩)
  have hlen : ys'.length = ys.length := by rw [← hys]; simp
  rcases hX with ⟨h1, h2, h3, vs, h4, fq, h5, h6⟩ | ⟨z1, z2, z3⟩
  · rw [← g1] at h5
    have hv := vals_of (fun r hr => ⟨w, hT1 r hr⟩) h5
    refine .inl ⟨h1, by rw [← hlen]; exact h2, fun y hy => ?_, vs, (r1.map (·.2.2)).flatten, by rw [← hlen]; exact h4, ?_, fun b hb => ⟨hs b (hfp1 b hb).1, by rw [hcl]; exact (hfp1 b hb).2⟩, hnd1⟩
    · rw [← hys] at hy
      obtain ⟨x, hx, rfl⟩ := List.mem_map.1 hy
      rw [List.length_map]; exact h3 x hx
    · rw [hyl, hv]
      exact (rowsT_join hT1).keep fun b hb => hk b (hfp1 b hb).1
  · exact .inr ⟨z1, by rw [← hys, z2]; rfl, z3⟩

theorem untag_rows {w : World} {rs : List RW} (hT : ∀ r ∈ rs, RepT w r.1 r.2.1 r.2.2) : (rs.map fun r => tagR r.1 r.2.1).map (List.map Da.u1) = rs.map (·.1) := by
  rw [List.map_map]
  exact List.map_congr_left fun r hr => (hT r hr).tagR.2.1
theorem lst_tags {w : World} {S : Nat → Prop} {β : Nat → OLoc} {l : OLoc} {E es : Nat} {xs : List (List Da)} (h : ObRep w S β l (.tr E es xs)) : ∃ rs : List RW, rs.map (·.1) = xs ∧ (∀ r ∈ rs, RepT w r.1 r.2.1 r.2.2) ∧ (∀ b ∈ (rs.map (·.2.2)).flatten, S b ∧ b ∈ l.clm) ∧ (rs.map (·.2.2)).flatten.Nodup ∧ ObRep w S β l (.lst E es (rs.map fun r => tagR r.1 r.2.1)) := by
  rcases h with ⟨h1, h2, h3, vs, fp, h4, h5, h6, h7⟩ | ⟨z1, rfl, z3⟩
  · obtain ⟨rs, e1, e2, e3, e4⟩ := rows_T (es := es) h5
    subst e1; subst e3; subst e2
    have hl : ∀ r ∈ rs, (tagR r.1 r.2.1).length = r.1.length := fun r hr => by
      have := congrArg List.length (e4 r hr).tagR.2.1
      simpa using this
    refine ⟨rs, rfl, e4, h6, h7, .inl ⟨h1, by simpa using h2, fun y hy => ?_, _, by simpa using h4, _, rowsF_join e4, fun b hb => (h6 b hb).1⟩⟩
    obtain ⟨r, hr, rfl⟩ := List.mem_map.1 hy
    rw [hl r hr]; exact h3 _ (List.mem_map.2 ⟨r, hr, rfl⟩)
  · exact ⟨[], rfl, by simp, by simp, by simp, .inr ⟨z1, rfl, z3⟩⟩

section
variable {P : Program} {f : FuncId} {zs : List AV} {E es : Nat} {xs ys : List (List Da)}
/-- A call that moves the rows of a list about, and leaves it. -/
theorem xc_rows {r : AV} (h : ∀ xs' : List (List Da), xs'.map (List.map Da.u1) = xs → ∃ ys', (∃ l, (ys' ++ l).Perm xs') ∧ ys'.map (List.map Da.u1) = ys ∧ XC P f zs [(2000, .lst E es xs')] r [(2000, .lst E es ys')]) : XC P f zs [(2000, .tr E es xs)] r [(2000, .tr E es ys)] := ⟨by
  intro w S β vs hlt hr hin
  have hm : ((2000 : Nat), Ob.tr E es xs) ∈ [((2000 : Nat), Ob.tr E es xs)] := List.mem_singleton.2 rfl
  obtain ⟨rs, e1, hT, hfp, hnd, hL⟩ := lst_tags (hin.ob _ hm)
  subst e1
  obtain ⟨ys', ⟨l0, hperm⟩, hu, hx⟩ := h _ (untag_rows hT)
  have hin' : InOk w S β [(2000, .lst E es (rs.map fun r => tagR r.1 r.2.1))] := by
    refine ⟨fun p hp => ?_, fun p hp => ?_, fun p hp q hq => ?_, fun p hp => ?_, fun p hp q hq => ?_⟩
    · rw [List.mem_singleton.1 hp]; exact hL
    · rw [List.mem_singleton.1 hp]; exact hin.own (2000, .tr E es (rs.map (·.1))) hm
    · rw [List.mem_singleton.1 hp, List.mem_singleton.1 hq]; intros; rfl
    · rw [List.mem_singleton.1 hp]; exact hin.clm (2000, .tr E es (rs.map (·.1))) hm
    · rw [List.mem_singleton.1 hp, List.mem_singleton.1 hq]; intros; rfl
  have hpass : ∀ b, passOf [((2000 : Nat), Ob.lst E es (rs.map fun r => tagR r.1 r.2.1))] β b ↔ passOf [((2000 : Nat), Ob.tr E es (rs.map (·.1)))] β b := by
    intro b; simp [passOf]
  have hpc : ∀ b, pcOf [((2000 : Nat), Ob.lst E es (rs.map fun r => tagR r.1 r.2.1))] β b ↔ pcOf [((2000 : Nat), Ob.tr E es (rs.map (·.1)))] β b := by
    intro b; simp [pcOf]
  refine (hx.h w S β vs hlt hr hin').mono ?_
  rintro e w' ⟨v, S', β', rfl, hG, hrep⟩
  have h2000 : β' 2000 = β 2000 := hG.loc 2000 (by simp [mvOf])
  have hSn : ∀ b, S b → w'.heap[b]? = w.heap[b]? := fun b hb => hG.block b (hlt b hb) fun hpb => by
    obtain ⟨p, hp, h1⟩ := hpb
    rw [List.mem_singleton.1 hp] at h1
    exact (hin.own _ hm b h1).2 hb
  refine ⟨v, S', β', rfl, ⟨hG.os, hG.tape, hG.output, hG.size, fun b hb hp => hG.block b hb fun h => hp ((hpass b).1 h), hG.sub, fun b hb => ⟨(hG.sup b hb).1, (hG.sup b hb).2.imp id (Or.imp id (hpass b).1)⟩, fun o ho => hG.loc o (by simp [mvOf]), fun p hp => ?_, fun p hp b hb => ?_, fun p hp q hq => ?_, fun p hp b hb => ?_, fun p hp q hq => ?_⟩, hrep⟩
  · rw [List.mem_singleton.1 hp]
    exact back_T hT hfp hnd hperm hu (hG.ob _ (List.mem_singleton.2 rfl)) hSn hG.sub (by rw [h2000])
  · rw [List.mem_singleton.1 hp] at hb
    obtain ⟨h1, h2, h3⟩ := hG.own _ (List.mem_singleton.2 rfl) b hb
    exact ⟨h1, h2, h3.imp id (hpass b).1⟩
  · rw [List.mem_singleton.1 hp, List.mem_singleton.1 hq]; intros; rfl
  · rw [List.mem_singleton.1 hp] at hb
    obtain ⟨h1, h3⟩ := hG.clm _ (List.mem_singleton.2 rfl) b hb
    exact ⟨h1, h3.imp id (Or.imp (hpass b).1 (hpc b).1)⟩
  · rw [List.mem_singleton.1 hp, List.mem_singleton.1 hq]; intros; rfl⟩
/-- A call that takes a list, and gives back what is left of its rows. -/
theorem xc_taken (h : ∀ xs' : List (List Da), xs'.map (List.map Da.u1) = xs → ∃ ys', (∃ l, (ys' ++ l).Perm xs') ∧ ys'.map (List.map Da.u1) = ys ∧ XC P f zs [(2000, .lst E es xs')] (.one (.ol 0)) [(0, .lst E es ys')]) : XC P f zs [(2000, .tr E es xs)] (.one (.ol 0)) [(0, .tr E es ys)] := ⟨by
  intro w S β vs hlt hr hin
  have hm : ((2000 : Nat), Ob.tr E es xs) ∈ [((2000 : Nat), Ob.tr E es xs)] := List.mem_singleton.2 rfl
  obtain ⟨rs, e1, hT, hfp, hnd, hL⟩ := lst_tags (hin.ob _ hm)
  subst e1
  obtain ⟨ys', ⟨l0, hperm⟩, hu, hx⟩ := h _ (untag_rows hT)
  have hin' : InOk w S β [(2000, .lst E es (rs.map fun r => tagR r.1 r.2.1))] := by
    refine ⟨fun p hp => ?_, fun p hp => ?_, fun p hp q hq => ?_, fun p hp => ?_, fun p hp q hq => ?_⟩
    · rw [List.mem_singleton.1 hp]; exact hL
    · rw [List.mem_singleton.1 hp]; exact hin.own (2000, .tr E es (rs.map (·.1))) hm
    · rw [List.mem_singleton.1 hp, List.mem_singleton.1 hq]; intros; rfl
    · rw [List.mem_singleton.1 hp]; exact hin.clm (2000, .tr E es (rs.map (·.1))) hm
    · rw [List.mem_singleton.1 hp, List.mem_singleton.1 hq]; intros; rfl
  have hpass : ∀ b, passOf [((2000 : Nat), Ob.lst E es (rs.map fun r => tagR r.1 r.2.1))] β b ↔ passOf [((2000 : Nat), Ob.tr E es (rs.map (·.1)))] β b := by
    intro b; simp [passOf]
  refine (hx.h w S β vs hlt hr hin').mono ?_
  rintro e w' ⟨v, S', β', rfl, hG, hrep⟩
  have hSn : ∀ b, S b → w'.heap[b]? = w.heap[b]? := fun b hb => hG.block b (hlt b hb) fun hpb => by
    obtain ⟨p, hp, h1⟩ := hpb
    rw [List.mem_singleton.1 hp] at h1
    exact (hin.own _ hm b h1).2 hb
  let β2 : Nat → OLoc := fun q => if q = 0 then { β' 0 with clm := (β 2000).clm } else β' q
  have hb0 : β2 0 = { β' 0 with clm := (β 2000).clm } := if_pos rfl
  have hown0 : ∀ b, (β2 0).Own b ↔ (β' 0).Own b := by intro b; rw [hb0]; rfl
  refine ⟨v, S', β2, rfl, ⟨hG.os, hG.tape, hG.output, hG.size, fun b hb hp => hG.block b hb fun h => hp ((hpass b).1 h), hG.sub, fun b hb => ⟨(hG.sup b hb).1, (hG.sup b hb).2.imp id (Or.imp id (hpass b).1)⟩, fun o ho => ?_, fun p hp => ?_, fun p hp b hb => ?_, fun p hp q hq => ?_, fun p hp b hb => ?_, fun p hp q hq => ?_⟩, ?_⟩
  · have h0 : o ≠ 0 := fun e => ho (by simp [mvOf, e])
    show (if o = 0 then _ else β' o) = β o
    rw [if_neg h0]
    exact hG.loc o (by simpa [mvOf] using h0)
  · rw [List.mem_singleton.1 hp]
    have hX : ObRep w' S' β2 (β2 0) (.lst E es ys') := by
      have := hG.ob _ (List.mem_singleton.2 rfl)
      rw [hb0]
      exact this
    exact back_T hT hfp hnd hperm hu hX hSn hG.sub (by rw [hb0])
  · rw [List.mem_singleton.1 hp] at hb
    obtain ⟨h1, h2, h3⟩ := hG.own _ (List.mem_singleton.2 rfl) b ((hown0 b).1 hb)
    exact ⟨h1, h2, h3.imp id (hpass b).1⟩
  · rw [List.mem_singleton.1 hp, List.mem_singleton.1 hq]; intros; rfl
  · rw [List.mem_singleton.1 hp] at hb
    have hb : b ∈ (β 2000).clm := by rw [hb0] at hb; exact hb
    have h1 := hin.clm _ hm b hb
    exact ⟨hG.sub b h1, .inr (.inr ⟨_, hm, hb⟩)⟩
  · rw [List.mem_singleton.1 hp, List.mem_singleton.1 hq]; intros; rfl
  · have h1 := hrep.one_inv
    refine RepV.one ?_
    generalize hvv : v = u at h1
    cases h1
    have : (β' 0).sv = (β2 0).sv := by rw [hb0]; rfl
    rw [this]; exact .ol⟩
end

/-- Objects that stand for others, at the same place. -/
def ObImp (X Y : Ob) : Prop := ∀ (w : World) (S : Nat → Prop) (β : Nat → OLoc) (l : OLoc), ObRep w S β l X → ObRep w S β l Y
inductive ObsImp : List (Nat × Ob) → List (Nat × Ob) → Prop
  | nil : ObsImp [] []
  | cons {k X Y r s} : ObImp X Y → ObsImp r s → ObsImp ((k, X) :: r) ((k, Y) :: s)
theorem ObImp.refl (X : Ob) : ObImp X X := fun _ _ _ _ h => h
theorem obImp_tr (E es : Nat) (xs : List (List Da)) : ObImp (.tr E es xs) (.lst E es xs) := fun _ _ _ _ h => h.lst_of_tr
theorem obImp_flat {E es : Nat} {xs : List (List Da)} (hf : flatRows xs) : ObImp (.lst E es xs) (.tr E es xs) := fun w S β l h => by
  rcases h with ⟨h1, h2, h3, vs, h4, fp, h5, h6⟩ | h
  · exact .inl ⟨h1, h2, h3, vs, [], h4, h5.flatT (flatRows_all hf), by simp, by simp⟩
  · exact .inr h
theorem ObsImp.keys {I J : List (Nat × Ob)} (h : ObsImp I J) : I.map (·.1) = J.map (·.1) := by induction h <;> simp_all
theorem ObsImp.mem {I J : List (Nat × Ob)} (h : ObsImp I J) {p : Nat × Ob} (hp : p ∈ J) : ∃ X, (p.1, X) ∈ I ∧ ObImp X p.2 := by
  induction h with
  | nil => cases hp
  | @cons k X Y r s h1 _ ih =>
    rcases List.mem_cons.1 hp with rfl | hp
    · exact ⟨X, by simp, h1⟩
    · obtain ⟨X', h2, h3⟩ := ih hp
      exact ⟨X', by simp [h2], h3⟩
theorem ObsImp.mem' {I J : List (Nat × Ob)} (h : ObsImp I J) {p : Nat × Ob} (hp : p ∈ I) : ∃ Y, (p.1, Y) ∈ J := by
  induction h with
  | nil => cases hp
  | @cons k X Y r s _ _ ih =>
    rcases List.mem_cons.1 hp with rfl | hp
    · exact ⟨Y, by simp⟩
    · obtain ⟨Y', h2⟩ := ih hp
      exact ⟨Y', by simp [h2]⟩
theorem XC.imp {P : Program} {f : FuncId} {zs : List AV} {r : AV} {I I' O O' : List (Nat × Ob)} (h : XC P f zs I' r O') (hI : ObsImp I I') (hO : ObsImp O' O) : XC P f zs I r O := ⟨by
  intro w S β vs hlt hr hin
  have hpass : ∀ b, passOf I' β b ↔ passOf I β b := by
    intro b
    constructor
    · rintro ⟨p, hp, h1⟩
      obtain ⟨X, h2, _⟩ := hI.mem hp
      exact ⟨_, h2, h1⟩
    · rintro ⟨p, hp, h1⟩
      obtain ⟨Y, h2⟩ := hI.mem' hp
      exact ⟨_, h2, h1⟩
  have hpc : ∀ b, pcOf I' β b ↔ pcOf I β b := by
    intro b
    constructor
    · rintro ⟨p, hp, h1⟩
      obtain ⟨X, h2, _⟩ := hI.mem hp
      exact ⟨_, h2, h1⟩
    · rintro ⟨p, hp, h1⟩
      obtain ⟨Y, h2⟩ := hI.mem' hp
      exact ⟨_, h2, h1⟩
  have hin' : InOk w S β I' := by
    refine ⟨fun p hp => ?_, fun p hp b hb => ?_, fun p hp q hq b hb hb' => ?_, fun p hp b hb => ?_, fun p hp q hq b hb hb' => ?_⟩
    · obtain ⟨X, h2, h3⟩ := hI.mem hp
      exact h3 _ _ _ _ (hin.ob _ h2)
    · obtain ⟨X, h2, _⟩ := hI.mem hp
      exact hin.own _ h2 b hb
    · obtain ⟨X, h2, _⟩ := hI.mem hp
      obtain ⟨X', h3, _⟩ := hI.mem hq
      exact hin.sep _ h2 (q.1, X') h3 b hb hb'
    · obtain ⟨X, h2, _⟩ := hI.mem hp
      exact hin.clm _ h2 b hb
    · obtain ⟨X, h2, _⟩ := hI.mem hp
      obtain ⟨X', h3, _⟩ := hI.mem hq
      exact hin.sepc _ h2 (q.1, X') h3 b hb hb'
  have hmv : mvOf O' = mvOf O := by unfold mvOf; rw [hO.keys]
  refine (h.h w S β vs hlt hr hin').mono ?_
  rintro e w' ⟨v, S', β', rfl, hG, hrep⟩
  refine ⟨v, S', β', rfl, ⟨hG.os, hG.tape, hG.output, hG.size, fun b hb hp => hG.block b hb fun h => hp ((hpass b).1 h), hG.sub, fun b hb => ⟨(hG.sup b hb).1, (hG.sup b hb).2.imp id (Or.imp id (hpass b).1)⟩, fun o ho => hG.loc o (by rw [hmv]; exact ho), fun p hp => ?_, fun p hp b hb => ?_, fun p hp q hq b hb hb' => ?_, fun p hp b hb => ?_, fun p hp q hq b hb hb' => ?_⟩, hrep⟩
  · obtain ⟨X, h2, h3⟩ := hO.mem hp
    exact h3 _ _ _ _ (hG.ob _ h2)
  · obtain ⟨X, h2, _⟩ := hO.mem hp
    obtain ⟨g1, g2, g3⟩ := hG.own _ h2 b hb
    exact ⟨g1, g2, g3.imp id (hpass b).1⟩
  · obtain ⟨X, h2, _⟩ := hO.mem hp
    obtain ⟨X', h3, _⟩ := hO.mem hq
    exact hG.sep _ h2 (q.1, X') h3 b hb hb'
  · obtain ⟨X, h2, _⟩ := hO.mem hp
    obtain ⟨g1, g3⟩ := hG.clm _ h2 b hb
    exact ⟨g1, g3.imp id (Or.imp (hpass b).1 (hpc b).1)⟩
  · obtain ⟨X, h2, _⟩ := hO.mem hp
    obtain ⟨X', h3, _⟩ := hO.mem hq
    exact hG.sepc _ h2 (q.1, X') h3 b hb hb'⟩

end AM
end Go.Proofs.Ytajcoogpmockiaa
