/- A part of the proof of the law that the last of these texts states, for every input; no conditions. -/
import Derived.Test.YtajcoogpmockiaaMfD
set_option linter.unusedVariables false
set_option linter.unusedSimpArgs false
set_option linter.unusedVariables false
set_option linter.unusedSimpArgs false
set_option maxRecDepth 100000
namespace Go.Proofs.Ytajcoogpmockiaa
namespace AM
open Go Go.ChangeShapes Go.WideShapes Go.RowKit
theorem own : ownKnob Try.prog.godebug = none := by kernel_rfl
theorem abxq : laidOutB Try.prog = true := by kernel_rfl
def i64 (n : Int) : Prop := -9223372036854775808 ≤ n ∧ n ≤ 9223372036854775807
mutual
def Tm.ok : Tm → Prop
  | .mk f v ks => i64 f ∧ i64 v ∧ Tm.oks ks
def Tm.oks : List Tm → Prop
  | [] => True
  | t :: r => t.ok ∧ Tm.oks r
end
theorem Tm.oks_iff : ∀ {l : List Tm}, Tm.oks l ↔ ∀ t ∈ l, t.ok
  | [] => by simp [Tm.oks]
  | t :: r => by simp [Tm.oks, Tm.oks_iff (l := r)]
def Li.ok (x : Li) : Prop := x.l.ok ∧ x.r.ok
def Cl.ok (x : Cl) : Prop := ∀ y ∈ x.ls, y.ok
def Sy.ok (x : Sy) : Prop := i64 x.ar
def Bd.ok (x : Bd) : Prop := i64 x.v ∧ x.t.ok
def Ru.ok (x : Ru) : Prop := x.l.ok ∧ x.r.ok
def Sp.ok (x : Sp) : Prop := (i64 x.kind ∧ i64 x.a ∧ i64 x.b ∧ i64 x.i ∧ i64 x.k) ∧ (∀ n ∈ x.way, i64 n) ∧ (∀ y ∈ x.sub, y.ok) ∧ x.cl.ok
def Wk.ok (x : Wk) : Prop := (∀ y ∈ x.sig, y.ok) ∧ (∀ y ∈ x.input, y.ok) ∧ (∀ y ∈ x.log, y.ok) ∧ (∀ n ∈ x.active, i64 n) ∧ (∀ n ∈ x.passive, i64 n)
theorem P3q (n : Nat) {ds : List Da} (h : f0q Try.prog n 3 ds) : ∃ m, ds = [.int .i64 m] ∧ i64 m := by
  cases n with
  | zero => simp only [f0q] at h
  | succ n =>
    simp only [f0q, Try.underlying3] at h
    obtain ⟨m, e, hw⟩ := h
    refine ⟨m, e, ?_⟩
    simp [Lit.wf, IntKind.min, IntKind.max, IntKind.signed, IntKind.bits] at hw
    exact ⟨by omega, by omega⟩
theorem a2Pq (n : Nat) {ds : List Da} (h : f0q Try.prog n 4 ds) : ∃ b, ds = [.bool b] := by
  cases n with
  | zero => simp only [f0q] at h
  | succ n => simp only [f0q, Try.underlying4] at h; exact h
theorem a2Hq {α : Type} {da : α → List Da} {ok : α → Prop} {xs : List (List Da)} (h : ∀ x ∈ xs, ∃ t : α, x = da t ∧ ok t) : ∃ ks : List α, xs = ks.map da ∧ ∀ k ∈ ks, ok k := by
  induction xs with
  | nil => exact ⟨[], rfl, by simp⟩
  | cons x xs ih =>
    obtain ⟨t, rfl, ht⟩ := h x (by simp)
    obtain ⟨ks, rfl, hk⟩ := ih fun y hy => h y (by simp [hy])
    exact ⟨t :: ks, rfl, by simpa using ⟨ht, hk⟩⟩
theorem a8Aq (n : Nat) {ds : List Da} (h : f0q Try.prog n 9 ds) : ∃ s, ds = [.str s] := by
  cases n with
  | zero => simp only [f0q] at h
  | succ n => simp only [f0q, Try.underlying9] at h; exact h
theorem X3q (n : Nat) {ds : List Da} (h : f0q Try.prog n 25 ds) : ∃ t : Tm, ds = t.da ∧ t.ok := by
  induction n using Nat.strongRecOn generalizing ds with
  | ind n ih =>
  cases n with
  | zero => simp only [f0q] at h
  | succ n =>
    simp only [f0q, Try.underlying25, D1q] at h
    obtain ⟨d1, r1, rfl, h1, d2, r2, rfl, h2, d3, r3, rfl, h3, rfl⟩ := h
    obtain ⟨f, rfl, hf⟩ := P3q _ h1
    obtain ⟨v, rfl, hv⟩ := P3q _ h2
    have h4 : ∃ ks, d3 = [.sl (Tm.das ks)] ∧ ∀ k ∈ ks, Tm.ok k := by
      cases n with
      | zero => simp only [f0q] at h3
      | succ n =>
        simp only [f0q, Try.underlying23] at h3
        obtain ⟨xs, rfl, hx⟩ := h3
        obtain ⟨ks, rfl, hk⟩ := a2Hq (da := Tm.da) (ok := Tm.ok) fun x hx' => ih n (by omega) (hx x hx')
        exact ⟨ks, by rw [Tm.das_map], hk⟩
    obtain ⟨ks, rfl, hk⟩ := h4
    exact ⟨.mk f v ks, rfl, hf, hv, Tm.oks_iff.2 hk⟩
theorem a8Cq (n : Nat) {ds : List Da} (h : f0q Try.prog n 57 ds) : ∃ l : Li, ds = l.da ∧ l.ok := by
  cases n with
  | zero => simp only [f0q] at h
  | succ n =>
    simp only [f0q, Try.underlying57, D1q] at h
    obtain ⟨d1, r1, rfl, h1, d2, r2, rfl, h2, d3, r3, rfl, h3, rfl⟩ := h
    obtain ⟨p, rfl⟩ := a2Pq _ h1
    obtain ⟨a, rfl, ha⟩ := X3q _ h2
    obtain ⟨b, rfl, hb⟩ := X3q _ h3
    exact ⟨⟨p, a, b⟩, by simp [Li.da], ha, hb⟩
theorem a89q (n : Nat) {ds : List Da} (h : f0q Try.prog n 71 ds) : ∃ ls : List Li, ds = [.sl (ls.map Li.da)] ∧ ∀ k ∈ ls, k.ok := by
  cases n with
  | zero => simp only [f0q] at h
  | succ n =>
    simp only [f0q, Try.underlying71] at h
    obtain ⟨xs, rfl, hx⟩ := h
    obtain ⟨ks, rfl, hk⟩ := a2Hq (da := Li.da) (ok := Li.ok) fun x hx' => a8Cq _ (hx x hx')
    exact ⟨ks, rfl, hk⟩
theorem a5kq (n : Nat) {ds : List Da} (h : f0q Try.prog n 84 ds) : ∃ c : Cl, ds = c.da ∧ c.ok := by
  cases n with
  | zero => simp only [f0q] at h
  | succ n =>
    simp only [f0q, Try.underlying84, D1q] at h
    obtain ⟨d1, r1, rfl, h1, rfl⟩ := h
    obtain ⟨ls, rfl, hl⟩ := a89q _ h1
    exact ⟨⟨ls⟩, rfl, hl⟩
theorem a9bq (n : Nat) {ds : List Da} (h : f0q Try.prog n 93 ds) : ∃ c : Sy, ds = c.da ∧ c.ok := by
  cases n with
  | zero => simp only [f0q] at h
  | succ n =>
    simp only [f0q, Try.underlying93, D1q] at h
    obtain ⟨d1, r1, rfl, h1, d2, r2, rfl, h2, d3, r3, rfl, h3, rfl⟩ := h
    obtain ⟨s, rfl⟩ := a8Aq _ h1
    obtain ⟨m, rfl, hm⟩ := P3q _ h2
    obtain ⟨b, rfl⟩ := a2Pq _ h3
    exact ⟨⟨s, m, b⟩, rfl, hm⟩
theorem a6Jq (n : Nat) {ds : List Da} (h : f0q Try.prog n 22 ds) : ∃ ls : List Sy, ds = [.sl (ls.map Sy.da)] ∧ ∀ k ∈ ls, k.ok := by
  cases n with
  | zero => simp only [f0q] at h
  | succ n =>
    simp only [f0q, Try.underlying22] at h
    obtain ⟨xs, rfl, hx⟩ := h
    obtain ⟨ks, rfl, hk⟩ := a2Hq (da := Sy.da) (ok := Sy.ok) fun x hx' => a9bq _ (hx x hx')
    exact ⟨ks, rfl, hk⟩
theorem a7Cq (n : Nat) {ds : List Da} (h : f0q Try.prog n 113 ds) : ∃ c : Bd, ds = c.da ∧ c.ok := by
  cases n with
  | zero => simp only [f0q] at h
  | succ n =>
    simp only [f0q, Try.underlying113, D1q] at h
    obtain ⟨d1, r1, rfl, h1, d2, r2, rfl, h2, rfl⟩ := h
    obtain ⟨v, rfl, hv⟩ := P3q _ h1
    obtain ⟨t, rfl, ht⟩ := X3q _ h2
    exact ⟨⟨v, t⟩, by simp [Bd.da], hv, ht⟩
theorem a6Fq (n : Nat) {ds : List Da} (h : f0q Try.prog n 55 ds) : ∃ ls : List Bd, ds = [.sl (ls.map Bd.da)] ∧ ∀ k ∈ ls, k.ok := by
  cases n with
  | zero => simp only [f0q] at h
  | succ n =>
    simp only [f0q, Try.underlying55] at h
    obtain ⟨xs, rfl, hx⟩ := h
    obtain ⟨ks, rfl, hk⟩ := a2Hq (da := Bd.da) (ok := Bd.ok) fun x hx' => a7Cq _ (hx x hx')
    exact ⟨ks, rfl, hk⟩
end AM
end Go.Proofs.Ytajcoogpmockiaa
set_option linter.unusedSimpArgs false
set_option linter.unusedVariables false
namespace Go.Proofs.Ytajcoogpmockiaa
namespace AM
open Go
mutual
def Da.ut : Da → Da
  | .tg _ ys => .sl (Da.utR ys)
  | .sl ys => .sl (Da.utR ys)
  | x => x
def Da.utL : List Da → List Da
  | [] => []
  | x :: r => x.ut :: Da.utL r
def Da.utR : List (List Da) → List (List Da)
  | [] => []
  | x :: r => Da.utL x :: Da.utR r
end
theorem T5q (l : List Da) : Da.utL l = l.map Da.ut := by induction l <;> simp_all [Da.utL]
theorem a0Pq (l : List (List Da)) : Da.utR l = l.map (List.map Da.ut) := by induction l <;> simp_all [Da.utR, T5q]
theorem a5uq (l : List (List Da)) : (Da.utR l).flatten = Da.utL l.flatten := by
  rw [a0Pq, T5q, List.map_flatten]
theorem RepF.ut {w : World} {xs : List Da} {vs : List Value} {fp : List Nat} (h : RepF w xs vs fp) : RepF w (Da.utL xs) vs fp := by
  induction h with
  | nil => exact .nil
  | int _ ih => exact .int ih
  | bool _ ih => exact .bool ih
  | str hs _ ih => exact .str hs ih
  | fn _ ih => exact .fn ih
  | sl0 h1 h2 h3 h4 _ ih => exact .sl0 (by rw [a5uq, h1]; rfl) (by rw [a0Pq]; simpa using h2) h3 h4 ih
  | @sl1 _ _ _ _ _ _ _ _ _ _ es _ h1 h2 h3 h4 h5 h6 _ ih1 ih2 =>
    refine .sl1 (es := es) (by rw [a5uq]; exact ih1) (by rw [a0Pq]; simpa using h1) h2 h3 (fun y hy => ?_) h5 h6 ih2
    rw [a0Pq] at hy
    obtain ⟨x, hx, rfl⟩ := List.mem_map.1 hy
    rw [List.length_map]; exact h4 x hx
  | @tg v ys xs vs fi fp _ _ ih1 ih2 =>
    exact RepF.app ih1 ih2
theorem RepDs.ut {w : World} {S : Nat → Prop} {xs : List Da} {vs : List Value} (h : RepDs w S xs vs) : RepDs w S (Da.utL xs) vs := by
  obtain ⟨fp, h, hf⟩ := h
  exact ⟨fp, h.ut, hf⟩
def AV.ut : AV → AV
  | .one (.d x) => .one (.d x.ut)
  | .dat xs => .dat (Da.utL xs)
  | x => x
theorem RepV.ut {w : World} {S : Nat → Prop} {β : Nat → OLoc} {x : AV} {v : Value} (h : RepV w S β x v) : RepV w S β x.ut v := by
  unfold AV.ut
  split
  · have := h.one_inv
    cases this with
    | d h => exact RepV.one (.d h.ut)
  · obtain ⟨cs, rfl, h2⟩ := h.dat_inv
    exact RepVs.dat h2.ut .nil
  · exact h
theorem RepVs.ut {w : World} {S : Nat → Prop} {β : Nat → OLoc} {xs : List AV} {vs : List Value} (h : RepVs w S β xs vs) : RepVs w S β (xs.map AV.ut) vs := by
  induction h with
  | nil => exact .nil
  | one h _ ih => exact RepVs.cons (RepV.ut (RepVs.one h .nil)) ih
  | dat h _ ih => exact RepVs.cons (RepV.ut (RepVs.dat h .nil)) ih
  | agg h _ ih => exact RepVs.cons (RepV.ut (RepVs.agg h .nil)) ih
  | tup h _ _ ih => exact RepVs.cons (RepV.ut (RepVs.tup h .nil)) ih
theorem XC.ut {P : Program} {f : FuncId} {xs : List AV} {I : List (Nat × Ob)} {r : AV} {O : List (Nat × Ob)} (h : XC P f (xs.map AV.ut) I r O) : XC P f xs I r O := ⟨fun w S β vs hlt hr hin => h.h w S β vs hlt hr.ut hin⟩
def tagR : List Da → List Value → List Da
  | .sl ys :: xs, v :: vs => .tg v ys :: tagR xs vs
  | x :: xs, _ :: vs => x :: tagR xs vs
  | _, _ => []
def Da.u1 : Da → Da
  | .tg _ ys => .sl ys
  | x => x
theorem RepT.tagR {w : World} {xs : List Da} {vs : List Value} {fp : List Nat} (h : RepT w xs vs fp) : RepF w (tagR xs vs) vs fp ∧ (tagR xs vs).map Da.u1 = xs ∧ ∀ w' us fq, RepF w' (AM.tagR xs vs) us fq → us = vs := by
  induction h with
  | nil => exact ⟨.nil, rfl, fun w' us fq h => by cases h; rfl⟩
  | int _ ih =>
    refine ⟨.int ih.1, by simp [AM.tagR, Da.u1, ih.2.1], fun w' us fq h => ?_⟩
    cases h with | int h => rw [ih.2.2 _ _ _ h]
  | bool _ ih =>
    refine ⟨.bool ih.1, by simp [AM.tagR, Da.u1, ih.2.1], fun w' us fq h => ?_⟩
    cases h with | bool h => rw [ih.2.2 _ _ _ h]
  | str hs _ ih =>
    refine ⟨.str hs ih.1, by simp [AM.tagR, Da.u1, ih.2.1], fun w' us fq h => ?_⟩
    cases h with | str _ h => rw [ih.2.2 _ _ _ h]
  | sl0 _ ih =>
    refine ⟨?_, by simp [AM.tagR, Da.u1, ih.2.1], fun w' us fq h => ?_⟩
    · exact RepF.tg (fi := []) (.sl0 rfl rfl (Nat.zero_le _) (Nat.zero_le _) .nil) ih.1
    · cases h with | tg _ h => rw [ih.2.2 _ _ _ h]
  | @sl1 ys xs us vs fi fp b n cap es c E h0 h1 h2 h3 h4 h5 h6 h7 hx ih1 ih2 =>
    refine ⟨?_, by simp [AM.tagR, Da.u1, ih2.2.1], fun w' us fq h => ?_⟩
    · have h8 := (RepT.sl1 h0 h1 h2 h3 h4 h5 h6 h7 .nil).repF
      have := RepF.tg h8 ih2.1
      rw [List.append_nil, List.cons_append] at this
      exact this
    · cases h with | tg _ h => rw [ih2.2.2 _ _ _ h]
abbrev RW := List Da × List Value × List Nat
theorem a8Eq {w : World} {es : Nat} : ∀ {xs : List (List Da)} {vs : List Value} {fp : List Nat}, RepT w xs.flatten vs fp → ∃ rs : List RW, rs.map (·.1) = xs ∧ (rs.map (·.2.1)).flatten = vs ∧ (rs.map (·.2.2)).flatten = fp ∧ ∀ r ∈ rs, RepT w r.1 r.2.1 r.2.2
  | [], vs, fp, h => by
    cases h
    exact ⟨[], rfl, rfl, rfl, by simp⟩
  | x :: xs, vs, fp, h => by
    rw [List.flatten_cons] at h
    obtain ⟨v1, v2, f1, f2, rfl, rfl, h1, h2⟩ := h.split
    obtain ⟨rs, e1, e2, e3, e4⟩ := a8Eq (es := es) h2
    refine ⟨(x, v1, f1) :: rs, by simp [e1], by simp [e2], by simp [e3], fun r hr => ?_⟩
    rcases List.mem_cons.1 hr with rfl | hr
    · exact h1
    · exact e4 r hr
theorem a8sq {α β : Type} (g : α → β) {xs : List α} {ys : List β} (h : ys.Perm (xs.map g)) : ∃ zs : List α, zs.Perm xs ∧ zs.map g = ys := by
  generalize hm : xs.map g = m at h
  induction h generalizing xs with
  | nil => exact ⟨xs, .refl _, hm⟩
  | @cons x l1 l2 hp ih =>
    cases xs with
    | nil => simp at hm
    | cons a r =>
      simp only [List.map_cons, List.cons.injEq] at hm
      obtain ⟨zs, h1, h2⟩ := ih hm.2
      exact ⟨a :: zs, h1.cons a, by simp [hm.1, h2]⟩
  | swap x y l =>
    match xs, hm with
    | a :: b :: r, hm =>
      simp only [List.map_cons, List.cons.injEq] at hm
      exact ⟨b :: a :: r, .swap .., by simp [hm.1, hm.2.1, hm.2.2]⟩
    | [], hm => simp at hm
    | [a], hm => simp at hm
  | trans h1 h2 ih1 ih2 =>
    obtain ⟨zs, p1, e1⟩ := ih2 hm
    obtain ⟨ws, p2, e2⟩ := ih1 e1
    exact ⟨ws, p2.trans p1, e2⟩
theorem abeq {w : World} {rs : List RW} {us : List Value} {fq : List Nat} (hT : ∀ r ∈ rs, ∃ w0 : World, RepT w0 r.1 r.2.1 r.2.2) (h : RepF w (rs.map fun r => tagR r.1 r.2.1).flatten us fq) : us = (rs.map (·.2.1)).flatten := by
  induction rs generalizing us fq with
  | nil => cases h; rfl
  | cons r rs ih =>
    rw [List.map_cons, List.flatten_cons] at h
    obtain ⟨v1, v2, f1, f2, rfl, rfl, h1, h2⟩ := h.split
    obtain ⟨w0, h0⟩ := hT r (by simp)
    rw [h0.tagR.2.2 _ _ _ h1, ih (fun r hr => hT r (by simp [hr])) h2]
    simp
theorem a7mq {w : World} {rs : List RW} (h : ∀ r ∈ rs, RepT w r.1 r.2.1 r.2.2) : RepT w (rs.map (·.1)).flatten (rs.map (·.2.1)).flatten (rs.map (·.2.2)).flatten := by
  induction rs with
  | nil => exact .nil
  | cons r rs ih =>
    simp only [List.map_cons, List.flatten_cons]
    exact (h r (by simp)).app (ih fun r hr => h r (by simp [hr]))
theorem a8kq {w : World} {rs : List RW} (h : ∀ r ∈ rs, RepT w r.1 r.2.1 r.2.2) : RepF w (rs.map fun r => tagR r.1 r.2.1).flatten (rs.map (·.2.1)).flatten (rs.map (·.2.2)).flatten := by
  induction rs with
  | nil => exact .nil
  | cons r rs ih =>
    simp only [List.map_cons, List.flatten_cons]
    exact (h r (by simp)).tagR.1.app (ih fun r hr => h r (by simp [hr]))
theorem a9nq {w w' : World} {S S' : Nat → Prop} {β : Nat → OLoc} {l' : OLoc} {cl : List Nat} {E es : Nat} {rs : List RW} {ys' ys l0 : List (List Da)} (hT : ∀ r ∈ rs, RepT w r.1 r.2.1 r.2.2) (hfp : ∀ b ∈ (rs.map (·.2.2)).flatten, S b ∧ b ∈ cl) (hnd : (rs.map (·.2.2)).flatten.Nodup) (hp : (ys' ++ l0).Perm (rs.map fun r => tagR r.1 r.2.1)) (hys : ys'.map (List.map Da.u1) = ys)
    (hX : ObRep w' S' β l' (.lst E es ys')) (hk : ∀ b, S b → w'.heap[b]? = w.heap[b]?) (hs : ∀ b, S b → S' b) (hcl : l'.clm = cl) : ObRep w' S' β l' (.tr E es ys) := by
  obtain ⟨zs, p1, e1⟩ := a8sq (fun r : RW => tagR r.1 r.2.1) hp
  obtain ⟨r1, r2, rfl, g1, g2⟩ : ∃ r1 r2, zs = r1 ++ r2 ∧ r1.map (fun r : RW => tagR r.1 r.2.1) = ys' ∧ r2.map (fun r : RW => tagR r.1 r.2.1) = l0 := List.map_eq_append_iff.1 e1
  have hT1 : ∀ r ∈ r1, RepT w r.1 r.2.1 r.2.2 := fun r hr => hT r (p1.subset (List.mem_append_left _ hr))
  have hsub : ∀ r ∈ r1, r ∈ rs := fun r hr => p1.subset (List.mem_append_left _ hr)
  have hyl : ys = r1.map (·.1) := by
    rw [← hys, ← g1, List.map_map]
    exact List.map_congr_left fun r hr => (hT1 r hr).tagR.2.1
  have hnd1 : (r1.map (·.2.2)).flatten.Nodup := by
    have q1 : ((r1 ++ r2).map (·.2.2)).flatten.Perm (rs.map (·.2.2)).flatten := (p1.map _).flatten
    have q2 := q1.nodup_iff.2 hnd
    rw [List.map_append, List.flatten_append] at q2
    exact (List.nodup_append.1 q2).1
  have hfp1 : ∀ b ∈ (r1.map (·.2.2)).flatten, S b ∧ b ∈ cl := fun b hb => by
    obtain ⟨f, hf, hb⟩ := List.mem_flatten.1 hb
    obtain ⟨r, hr, rfl⟩ := List.mem_map.1 hf
    exact hfp b (List.mem_flatten.2 ⟨_, List.mem_map.2 ⟨r, hsub r hr, rfl⟩, hb⟩)
  have hlen : ys'.length = ys.length := by rw [← hys]; simp
  rcases hX with ⟨h1, h2, h3, vs, h4, fq, h5, h6⟩ | ⟨z1, z2, z3⟩
  · rw [← g1] at h5
    have hv := abeq (fun r hr => ⟨w, hT1 r hr⟩) h5
    refine .inl ⟨h1, by rw [← hlen]; exact h2, fun y hy => ?_, vs, (r1.map (·.2.2)).flatten, by rw [← hlen]; exact h4, ?_, fun b hb => ⟨hs b (hfp1 b hb).1, by rw [hcl]; exact (hfp1 b hb).2⟩, hnd1⟩
    · rw [← hys] at hy
      obtain ⟨x, hx, rfl⟩ := List.mem_map.1 hy
      rw [List.length_map]; exact h3 x hx
    · rw [hyl, hv]
      exact (a7mq hT1).keep fun b hb => hk b (hfp1 b hb).1
  · exact .inr ⟨z1, by rw [← hys, z2]; rfl, z3⟩
theorem a2eq {w : World} {rs : List RW} (hT : ∀ r ∈ rs, RepT w r.1 r.2.1 r.2.2) : (rs.map fun r => tagR r.1 r.2.1).map (List.map Da.u1) = rs.map (·.1) := by
  rw [List.map_map]
  exact List.map_congr_left fun r hr => (hT r hr).tagR.2.1
theorem a5Qq {w : World} {S : Nat → Prop} {β : Nat → OLoc} {l : OLoc} {E es : Nat} {xs : List (List Da)} (h : ObRep w S β l (.tr E es xs)) : ∃ rs : List RW, rs.map (·.1) = xs ∧ (∀ r ∈ rs, RepT w r.1 r.2.1 r.2.2) ∧ (∀ b ∈ (rs.map (·.2.2)).flatten, S b ∧ b ∈ l.clm) ∧ (rs.map (·.2.2)).flatten.Nodup ∧ ObRep w S β l (.lst E es (rs.map fun r => tagR r.1 r.2.1)) := by
  rcases h with ⟨h1, h2, h3, vs, fp, h4, h5, h6, h7⟩ | ⟨z1, rfl, z3⟩
  · obtain ⟨rs, e1, e2, e3, e4⟩ := a8Eq (es := es) h5
    subst e1; subst e3; subst e2
    have hl : ∀ r ∈ rs, (tagR r.1 r.2.1).length = r.1.length := fun r hr => by
      have := congrArg List.length (e4 r hr).tagR.2.1
      simpa using this
    refine ⟨rs, rfl, e4, h6, h7, .inl ⟨h1, by simpa using h2, fun y hy => ?_, _, by simpa using h4, _, a8kq e4, fun b hb => (h6 b hb).1⟩⟩
    obtain ⟨r, hr, rfl⟩ := List.mem_map.1 hy
    rw [hl r hr]; exact h3 _ (List.mem_map.2 ⟨r, hr, rfl⟩)
  · exact ⟨[], rfl, by simp, by simp, by simp, .inr ⟨z1, rfl, z3⟩⟩
section
variable {P : Program} {f : FuncId} {zs : List AV} {E es : Nat} {xs ys : List (List Da)}
theorem a78q {r : AV} (h : ∀ xs' : List (List Da), xs'.map (List.map Da.u1) = xs → ∃ ys', (∃ l, (ys' ++ l).Perm xs') ∧ ys'.map (List.map Da.u1) = ys ∧ XC P f zs [(2000, .lst E es xs')] r [(2000, .lst E es ys')]) : XC P f zs [(2000, .tr E es xs)] r [(2000, .tr E es ys)] := ⟨by
  intro w S β vs hlt hr hin
  have hm : ((2000 : Nat), Ob.tr E es xs) ∈ [((2000 : Nat), Ob.tr E es xs)] := List.mem_singleton.2 rfl
  obtain ⟨rs, e1, hT, hfp, hnd, hL⟩ := a5Qq (hin.ob _ hm)
  subst e1
  obtain ⟨ys', ⟨l0, hperm⟩, hu, hx⟩ := h _ (a2eq hT)
  have hin' : K3q w S β [(2000, .lst E es (rs.map fun r => tagR r.1 r.2.1))] := by
    refine ⟨fun p hp => ?_, fun p hp => ?_, fun p hp q hq => ?_, fun p hp => ?_, fun p hp q hq => ?_⟩
    · rw [List.mem_singleton.1 hp]; exact hL
    · rw [List.mem_singleton.1 hp]; exact hin.own (2000, .tr E es (rs.map (·.1))) hm
    · rw [List.mem_singleton.1 hp, List.mem_singleton.1 hq]; intros; rfl
    · rw [List.mem_singleton.1 hp]; exact hin.clm (2000, .tr E es (rs.map (·.1))) hm
    · rw [List.mem_singleton.1 hp, List.mem_singleton.1 hq]; intros; rfl
  have hpass : ∀ b, i0q [((2000 : Nat), Ob.lst E es (rs.map fun r => tagR r.1 r.2.1))] β b ↔ i0q [((2000 : Nat), Ob.tr E es (rs.map (·.1)))] β b := by
    intro b; simp [i0q]
  have hpc : ∀ b, w6q [((2000 : Nat), Ob.lst E es (rs.map fun r => tagR r.1 r.2.1))] β b ↔ w6q [((2000 : Nat), Ob.tr E es (rs.map (·.1)))] β b := by
    intro b; simp [w6q]
  refine (hx.h w S β vs hlt hr hin').mono ?_
  rintro e w' ⟨v, S', β', rfl, hG, hrep⟩
  have h2000 : β' 2000 = β 2000 := hG.loc 2000 (by simp [v7q])
  have hSn : ∀ b, S b → w'.heap[b]? = w.heap[b]? := fun b hb => hG.block b (hlt b hb) fun hpb => by
    obtain ⟨p, hp, h1⟩ := hpb
    rw [List.mem_singleton.1 hp] at h1
    exact (hin.own _ hm b h1).2 hb
  refine ⟨v, S', β', rfl, ⟨hG.os, hG.tape, hG.output, hG.size, fun b hb hp => hG.block b hb fun h => hp ((hpass b).1 h), hG.sub, fun b hb => ⟨(hG.sup b hb).1, (hG.sup b hb).2.imp id (Or.imp id (hpass b).1)⟩, fun o ho => hG.loc o (by simp [v7q]), fun p hp => ?_, fun p hp b hb => ?_, fun p hp q hq => ?_, fun p hp b hb => ?_, fun p hp q hq => ?_⟩, hrep⟩
  · rw [List.mem_singleton.1 hp]
    exact a9nq hT hfp hnd hperm hu (hG.ob _ (List.mem_singleton.2 rfl)) hSn hG.sub (by rw [h2000])
  · rw [List.mem_singleton.1 hp] at hb
    obtain ⟨h1, h2, h3⟩ := hG.own _ (List.mem_singleton.2 rfl) b hb
    exact ⟨h1, h2, h3.imp id (hpass b).1⟩
  · rw [List.mem_singleton.1 hp, List.mem_singleton.1 hq]; intros; rfl
  · rw [List.mem_singleton.1 hp] at hb
    obtain ⟨h1, h3⟩ := hG.clm _ (List.mem_singleton.2 rfl) b hb
    exact ⟨h1, h3.imp id (Or.imp (hpass b).1 (hpc b).1)⟩
  · rw [List.mem_singleton.1 hp, List.mem_singleton.1 hq]; intros; rfl⟩
theorem a9rq (h : ∀ xs' : List (List Da), xs'.map (List.map Da.u1) = xs → ∃ ys', (∃ l, (ys' ++ l).Perm xs') ∧ ys'.map (List.map Da.u1) = ys ∧ XC P f zs [(2000, .lst E es xs')] (.one (.ol 0)) [(0, .lst E es ys')]) : XC P f zs [(2000, .tr E es xs)] (.one (.ol 0)) [(0, .tr E es ys)] := ⟨by
  intro w S β vs hlt hr hin
  have hm : ((2000 : Nat), Ob.tr E es xs) ∈ [((2000 : Nat), Ob.tr E es xs)] := List.mem_singleton.2 rfl
  obtain ⟨rs, e1, hT, hfp, hnd, hL⟩ := a5Qq (hin.ob _ hm)
  subst e1
  obtain ⟨ys', ⟨l0, hperm⟩, hu, hx⟩ := h _ (a2eq hT)
  have hin' : K3q w S β [(2000, .lst E es (rs.map fun r => tagR r.1 r.2.1))] := by
    refine ⟨fun p hp => ?_, fun p hp => ?_, fun p hp q hq => ?_, fun p hp => ?_, fun p hp q hq => ?_⟩
    · rw [List.mem_singleton.1 hp]; exact hL
    · rw [List.mem_singleton.1 hp]; exact hin.own (2000, .tr E es (rs.map (·.1))) hm
    · rw [List.mem_singleton.1 hp, List.mem_singleton.1 hq]; intros; rfl
    · rw [List.mem_singleton.1 hp]; exact hin.clm (2000, .tr E es (rs.map (·.1))) hm
    · rw [List.mem_singleton.1 hp, List.mem_singleton.1 hq]; intros; rfl
  have hpass : ∀ b, i0q [((2000 : Nat), Ob.lst E es (rs.map fun r => tagR r.1 r.2.1))] β b ↔ i0q [((2000 : Nat), Ob.tr E es (rs.map (·.1)))] β b := by
    intro b; simp [i0q]
  refine (hx.h w S β vs hlt hr hin').mono ?_
  rintro e w' ⟨v, S', β', rfl, hG, hrep⟩
  have hSn : ∀ b, S b → w'.heap[b]? = w.heap[b]? := fun b hb => hG.block b (hlt b hb) fun hpb => by
    obtain ⟨p, hp, h1⟩ := hpb
    rw [List.mem_singleton.1 hp] at h1
    exact (hin.own _ hm b h1).2 hb
  let β2 : Nat → OLoc := fun q => if q = 0 then { β' 0 with clm := (β 2000).clm } else β' q
  have hb0 : β2 0 = { β' 0 with clm := (β 2000).clm } := if_pos rfl
  have hown0 : ∀ b, (β2 0).Own b ↔ (β' 0).Own b := by intro b; rw [hb0]; rfl
  refine ⟨v, S', β2, rfl, ⟨hG.os, hG.tape, hG.output, hG.size, fun b hb hp => hG.block b hb fun h => hp ((hpass b).1 h), hG.sub, fun b hb => ⟨(hG.sup b hb).1, (hG.sup b hb).2.imp id (Or.imp id (hpass b).1)⟩, fun o ho => ?_, fun p hp => ?_, fun p hp b hb => ?_, fun p hp q hq => ?_, fun p hp b hb => ?_, fun p hp q hq => ?_⟩, ?_⟩
  · have h0 : o ≠ 0 := fun e => ho (by simp [v7q, e])
    show (if o = 0 then _ else β' o) = β o
    rw [if_neg h0]
    exact hG.loc o (by simpa [v7q] using h0)
  · rw [List.mem_singleton.1 hp]
    have hX : ObRep w' S' β2 (β2 0) (.lst E es ys') := by
      have := hG.ob _ (List.mem_singleton.2 rfl)
      rw [hb0]
      exact this
    exact a9nq hT hfp hnd hperm hu hX hSn hG.sub (by rw [hb0])
  · rw [List.mem_singleton.1 hp] at hb
    obtain ⟨h1, h2, h3⟩ := hG.own _ (List.mem_singleton.2 rfl) b ((hown0 b).1 hb)
    exact ⟨h1, h2, h3.imp id (hpass b).1⟩
  · rw [List.mem_singleton.1 hp, List.mem_singleton.1 hq]; intros; rfl
  · rw [List.mem_singleton.1 hp] at hb
    have hb : b ∈ (β 2000).clm := by rw [hb0] at hb; exact hb
    have h1 := hin.clm _ hm b hb
    exact ⟨hG.sub b h1, .inr (.inr ⟨_, hm, hb⟩)⟩
  · rw [List.mem_singleton.1 hp, List.mem_singleton.1 hq]; intros; rfl
  · have h1 := hrep.one_inv
    refine RepV.one ?_
    generalize hvv : v = u at h1
    cases h1
    have : (β' 0).sv = (β2 0).sv := by rw [hb0]; rfl
    rw [this]; exact .ol⟩
end
def ObImp (X Y : Ob) : Prop := ∀ (w : World) (S : Nat → Prop) (β : Nat → OLoc) (l : OLoc), ObRep w S β l X → ObRep w S β l Y
inductive ObsImp : List (Nat × Ob) → List (Nat × Ob) → Prop
  | nil : ObsImp [] []
  | cons {k X Y r s} : ObImp X Y → ObsImp r s → ObsImp ((k, X) :: r) ((k, Y) :: s)
theorem ObImp.refl (X : Ob) : ObImp X X := fun _ _ _ _ h => h
theorem ObsImp.keys {I J : List (Nat × Ob)} (h : ObsImp I J) : I.map (·.1) = J.map (·.1) := by induction h <;> simp_all
theorem ObsImp.mem {I J : List (Nat × Ob)} (h : ObsImp I J) {p : Nat × Ob} (hp : p ∈ J) : ∃ X, (p.1, X) ∈ I ∧ ObImp X p.2 := by
  induction h with
  | nil => cases hp
  | @cons k X Y r s h1 _ ih =>
    rcases List.mem_cons.1 hp with rfl | hp
    · exact ⟨X, by simp, h1⟩
    · obtain ⟨X', h2, h3⟩ := ih hp
      exact ⟨X', by simp [h2], h3⟩
theorem ObsImp.mem' {I J : List (Nat × Ob)} (h : ObsImp I J) {p : Nat × Ob} (hp : p ∈ I) : ∃ Y, (p.1, Y) ∈ J := by
  induction h with
  | nil => cases hp
  | @cons k X Y r s _ _ ih =>
    rcases List.mem_cons.1 hp with rfl | hp
    · exact ⟨Y, by simp⟩
    · obtain ⟨Y', h2⟩ := ih hp
      exact ⟨Y', by simp [h2]⟩
theorem XC.imp {P : Program} {f : FuncId} {zs : List AV} {r : AV} {I I' O O' : List (Nat × Ob)} (h : XC P f zs I' r O') (hI : ObsImp I I') (hO : ObsImp O' O) : XC P f zs I r O := ⟨by
  intro w S β vs hlt hr hin
  have hpass : ∀ b, i0q I' β b ↔ i0q I β b := by
    intro b
    constructor
    · rintro ⟨p, hp, h1⟩
      obtain ⟨X, h2, _⟩ := hI.mem hp
      exact ⟨_, h2, h1⟩
    · rintro ⟨p, hp, h1⟩
      obtain ⟨Y, h2⟩ := hI.mem' hp
      exact ⟨_, h2, h1⟩
  have hpc : ∀ b, w6q I' β b ↔ w6q I β b := by
    intro b
    constructor
    · rintro ⟨p, hp, h1⟩
      obtain ⟨X, h2, _⟩ := hI.mem hp
      exact ⟨_, h2, h1⟩
    · rintro ⟨p, hp, h1⟩
      obtain ⟨Y, h2⟩ := hI.mem' hp
      exact ⟨_, h2, h1⟩
  have hin' : K3q w S β I' := by
    refine ⟨fun p hp => ?_, fun p hp b hb => ?_, fun p hp q hq b hb hb' => ?_, fun p hp b hb => ?_, fun p hp q hq b hb hb' => ?_⟩
    · obtain ⟨X, h2, h3⟩ := hI.mem hp
      exact h3 _ _ _ _ (hin.ob _ h2)
    · obtain ⟨X, h2, _⟩ := hI.mem hp
      exact hin.own _ h2 b hb
    · obtain ⟨X, h2, _⟩ := hI.mem hp
      obtain ⟨X', h3, _⟩ := hI.mem hq
      exact hin.sep _ h2 (q.1, X') h3 b hb hb'
    · obtain ⟨X, h2, _⟩ := hI.mem hp
      exact hin.clm _ h2 b hb
    · obtain ⟨X, h2, _⟩ := hI.mem hp
      obtain ⟨X', h3, _⟩ := hI.mem hq
      exact hin.sepc _ h2 (q.1, X') h3 b hb hb'
  have hmv : v7q O' = v7q O := by unfold v7q; rw [hO.keys]
  refine (h.h w S β vs hlt hr hin').mono ?_
  rintro e w' ⟨v, S', β', rfl, hG, hrep⟩
  refine ⟨v, S', β', rfl, ⟨hG.os, hG.tape, hG.output, hG.size, fun b hb hp => hG.block b hb fun h => hp ((hpass b).1 h), hG.sub, fun b hb => ⟨(hG.sup b hb).1, (hG.sup b hb).2.imp id (Or.imp id (hpass b).1)⟩, fun o ho => hG.loc o (by rw [hmv]; exact ho), fun p hp => ?_, fun p hp b hb => ?_, fun p hp q hq b hb hb' => ?_, fun p hp b hb => ?_, fun p hp q hq b hb hb' => ?_⟩, hrep⟩
  · obtain ⟨X, h2, h3⟩ := hO.mem hp
    exact h3 _ _ _ _ (hG.ob _ h2)
  · obtain ⟨X, h2, _⟩ := hO.mem hp
    obtain ⟨g1, g2, g3⟩ := hG.own _ h2 b hb
    exact ⟨g1, g2, g3.imp id (hpass b).1⟩
  · obtain ⟨X, h2, _⟩ := hO.mem hp
    obtain ⟨X', h3, _⟩ := hO.mem hq
    exact hG.sep _ h2 (q.1, X') h3 b hb hb'
  · obtain ⟨X, h2, _⟩ := hO.mem hp
    obtain ⟨g1, g3⟩ := hG.clm _ h2 b hb
    exact ⟨g1, g3.imp id (Or.imp (hpass b).1 (hpc b).1)⟩
  · obtain ⟨X, h2, _⟩ := hO.mem hp
    obtain ⟨X', h3, _⟩ := hO.mem hq
    exact hG.sepc _ h2 (q.1, X') h3 b hb hb'⟩
end AM
end Go.Proofs.Ytajcoogpmockiaa
set_option linter.unusedVariables false
set_option linter.unusedSimpArgs false
set_option maxRecDepth 100000
namespace Go.Proofs.Ytajcoogpmockiaa
namespace AM
open Go Go.ChangeShapes Go.WideShapes Go.RowKit
theorem abSq {c d : Nat} {m : Int} (h : lft c m < 0) (hm : 0 ≤ m) : (-1 : Int) = lft (c + d) m := by unfold lft at h ⊢; split at h <;> split <;> omega
theorem a0Lq {c : Nat} {m : Int} (h : lft c m < 0) (hm : 0 ≤ m) : (-1 : Int) = lft c m := by unfold lft at h ⊢; split at h <;> omega
theorem acIq {c : Nat} {m : Int} (h0 : 0 ≤ m) (h1 : m ≤ 1048576) (hc : c ≤ 281474976710656) (h : IntKind.wrap .i64 (m - (c : Int)) < 0) : (-1 : Int) = lft c m := by
  rw [wrI (by omega) (by omega)] at h
  unfold lft; rw [if_pos (by omega)]
theorem acjq {c : Nat} {m : Int} (h0 : 0 ≤ m) (h1 : m ≤ 1048576) (hc : c ≤ 281474976710656) (h : ¬ IntKind.wrap .i64 (m - (c : Int)) < 0) : IntKind.wrap .i64 (m - (c : Int)) = lft c m := by
  rw [wrI (by omega) (by omega)] at h ⊢
  unfold lft; rw [if_neg (by omega)]
theorem zw {a b : Int} (h : a = b) : Z a = Z b ∧ ([] : List (Nat × Ob)) = [] := ⟨by rw [h], rfl⟩
theorem a66q (l : List Tm) (ih0 : ∀ t ∈ l, ∀ m : Int, 0 ≤ m → m ≤ 1048576 → XC Try.prog 10 [.dat t.da, Z m] [] (Z (lft t.cn m)) []) (left : Int) (h0 : 0 ≤ left) (h1 : left ≤ 1048576) : XC Try.prog 57 [L (Tm.das l), Z left] [] (Z (lft (Tm.cns l) left)) [] := by
  refine w1q fun hfit => ?_
  have hlen : l.length ≤ 281474976710656 := by have := hfit.one.len; rwa [c5q] at this
  apply a2kq
  rw [c5q, wrI (by omega) (by omega)]
  refine i9q (fun h => ⟨?_, rfl⟩) fun h => ?_
  · rw [lft, if_pos (by have := Tm.cns_cnL l ▸ i5q Tm.cn l; omega)]
  · have key := q2q (p := fun i => ∀ m : Int, 0 ≤ m → m ≤ 1048576 → r0q (Z (lft ((l.drop i).map Tm.cn).sum m)) [] (Tm.das l) m (i : Int)) l.length ?_ ?_ 0 (Nat.zero_le _)
    · have := key (left - l.length) (by omega) (by omega)
      have e : lft ((l.drop 0).map Tm.cn).sum (left - l.length) = lft (Tm.cns l) left := by
        rw [List.drop_zero, Tm.cns_cnL, cnL]; unfold lft; split <;> split <;> omega
      rw [e] at this
      exact this
    · intro m hm0 hm1
      apply J5q
      refine a4q (j0q (by rw [c5q]; exact Nat.le_refl _)) ⟨?_, rfl⟩
      simp [lft]; omega
    · intro i hi ih m hm0 hm1
      obtain ⟨x, hx⟩ := g8q hi
      have hx1 := u1q hx
      have hxc := ih0 x (List.mem_of_getElem? hx) m hm0 hm1
      have hdr : ((l.drop i).map Tm.cn).sum = Tm.cn x + ((l.drop (i + 1)).map Tm.cn).sum := by
        obtain ⟨hl, e⟩ := List.getElem?_eq_some_iff.1 hx
        rw [List.drop_eq_getElem_cons hl, e]; simp
      have hle := a02q (n := Tm.cn x) (l := m) (by omega)
      rw [hdr]
      generalize Tm.cn x = cx at *
      obtain ⟨f, v, ks⟩ := x
      apply J5q
      refine b3q (l0q (by rwa [c5q])) ⟨i, rfl, _, _, _, hx1, _, hxc, ?_⟩
      refine i9q (fun h => ⟨?_, rfl⟩) fun h => ?_
      · have := a0Dq h hm0
        rw [show lft (cx + ((l.drop (i + 1)).map Tm.cn).sum) m = -1 by unfold lft at h ⊢; split at h <;> split <;> omega]
      · rw [wr1 hi hlen, ← M6q (by omega)]
        exact ih _ (by omega) (by omega)
theorem Q7q (t : Tm) (m : Int) (h0 : 0 ≤ m) (h1 : m ≤ 1048576) : XC Try.prog 10 [.dat t.da, Z m] [] (Z (lft t.cn m)) [] := by
  induction t using Tm.ind generalizing m with
  | h f v ks ih =>
    apply a32q
    exact ⟨_, a66q ks (fun t ht m h0 h1 => ih t ht m h0 h1) m h0 h1, i9q (fun h => zw (a0Lq h h0)) fun _ => ⟨rfl, rfl⟩⟩
theorem a4Tq (l : List Tm) (ih0 : ∀ t ∈ l, XC Try.prog 16 [.dat t.da, .dat t.da] [] (B true) []) : XC Try.prog 66 [L (Tm.das l), L (Tm.das l)] [] (B true) [] := by
  refine w1q fun hfit => ?_
  have hlen : l.length ≤ 281474976710656 := by have := hfit.one.len; rwa [c5q] at this
  apply a22q
  refine a4q C2q ?_
  refine q2q (p := fun i => r5q (B true) [] (Tm.das l) (Tm.das l) (i : Int)) l.length ?_ (fun i hi ih => ?_) 0 (Nat.zero_le _)
  · apply I8q
    exact a4q (j0q (by rw [c5q]; exact Nat.le_refl _)) ⟨rfl, rfl⟩
  · obtain ⟨x, hx⟩ := g8q hi
    have hx1 := u1q hx
    have hxc := ih0 x (List.mem_of_getElem? hx)
    obtain ⟨f, v, ks⟩ := x
    apply I8q
    refine b3q (l0q (by rwa [c5q])) ⟨i, rfl, _, _, _, hx1, i, rfl, _, _, _, hx1, _, hxc, a4q rfl ?_⟩
    rw [wr1 hi hlen]
    exact ih
theorem R3q (t : Tm) : XC Try.prog 16 [.dat t.da, .dat t.da] [] (B true) [] := by
  induction t using Tm.ind with
  | h f v ks ih =>
    apply a3wq
    exact a4q C2q (a4q C2q ⟨_, a4Tq ks ih, a4q rfl ⟨rfl, rfl⟩⟩)
mutual
def Tm.mkT : Nat → Tm → Tm
  | k, .mk _ _ ks => .mk k ((k + 1 : Nat) : Int) (Tm.mkL (k + 2) ks)
def Tm.mkL : Nat → List Tm → List Tm
  | _, [] => []
  | k, t :: r => Tm.mkT k t :: Tm.mkL (k + 2 + 2 * t.cn) r
end
theorem wrN {k : Nat} (hk : k ≤ 281474976710656) (d : Nat) (hd : d ≤ 1000) : IntKind.wrap .i64 ((k : Int) + (d : Int)) = ((k + d : Nat) : Int) := by
  rw [wrI (by omega) (by omega)]; omega
theorem g1q {α : Type} {P : List α} {x : α} {R : List α} : (P ++ x :: R)[P.length]? = some x := by simp
theorem b7q {α : Type} {P : List α} {x y : α} {R : List α} : (P ++ x :: R).set P.length y = P ++ y :: R := by simp
theorem Tm.len_cns (l : List Tm) : l.length ≤ Tm.cns l := by
  rw [Tm.cns_cnL]; exact i5q _ _
theorem S0q : ∀ (l : List Tm), (∀ t ∈ l, ∀ k : Nat, k + 2 * t.cn ≤ 10000000000000 → XC Try.prog 69 [.one (.ol 2000), Z (k : Int)] [(2000, .mt 31 3 (Tm.das t.ks))] (Z ((k + 2 * t.cn : Nat) : Int)) [(2000, .mt 31 3 (Tm.das (Tm.mkL k t.ks)))]) →
    ∀ (P : List (List Da)) (k : Nat), P.length + l.length ≤ 10000000000000 → k + 2 * Tm.cns l ≤ 10000000000000 → o4q (Z ((k + 2 * Tm.cns l : Nat) : Int)) [(2000, .mt 31 3 (P ++ Tm.das (Tm.mkL k l)))] (k : Int) (P.length : Int) (P ++ Tm.das l)
  | [], _, P, k, _, _ => by
    apply D9q
    refine a4q (decide_eq_false (by simp [Tm.das])) ⟨by simp [Tm.cns], by simp [Tm.mkL]⟩
  | .mk f v ks :: r, ih0, P, k, hl, hk => by
    have hcn : Tm.cns (.mk f v ks :: r) = 1 + Tm.cns ks + Tm.cns r := rfl
    rw [hcn] at hk
    simp only [List.length_cons] at hl
    have e1 : Tm.das (.mk f v ks :: r) = [.int .i64 f, .int .i64 v, .sl (Tm.das ks)] :: Tm.das r := rfl
    apply D9q
    rw [e1]
    have w1 : IntKind.wrap .i64 ((k : Int) + 1) = ((k + 1 : Nat) : Int) := wrN (by omega) 1 (by omega)
    have w2 : IntKind.wrap .i64 (((k + 1 : Nat) : Int) + 1) = ((k + 2 : Nat) : Int) := wrN (by omega) 1 (by omega)
    have w3 : IntKind.wrap .i64 ((P.length : Int) + 1) = ((P.length + 1 : Nat) : Int) := wrN (by omega) 1 (by omega)
    rw [w1, w2, w3]
    have hlen : ∀ y : List Da, P.length < (P ++ y :: Tm.das r).length := fun y => by simp
    have hm := ih0 (.mk f v ks) (by simp) (k + 2) (by simp only [Tm.cn]; omega)
    refine b3q (decide_eq_true (by simp; omega)) ⟨P.length, rfl, ⟨hlen _⟩, P.length, rfl, _, _, _, g1q, P.length, rfl, ⟨by rw [b7q]; exact hlen _⟩, P.length, rfl, _, _, _, by rw [b7q]; exact g1q, P.length, rfl, ⟨by rw [b7q, b7q]; exact hlen _⟩, P.length, rfl, _, _, _, by rw [b7q, b7q]; exact g1q, fun _ _ _ => ⟨⟨rfl, rfl, rfl⟩, _, _, _, by rw [b7q, b7q]; exact g1q, ⟨fun y hy => ?_⟩, _, _, hm, ?_⟩⟩
    · rw [Tm.das_map] at hy
      obtain ⟨t, _, rfl⟩ := List.mem_map.1 hy
      exact Tm.da_len t
    · rw [b7q, b7q, b7q]
      have ih := S0q r (fun t ht => ih0 t (List.mem_cons_of_mem _ ht)) (P ++ [[.int .i64 (k : Int), .int .i64 ((k + 1 : Nat) : Int), .sl (Tm.das (Tm.mkL (k + 2) ks))]]) (k + 2 + 2 * Tm.cns ks) (by simp; omega) (by omega)
      have e2 : Tm.das (Tm.mkL k (.mk f v ks :: r)) = [.int .i64 (k : Int), .int .i64 ((k + 1 : Nat) : Int), .sl (Tm.das (Tm.mkL (k + 2) ks))] :: Tm.das (Tm.mkL (k + 2 + 2 * Tm.cns ks) r) := rfl
      have e3 : k + 2 * Tm.cns (.mk f v ks :: r) = k + 2 + 2 * Tm.cns ks + 2 * Tm.cns r := by rw [hcn]; omega
      rw [e2, e3]
      simpa [List.append_assoc, Tm.cn, Tm.ks] using ih
theorem G9q (t : Tm) : ∀ k : Nat, k + 2 * t.cn ≤ 10000000000000 → XC Try.prog 69 [.one (.ol 2000), Z (k : Int)] [(2000, .mt 31 3 (Tm.das t.ks))] (Z ((k + 2 * t.cn : Nat) : Int)) [(2000, .mt 31 3 (Tm.das (Tm.mkL k t.ks)))] := by
  induction t using Tm.ind with
  | h f v ks ih =>
  intro k hk
  apply a0Zq
  have h1 := Tm.len_cns ks
  have h2 : (Tm.mk f v ks).cn = Tm.cns ks := rfl
  rw [h2] at hk ⊢
  have := S0q ks (fun t ht => ih t ht) [] k (by simp; omega) hk
  simpa [Tm.ks] using this
theorem S8q : ∀ (l : List Tm), (∀ t ∈ l, ∀ k : Nat, k + 2 * t.cn ≤ 10000000000000 → XC Try.prog 70 [L (Tm.das (Tm.mkL k t.ks)), Z (k : Int)] [] (Z ((k + 2 * t.cn : Nat) : Int)) []) →
    ∀ (P : List (List Da)) (k : Nat), P.length + l.length ≤ 10000000000000 → k + 2 * Tm.cns l ≤ 10000000000000 → o7q (Z ((k + 2 * Tm.cns l : Nat) : Int)) [] (P ++ Tm.das (Tm.mkL k l)) (k : Int) (P.length : Int)
  | [], _, P, k, _, _ => by
    apply E0q
    refine a4q (decide_eq_false (by simp [Tm.das, Tm.mkL])) ⟨by simp [Tm.cns], rfl⟩
  | .mk f v ks :: r, ih0, P, k, hl, hk => by
    have hcn : Tm.cns (.mk f v ks :: r) = 1 + Tm.cns ks + Tm.cns r := rfl
    rw [hcn] at hk
    simp only [List.length_cons] at hl
    have e2 : Tm.das (Tm.mkL k (.mk f v ks :: r)) = [.int .i64 (k : Int), .int .i64 ((k + 1 : Nat) : Int), .sl (Tm.das (Tm.mkL (k + 2) ks))] :: Tm.das (Tm.mkL (k + 2 + 2 * Tm.cns ks) r) := rfl
    apply E0q
    rw [e2]
    have w1 : IntKind.wrap .i64 ((k : Int) + 1) = ((k + 1 : Nat) : Int) := wrN (by omega) 1 (by omega)
    have w2 : IntKind.wrap .i64 (((k + 1 : Nat) : Int) + 1) = ((k + 2 : Nat) : Int) := wrN (by omega) 1 (by omega)
    have w3 : IntKind.wrap .i64 ((P.length : Int) + 1) = ((P.length + 1 : Nat) : Int) := wrN (by omega) 1 (by omega)
    rw [w1, w2, w3]
    have hm := ih0 (.mk f v ks) (by simp) (k + 2) (by simp only [Tm.cn]; omega)
    refine b3q (decide_eq_true (by simp; omega)) ⟨P.length, rfl, _, _, _, g1q, a4q (by simp) ⟨P.length, rfl, _, _, _, g1q, a4q (by simp) ⟨P.length, rfl, _, _, _, g1q, _, hm, a4q (decide_eq_false (by omega)) ?_⟩⟩⟩
    have ih := S8q r (fun t ht => ih0 t (List.mem_cons_of_mem _ ht)) (P ++ [[.int .i64 (k : Int), .int .i64 ((k + 1 : Nat) : Int), .sl (Tm.das (Tm.mkL (k + 2) ks))]]) (k + 2 + 2 * Tm.cns ks) (by simp; omega) (by omega)
    have e3 : k + 2 * Tm.cns (.mk f v ks :: r) = k + 2 + 2 * Tm.cns ks + 2 * Tm.cns r := by rw [hcn]; omega
    rw [e3]
    simpa [List.append_assoc, Tm.cn, Tm.ks] using ih
theorem T1q (t : Tm) : ∀ k : Nat, k + 2 * t.cn ≤ 10000000000000 → XC Try.prog 70 [L (Tm.das (Tm.mkL k t.ks)), Z (k : Int)] [] (Z ((k + 2 * t.cn : Nat) : Int)) [] := by
  induction t using Tm.ind with
  | h f v ks ih =>
  intro k hk
  apply a0Vq
  have h1 := Tm.len_cns ks
  have h2 : (Tm.mk f v ks).cn = Tm.cns ks := rfl
  rw [h2] at hk ⊢
  have := S8q ks (fun t ht => ih t ht) [] k (by simp; omega) hk
  simpa [Tm.ks] using this
theorem a4bq (l : List Tm) (hc : Tm.cns l ≤ 1048576) (ih0 : ∀ t ∈ l, t.cn ≤ 1048576 → XC Try.prog 13 [.dat t.da] [] (.agg [.d (.int .i64 t.f), .d (.int .i64 t.v), .ol 0]) [(0, .tr 31 3 (Tm.das t.ks))]) : XC Try.prog 62 [L (Tm.das l)] [] (.one (.ol 0)) [(0, .tr 31 3 (Tm.das l))] := by
  have hl := Tm.cns_cnL l ▸ i5q Tm.cn l
  apply a2Cq
  refine ⟨l.length, l.length, by rw [c5q], by rw [c5q], ⟨by omega, by omega, by omega⟩, ?_⟩
  have key := q2q (p := fun i => r7q (.one (.ol 0)) [(0, .tr 31 3 (Tm.das l))] (Tm.das l) (i : Int) ((Tm.das l).take i ++ List.replicate ((Tm.das l).length - i) [.int .i64 0, .int .i64 0, .sl []])) l.length ?_ ?_ 0 (Nat.zero_le _)
  · rw [List.take_zero, List.nil_append, Nat.sub_zero, c5q] at key
    exact key
  · apply I5q
    refine a4q (j0q (by rw [c5q]; exact Nat.le_refl _)) ⟨rfl, ?_⟩
    rw [V0q rfl (by rw [c5q]; exact Nat.le_refl _)]
  · intro i hi ih
    obtain ⟨x, hx⟩ := g8q hi
    have hx1 := u1q hx
    have hm := Tm.cns_cnL l ▸ o1q (cn := Tm.cn) (List.mem_of_getElem? hx)
    have hxc := ih0 x (List.mem_of_getElem? hx) (by omega)
    have hd := Tm.da_len x
    obtain ⟨f, v, ks⟩ := x
    apply I5q
    refine b3q (l0q (by rwa [c5q])) ⟨i, rfl, _, _, _, hx1, _, _, _, hxc, i, rfl, ⟨by rw [List.length_append, List.length_take, List.length_replicate, c5q]; omega⟩, i, by omega, _, _, _, X0q rfl (by rwa [c5q]), ?_⟩
    rw [wr1 hi (by omega)]
    have he := O6q (z := [.int .i64 0, .int .i64 0, .sl []]) (n := (Tm.das l).length) rfl hx1 hd rfl
    exact he ▸ ih
theorem N7q (t : Tm) (hc : t.cn ≤ 1048576) : XC Try.prog 13 [.dat t.da] [] (.agg [.d (.int .i64 t.f), .d (.int .i64 t.v), .ol 0]) [(0, .tr 31 3 (Tm.das t.ks))] := by
  induction t using Tm.ind with
  | h f v ks ih =>
    apply a3vq
    exact ⟨_, a4bq ks hc ih, rfl, rfl⟩
theorem a1aq (f v : Int) (ks : List Tm) (hc : ks.length ≤ 1200000000000) : ∀ (q p : List Tm), ks = p ++ q → (∀ t ∈ q, XC Try.prog 100 [.dat t.da] [] (.dat t.da) []) → t7q (.dat (Tm.mk f v ks).da) [] (p.length : Int) f v (Tm.das ks) 0 0 f v (Tm.das p)
  | [], p, e, _ => by
    subst e
    apply K4q
    rw [List.append_nil]
    exact a4q (decide_eq_false (by rw [c5q]; omega)) ⟨rfl, rfl⟩
  | t :: q, p, e, ih0 => by
    have hpl : p.length < ks.length := by rw [e]; simp
    have hx : (Tm.das ks)[p.length]? = some t.da := u1q (by rw [e]; exact g1q)
    have hcall := ih0 t (by simp)
    obtain ⟨g, u, ls⟩ := t
    apply K4q
    refine b3q (decide_eq_true (by rw [c5q]; omega)) ⟨p.length, rfl, _, _, _, hx, _, _, _, hcall, ⟨by rw [c5q]; simp; omega⟩, ?_⟩
    rw [wr1 hpl (by omega)]
    have ih := a1aq f v ks hc q (p ++ [.mk g u ls]) (by rw [e]; simp) fun t ht => ih0 t (List.mem_cons_of_mem _ ht)
    have e2 : Tm.das (p ++ [.mk g u ls]) = Tm.das p ++ [[.int .i64 g, .int .i64 u, .sl (Tm.das ls)]] := by rw [Tm.das_map, Tm.das_map]; simp [Tm.da]
    rw [e2] at ih
    simpa [Tm.f, Tm.v, Tm.ks] using ih
theorem a6lq (t : Tm) (hc : t.cn ≤ 1200000000000) : XC Try.prog 100 [.dat t.da] [] (.dat t.da) [] := by
  induction t using Tm.ind with
  | h f v ks ih =>
    have h1 := Tm.len_cns ks
    have h2 : (Tm.mk f v ks).cn = Tm.cns ks := rfl
    apply a3fq
    refine a1aq f v ks (by omega) ks [] rfl fun t ht => ih t ht ?_
    have := o1q (cn := Tm.cn) ht
    rw [← Tm.cns_cnL] at this
    omega
theorem T8q (ks : List Tm) (hc : ks.length ≤ 1200000000000) : ∀ (q p : List Tm), ks = p ++ q → (∀ t ∈ q, XC Try.prog 76 [.dat t.da] [] (.agg [.d (.int .i64 t.f), .d (.int .i64 t.v), .ol 0]) [(0, .tr 31 3 (Tm.das t.ks))]) → o6q (.one (.ol 0)) [(0, .tr 31 3 (Tm.das ks))] (Tm.das ks) (ks.length : Int) (p.length : Int) (Tm.das p)
  | [], p, e, _ => by
    subst e
    apply F5q
    rw [List.append_nil]
    exact a4q (decide_eq_false (by omega)) ⟨rfl, rfl⟩
  | t :: q, p, e, ih0 => by
    have hpl : p.length < ks.length := by rw [e]; simp
    have hx : (Tm.das ks)[p.length]? = some t.da := u1q (by rw [e]; exact g1q)
    have hcall := ih0 t (by simp)
    obtain ⟨g, u, ls⟩ := t
    apply F5q
    refine b3q (decide_eq_true (by omega)) ⟨p.length, rfl, _, _, _, hx, _, _, _, hcall, ⟨by rw [c5q]; simp; omega⟩, ?_⟩
    rw [wr1 hpl (by omega)]
    have ih := T8q ks hc q (p ++ [.mk g u ls]) (by rw [e]; simp) fun t ht => ih0 t (List.mem_cons_of_mem _ ht)
    have e2 : Tm.das (p ++ [.mk g u ls]) = Tm.das p ++ [[.int .i64 g, .int .i64 u, .sl (Tm.das ls)]] := by rw [Tm.das_map, Tm.das_map]; simp [Tm.da]
    rw [e2] at ih
    simpa [Tm.f, Tm.v, Tm.ks] using ih
theorem a4xq (t : Tm) (hc : t.cn ≤ 1200000000000) : XC Try.prog 76 [.dat t.da] [] (.agg [.d (.int .i64 t.f), .d (.int .i64 t.v), .ol 0]) [(0, .tr 31 3 (Tm.das t.ks))] := by
  induction t using Tm.ind with
  | h f v ks ih =>
    have h1 := Tm.len_cns ks
    have h2 : (Tm.mk f v ks).cn = Tm.cns ks := rfl
    apply a1Pq
    refine ⟨_, a12q ?_, rfl, rfl⟩
    rw [c5q]
    refine T8q ks (by omega) ks [] rfl fun t ht => ih t ht ?_
    have := o1q (cn := Tm.cn) ht
    rw [← Tm.cns_cnL] at this
    omega
theorem a7oq (x : Li) (m : Int) (h0 : 0 ≤ m) (h1 : m ≤ 1048576) : XC Try.prog 31 [.dat x.da, Z m] [] (Z (lft x.cn m)) [] := by
  obtain ⟨p, ⟨f, u, ks⟩, ⟨g, v, ms⟩⟩ := x
  apply a4jq
  have hle := a02q (n := Tm.cn (.mk f u ks)) (l := m) (by omega)
  refine ⟨_, Q7q (.mk f u ks) m h0 h1, i9q (fun h => zw (abSq h h0)) fun h => ⟨_, Q7q (.mk g v ms) _ (by omega) (by omega), i9q (fun h2 => zw ?_) fun h2 => zw ?_⟩⟩
  · have := a0Lq h2 (by omega); rw [M6q (by omega)] at this; exact this
  · rw [M6q (by omega)]; rfl
theorem a8hq (x : Li) : XC Try.prog 36 [.dat x.da, .dat x.da] [] (B true) [] := by
  obtain ⟨p, ⟨f, u, ks⟩, ⟨g, v, ms⟩⟩ := x
  apply a4sq
  exact a4q a6Yq ⟨_, R3q (.mk f u ks), a4q rfl ⟨_, R3q (.mk g v ms), a4q rfl ⟨rfl, rfl⟩⟩⟩
theorem a6Sq (l : List Li) (left : Int) (h0 : 0 ≤ left) (h1 : left ≤ 1048576) : XC Try.prog 41 [L (l.map Li.da), Z left] [] (Z (lft (cnL Li.cn l) left)) [] := by
  refine w1q fun hfit => ?_
  have hlen : l.length ≤ 281474976710656 := by have := hfit.one.len; simpa using this
  apply a2Sq
  rw [List.length_map, wrI (by omega) (by omega)]
  refine i9q (fun h => ⟨?_, rfl⟩) fun h => ?_
  · rw [lft, if_pos (by have := i5q Li.cn l; omega)]
  · have key := q2q (p := fun i => ∀ m : Int, 0 ≤ m → m ≤ 1048576 → u5q (Z (lft ((l.drop i).map Li.cn).sum m)) [] (l.map Li.da) m (i : Int)) l.length ?_ ?_ 0 (Nat.zero_le _)
    · have := key (left - l.length) (by omega) (by omega)
      have e : lft ((l.drop 0).map Li.cn).sum (left - l.length) = lft (cnL Li.cn l) left := by
        rw [List.drop_zero, cnL]; unfold lft; split <;> split <;> omega
      rw [e] at this
      exact this
    · intro m hm0 hm1
      apply L1q
      refine a4q (j0q (by simp)) ⟨?_, rfl⟩
      simp [lft]; omega
    · intro i hi ih m hm0 hm1
      obtain ⟨x, hx⟩ := g8q hi
      have hx1 := t3q (g := Li.da) hx
      have hxc := a7oq x m hm0 hm1
      have hdr : ((l.drop i).map Li.cn).sum = Li.cn x + ((l.drop (i + 1)).map Li.cn).sum := by
        obtain ⟨hl, e⟩ := List.getElem?_eq_some_iff.1 hx
        rw [List.drop_eq_getElem_cons hl, e]; simp
      have hle := a02q (n := Li.cn x) (l := m) (by omega)
      rw [hdr]
      generalize Li.cn x = cx at *
      obtain ⟨p, ⟨f, v, ks⟩, ⟨g, u, ms⟩⟩ := x
      apply L1q
      refine b3q (l0q (by simpa using hi)) ⟨i, rfl, _, _, _, _, _, _, _, hx1, _, hxc, ?_⟩
      refine i9q (fun h => ⟨?_, rfl⟩) fun h => ?_
      · have := a0Dq h hm0
        rw [show lft (cx + ((l.drop (i + 1)).map Li.cn).sum) m = -1 by unfold lft at h ⊢; split at h <;> split <;> omega]
      · rw [wr1 hi hlen, ← M6q (by omega)]
        exact ih _ (by omega) (by omega)
theorem a6dq (l : List Li) : XC Try.prog 46 [L (l.map Li.da), L (l.map Li.da)] [] (B true) [] := by
  refine w1q fun hfit => ?_
  have hlen : l.length ≤ 281474976710656 := by have := hfit.one.len; simpa using this
  apply a3kq
  refine a4q C2q ?_
  refine q2q (p := fun i => u3q (B true) [] (l.map Li.da) (l.map Li.da) (i : Int)) l.length ?_ (fun i hi ih => ?_) 0 (Nat.zero_le _)
  · apply K8q
    exact a4q (j0q (by simp)) ⟨rfl, rfl⟩
  · obtain ⟨x, hx⟩ := g8q hi
    have hx1 := t3q (g := Li.da) hx
    have hxc := a8hq x
    obtain ⟨p, ⟨f, v, ks⟩, ⟨g, u, ms⟩⟩ := x
    apply K8q
    refine b3q (l0q (by simpa using hi)) ⟨i, rfl, _, _, _, _, _, _, _, hx1, i, rfl, _, _, _, _, _, _, _, hx1, _, hxc, a4q rfl ?_⟩
    rw [wr1 hi hlen]
    exact ih
theorem a4pq (x : Cl) (m : Int) (h0 : 0 ≤ m) (h1 : m ≤ 1048576) : XC Try.prog 50 [.dat x.da, Z m] [] (Z (lft x.cn m)) [] := by
  apply a1Gq
  exact ⟨_, a6Sq x.ls m h0 h1, i9q (fun h => zw (a0Lq h h0)) fun _ => ⟨rfl, rfl⟩⟩
theorem Y4q (x : Cl) : XC Try.prog 45 [.dat x.da, .dat x.da] [] (B true) [] := by
  apply a1Eq
  exact ⟨_, a6dq x.ls, a4q rfl ⟨rfl, rfl⟩⟩
def mkLi (k : Nat) (x : Li) : Li := ⟨decide (Int.tmod (k : Int) 3 = 0), .mk ((k + 1 : Nat) : Int) ((k + 2 : Nat) : Int) (Tm.mkL (k + 3) x.l.ks), .mk ((k + 3 + 2 * x.l.cn : Nat) : Int) ((k + 4 + 2 * x.l.cn : Nat) : Int) (Tm.mkL (k + 5 + 2 * x.l.cn) x.r.ks)⟩
def F2q : Nat → List Li → List Li
  | _, [] => []
  | k, x :: r => mkLi k x :: F2q (k + 5 + 2 * x.cn) r
def mkN : List Li → Nat
  | [] => 0
  | x :: r => 5 + 2 * x.cn + mkN r
theorem a8Bq (l : List Li) : mkN l ≤ 5 * cnL Li.cn l := by
  induction l with
  | nil => simp [mkN]
  | cons x r ih => simp only [mkN, cnL, List.length_cons, List.map_cons, List.sum_cons] at ih ⊢; omega
theorem N6q (l : List Tm) : ∀ y ∈ Tm.das l, y.length = 3 := by
  intro y hy
  rw [Tm.das_map] at hy
  obtain ⟨t, _, rfl⟩ := List.mem_map.1 hy
  exact Tm.da_len t
theorem Y8q : ∀ (l : List Li) (P : List (List Da)) (k : Nat), P.length + l.length ≤ 10000000000000 → k + mkN l ≤ 10000000000000 → q0q (Z ((k + mkN l : Nat) : Int)) [(2000, .mt 61 7 (P ++ (F2q k l).map Li.da))] (k : Int) (P.length : Int) (P ++ l.map Li.da)
  | [], P, k, _, _ => by
    apply F9q
    exact a4q (decide_eq_false (by simp)) ⟨by simp [mkN], by simp [F2q]⟩
  | ⟨b, .mk f v ks, .mk g u ms⟩ :: r, P, k, hl, hk => by
    have hN : mkN (⟨b, .mk f v ks, .mk g u ms⟩ :: r) = 5 + 2 * (Tm.cns ks + Tm.cns ms) + mkN r := rfl
    rw [hN] at hk
    simp only [List.length_cons] at hl
    have e1 : (⟨b, .mk f v ks, .mk g u ms⟩ :: r : List Li).map Li.da = [.bool b, .int .i64 f, .int .i64 v, .sl (Tm.das ks), .int .i64 g, .int .i64 u, .sl (Tm.das ms)] :: r.map Li.da := rfl
    apply F9q
    rw [e1]
    have w1 : IntKind.wrap .i64 ((k : Int) + 1) = ((k + 1 : Nat) : Int) := wrN (by omega) 1 (by omega)
    have w2 : IntKind.wrap .i64 (((k + 1 : Nat) : Int) + 1) = ((k + 2 : Nat) : Int) := wrN (by omega) 1 (by omega)
    have w3 : IntKind.wrap .i64 (((k + 2 : Nat) : Int) + 1) = ((k + 3 : Nat) : Int) := wrN (by omega) 1 (by omega)
    have w4 : IntKind.wrap .i64 (((k + 3 + 2 * Tm.cns ks : Nat) : Int) + 1) = ((k + 4 + 2 * Tm.cns ks : Nat) : Int) := by rw [wrI (by omega) (by omega)]; omega
    have w5 : IntKind.wrap .i64 (((k + 4 + 2 * Tm.cns ks : Nat) : Int) + 1) = ((k + 5 + 2 * Tm.cns ks : Nat) : Int) := by rw [wrI (by omega) (by omega)]; omega
    have wp : IntKind.wrap .i64 ((P.length : Int) + 1) = ((P.length + 1 : Nat) : Int) := wrN (by omega) 1 (by omega)
    rw [w1, w2, w3, wp]
    have hlen : ∀ y : List Da, P.length < (P ++ y :: r.map Li.da).length := fun y => by simp
    have hm1 : XC Try.prog 69 [.one (.ol 2000), Z ((k + 3 : Nat) : Int)] [(2000, .mt 31 3 (Tm.das ks))] (Z ((k + 3 + 2 * Tm.cns ks : Nat) : Int)) [(2000, .mt 31 3 (Tm.das (Tm.mkL (k + 3) ks)))] := G9q (.mk f v ks) (k + 3) (by simp only [Tm.cn]; omega)
    have hm2 : XC Try.prog 69 [.one (.ol 2000), Z (IntKind.wrap .i64 (IntKind.wrap .i64 (((k + 3 + 2 * Tm.cns ks : Nat) : Int) + 1) + 1))] [(2000, .mt 31 3 (Tm.das ms))] (Z ((k + 5 + 2 * Tm.cns ks + 2 * Tm.cns ms : Nat) : Int)) [(2000, .mt 31 3 (Tm.das (Tm.mkL (k + 5 + 2 * Tm.cns ks) ms)))] := by
      rw [w4, w5]
      exact G9q (.mk g u ms) (k + 5 + 2 * Tm.cns ks) (by simp only [Tm.cn]; omega)
    refine b3q (decide_eq_true (by simp; omega)) ⟨⟨by decide⟩, P.length, rfl, ⟨hlen _⟩, P.length, rfl, _, _, _, _, _, _, _, g1q,
      P.length, rfl, ⟨by rw [b7q]; exact hlen _⟩, P.length, rfl, _, _, _, _, _, _, _, by rw [b7q]; exact g1q,
      P.length, rfl, ⟨by rw [b7q, b7q]; exact hlen _⟩, P.length, rfl, _, _, _, _, _, _, _, by rw [b7q, b7q]; exact g1q,
      P.length, rfl, ⟨by rw [b7q, b7q, b7q]; exact hlen _⟩, P.length, rfl, _, _, _, _, _, _, _, by rw [b7q, b7q, b7q]; exact g1q, fun _ _ _ => ⟨⟨rfl, rfl, rfl⟩, _, _, _, _, _, _, _, by rw [b7q, b7q, b7q]; exact g1q, ⟨N6q _⟩, _, _, hm1,
      P.length, rfl, ⟨by rw [b7q, b7q, b7q, b7q]; exact hlen _⟩, P.length, rfl, _, _, _, _, _, _, _, by rw [b7q, b7q, b7q, b7q]; exact g1q,
      P.length, rfl, ⟨by rw [b7q, b7q, b7q, b7q, b7q]; exact hlen _⟩, P.length, rfl, _, _, _, _, _, _, _, by rw [b7q, b7q, b7q, b7q, b7q]; exact g1q,
      P.length, rfl, ⟨by rw [b7q, b7q, b7q, b7q, b7q, b7q]; exact hlen _⟩, P.length, rfl, _, _, _, _, _, _, _, by rw [b7q, b7q, b7q, b7q, b7q, b7q]; exact g1q, fun _ _ _ => ⟨⟨rfl, rfl, rfl⟩, _, _, _, _, _, _, _, by rw [b7q, b7q, b7q, b7q, b7q, b7q]; exact g1q, ⟨N6q _⟩, _, _, hm2, ?_⟩⟩⟩
    rw [b7q, b7q, b7q, b7q, b7q, b7q, b7q, w4]
    have ih := Y8q r (P ++ [[.bool (decide (Int.tmod (k : Int) 3 = 0)), .int .i64 ((k + 1 : Nat) : Int), .int .i64 ((k + 2 : Nat) : Int), .sl (Tm.das (Tm.mkL (k + 3) ks)), .int .i64 ((k + 3 + 2 * Tm.cns ks : Nat) : Int), .int .i64 ((k + 4 + 2 * Tm.cns ks : Nat) : Int), .sl (Tm.das (Tm.mkL (k + 5 + 2 * Tm.cns ks) ms))]]) (k + 5 + 2 * (Tm.cns ks + Tm.cns ms)) (by simp; omega) (by omega)
    have e2 : (F2q k (⟨b, .mk f v ks, .mk g u ms⟩ :: r)).map Li.da = [.bool (decide (Int.tmod (k : Int) 3 = 0)), .int .i64 ((k + 1 : Nat) : Int), .int .i64 ((k + 2 : Nat) : Int), .sl (Tm.das (Tm.mkL (k + 3) ks)), .int .i64 ((k + 3 + 2 * Tm.cns ks : Nat) : Int), .int .i64 ((k + 4 + 2 * Tm.cns ks : Nat) : Int), .sl (Tm.das (Tm.mkL (k + 5 + 2 * Tm.cns ks) ms))] :: (F2q (k + 5 + 2 * (Tm.cns ks + Tm.cns ms)) r).map Li.da := rfl
    rw [e2, hN, show k + (5 + 2 * (Tm.cns ks + Tm.cns ms) + mkN r) = k + 5 + 2 * (Tm.cns ks + Tm.cns ms) + mkN r by omega, show k + 5 + 2 * Tm.cns ks + 2 * Tm.cns ms = k + 5 + 2 * (Tm.cns ks + Tm.cns ms) by omega]
    have e4 : (P ++ [[Da.bool (decide (Int.tmod (k : Int) 3 = 0)), .int .i64 ((k + 1 : Nat) : Int), .int .i64 ((k + 2 : Nat) : Int), .sl (Tm.das (Tm.mkL (k + 3) ks)), .int .i64 ((k + 3 + 2 * Tm.cns ks : Nat) : Int), .int .i64 ((k + 4 + 2 * Tm.cns ks : Nat) : Int), .sl (Tm.das (Tm.mkL (k + 5 + 2 * Tm.cns ks) ms))]]).length = P.length + 1 := by simp
    rw [e4, List.append_assoc, List.append_assoc] at ih
    exact ih
theorem O9q (x : Cl) (k : Nat) (h1 : x.ls.length ≤ 1000000000000) (hk : k + mkN x.ls ≤ 10000000000000) : XC Try.prog 48 [.agg [.ol 2000], Z (k : Int)] [(2000, .mt 61 7 (x.ls.map Li.da))] (Z ((k + mkN x.ls : Nat) : Int)) [(2000, .mt 61 7 ((F2q k x.ls).map Li.da))] := by
  apply a04q
  refine ⟨_, _, a1tq ?_, rfl, rfl⟩
  have := Y8q x.ls [] k (by simp; omega) hk
  simpa using this
theorem Y1q : ∀ (l : List Li) (P : List (List Da)) (k : Nat), P.length + l.length ≤ 10000000000000 → k + mkN l ≤ 10000000000000 → p8q (Z ((k + mkN l : Nat) : Int)) [] (P ++ (F2q k l).map Li.da) (k : Int) (P.length : Int)
  | [], P, k, _, _ => by
    apply G0q
    exact a4q (decide_eq_false (by simp [F2q])) ⟨by simp [mkN], rfl⟩
  | ⟨b, .mk f v ks, .mk g u ms⟩ :: r, P, k, hl, hk => by
    have hN : mkN (⟨b, .mk f v ks, .mk g u ms⟩ :: r) = 5 + 2 * (Tm.cns ks + Tm.cns ms) + mkN r := rfl
    rw [hN] at hk
    simp only [List.length_cons] at hl
    have e2 : (F2q k (⟨b, .mk f v ks, .mk g u ms⟩ :: r)).map Li.da = [.bool (decide (Int.tmod (k : Int) 3 = 0)), .int .i64 ((k + 1 : Nat) : Int), .int .i64 ((k + 2 : Nat) : Int), .sl (Tm.das (Tm.mkL (k + 3) ks)), .int .i64 ((k + 3 + 2 * Tm.cns ks : Nat) : Int), .int .i64 ((k + 4 + 2 * Tm.cns ks : Nat) : Int), .sl (Tm.das (Tm.mkL (k + 5 + 2 * Tm.cns ks) ms))] :: (F2q (k + 5 + 2 * (Tm.cns ks + Tm.cns ms)) r).map Li.da := rfl
    apply G0q
    rw [e2]
    have w1 : IntKind.wrap .i64 ((k : Int) + 1) = ((k + 1 : Nat) : Int) := wrN (by omega) 1 (by omega)
    have w2 : IntKind.wrap .i64 (((k + 1 : Nat) : Int) + 1) = ((k + 2 : Nat) : Int) := wrN (by omega) 1 (by omega)
    have w3 : IntKind.wrap .i64 (((k + 2 : Nat) : Int) + 1) = ((k + 3 : Nat) : Int) := wrN (by omega) 1 (by omega)
    have w4 : IntKind.wrap .i64 (((k + 3 + 2 * Tm.cns ks : Nat) : Int) + 1) = ((k + 4 + 2 * Tm.cns ks : Nat) : Int) := by rw [wrI (by omega) (by omega)]; omega
    have w5 : IntKind.wrap .i64 (((k + 4 + 2 * Tm.cns ks : Nat) : Int) + 1) = ((k + 5 + 2 * Tm.cns ks : Nat) : Int) := by rw [wrI (by omega) (by omega)]; omega
    have wp : IntKind.wrap .i64 ((P.length : Int) + 1) = ((P.length + 1 : Nat) : Int) := wrN (by omega) 1 (by omega)
    rw [w1, w2, w3, wp]
    have hm1 : XC Try.prog 70 [L (Tm.das (Tm.mkL (k + 3) ks)), Z ((k + 3 : Nat) : Int)] [] (Z ((k + 3 + 2 * Tm.cns ks : Nat) : Int)) [] := T1q (.mk f v ks) (k + 3) (by simp only [Tm.cn]; omega)
    have hm2 : XC Try.prog 70 [L (Tm.das (Tm.mkL (k + 5 + 2 * Tm.cns ks) ms)), Z (IntKind.wrap .i64 (IntKind.wrap .i64 (((k + 3 + 2 * Tm.cns ks : Nat) : Int) + 1) + 1))] [] (Z ((k + 5 + 2 * Tm.cns ks + 2 * Tm.cns ms : Nat) : Int)) [] := by
      rw [w4, w5]
      exact T1q (.mk g u ms) (k + 5 + 2 * Tm.cns ks) (by simp only [Tm.cn]; omega)
    refine b3q (decide_eq_true (by simp; omega)) ⟨P.length, rfl, _, _, _, _, _, _, _, g1q, ⟨by decide⟩, a4q (by simp) ⟨P.length, rfl, _, _, _, _, _, _, _, g1q, a4q (by simp) ⟨P.length, rfl, _, _, _, _, _, _, _, g1q, a4q (by simp)
      ⟨P.length, rfl, _, _, _, _, _, _, _, g1q, _, hm1, a4q (decide_eq_false (by omega)) ⟨P.length, rfl, _, _, _, _, _, _, _, g1q, a4q (by simp) ⟨P.length, rfl, _, _, _, _, _, _, _, g1q, a4q (by rw [w4]; simp) ⟨P.length, rfl, _, _, _, _, _, _, _, g1q, _, hm2, a4q (decide_eq_false (by omega)) ?_⟩⟩⟩⟩⟩⟩⟩
    have ih := Y1q r (P ++ [[.bool (decide (Int.tmod (k : Int) 3 = 0)), .int .i64 ((k + 1 : Nat) : Int), .int .i64 ((k + 2 : Nat) : Int), .sl (Tm.das (Tm.mkL (k + 3) ks)), .int .i64 ((k + 3 + 2 * Tm.cns ks : Nat) : Int), .int .i64 ((k + 4 + 2 * Tm.cns ks : Nat) : Int), .sl (Tm.das (Tm.mkL (k + 5 + 2 * Tm.cns ks) ms))]]) (k + 5 + 2 * (Tm.cns ks + Tm.cns ms)) (by simp; omega) (by omega)
    rw [hN, show k + (5 + 2 * (Tm.cns ks + Tm.cns ms) + mkN r) = k + 5 + 2 * (Tm.cns ks + Tm.cns ms) + mkN r by omega, show k + 5 + 2 * Tm.cns ks + 2 * Tm.cns ms = k + 5 + 2 * (Tm.cns ks + Tm.cns ms) by omega]
    have e4 : (P ++ [[Da.bool (decide (Int.tmod (k : Int) 3 = 0)), .int .i64 ((k + 1 : Nat) : Int), .int .i64 ((k + 2 : Nat) : Int), .sl (Tm.das (Tm.mkL (k + 3) ks)), .int .i64 ((k + 3 + 2 * Tm.cns ks : Nat) : Int), .int .i64 ((k + 4 + 2 * Tm.cns ks : Nat) : Int), .sl (Tm.das (Tm.mkL (k + 5 + 2 * Tm.cns ks) ms))]]).length = P.length + 1 := by simp
    rw [e4, List.append_assoc] at ih
    exact ih
theorem a2zq (x : Cl) (k : Nat) (h1 : x.ls.length ≤ 1000000000000) (hk : k + mkN x.ls ≤ 10000000000000) : XC Try.prog 49 [.dat [.sl ((F2q k x.ls).map Li.da)], Z (k : Int)] [] (Z ((k + mkN x.ls : Nat) : Int)) [] := by
  apply a0kq
  refine ⟨_, a1Cq ?_, a4q (decide_eq_false (by omega)) ⟨rfl, rfl⟩⟩
  have := Y1q x.ls [] k (by simp; omega) hk
  simpa using this
theorem a6gq (x : Li) (hc : x.cn ≤ 1048576) : XC Try.prog 34 [.dat x.da] [] (.agg [.d (.bool x.p), .d (.int .i64 x.l.f), .d (.int .i64 x.l.v), .ol 0, .d (.int .i64 x.r.f), .d (.int .i64 x.r.v), .ol 1]) [(0, .tr 31 3 (Tm.das x.l.ks)), (1, .tr 31 3 (Tm.das x.r.ks))] := by
  have h0 : x.cn = x.l.cn + x.r.cn := rfl
  have h1 := N7q x.l (by omega)
  have h2 := N7q x.r (by omega)
  obtain ⟨p, ⟨f, v, ks⟩, ⟨g, u, ms⟩⟩ := x
  apply a4Eq
  exact ⟨_, _, _, h1, _, _, _, h2, rfl, rfl⟩
theorem a5Uq (l : List Li) (hc : cnL Li.cn l ≤ 1048576) : XC Try.prog 43 [L (l.map Li.da)] [] (.one (.ol 0)) [(0, .tr 61 7 (l.map Li.da))] := by
  have hl := i5q Li.cn l
  apply a3rq
  refine ⟨l.length, l.length, by simp, by simp, ⟨by omega, by omega, by omega⟩, ?_⟩
  have key := q2q (p := fun i => t6q (.one (.ol 0)) [(0, .tr 61 7 (l.map Li.da))] (l.map Li.da) (i : Int) ((l.map Li.da).take i ++ List.replicate ((l.map Li.da).length - i) [.bool false, .int .i64 0, .int .i64 0, .sl [], .int .i64 0, .int .i64 0, .sl []])) l.length ?_ ?_ 0 (Nat.zero_le _)
  · rw [List.take_zero, List.nil_append, Nat.sub_zero, List.length_map] at key
    exact key
  · apply L3q
    refine a4q (j0q (by simp)) ⟨rfl, ?_⟩
    rw [V0q rfl (by simp)]
  · intro i hi ih
    obtain ⟨x, hx⟩ := g8q hi
    have hx1 := t3q (g := Li.da) hx
    have hm := o1q (cn := Li.cn) (List.mem_of_getElem? hx)
    have hxc := a6gq x (by omega)
    have hd := Li.da_len x
    obtain ⟨p, ⟨f, v, ks⟩, ⟨g, u, ms⟩⟩ := x
    apply L3q
    refine b3q (l0q (by simpa using hi)) ⟨i, rfl, _, _, _, _, _, _, _, hx1, _, _, _, _, _, _, _, hxc, i, rfl, ⟨by simp; omega⟩, i, by omega, _, _, _, _, _, _, _, X0q rfl (by simpa using hi), ?_⟩
    rw [wr1 hi (by omega)]
    have he := O6q (z := [.bool false, .int .i64 0, .int .i64 0, .sl [], .int .i64 0, .int .i64 0, .sl []]) (n := (l.map Li.da).length) rfl hx1 hd rfl
    exact he ▸ ih
theorem a34q (x : Cl) (hc : x.cn ≤ 1048576) : XC Try.prog 52 [.dat x.da] [] (.agg [.ol 0]) [(0, .tr 61 7 (x.ls.map Li.da))] := by
  obtain ⟨ls⟩ := x
  apply a1Bq
  exact ⟨_, a5Uq ls hc, rfl, rfl⟩
theorem a7aq (x : Sy) (m : Int) (h0 : 0 ≤ m) (h1 : m ≤ 1048576) : XC Try.prog 56 [.dat x.da, Z m] [] (Z (lft x.cn m)) [] := by
  refine w1q fun hfit => ?_
  have hlen : x.nm.size ≤ 281474976710656 := hfit.dat.str
  apply a4lq
  exact i9q (fun h => zw (acIq h0 h1 hlen h)) fun h => zw (acjq h0 h1 hlen h)
theorem a7sq (x : Sy) : XC Try.prog 67 [.dat x.da, .dat x.da] [] (B true) [] := by
  apply a4yq
  exact a4q abbq (a4q C2q (a4q a6Yq ⟨rfl, rfl⟩))
theorem a69q (l : List Sy) (left : Int) (h0 : 0 ≤ left) (h1 : left ≤ 1048576) : XC Try.prog 9 [L (l.map Sy.da), Z left] [] (Z (lft (cnL Sy.cn l) left)) [] := by
  refine w1q fun hfit => ?_
  have hlen : l.length ≤ 281474976710656 := by have := hfit.one.len; simpa using this
  apply a3qq
  rw [List.length_map, wrI (by omega) (by omega)]
  refine i9q (fun h => ⟨?_, rfl⟩) fun h => ?_
  · rw [lft, if_pos (by have := i5q Sy.cn l; omega)]
  · have key := q2q (p := fun i => ∀ m : Int, 0 ≤ m → m ≤ 1048576 → u2q (Z (lft ((l.drop i).map Sy.cn).sum m)) [] (l.map Sy.da) m (i : Int)) l.length ?_ ?_ 0 (Nat.zero_le _)
    · have := key (left - l.length) (by omega) (by omega)
      have e : lft ((l.drop 0).map Sy.cn).sum (left - l.length) = lft (cnL Sy.cn l) left := by
        rw [List.drop_zero, cnL]; unfold lft; split <;> split <;> omega
      rw [e] at this
      exact this
    · intro m hm0 hm1
      apply K6q
      refine a4q (j0q (by simp)) ⟨?_, rfl⟩
      simp [lft]; omega
    · intro i hi ih m hm0 hm1
      obtain ⟨x, hx⟩ := g8q hi
      have hx1 := t3q (g := Sy.da) hx
      have hxc := a7aq x m hm0 hm1
      have hdr : ((l.drop i).map Sy.cn).sum = Sy.cn x + ((l.drop (i + 1)).map Sy.cn).sum := by
        obtain ⟨hl, e⟩ := List.getElem?_eq_some_iff.1 hx
        rw [List.drop_eq_getElem_cons hl, e]; simp
      have hle := a02q (n := Sy.cn x) (l := m) (by omega)
      rw [hdr]
      generalize Sy.cn x = cx at *
      obtain ⟨nm, ar, ac⟩ := x
      apply K6q
      refine b3q (l0q (by simpa using hi)) ⟨i, rfl, _, _, _, hx1, _, hxc, ?_⟩
      refine i9q (fun h => ⟨?_, rfl⟩) fun h => ?_
      · have := a0Dq h hm0
        rw [show lft (cx + ((l.drop (i + 1)).map Sy.cn).sum) m = -1 by unfold lft at h ⊢; split at h <;> split <;> omega]
      · rw [wr1 hi hlen, ← M6q (by omega)]
        exact ih _ (by omega) (by omega)
theorem a6hq (l : List Sy) : XC Try.prog 17 [L (l.map Sy.da), L (l.map Sy.da)] [] (B true) [] := by
  refine w1q fun hfit => ?_
  have hlen : l.length ≤ 281474976710656 := by have := hfit.one.len; simpa using this
  apply a3cq
  refine a4q C2q ?_
  refine q2q (p := fun i => t4q (B true) [] (l.map Sy.da) (l.map Sy.da) (i : Int)) l.length ?_ (fun i hi ih => ?_) 0 (Nat.zero_le _)
  · apply K5q
    exact a4q (j0q (by simp)) ⟨rfl, rfl⟩
  · obtain ⟨x, hx⟩ := g8q hi
    have hx1 := t3q (g := Sy.da) hx
    have hxc := a7sq x
    obtain ⟨nm, ar, ac⟩ := x
    apply K5q
    refine b3q (l0q (by simpa using hi)) ⟨i, rfl, _, _, _, hx1, i, rfl, _, _, _, hx1, _, hxc, a4q rfl ?_⟩
    rw [wr1 hi hlen]
    exact ih
theorem a6wq (x : Bd) (m : Int) (h0 : 0 ≤ m) (h1 : m ≤ 1048576) : XC Try.prog 79 [.dat x.da, Z m] [] (Z (lft x.cn m)) [] := by
  obtain ⟨v, ⟨f, u, ks⟩⟩ := x
  apply a3dq
  exact ⟨_, Q7q (.mk f u ks) m h0 h1, i9q (fun h => zw (a0Lq h h0)) fun _ => ⟨rfl, rfl⟩⟩
theorem a6cq (x : Bd) : XC Try.prog 85 [.dat x.da, .dat x.da] [] (B true) [] := by
  obtain ⟨v, ⟨f, u, ks⟩⟩ := x
  apply a2Vq
  exact a4q C2q ⟨_, R3q (.mk f u ks), a4q rfl ⟨rfl, rfl⟩⟩
theorem a5lq (l : List Bd) (left : Int) (h0 : 0 ≤ left) (h1 : left ≤ 1048576) : XC Try.prog 30 [L (l.map Bd.da), Z left] [] (Z (lft (cnL Bd.cn l) left)) [] := by
  refine w1q fun hfit => ?_
  have hlen : l.length ≤ 281474976710656 := by have := hfit.one.len; simpa using this
  apply a1Zq
  rw [List.length_map, wrI (by omega) (by omega)]
  refine i9q (fun h => ⟨?_, rfl⟩) fun h => ?_
  · rw [lft, if_pos (by have := i5q Bd.cn l; omega)]
  · have key := q2q (p := fun i => ∀ m : Int, 0 ≤ m → m ≤ 1048576 → r9q (Z (lft ((l.drop i).map Bd.cn).sum m)) [] (l.map Bd.da) m (i : Int)) l.length ?_ ?_ 0 (Nat.zero_le _)
    · have := key (left - l.length) (by omega) (by omega)
      have e : lft ((l.drop 0).map Bd.cn).sum (left - l.length) = lft (cnL Bd.cn l) left := by
        rw [List.drop_zero, cnL]; unfold lft; split <;> split <;> omega
      rw [e] at this
      exact this
    · intro m hm0 hm1
      apply I4q
      refine a4q (j0q (by simp)) ⟨?_, rfl⟩
      simp [lft]; omega
    · intro i hi ih m hm0 hm1
      obtain ⟨x, hx⟩ := g8q hi
      have hx1 := t3q (g := Bd.da) hx
      have hxc := a6wq x m hm0 hm1
      have hdr : ((l.drop i).map Bd.cn).sum = Bd.cn x + ((l.drop (i + 1)).map Bd.cn).sum := by
        obtain ⟨hl, e⟩ := List.getElem?_eq_some_iff.1 hx
        rw [List.drop_eq_getElem_cons hl, e]; simp
      have hle := a02q (n := Bd.cn x) (l := m) (by omega)
      rw [hdr]
      generalize Bd.cn x = cx at *
      obtain ⟨v, ⟨f, u, ks⟩⟩ := x
      apply I4q
      refine b3q (l0q (by simpa using hi)) ⟨i, rfl, _, _, _, _, hx1, _, hxc, ?_⟩
      refine i9q (fun h => ⟨?_, rfl⟩) fun h => ?_
      · have := a0Dq h hm0
        rw [show lft (cx + ((l.drop (i + 1)).map Bd.cn).sum) m = -1 by unfold lft at h ⊢; split at h <;> split <;> omega]
      · rw [wr1 hi hlen, ← M6q (by omega)]
        exact ih _ (by omega) (by omega)
theorem a65q (l : List Bd) : XC Try.prog 37 [L (l.map Bd.da), L (l.map Bd.da)] [] (B true) [] := by
  refine w1q fun hfit => ?_
  have hlen : l.length ≤ 281474976710656 := by have := hfit.one.len; simpa using this
  apply a2bq
  refine a4q C2q ?_
  refine q2q (p := fun i => s0q (B true) [] (l.map Bd.da) (l.map Bd.da) (i : Int)) l.length ?_ (fun i hi ih => ?_) 0 (Nat.zero_le _)
  · apply I3q
    exact a4q (j0q (by simp)) ⟨rfl, rfl⟩
  · obtain ⟨x, hx⟩ := g8q hi
    have hx1 := t3q (g := Bd.da) hx
    have hxc := a6cq x
    obtain ⟨v, ⟨f, u, ks⟩⟩ := x
    apply I3q
    refine b3q (l0q (by simpa using hi)) ⟨i, rfl, _, _, _, _, hx1, i, rfl, _, _, _, _, hx1, _, hxc, a4q rfl ?_⟩
    rw [wr1 hi hlen]
    exact ih
theorem C5q {α : Type} {l : List α} {i : Nat} {x : α} (h : l[i]? = some x) : l.drop i = x :: l.drop (i + 1) := by
  obtain ⟨hl, e⟩ := List.getElem?_eq_some_iff.1 h
  rw [List.drop_eq_getElem_cons hl, e]
theorem a5Aq {α : Type} {l : List α} : l.drop l.length = [] := by simp
theorem bF {b : Bool} (h : ¬ b = true) : B false = B b ∧ ([] : List (Nat × Ob)) = [] := ⟨by rw [Bool.eq_false_iff.2 h], rfl⟩
theorem bE {a b : Bool} (h : a = b) : B a = B b ∧ ([] : List (Nat × Ob)) = [] := ⟨by rw [h], rfl⟩
theorem bT {b : Bool} (h : b = true) : B true = B b ∧ ([] : List (Nat × Ob)) = [] := ⟨by rw [h], rfl⟩
theorem ne_i {a b : Int} (h : ¬ a ≠ b) : a = b := by omega
theorem ne_n {a b : Nat} (h : ¬ (a : Int) ≠ (b : Int)) : a = b := by omega
def p6q (x y : Int) (r : Int) : Int := if x < y then -1 else if x > y then 1 else r
theorem a0eq {x y r : Int} : p6q x y r = 0 ↔ x = y ∧ r = 0 := by
  unfold p6q
  split
  · omega
  · split <;> omega
theorem a3yq {x y r : Int} (h : x ≠ y) : decide (x < y) = decide (p6q x y r < 0) := by
  unfold p6q
  split
  · simp [*]
  · split
    · simp; omega
    · omega
theorem M1q {x y r : Int} (h : x = y) : p6q x y r = r := by unfold p6q; simp [h]
mutual
def Tm.cmp : Tm → Tm → Int
  | .mk f v ks, .mk g u ls => p6q f g (p6q v u (p6q ks.length ls.length (Tm.cmps ks ls)))
def Tm.cmps : List Tm → List Tm → Int
  | t :: r, u :: s => if Tm.cmp t u = 0 then Tm.cmps r s else Tm.cmp t u
  | _, _ => 0
end
theorem Tm.cmp_mk {f v g u : Int} {ks ls : List Tm} : Tm.cmp (.mk f v ks) (.mk g u ls) = p6q f g (p6q v u (p6q ks.length ls.length (Tm.cmps ks ls))) := rfl
theorem Tm.cmp0 {f v g u : Int} {ks ls : List Tm} : Tm.cmp (.mk f v ks) (.mk g u ls) = 0 ↔ f = g ∧ v = u ∧ ks.length = ls.length ∧ Tm.cmps ks ls = 0 := by
  rw [Tm.cmp_mk, a0eq, a0eq, a0eq]; omega
theorem Tm.cmps_nil : Tm.cmps [] [] = 0 := by simp [Tm.cmps]
theorem Tm.cmps_cons {t u : Tm} {r s : List Tm} : Tm.cmps (t :: r) (u :: s) = if Tm.cmp t u = 0 then Tm.cmps r s else Tm.cmp t u := by simp [Tm.cmps]
theorem Tm.cmps_end {ks ls : List Tm} (h : ks.length = ls.length) : Tm.cmps (ks.drop ks.length) (ls.drop ks.length) = 0 := by
  rw [a5Aq, h, a5Aq, Tm.cmps_nil]
def Li.cmp (a b : Li) : Int := if a.p = b.p then (if Tm.cmp a.l b.l = 0 then Tm.cmp a.r b.r else Tm.cmp a.l b.l) else if b.p then -1 else 1
def inR (x lo hi : Int) : Bool := decide (lo ≤ x) && decide (x ≤ hi)
theorem a8mq (x lo hi : Int) : XC Try.prog 99 [Z x, Z lo, Z hi] [] (B (inR x lo hi)) [] := by
  apply a4Uq
  exact i9q (fun h => bE (by simp [inR, h])) fun h => bE (by simp [inR, h])
theorem a8xq (x lo hi : Int) : XC Try.prog 102 [Z x, Z lo, Z hi] [] (B (inR x lo hi)) [] := by
  apply a5Sq
  exact i9q (fun h => bE (by simp [inR, h])) fun h => bE (by simp [inR, h])
theorem A9q (a b : Tm) : XC Try.prog 114 [.dat a.da, .dat b.da] [] (B (decide (Tm.cmp a b = 0))) [] := by
  induction a using Tm.ind generalizing b with
  | h f v ks ih =>
  obtain ⟨g, u, ls⟩ := b
  refine w1q fun hfit => ?_
  have hlen : ks.length ≤ 281474976710656 := by have := hfit.dat.tail.tail.len; rwa [c5q] at this
  apply a1mq
  rw [c5q, c5q]
  refine i9q (fun h => bF (by simp [Tm.cmp0]; omega)) fun h1 => i9q (fun h => bF (by simp [Tm.cmp0]; omega)) fun h2 => i9q (fun h => bF (by simp [Tm.cmp0]; omega)) fun h3 => ?_
  have h1 := ne_i h1; have h2 := ne_i h2; have h3 := ne_n h3
  have key := q2q (p := fun i => p9q (B (decide (Tm.cmps (ks.drop i) (ls.drop i) = 0))) [] (i : Int) f v (Tm.das ks) g u (Tm.das ls)) ks.length ?_ (fun i hi ihl => ?_) 0 (Nat.zero_le _)
  · have e : decide (Tm.cmp (.mk f v ks) (.mk g u ls) = 0) = decide (Tm.cmps (ks.drop 0) (ls.drop 0) = 0) := by
      simp [Tm.cmp0, h1, h2, h3]
    rw [e]; exact key
  · apply F6q
    exact a4q (j0q (by rw [c5q]; exact Nat.le_refl _)) (bT (by rw [Tm.cmps_end h3]; rfl))
  · obtain ⟨x, hx⟩ := g8q hi
    obtain ⟨y, hy⟩ := g8q (l := ls) (i := i) (by omega)
    have hx1 := u1q hx
    have hy1 := u1q hy
    have hxy := ih x (List.mem_of_getElem? hx) y
    rw [C5q hx, C5q hy, Tm.cmps_cons]
    obtain ⟨f', v', ks'⟩ := x
    obtain ⟨g', u', ls'⟩ := y
    apply F6q
    refine b3q (l0q (by rwa [c5q])) ⟨i, rfl, _, _, _, hx1, i, rfl, _, _, _, hy1, _, hxy, a0dq (fun h => bF ?_) fun h => ?_⟩
    · simp at h; simp [h]
    · simp at h
      rw [wr1 hi hlen, if_pos h]
      exact ihl
theorem I2q (a b : Tm) : XC Try.prog 110 [.dat a.da, .dat b.da] [] (B (decide (Tm.cmp a b < 0))) [] := by
  induction a using Tm.ind generalizing b with
  | h f v ks ih =>
  obtain ⟨g, u, ls⟩ := b
  refine w1q fun hfit => ?_
  have hlen : ks.length ≤ 281474976710656 := by have := hfit.dat.tail.tail.len; rwa [c5q] at this
  apply a3tq
  rw [c5q, c5q, Tm.cmp_mk]
  refine i9q (fun h => bE (a3yq h)) fun h1 => ?_
  rw [M1q (ne_i h1)]
  refine i9q (fun h => bE (a3yq h)) fun h2 => ?_
  rw [M1q (ne_i h2)]
  refine i9q (fun h => bE (a3yq h)) fun h3 => ?_
  rw [M1q (ne_i h3)]
  have h3 := ne_n h3
  have key := q2q (p := fun i => t9q (B (decide (Tm.cmps (ks.drop i) (ls.drop i) < 0))) [] (i : Int) f v (Tm.das ks) g u (Tm.das ls)) ks.length ?_ (fun i hi ihl => ?_) 0 (Nat.zero_le _)
  · exact key
  · apply K9q
    exact a4q (j0q (by rw [c5q]; exact Nat.le_refl _)) (bF (by rw [Tm.cmps_end h3]; simp))
  · obtain ⟨x, hx⟩ := g8q hi
    obtain ⟨y, hy⟩ := g8q (l := ls) (i := i) (by omega)
    have hx1 := u1q hx
    have hy1 := u1q hy
    have hxy := ih x (List.mem_of_getElem? hx) y
    have hs := A9q x y
    rw [C5q hx, C5q hy, Tm.cmps_cons]
    obtain ⟨f', v', ks'⟩ := x
    obtain ⟨g', u', ls'⟩ := y
    apply K9q
    refine b3q (l0q (by rwa [c5q])) ⟨i, rfl, _, _, _, hx1, i, rfl, _, _, _, hy1, _, hs, a0dq (fun h => ⟨i, rfl, _, _, _, hx1, i, rfl, _, _, _, hy1, _, hxy, bE ?_⟩) fun h => ?_⟩
    · simp at h; simp [h]
    · simp at h
      rw [wr1 hi hlen, if_pos h]
      exact ihl
theorem E4q (a b : Tm) : XC Try.prog 105 [.dat a.da, .dat b.da] [] (Z (Tm.cmp a b)) [] := by
  induction a using Tm.ind generalizing b with
  | h f v ks ih =>
  obtain ⟨g, u, ls⟩ := b
  refine w1q fun hfit => ?_
  have hlen : ks.length ≤ 281474976710656 := by have := hfit.dat.tail.tail.len; rwa [c5q] at this
  apply a1Yq
  rw [c5q, c5q, Tm.cmp_mk]
  apply r8q
  refine b3q rfl ⟨0, rfl, ⟨by simp⟩, 0, rfl, _, _, rfl, ?_⟩
  refine i9q (fun h => ⟨by simp [p6q, h], rfl⟩) fun h1 => i9q (fun h => ⟨by unfold p6q; rw [if_neg (by omega), if_pos (by omega)], rfl⟩) fun h2 => ?_
  rw [M1q (by omega)]
  apply r8q
  refine b3q rfl ⟨1, rfl, ⟨by simp⟩, 1, rfl, _, _, rfl, ?_⟩
  refine i9q (fun h => ⟨by simp [p6q, h], rfl⟩) fun h3 => i9q (fun h => ⟨by unfold p6q; rw [if_neg (by omega), if_pos (by omega)], rfl⟩) fun h4 => ?_
  rw [M1q (by omega)]
  apply r8q
  refine b3q rfl ⟨2, rfl, ⟨by simp⟩, 2, rfl, _, _, rfl, ?_⟩
  refine i9q (fun h => ⟨by simp only [p6q, if_pos h], rfl⟩) fun h5 => i9q (fun h => ⟨by unfold p6q; rw [if_neg (by omega), if_pos (by omega)], rfl⟩) fun h6 => ?_
  rw [M1q (by omega)]
  apply r8q
  refine a4q rfl ?_
  have hl : ks.length = ls.length := by omega
  rw [c5q]
  have key := q2q (p := fun i => p3q (Z (Tm.cmps (ks.drop i) (ls.drop i))) [] (ks.length : Int) (i : Int) f v (Tm.das ks) g u (Tm.das ls)) ks.length ?_ (fun i hi ihl => ?_) 0 (Nat.zero_le _)
  · exact key
  · apply F8q
    exact a4q (j0q (Nat.le_refl _)) ⟨by rw [Tm.cmps_end hl], rfl⟩
  · obtain ⟨x, hx⟩ := g8q hi
    obtain ⟨y, hy⟩ := g8q (l := ls) (i := i) (by omega)
    have hx1 := u1q hx
    have hy1 := u1q hy
    have hxy := ih x (List.mem_of_getElem? hx) y
    rw [C5q hx, C5q hy, Tm.cmps_cons]
    obtain ⟨f', v', ks'⟩ := x
    obtain ⟨g', u', ls'⟩ := y
    apply F8q
    refine b3q (l0q hi) ⟨i, rfl, _, _, _, hx1, i, rfl, _, _, _, hy1, _, hxy, i9q (fun h => ⟨by rw [if_neg h], rfl⟩) fun h => ?_⟩
    rw [wr1 hi hlen, if_pos (by omega)]
    exact ihl
theorem a23q (a b : Tm) : XC Try.prog 112 [.dat a.da, .dat b.da] [] (B (decide (Tm.cmp a b < 0))) [] := by
  have h := E4q a b
  obtain ⟨f, v, ks⟩ := a; obtain ⟨g, u, ls⟩ := b
  apply a2Zq
  exact ⟨_, h, rfl, rfl⟩
theorem O0q (a b : Li) : XC Try.prog 89 [.dat a.da, .dat b.da] [] (Z (Li.cmp a b)) [] := by
  have h1 := E4q a.l b.l
  have h2 := E4q a.r b.r
  obtain ⟨p, ⟨f, v, ks⟩, ⟨g, u, ls⟩⟩ := a
  obtain ⟨p', ⟨f', v', ks'⟩, ⟨g', u', ls'⟩⟩ := b
  have hc : p = p' → ∃ n, XC Try.prog 105 [.dat (Tm.mk f v ks).da, .dat (Tm.mk f' v' ks').da] [] (Z n) [] ∧ ifB (decide (n ≠ 0)) (Z n = Z (Li.cmp ⟨p, .mk f v ks, .mk g u ls⟩ ⟨p', .mk f' v' ks', .mk g' u' ls'⟩) ∧ ([] : List (Nat × Ob)) = []) (∃ n1, XC Try.prog 105 [.dat (Tm.mk g u ls).da, .dat (Tm.mk g' u' ls').da] [] (Z n1) [] ∧ Z n1 = Z (Li.cmp ⟨p, .mk f v ks, .mk g u ls⟩ ⟨p', .mk f' v' ks', .mk g' u' ls'⟩) ∧ ([] : List (Nat × Ob)) = []) := by
    rintro rfl
    refine ⟨_, h1, i9q (fun h => ⟨by simp only [Li.cmp, if_true, if_neg h], rfl⟩) fun h => ⟨_, h2, by simp only [Li.cmp, if_true, if_pos (ne_i h)], rfl⟩⟩
  apply Z2q
  cases p <;> cases p'
  · exact b3q rfl (a4q rfl (a4q rfl (hc rfl)))
  · exact b3q rfl (b3q rfl ⟨rfl, rfl⟩)
  · exact a4q rfl (b3q rfl (b3q rfl ⟨rfl, rfl⟩))
  · exact a4q rfl (b3q rfl (a4q rfl (hc rfl)))
theorem a1Kq (a b : Li) : XC Try.prog 91 [.dat a.da, .dat b.da] [] (B (decide (Li.cmp a b = 0))) [] := by
  have h := O0q a b
  obtain ⟨p, ⟨f, v, ks⟩, ⟨g, u, ls⟩⟩ := a
  obtain ⟨p', ⟨f', v', ks'⟩, ⟨g', u', ls'⟩⟩ := b
  apply a2qq
  exact ⟨_, h, rfl, rfl⟩
theorem a2Tq (a b : Li) : XC Try.prog 86 [.dat a.da, .dat b.da] [] (B (decide (Li.cmp a b < 0))) [] := by
  have h1 := A9q a.l b.l
  have h2 := I2q a.l b.l
  have h3 := I2q a.r b.r
  obtain ⟨p, ⟨f, v, ks⟩, ⟨g, u, ls⟩⟩ := a
  obtain ⟨p', ⟨f', v', ks'⟩, ⟨g', u', ls'⟩⟩ := b
  apply a10q
  refine i9q (fun h => bE ?_) fun h => ?_
  · cases p <;> cases p' <;> simp_all [Li.cmp]
  · have h : p = p' := by simpa using h
    subst h
    refine ⟨_, h1, a0dq (fun h => ⟨_, h2, bE ?_⟩) fun h => ⟨_, h3, bE ?_⟩⟩
    · have h : ¬ Tm.cmp (.mk f v ks) (.mk f' v' ks') = 0 := by simpa using h
      simp only [Li.cmp, if_true, if_neg h]
    · have h : Tm.cmp (.mk f v ks) (.mk f' v' ks') = 0 := by simpa using h
      simp only [Li.cmp, if_true, if_pos h]
def insN (n : Int) : List Int → List Int
  | [] => [n]
  | x :: r => if x < n then x :: insN n r else n :: x :: r
def ac7q (l : List Int) (n : Int) : List Int := if n ∈ l then l else insN n l
mutual
def Tm.vs : Tm → List Int → List Int
  | .mk f v ks, out => Tm.vss ks (if f = -1 then ac7q out v else out)
def Tm.vss : List Tm → List Int → List Int
  | [], out => out
  | t :: r, out => Tm.vss r (Tm.vs t out)
end
theorem k2q {α β : Type} {g : α → β} {p : List α} {x : α} {q : List α} : ((p ++ x :: q).map g)[p.length]? = some (g x) := by simp
theorem w2q {p : List Tm} {x : Tm} {q : List Tm} : (Tm.das (p ++ x :: q))[p.length]? = some x.da := by rw [Tm.das_map]; simp
theorem y5q {α β : Type} (g : α → β) (p : List α) : List.take p.length (p.map g) = p.map g := List.take_of_length_le (by simp)
theorem n1q {α : Type} (p : List α) (x : α) : (p ++ [x]).length = p.length + 1 := by simp
theorem a6Qq (t : Tm) : XC Try.prog 123 [.dat t.da] [] (B (decide (t.f = -1))) [] := by
  obtain ⟨f, v, ks⟩ := t
  exact a4zq ⟨rfl, rfl⟩
theorem a6Mq (x : Sy) : XC Try.prog 61 [.dat x.da] [] (.dat x.da) [] := by
  obtain ⟨a, b, c⟩ := x
  exact a4nq ⟨rfl, rfl⟩
theorem a56q (l : List Sy) (hc : cnL Sy.cn l ≤ 1048576) : XC Try.prog 12 [L (l.map Sy.da)] [] (.one (.ol 0)) [(0, .tr 99 3 (l.map Sy.da))] := by
  have hl := i5q Sy.cn l
  apply a3hq
  refine ⟨l.length, l.length, by simp, by simp, ⟨by omega, by omega, by omega⟩, ?_⟩
  have key := q2q (p := fun i => t5q (.one (.ol 0)) [(0, .tr 99 3 (l.map Sy.da))] (l.map Sy.da) (i : Int) ((l.map Sy.da).take i ++ List.replicate ((l.map Sy.da).length - i) [.str ⟨#[]⟩, .int .i64 0, .bool false])) l.length ?_ ?_ 0 (Nat.zero_le _)
  · rw [List.take_zero, List.nil_append, Nat.sub_zero, List.length_map] at key
    exact key
  · apply K7q
    refine a4q (j0q (by simp)) ⟨rfl, ?_⟩
    rw [V0q rfl (by simp)]
  · intro i hi ih
    obtain ⟨x, hx⟩ := g8q hi
    have hx1 := t3q (g := Sy.da) hx
    have hxc := a6Mq x
    have hd := Sy.da_len x
    obtain ⟨a, b, c⟩ := x
    apply K7q
    refine b3q (l0q (by simpa using hi)) ⟨i, rfl, _, _, _, hx1, _, _, _, hxc, i, rfl, ⟨by simp; omega⟩, i, by omega, _, _, _, X0q rfl (by simpa using hi), ?_⟩
    rw [wr1 hi (by omega)]
    have he := O6q (z := [.str ⟨#[]⟩, .int .i64 0, .bool false]) (n := (l.map Sy.da).length) rfl hx1 hd rfl
    exact he ▸ ih
def mkD : Nat → Int → ByteArray → ByteArray
  | 0, _, out => ⟨#[109]⟩ ++ out
  | f + 1, k, out => if 0 < k then mkD f (IntKind.wrap .i64 (Int.tdiv k 10)) (strOfNums [IntKind.wrap IntKind.u8 (IntKind.wrap .i64 (48 + Int.tmod k 10))] ++ out) else ⟨#[109]⟩ ++ out
theorem a4gq : ∀ f (k : Nat) out, k < 10 ^ f → k ≤ 1000000000 → out.size + f ≤ 1000 → p7q (T (mkD f k out)) [] k out := by
  intro f
  induction f with
  | zero =>
    intro k out hk _ hs
    apply G3q
    refine a4q (decide_eq_false (by simp at hk; omega)) ⟨⟨?_⟩, rfl, rfl⟩
    rw [ByteArray.size_append]
    have : (⟨#[109]⟩ : ByteArray).size = 1 := rfl
    omega
  | succ f ih =>
    intro k out hk hk2 hs
    apply G3q
    refine i9q (fun h => ?_) fun h => ?_
    · have e1 : mkD (f + 1) k out = mkD f (IntKind.wrap .i64 (Int.tdiv k 10)) (strOfNums [IntKind.wrap IntKind.u8 (IntKind.wrap .i64 (48 + Int.tmod k 10))] ++ out) := by
        rw [mkD, if_pos h]
      have e2 : IntKind.wrap .i64 (Int.tdiv (k : Int) 10) = ((k / 10 : Nat) : Int) := by
        have : Int.tdiv (k : Int) 10 = ((k / 10 : Nat) : Int) := rfl
        rw [this, wrI (by omega) (by omega)]
      have hsz : ∀ x : Int, (strOfNums [x] ++ out).size = 1 + out.size := fun x => by rw [ByteArray.size_append, Y5q]; rfl
      refine ⟨⟨by decide⟩, [IntKind.wrap IntKind.u8 (IntKind.wrap .i64 (48 + Int.tmod k 10))], rfl, ⟨by rw [hsz]; omega⟩, ⟨by decide⟩, ?_⟩
      rw [e1, e2]
      exact ih (k / 10) _ (by rw [Nat.pow_succ] at hk; omega) (by omega) (by rw [hsz]; omega)
    · have e1 : mkD (f + 1) k out = ⟨#[109]⟩ ++ out := by rw [mkD, if_neg h]
      rw [e1]
      refine ⟨⟨?_⟩, rfl, rfl⟩
      rw [ByteArray.size_append]
      have : (⟨#[109]⟩ : ByteArray).size = 1 := rfl
      omega
def mkT (k : Nat) : ByteArray := mkD 10 k ⟨#[]⟩
theorem a49q (k : Nat) (h1 : 1 ≤ k) (h2 : k ≤ 1000000000) : XC Try.prog 68 [Z (k : Int)] [] (T (mkT k)) [] := by
  apply a1Jq
  exact a4q (decide_eq_false (by omega)) (a4gq 10 k _ (by omega) h2 (by decide))
theorem wrS {k : Nat} (hk : k ≤ 281474976710656) : IntKind.wrap .i64 ((k : Int) + 1) = ((k + 1 : Nat) : Int) := wrN hk 1 (by omega)
def a4Pq (k : Nat) : Bd → Bd
  | ⟨v, .mk f u ks⟩ => ⟨(((k : Nat) : Int)), .mk (((k + 1 : Nat) : Int)) (((k + 2 : Nat) : Int)) (Tm.mkL (k + 3) ks)⟩
def W0q : Bd → Nat
  | ⟨v, .mk f u ks⟩ => 1 + 1 + 1 + 2 * Tm.cns ks
def a0Qq : Nat → List Bd → List Bd
  | _, [] => []
  | k, x :: r => a4Pq k x :: a0Qq (k + W0q x) r
def A5q (l : List Bd) : Nat := (l.map W0q).sum
theorem a28q (x : Bd) (r : List Bd) : A5q (x :: r) = W0q x + A5q r := by simp [A5q]
theorem T6q : ∀ (l : List Bd) (P : List (List Da)) (k : Nat), P.length + l.length ≤ 10000000000000 → k + A5q l ≤ 10000000000000 → o3q (Z ((k + A5q l : Nat) : Int)) [(2000, .mt 117 4 (P ++ (a0Qq k l).map Bd.da))] (k : Int) (P.length : Int) (P ++ l.map Bd.da)
  | [], P, k, _, _ => by
    apply D7q
    exact a4q (decide_eq_false (by simp)) ⟨by simp [A5q], by simp [a0Qq]⟩
  | ⟨v, .mk f u ks⟩ :: r, P, k, hl, hk => by
    rw [a28q] at hk ⊢
    simp only [List.length_cons, W0q] at hl hk
    have hlen : ∀ y : List Da, P.length < (P ++ y :: r.map Bd.da).length := fun y => by simp
    have hm0 : XC Try.prog 69 [.one (.ol 2000), Z ((k + 3 : Nat) : Int)] [(2000, .mt 31 3 (Tm.das ks))] (Z ((k + 3 + 2 * Tm.cns ks : Nat) : Int)) [(2000, .mt 31 3 (Tm.das (Tm.mkL (k + 3) ks)))] := G9q (.mk 0 0 ks) (k + 3) (by simp only [Tm.cn]; omega)
    have ih := T6q r (P ++ [Bd.da (a4Pq k ⟨v, .mk f u ks⟩)]) (k + 3 + 2 * Tm.cns ks) (by simp; omega) (by omega)
    have e4 : (P ++ [Bd.da (a4Pq k ⟨v, .mk f u ks⟩)]).length = P.length + 1 := by simp
    rw [e4, List.append_assoc, List.append_assoc] at ih
    have eN : k + W0q ⟨v, .mk f u ks⟩ = k + 3 + 2 * Tm.cns ks := by simp only [W0q] <;> omega
    have eM : a0Qq k (⟨v, .mk f u ks⟩ :: r) = a4Pq k ⟨v, .mk f u ks⟩ :: a0Qq (k + 3 + 2 * Tm.cns ks) r := by rw [← eN]; rfl
    rw [eM, ← Nat.add_assoc, eN]
    apply D7q
    rw [List.map_cons, List.map_cons]
    have w0 : IntKind.wrap .i64 (((k : Nat) : Int) + 1) = ((k + 1 : Nat) : Int) := wrS (by omega)
    have w1 : IntKind.wrap .i64 (((k + 1 : Nat) : Int) + 1) = ((k + 2 : Nat) : Int) := wrS (by omega)
    have w2 : IntKind.wrap .i64 (((k + 2 : Nat) : Int) + 1) = ((k + 3 : Nat) : Int) := wrS (by omega)
    have wp : IntKind.wrap .i64 ((P.length : Int) + 1) = ((P.length + 1 : Nat) : Int) := wrS (by omega)
    rw [w0, w1, w2, wp]
    refine b3q (decide_eq_true (by simp; omega)) ?_
    refine ⟨P.length, rfl, ⟨hlen _⟩, P.length, rfl, _, _, _, _, g1q, ?_⟩
    rw [b7q]
    refine ⟨P.length, rfl, ⟨hlen _⟩, P.length, rfl, _, _, _, _, g1q, ?_⟩
    rw [b7q]
    refine ⟨P.length, rfl, ⟨hlen _⟩, P.length, rfl, _, _, _, _, g1q, ?_⟩
    rw [b7q]
    refine ⟨P.length, rfl, ⟨hlen _⟩, P.length, rfl, _, _, _, _, g1q, fun _ _ _ => ⟨by simp, _, _, _, _, g1q, ⟨fun y hy => N6q _ y hy⟩, _, _, hm0, ?_⟩⟩
    rw [b7q]
    exact ih
theorem a30q (l : List Bd) (k : Nat) (hl : l.length ≤ 10000000000000) (hk : k + A5q l ≤ 10000000000000) : XC Try.prog 38 [.one (.ol 2000), Z (k : Int)] [(2000, .mt 117 4 (l.map Bd.da))] (Z ((k + A5q l : Nat) : Int)) [(2000, .mt 117 4 ((a0Qq k l).map Bd.da))] := by
  apply a13q
  simpa using T6q l [] k (by simpa using hl) hk
def a4Iq (k : Nat) : Sy → Sy
  | ⟨nm, ar, ac⟩ => ⟨(mkT (k)), (((k + 1 : Nat) : Int)), (decide (Int.tmod ((k + 2 : Nat) : Int) 3 = 0))⟩
def X4q : Sy → Nat
  | ⟨nm, ar, ac⟩ => 1 + 1 + 1
def a0Bq : Nat → List Sy → List Sy
  | _, [] => []
  | k, x :: r => a4Iq k x :: a0Bq (k + X4q x) r
def z3q (l : List Sy) : Nat := (l.map X4q).sum
theorem a25q (x : Sy) (r : List Sy) : z3q (x :: r) = X4q x + z3q r := by simp [z3q]
theorem Y6q : ∀ (l : List Sy) (P : List (List Da)) (k : Nat), 1 ≤ k → P.length + l.length ≤ 100000000 → k + z3q l ≤ 100000000 → q1q (Z ((k + z3q l : Nat) : Int)) [(2000, .mt 99 3 (P ++ (a0Bq k l).map Sy.da))] (k : Int) (P.length : Int) (P ++ l.map Sy.da)
  | [], P, k, _, _, _ => by
    apply F7q
    exact a4q (decide_eq_false (by simp)) ⟨by simp [z3q], by simp [a0Bq]⟩
  | ⟨nm, ar, ac⟩ :: r, P, k, h1, hl, hk => by
    rw [a25q] at hk ⊢
    simp only [List.length_cons, X4q] at hl hk
    have hlen : ∀ y : List Da, P.length < (P ++ y :: r.map Sy.da).length := fun y => by simp
    have ih := Y6q r (P ++ [Sy.da (a4Iq k ⟨nm, ar, ac⟩)]) (k + 3) (by omega) (by simp; omega) (by omega)
    have e4 : (P ++ [Sy.da (a4Iq k ⟨nm, ar, ac⟩)]).length = P.length + 1 := by simp
    rw [e4, List.append_assoc, List.append_assoc] at ih
    have eN : k + X4q ⟨nm, ar, ac⟩ = k + 3 := by simp only [X4q] <;> omega
    have eM : a0Bq k (⟨nm, ar, ac⟩ :: r) = a4Iq k ⟨nm, ar, ac⟩ :: a0Bq (k + 3) r := by rw [← eN]; rfl
    rw [eM, ← Nat.add_assoc, eN]
    apply F7q
    rw [List.map_cons, List.map_cons]
    have w0 : IntKind.wrap .i64 (((k : Nat) : Int) + 1) = ((k + 1 : Nat) : Int) := wrS (by omega)
    have w1 : IntKind.wrap .i64 (((k + 1 : Nat) : Int) + 1) = ((k + 2 : Nat) : Int) := wrS (by omega)
    have w2 : IntKind.wrap .i64 (((k + 2 : Nat) : Int) + 1) = ((k + 3 : Nat) : Int) := wrS (by omega)
    have wp : IntKind.wrap .i64 ((P.length : Int) + 1) = ((P.length + 1 : Nat) : Int) := wrS (by omega)
    rw [w0, w1, w2, wp]
    refine b3q (decide_eq_true (by simp; omega)) ?_
    refine ⟨_, a49q (k) (by omega) (by omega), P.length, rfl, ⟨hlen _⟩, P.length, rfl, _, _, _, g1q, ?_⟩
    rw [b7q]
    refine ⟨P.length, rfl, ⟨hlen _⟩, P.length, rfl, _, _, _, g1q, ?_⟩
    rw [b7q]
    refine ⟨⟨by decide⟩, P.length, rfl, ⟨hlen _⟩, P.length, rfl, _, _, _, g1q, ?_⟩
    rw [b7q]
    exact ih
theorem a46q (l : List Sy) (k : Nat) (h1 : 1 ≤ k) (hl : l.length ≤ 100000000) (hk : k + z3q l ≤ 100000000) : XC Try.prog 19 [.one (.ol 2000), Z (k : Int)] [(2000, .mt 99 3 (l.map Sy.da))] (Z ((k + z3q l : Nat) : Int)) [(2000, .mt 99 3 ((a0Bq k l).map Sy.da))] := by
  apply a1xq
  simpa using Y6q l [] k h1 (by simpa using hl) hk
end AM
end Go.Proofs.Ytajcoogpmockiaa
set_option linter.unusedVariables false
set_option linter.unusedSimpArgs false
set_option maxRecDepth 100000
namespace Go.Proofs.Ytajcoogpmockiaa
namespace AM
open Go Go.ChangeShapes Go.WideShapes Go.RowKit
def TgP {α : Type} (da : α → List Da) (z : List Da × α) : Prop := z.1.map Da.u1 = da z.2
theorem W9q {α : Type} {da : α → List Da} : ∀ {xs' : List (List Da)} {ls : List α}, xs'.map (List.map Da.u1) = ls.map da → ∃ zs : List (List Da × α), zs.map (·.1) = xs' ∧ zs.map (·.2) = ls ∧ ∀ z ∈ zs, TgP da z
  | [], [], _ => ⟨[], rfl, rfl, by simp⟩
  | [], y :: s, h => by simp at h
  | x :: r, [], h => by simp at h
  | x :: r, y :: s, h => by
    simp only [List.map_cons, List.cons.injEq] at h
    obtain ⟨zs, h1, h2, h3⟩ := W9q h.2
    refine ⟨(x, y) :: zs, by simp [h1], by simp [h2], fun z hz => ?_⟩
    rcases List.mem_cons.1 hz with rfl | hz
    · exact h.1
    · exact h3 z hz
theorem W1q {α : Type} {da : α → List Da} : ∀ {zs : List (List Da × α)}, (∀ z ∈ zs, TgP da z) → (zs.map (·.1)).map (List.map Da.u1) = (zs.map (·.2)).map da
  | [], _ => rfl
  | z :: r, h => by
    simp only [List.map_cons]
    rw [W1q fun x hx => h x (by simp [hx]), h z (by simp)]
theorem abvq {y : Da} {b : Bool} (h : y.u1 = .bool b) : y = .bool b := by cases y <;> simp [Da.u1] at h ⊢; exact h
theorem T2q {y : Da} {k : IntKind} {n : Int} (h : y.u1 = .int k n) : y = .int k n := by cases y <;> simp [Da.u1] at h ⊢; exact h
theorem acpq (y : Da) : y.u1.ut = y.ut := by cases y <;> simp [Da.u1, Da.ut]
theorem acbq (r : List Da) : Da.utL (r.map Da.u1) = Da.utL r := by
  rw [T5q, T5q, List.map_map]
  exact List.map_congr_left fun y _ => acpq y
mutual
theorem Tm.ut_da : ∀ t : Tm, Da.utL t.da = t.da
  | .mk f v ks => by
    have h := Tm.ut_das ks
    simp [Tm.da, Da.utL, Da.ut, h]
theorem Tm.ut_das : ∀ l : List Tm, Da.utR (Tm.das l) = Tm.das l
  | [] => rfl
  | t :: r => by
    have h1 := Tm.ut_da t
    have h2 := Tm.ut_das r
    simp [Tm.das, Da.utR, h1, h2]
end
theorem abaq (a b : List Da) : Da.utL (a ++ b) = Da.utL a ++ Da.utL b := by simp [T5q]
theorem Li.ut_da (x : Li) : Da.utL x.da = x.da := by
  obtain ⟨p, l, r⟩ := x
  show Da.utL (.bool p :: (l.da ++ r.da)) = _
  rw [Da.utL, abaq, l.ut_da, r.ut_da]; rfl
theorem TgP.ut {α : Type} {da : α → List Da} (hd : ∀ x, Da.utL (da x) = da x) {z : List Da × α} (h : TgP da z) : Da.utL z.1 = da z.2 := by
  rw [← acbq, h, hd]
theorem TgP.lit {z : List Da × Li} (h : TgP Li.da z) : ∃ b n1 n2 d n3 n4 d1, z.1 = [.bool b, .int .i64 n1, .int .i64 n2, d, .int .i64 n3, .int .i64 n4, d1] := by
  obtain ⟨row, ⟨p, ⟨f, v, ks⟩, ⟨g, u, ms⟩⟩⟩ := z
  have h : row.map Da.u1 = [.bool p, .int .i64 f, .int .i64 v, .sl (Tm.das ks), .int .i64 g, .int .i64 u, .sl (Tm.das ms)] := h
  obtain ⟨y1, r1, rfl, h1, h⟩ := List.map_eq_cons_iff.1 h
  obtain ⟨y2, r2, rfl, h2, h⟩ := List.map_eq_cons_iff.1 h
  obtain ⟨y3, r3, rfl, h3, h⟩ := List.map_eq_cons_iff.1 h
  obtain ⟨y4, r4, rfl, h4, h⟩ := List.map_eq_cons_iff.1 h
  obtain ⟨y5, r5, rfl, h5, h⟩ := List.map_eq_cons_iff.1 h
  obtain ⟨y6, r6, rfl, h6, h⟩ := List.map_eq_cons_iff.1 h
  obtain ⟨y7, r7, rfl, h7, h⟩ := List.map_eq_cons_iff.1 h
  rw [List.map_eq_nil_iff.1 h]
  exact ⟨p, f, v, y4, g, u, y7, by rw [abvq h1, T2q h2, T2q h3, T2q h5, T2q h6]⟩
theorem TgP.term {z : List Da × Tm} (h : TgP Tm.da z) : ∃ n1 n2 d, z.1 = [.int .i64 n1, .int .i64 n2, d] := by
  obtain ⟨row, ⟨f, v, ks⟩⟩ := z
  have h : row.map Da.u1 = [.int .i64 f, .int .i64 v, .sl (Tm.das ks)] := h
  obtain ⟨y1, r1, rfl, h1, h⟩ := List.map_eq_cons_iff.1 h
  obtain ⟨y2, r2, rfl, h2, h⟩ := List.map_eq_cons_iff.1 h
  obtain ⟨y3, r3, rfl, h3, h⟩ := List.map_eq_cons_iff.1 h
  rw [List.map_eq_nil_iff.1 h]
  exact ⟨f, v, y3, by rw [T2q h1, T2q h2]⟩
structure SWO {β : Type} (lt : β → β → Prop) : Prop where
  asym : ∀ {a b}, lt a b → ¬ lt b a
  ntr : ∀ {a b c}, ¬ lt b a → ¬ lt c b → ¬ lt c a
abbrev Sd {β : Type} (lt : β → β → Prop) (l : List β) : Prop := l.Pairwise (fun a b => ¬ lt b a)
section
variable {β : Type} {lt : β → β → Prop}
theorem o5q {L R : List β} : Sd lt (L ++ R) ↔ Sd lt L ∧ Sd lt R ∧ ∀ a ∈ L, ∀ b ∈ R, ¬ lt b a := List.pairwise_append
theorem I7q (h : SWO lt) {L R : List β} {x : β} (hs : Sd lt (L ++ R)) (hR : ∀ y ∈ R, ¬ lt y x) (hL : ∀ y ∈ L, ¬ lt x y) : Sd lt (L ++ x :: R) := by
  obtain ⟨h1, h2, h3⟩ := o5q.1 hs
  refine o5q.2 ⟨h1, List.pairwise_cons.2 ⟨hR, h2⟩, fun a ha b hb => ?_⟩
  rcases List.mem_cons.1 hb with rfl | hb
  · exact hL a ha
  · exact h3 a ha b hb
theorem a3gq (h : SWO lt) {L : List β} {z x : β} (hs : Sd lt (L ++ [z])) (hz : ¬ lt x z) : ∀ y ∈ L ++ [z], ¬ lt x y := by
  intro y hy
  rcases List.mem_append.1 hy with hy | hy
  · exact h.ntr ((o5q.1 hs).2.2 y hy z (by simp)) hz
  · rw [List.mem_singleton.1 hy]; exact hz
theorem P0q (h : SWO lt) {R : List β} {x : β} (hs : Sd lt R) (hl : R = [] ∨ ∃ y, R[R.length - 1]? = some y ∧ lt y x) : ∀ y ∈ R, lt y x := by
  rcases hl with rfl | ⟨y, hy, hlt⟩
  · simp
  · intro w hw
    rcases List.eq_nil_or_concat R with rfl | ⟨R', z, rfl⟩
    · simp at hw
    · rw [List.concat_eq_append] at hs hy hw
      have : z = y := by simpa using hy
      subst this
      rcases List.mem_append.1 hw with hw | hw
      · have h1 := (o5q.1 hs).2.2 w hw z (by simp)
        exact Classical.byContradiction fun hn => h.ntr hn h1 hlt
      · rw [List.mem_singleton.1 hw]; exact hlt
theorem Q2q (h : SWO lt) {R : List β} {x : β} (hs : Sd lt R) (hl : R = [] ∨ ∃ y, R[R.length - 1]? = some y ∧ ¬ lt x y) : ∀ y ∈ R, ¬ lt x y := by
  rcases hl with rfl | ⟨y, hy, hlt⟩
  · simp
  · intro w hw
    rcases List.eq_nil_or_concat R with rfl | ⟨R', z, rfl⟩
    · simp at hw
    · rw [List.concat_eq_append] at hs hy hw
      have : z = y := by simpa using hy
      subst this
      exact a3gq h hs hlt w hw
theorem a3Rq (h : SWO lt) {R : List β} {x : β} (hs : Sd lt R) (hl : R = [] ∨ ∃ y, R[0]? = some y ∧ lt x y) : ∀ y ∈ R, lt x y := by
  rcases hl with rfl | ⟨y, hy, hlt⟩
  · simp
  · intro w hw
    cases R with
    | nil => simp at hw
    | cons z R' =>
      have : z = y := by simpa using hy
      subst this
      rcases List.mem_cons.1 hw with rfl | hw
      · exact hlt
      · have h1 := (List.pairwise_cons.1 hs).1 w hw
        exact Classical.byContradiction fun hn => h.ntr h1 hn hlt
theorem D4q (h : SWO lt) {R : List β} {x : β} (hs : Sd lt R) (hl : R = [] ∨ ∃ y, R[0]? = some y ∧ ¬ lt y x) : ∀ y ∈ R, ¬ lt y x := by
  rcases hl with rfl | ⟨y, hy, hlt⟩
  · simp
  · intro w hw
    cases R with
    | nil => simp at hw
    | cons z R' =>
      have : z = y := by simpa using hy
      subst this
      rcases List.mem_cons.1 hw with rfl | hw
      · exact hlt
      · exact h.ntr hlt ((List.pairwise_cons.1 hs).1 w hw)
end
theorem M2q {ι : Type} {p : ι → Nat → Nat → Prop} {ex : ι → Nat → Prop} (f : Nat → Prop) (lo hi : Nat) (hx : ∀ t i, lo ≤ i → i ≤ hi → ex t i → p t i i)
    (hs : ∀ t i j, lo ≤ i → i < j → j ≤ hi → (f ((i + j) / 2) → p t ((i + j) / 2 + 1) j → p t i j) ∧ (¬ f ((i + j) / 2) → p t i ((i + j) / 2) → p t i j)) : ∀ (n i j : Nat), j - i ≤ n → lo ≤ i → i ≤ j → j ≤ hi → (i = lo ∨ f (i - 1)) → (j = hi ∨ ¬ f j) → ∃ k, i ≤ k ∧ k ≤ j ∧ (k = lo ∨ f (k - 1)) ∧ (k = hi ∨ ¬ f k) ∧ ∀ t, ex t k → p t i j := by
  intro n
  induction n with
  | zero =>
    intro i j hn h1 h2 h3 hi' hj'
    have : j = i := by omega
    subst this
    exact ⟨j, Nat.le_refl _, Nat.le_refl _, hi', hj', fun t => hx t j h1 h3⟩
  | succ n ih =>
    intro i j hn h1 h2 h3 hi' hj'
    by_cases hij : i = j
    · subst hij
      exact ⟨i, Nat.le_refl _, Nat.le_refl _, hi', hj', fun t => hx t i h1 h3⟩
    · have hlt : i < j := by omega
      by_cases hf : f ((i + j) / 2)
      · obtain ⟨k, k1, k2, k3, k4, k5⟩ := ih ((i + j) / 2 + 1) j (by omega) (by omega) (by omega) h3 (.inr (by simpa using hf)) hj'
        exact ⟨k, by omega, k2, k3, k4, fun t h => (hs t i j h1 hlt h3).1 hf (k5 t h)⟩
      · obtain ⟨k, k1, k2, k3, k4, k5⟩ := ih i ((i + j) / 2) (by omega) h1 (by omega) (by omega) hi' (.inr hf)
        exact ⟨k, k1, by omega, k3, k4, fun t h => (hs t i j h1 hlt h3).2 hf (k5 t h)⟩
theorem s3q {β γ : Type} (g : β → γ) {P R Q : List β} {k : Nat} {y : β} (h : R[k]? = some y) : ((P ++ R ++ Q).map g)[P.length + k]? = some (g y) := by
  have hk : k < R.length := (List.getElem?_eq_some_iff.1 h).1
  rw [List.getElem?_map, List.append_assoc, List.getElem?_append_right (by omega), Nat.add_sub_cancel_left, List.getElem?_append_left hk, h]
  rfl
theorem R4q {i j : Nat} (h : i + j ≤ 281474976710656) : IntKind.wrap .i64 (IntKind.wrap .u64 (IntKind.wrap .i64 ((i : Int) + (j : Int))) / 2 ^ Int.toNat 1) = (((i + j) / 2 : Nat) : Int) := by
  rw [wrI (x := (i : Int) + (j : Int)) (by omega) (by omega)]
  have h1 : IntKind.wrap .u64 ((i : Int) + (j : Int)) = (i : Int) + (j : Int) := by
    unfold IntKind.wrap
    simp only [IntKind.bits, IntKind.signed]
    first
    | (simp; omega)
    | omega
  rw [h1]
  have h2 : (2 : Int) ^ Int.toNat 1 = 2 := rfl
  rw [h2, wrI (by omega) (by omega)]
  omega
section
variable {β γ : Type} (g : β → γ)
theorem S5q {P M Q : List β} {a b : β} : (((P ++ a :: M ++ b :: Q).map g).set P.length (g b)).set (P.length + 1 + M.length) (g a) = (P ++ b :: M ++ a :: Q).map g := by
  simp only [List.map_append, List.map_cons, List.append_assoc, List.cons_append]
  rw [List.set_append_right _ _ (by simp)]
  simp only [List.length_map, Nat.sub_self, List.set_cons_zero]
  rw [List.set_append_right _ _ (by simp; omega)]
  have e : P.length + 1 + M.length - (P.map g).length = M.length + 1 := by simp; omega
  rw [e, List.set_cons_succ, List.set_append_right _ _ (by simp)]
  simp
theorem a0Hq {P M Q : List β} {a b : β} : (((P ++ a :: M ++ b :: Q).map g).set (P.length + 1 + M.length) (g a)).set P.length (g b) = (P ++ b :: M ++ a :: Q).map g := by
  rw [List.set_comm _ _ (by omega)]
  exact S5q g
theorem I6q {P M Q : List β} {a b : β} : ((P ++ a :: M ++ b :: Q).map g)[P.length]? = some (g a) := by
  rw [List.append_assoc]; simp
theorem J2q {P M Q : List β} {a b : β} : ((P ++ a :: M ++ b :: Q).map g)[P.length + 1 + M.length]? = some (g b) := by
  have : P.length + 1 + M.length = (P ++ a :: M).length := by simp; omega
  rw [this]; simp
end
theorem v0q {β γ : Type} (g : β → γ) (P M Q : List β) (a b : β) : ((P ++ a :: M ++ b :: Q).map g).length = P.length + M.length + Q.length + 2 := by simp; omega
theorem A3q : (0 : Int) ≤ 1 ∧ (1 : Int) ≤ ((IntKind.bits IntKind.u64 : Nat) : Int) := by decide
def e7q (a b : List Da × Tm) : Prop := Tm.cmp a.2 b.2 < 0
instance (a b : List Da × Tm) : Decidable (e7q a b) := inferInstanceAs (Decidable (_ < _))
theorem a0Mq {z w : List Da × Tm} (hz : TgP Tm.da z) (hw : TgP Tm.da w) : XC Try.prog 105 [.dat z.1, .dat w.1] [] (Z (Tm.cmp z.2 w.2)) [] := XC.ut (by
  show XC _ _ [.dat (Da.utL z.1), .dat (Da.utL w.1)] _ _ _
  rw [hz.ut Tm.ut_da, hw.ut Tm.ut_da]; exact E4q _ _)
theorem O5q (A Y C : List (List Da × Tm)) : ∀ (X2 Z2 Z1 X1 : List (List Da × Tm)), (∀ z ∈ A ++ Z1 ++ X2 ++ Y ++ X1 ++ Z2 ++ C, TgP Tm.da z) → X2.length = Z2.length → X1.length = Z1.length → (A ++ Z1 ++ X2 ++ Y ++ X1 ++ Z2 ++ C).length ≤ 3000000000000 →
    f3q (.tup []) [(2000, .lst 31 3 ((A ++ Z1 ++ Z2 ++ Y ++ X1 ++ X2 ++ C).map (·.1)))] (A.length : Int) ((A ++ Z1 ++ X2 ++ Y).length : Int) ((Z1 ++ X2).length : Int) (Z1.length : Int) ((A ++ Z1 ++ X2 ++ Y ++ X1 ++ Z2 ++ C).map (·.1))
  | [], Z2, Z1, X1, ht, h1, h2, hl => by
    have : Z2 = [] := List.eq_nil_of_length_eq_zero h1.symm
    subst this
    apply k4q
    exact a4q (decide_eq_false (by simp)) ⟨rfl, by simp⟩
  | x :: X2, [], Z1, X1, ht, h1, h2, hl => by simp at h1
  | x :: X2, z :: Z2, Z1, X1, ht, h1, h2, hl => by
    have hl' : A.length + Z1.length + X2.length + Y.length + X1.length + Z2.length + C.length + 2 ≤ 3000000000000 := by simp at hl; omega
    have ih := O5q A Y C X2 Z2 (Z1 ++ [z]) (X1 ++ [x]) (fun w hw => ht w (by simp at hw ⊢; grind)) (by simpa using h1) (by simp [h2]) (by simp; omega)
    obtain ⟨_, _, _, ex⟩ := (ht x (by simp)).term
    obtain ⟨_, _, _, ez⟩ := (ht z (by simp)).term
    have eD : A ++ Z1 ++ x :: X2 ++ Y ++ X1 ++ z :: Z2 ++ C = (A ++ Z1) ++ x :: (X2 ++ Y ++ X1) ++ z :: (Z2 ++ C) := by simp
    have eD2 : (A ++ Z1) ++ z :: (X2 ++ Y ++ X1) ++ x :: (Z2 ++ C) = A ++ (Z1 ++ [z]) ++ X2 ++ Y ++ (X1 ++ [x]) ++ Z2 ++ C := by simp
    have eR : A ++ (Z1 ++ [z]) ++ Z2 ++ Y ++ (X1 ++ [x]) ++ X2 ++ C = A ++ Z1 ++ z :: Z2 ++ Y ++ X1 ++ x :: X2 ++ C := by simp
    have en : ((Z1 ++ [z]) ++ X2).length = (Z1 ++ x :: X2).length := by simp
    have eb : (A ++ (Z1 ++ [z]) ++ X2 ++ Y).length = (A ++ Z1 ++ x :: X2 ++ Y).length := by simp
    have ei : (Z1 ++ [z]).length = Z1.length + 1 := by simp
    have w1 : IntKind.wrap .i64 (((A ++ Z1 ++ x :: X2 ++ Y).length : Int) + (Z1.length : Int)) = (((A ++ Z1).length + 1 + (X2 ++ Y ++ X1).length : Nat) : Int) := by
      rw [wrI (by omega) (by simp; omega)]; simp; omega
    have w2 : IntKind.wrap .i64 ((A.length : Int) + (Z1.length : Int)) = (((A ++ Z1).length : Nat) : Int) := by
      rw [wrI (by omega) (by omega)]; simp
    have w3 : IntKind.wrap .i64 ((Z1.length : Int) + 1) = ((Z1.length + 1 : Nat) : Int) := by
      rw [wrI (by omega) (by omega)]; simp
    rw [en, eb, ei, ← eD2, eR, ← S5q] at ih
    rw [eD]
    have g1 := J2q (fun z : List Da × Tm => z.1) (P := A ++ Z1) (M := X2 ++ Y ++ X1) (Q := Z2 ++ C) (a := x) (b := z)
    have g2 := I6q (fun z : List Da × Tm => z.1) (P := A ++ Z1) (M := X2 ++ Y ++ X1) (Q := Z2 ++ C) (a := x) (b := z)
    have l1 := v0q (fun z : List Da × Tm => z.1) (A ++ Z1) (X2 ++ Y ++ X1) (Z2 ++ C) x z
    have g3 : ((((A ++ Z1) ++ x :: (X2 ++ Y ++ X1) ++ z :: (Z2 ++ C)).map (·.1)).set (A ++ Z1).length z.1)[(A ++ Z1).length + 1 + (X2 ++ Y ++ X1).length]? = some z.1 := by
      rw [List.getElem?_set_ne (by omega)]; exact g1
    rw [ex] at g2 ih
    rw [ez] at g1 g3 ih
    apply k4q
    rw [w1, w2, w3]
    refine b3q (decide_eq_true (by simp; omega)) ⟨_, rfl, ⟨by rw [l1]; omega⟩, _, rfl, _, _, _, g1, _, rfl, ⟨by rw [l1]; omega⟩, _, rfl, _, _, _, g2, _, rfl, ⟨by rw [l1]; omega⟩, _, rfl, _, _, _, g2, _, rfl, ⟨by rw [List.length_set, l1]; omega⟩, _, rfl, _, _, _, g3, ih⟩
theorem C0q (A U Y V C : List (List Da × Tm)) (ht : ∀ z ∈ A ++ U ++ Y ++ V ++ C, TgP Tm.da z) (h : U.length = V.length) (hl : (A ++ U ++ Y ++ V ++ C).length ≤ 3000000000000) : XC Try.prog 147 [.one (.ol 2000), Z (A.length : Int), Z ((A ++ U ++ Y).length : Int), Z (U.length : Int), .one (.d (.fn 105))] [(2000, .lst 31 3 ((A ++ U ++ Y ++ V ++ C).map (·.1)))] (.tup []) [(2000, .lst 31 3 ((A ++ V ++ Y ++ U ++ C).map (·.1)))] := by
  apply s7q
  have := O5q A Y C U V [] [] (by simpa using ht) h rfl (by simpa using hl)
  simpa using this
theorem a44q (T : List (List Da × Tm)) : ∀ (n : Nat) (A U V C : List (List Da × Tm)), U.length + V.length ≤ n → U ≠ [] → V ≠ [] → (∀ z ∈ A ++ U ++ V ++ C, TgP Tm.da z) → (A ++ U ++ V ++ C).length ≤ 3000000000000 → A ++ V ++ U ++ C = T → e5q (.tup []) [(2000, .lst 31 3 ((T).map (·.1)))] ((A ++ U).length : Int) (U.length : Int) (V.length : Int) ((A ++ U ++ V ++ C).map (·.1)) := by
  intro n
  induction n with
  | zero =>
    intro A U V C hn hU _ _ _ _
    exact absurd (List.eq_nil_of_length_eq_zero (by omega)) hU
  | succ n ih =>
    intro A U V C hn hU hV ht hl hT
    have hU' := List.length_pos_iff.2 hU
    have hV' := List.length_pos_iff.2 hV
    have hl' : A.length + U.length + V.length + C.length ≤ 3000000000000 := by simp at hl; omega
    have w1 : IntKind.wrap .i64 (((A ++ U).length : Int) - (U.length : Int)) = (A.length : Int) := by rw [wrI (by simp <;> omega) (by simp <;> omega)]; simp <;> omega
    apply s9q
    rw [w1]
    by_cases he : U.length = V.length
    · have c := C0q A U [] V C (by simpa using ht) he (by simpa using hl)
      simp only [List.append_nil] at c
      rw [hT] at c
      exact a4q (decide_eq_false (by simp [he])) ⟨_, c, rfl, rfl⟩
    · refine b3q (decide_eq_true (by omega)) ?_
      by_cases hgt : V.length < U.length
      · refine b3q (decide_eq_true (by omega)) ?_
        obtain ⟨U1, U2, rfl, hU1⟩ : ∃ U1 U2, U = U1 ++ U2 ∧ U1.length = V.length := ⟨U.take V.length, U.drop V.length, by simp, by simp; omega⟩
        have c := C0q A U1 U2 V C (by simpa using ht) hU1 (by simpa using hl)
        have h2 : U2.length + V.length = (U1 ++ U2).length := by simp; omega
        have w2 : IntKind.wrap .i64 (((U1 ++ U2).length : Int) - (V.length : Int)) = (U2.length : Int) := by rw [wrI (by simp <;> omega) (by simp <;> omega)]; simp <;> omega
        have i1 := ih (A ++ V) U2 U1 C (by simp at hn; omega) (by intro h; subst h; simp at hgt hU1; omega) (by intro h; subst h; simp at hU1; omega) (fun w hw => ht w (by simp at hw ⊢; grind)) (by simp; omega) (by simpa [List.append_assoc] using hT)
        have e1 : A ++ (U1 ++ U2) ++ V ++ C = A ++ U1 ++ U2 ++ V ++ C := by simp
        have e2 : (A ++ V ++ U2).length = (A ++ (U1 ++ U2)).length := by simp; omega
        have e3 : (A ++ (U1 ++ U2)).length = (A ++ U1 ++ U2).length := by simp
        rw [w2, e1]
        rw [e2] at i1
        rw [e3] at i1 ⊢
        rw [hU1] at i1 c
        exact ⟨_, c, i1⟩
      · refine a4q (decide_eq_false (by omega)) ?_
        obtain ⟨V1, V2, rfl, hV2⟩ : ∃ V1 V2, V = V1 ++ V2 ∧ V2.length = U.length := ⟨V.take (V.length - U.length), V.drop (V.length - U.length), by simp, by simp; omega⟩
        have hvl : (V1 ++ V2).length = V1.length + V2.length := by simp
        have c := C0q A U V1 V2 C (by simpa using ht) hV2.symm (by simpa using hl)
        have w2 : IntKind.wrap .i64 (IntKind.wrap .i64 (((A ++ U).length : Int) + ((V1 ++ V2).length : Int)) - (U.length : Int)) = ((A ++ U ++ V1).length : Int) := by
          rw [wrI (x := ((A ++ U).length : Int) + _) (by omega) (by simp at hl' ⊢; omega), wrI (by simp; omega) (by simp at hl' ⊢; omega)]; simp; omega
        have w3 : IntKind.wrap .i64 (((V1 ++ V2).length : Int) - (U.length : Int)) = (V1.length : Int) := by rw [wrI (by simp; omega) (by simp at hl' ⊢; omega)]; simp; omega
        have i1 := ih A V2 V1 (U ++ C) (by omega) (by intro h; subst h; simp at hV2; omega) (by intro h; subst h; simp at he hgt hvl; omega) (fun w hw => ht w (by simp at hw ⊢; grind)) (by simp at hl' ⊢; omega) (by simpa [List.append_assoc] using hT)
        have e1 : A ++ U ++ (V1 ++ V2) ++ C = A ++ U ++ V1 ++ V2 ++ C := by simp
        have e2 : (A ++ V2).length = (A ++ U).length := by simp [hV2]
        have e4 : A ++ V2 ++ V1 ++ (U ++ C) = A ++ V2 ++ V1 ++ U ++ C := by simp
        rw [w2, w3, e1]
        rw [e2, hV2, e4] at i1
        exact ⟨_, c, i1⟩
theorem a40q (A U V C : List (List Da × Tm)) (hU : U ≠ []) (hV : V ≠ []) (ht : ∀ z ∈ A ++ U ++ V ++ C, TgP Tm.da z) (hl : (A ++ U ++ V ++ C).length ≤ 3000000000000) : XC Try.prog 144 [.one (.ol 2000), Z (A.length : Int), Z ((A ++ U).length : Int), Z ((A ++ U ++ V).length : Int), .one (.d (.fn 105))] [(2000, .lst 31 3 ((A ++ U ++ V ++ C).map (·.1)))] (.tup []) [(2000, .lst 31 3 ((A ++ V ++ U ++ C).map (·.1)))] := by
  have hl' : A.length + U.length + V.length + C.length ≤ 3000000000000 := by simp at hl; omega
  have w1 : IntKind.wrap .i64 (((A ++ U).length : Int) - (A.length : Int)) = (U.length : Int) := by rw [wrI (by simp <;> omega) (by simp <;> omega)]; simp <;> omega
  have w2 : IntKind.wrap .i64 (((A ++ U ++ V).length : Int) - ((A ++ U).length : Int)) = (V.length : Int) := by rw [wrI (by simp <;> omega) (by simp <;> omega)]; simp <;> omega
  apply u7q
  rw [w1, w2]
  exact a44q _ _ A U V C (Nat.le_refl _) hU hV ht hl rfl
theorem a6Nq (hO : SWO e7q) (A : List (List Da × Tm)) (x : List Da × Tm) : ∀ (n : Nat) (L R Q : List (List Da × Tm)), L.length = n → (∀ z ∈ A ++ L ++ x :: R ++ Q, TgP Tm.da z) → (A ++ L ++ x :: R ++ Q).length ≤ 3000000000000 → Sd e7q (L ++ R) → (∀ y ∈ R, e7q x y) → ∃ S, S.Perm (L ++ x :: R) ∧ Sd e7q S ∧ ∀ (r : AV) (O : List (Nat × Ob)) (b i : Int), (d1q r O (A.length : Int) b (IntKind.wrap .i64 (i + 1)) ((A ++ S ++ Q).map (·.1)) → e4q r O (A.length : Int) b i ((A ++ L).length : Int) ((A ++ L ++ x :: R ++ Q).map (·.1))) := by
  intro n
  induction n with
  | zero =>
    intro L R Q hn ht hl hs hR
    have : L = [] := List.eq_nil_of_length_eq_zero hn
    subst this
    refine ⟨x :: R, by simp, I7q hO (L := []) hs (fun y hy => hO.asym (hR y hy)) (by simp), fun r O b i h => ?_⟩
    apply h7q
    refine a4q (decide_eq_false (by simp)) ?_
    simpa using h
  | succ n ih =>
    intro L R Q hn ht hl hs hR
    obtain ⟨L', z, rfl⟩ : ∃ L' z, L = L' ++ [z] := by
      rcases List.eq_nil_or_concat L with rfl | ⟨L', z, h⟩
      · simp at hn
      · exact ⟨L', z, by rw [h, List.concat_eq_append]⟩
    have hl' : A.length + L'.length + R.length + Q.length + 2 ≤ 3000000000000 := by simp at hl; omega
    have hz := ht z (by simp)
    have hx := ht x (by simp)
    have hcmp := a0Mq hx hz
    obtain ⟨_, _, _, ex⟩ := (ht x (by simp)).term
    obtain ⟨_, _, _, ez⟩ := (ht z (by simp)).term
    have eD : A ++ (L' ++ [z]) ++ x :: R ++ Q = (A ++ L') ++ z :: [] ++ x :: (R ++ Q) := by simp
    have g1 := J2q (fun z : List Da × Tm => z.1) (P := A ++ L') (M := []) (Q := R ++ Q) (a := z) (b := x)
    have g2 := I6q (fun z : List Da × Tm => z.1) (P := A ++ L') (M := []) (Q := R ++ Q) (a := z) (b := x)
    have l1 := v0q (fun z : List Da × Tm => z.1) (A ++ L') [] (R ++ Q) z x
    have g3 : ((((A ++ L') ++ z :: [] ++ x :: (R ++ Q)).map (·.1)).set ((A ++ L').length + 1 + ([] : List (List Da × Tm)).length) z.1)[(A ++ L').length]? = some z.1 := by
      rw [List.getElem?_set_ne (by simp)]; exact g2
    have w1 : IntKind.wrap .i64 (((A ++ (L' ++ [z])).length : Int) - 1) = (((A ++ L').length : Nat) : Int) := by rw [wrI (by simp <;> omega) (by simp <;> omega)]; simp <;> omega
    have w2 : IntKind.wrap .i64 ((((A ++ L').length + 1 + ([] : List (List Da × Tm)).length : Nat) : Int) - 1) = (((A ++ L').length : Nat) : Int) := by rw [wrI (by simp <;> omega) (by simp <;> omega)]; simp <;> omega
    have hj : ((A ++ (L' ++ [z])).length : Int) = (((A ++ L').length + 1 + ([] : List (List Da × Tm)).length : Nat) : Int) := by simp; omega
    by_cases hlt : e7q x z
    · obtain ⟨S, p1, p2, p3⟩ := ih L' (z :: R) Q (by simpa using hn) (fun w hw => ht w (by simp at hw ⊢; grind)) (by simp; omega) (by simpa using hs) (fun y hy => by
        rcases List.mem_cons.1 hy with rfl | hy
        · exact hlt
        · exact hR y hy)
      refine ⟨S, p1.trans ?_, p2, fun r O b i h => ?_⟩
      · have : (L' ++ [z]) ++ x :: R = L' ++ z :: x :: R := by simp
        rw [this]
        exact (List.Perm.swap ..).append_left L'
      · have h4 := p3 r O b i h
        have eS : A ++ L' ++ x :: z :: R ++ Q = (A ++ L') ++ x :: [] ++ z :: (R ++ Q) := by simp
        rw [eS, ← a0Hq] at h4
        rw [ex] at g1 hcmp
        rw [ez] at g2 g3 hcmp
        rw [ex, ez] at h4
        apply h7q
        rw [eD, hj, w2]
        refine b3q (decide_eq_true (by simp; omega)) ⟨_, rfl, ⟨by rw [l1]; simp; omega⟩, _, rfl, _, _, _, g1, _, rfl, ⟨by rw [l1]; simp; omega⟩, _, rfl, _, _, _, g2, _, hcmp, b3q (decide_eq_true hlt) ⟨_, rfl, ⟨by rw [l1]; simp; omega⟩, _, rfl, _, _, _, g2, _, rfl, ⟨by rw [l1]; simp; omega⟩, _, rfl, _, _, _, g1, _, rfl, ⟨by rw [l1]; simp; omega⟩, _, rfl, _, _, _, g1, _, rfl, ⟨by rw [List.length_set, l1]; simp; omega⟩, _, rfl, _, _, _, g3, h4⟩⟩
    · refine ⟨(L' ++ [z]) ++ x :: R, .refl _, I7q hO hs (fun y hy => hO.asym (hR y hy)) (a3gq hO (o5q.1 hs).1 hlt), fun r O b i h => ?_⟩
      have e2 : A ++ (L' ++ [z] ++ x :: R) ++ Q = (A ++ L') ++ z :: [] ++ x :: (R ++ Q) := by simp
      rw [e2] at h
      rw [ex] at g1 hcmp
      rw [ez] at g2 hcmp
      apply h7q
      rw [eD, hj, w2]
      exact b3q (decide_eq_true (by simp; omega)) ⟨_, rfl, ⟨by rw [l1]; simp; omega⟩, _, rfl, _, _, _, g1, _, rfl, ⟨by rw [l1]; simp; omega⟩, _, rfl, _, _, _, g2, _, hcmp, a4q (decide_eq_false hlt) h⟩
theorem Y2q (hO : SWO e7q) (A C : List (List Da × Tm)) : ∀ (R S : List (List Da × Tm)), (∀ z ∈ A ++ S ++ R ++ C, TgP Tm.da z) → (A ++ S ++ R ++ C).length ≤ 3000000000000 → Sd e7q S → ∃ M, M.Perm (S ++ R) ∧ Sd e7q M ∧ d1q (.tup []) [(2000, .lst 31 3 ((A ++ M ++ C).map (·.1)))] (A.length : Int) ((A ++ S ++ R).length : Int) ((A ++ S).length : Int) ((A ++ S ++ R ++ C).map (·.1))
  | [], S, ht, hl, hs => by
    refine ⟨S, by simp, hs, ?_⟩
    apply h8q
    exact a4q (decide_eq_false (by simp)) ⟨rfl, by simp⟩
  | x :: R, S, ht, hl, hs => by
    have hl' : A.length + S.length + R.length + C.length + 1 ≤ 3000000000000 := by simp at hl; omega
    obtain ⟨S', p1, p2, p3⟩ := a6Nq hO A x S.length S [] (R ++ C) rfl (by simpa using ht) (by simpa using hl) (by simpa using hs) (by simp)
    have pl := p1.length_eq
    simp only [List.length_append, List.length_cons, List.length_nil] at pl
    obtain ⟨M, q1, q2, q3⟩ := Y2q hO A C R S' (fun w hw => ht w (by
      have hp : w ∈ S' → w ∈ S ++ [x] := fun h => p1.subset h
      simp at hw hp ⊢; grind)) (by simp; omega) p2
    refine ⟨M, q1.trans ?_, q2, ?_⟩
    · have e : S ++ x :: R = S ++ [x] ++ R := by simp
      rw [e]
      exact p1.append_right R
    · have h4 := p3 (.tup []) [(2000, .lst 31 3 ((A ++ M ++ C).map (·.1)))] ((A ++ S ++ x :: R).length : Int) ((A ++ S).length : Int)
      have w1 : IntKind.wrap .i64 (((A ++ S).length : Int) + 1) = ((A ++ S').length : Int) := by rw [wrI (by simp <;> omega) (by simp <;> omega)]; simp <;> omega
      have e1 : (A ++ S' ++ R).length = (A ++ S ++ x :: R).length := by simp; omega
      have e2 : A ++ S' ++ (R ++ C) = A ++ S' ++ R ++ C := by simp
      have e3 : A ++ S ++ [x] ++ (R ++ C) = A ++ S ++ x :: R ++ C := by simp
      rw [w1, e2, e3] at h4
      rw [e1] at q3
      apply h8q
      exact b3q (decide_eq_true (by simp; omega)) (h4 q3)
theorem J6q (hO : SWO e7q) (A R C : List (List Da × Tm)) (ht : ∀ z ∈ A ++ R ++ C, TgP Tm.da z) (hl : (A ++ R ++ C).length ≤ 3000000000000) : ∃ M, M.Perm R ∧ Sd e7q M ∧ XC Try.prog 136 [.one (.ol 2000), Z (A.length : Int), Z ((A ++ R).length : Int), .one (.d (.fn 105))] [(2000, .lst 31 3 ((A ++ R ++ C).map (·.1)))] (.tup []) [(2000, .lst 31 3 ((A ++ M ++ C).map (·.1)))] := by
  have hl' : A.length + R.length + C.length ≤ 3000000000000 := by simp at hl; omega
  have w1 : IntKind.wrap .i64 ((A.length : Int) + 1) = ((A.length + 1 : Nat) : Int) := by rw [wrI (by omega) (by omega)]; simp
  cases R with
  | nil =>
    refine ⟨[], .refl _, .nil, ?_⟩
    apply k1q
    rw [w1]
    apply h8q
    exact a4q (decide_eq_false (by simp <;> omega)) ⟨rfl, rfl⟩
  | cons x R =>
    obtain ⟨M, p1, p2, p3⟩ := Y2q hO A C R [x] (by simpa using ht) (by simpa using hl) (by simp)
    refine ⟨M, by simpa using p1, p2, ?_⟩
    apply k1q
    rw [w1]
    have e1 : (A ++ [x]).length = A.length + 1 := by simp
    have e2 : A ++ [x] ++ R = A ++ x :: R := by simp
    rw [e1, e2] at p3
    exact p3
theorem a1Qq (i : Int) (x : List Da × Tm) (Q : List (List Da × Tm)) : ∀ (R1 D : List (List Da × Tm)), (∀ z ∈ D ++ x :: R1 ++ Q, TgP Tm.da z) → (D ++ x :: R1 ++ Q).length ≤ 3000000000000 → i = ((D.length + R1.length + 1 : Nat) : Int) → e2q (.tup []) [(2000, .lst 31 3 ((D ++ R1 ++ x :: Q).map (·.1)))] i (D.length : Int) ((D ++ x :: R1 ++ Q).map (·.1)) := by
  intro R1
  induction R1 with
  | nil =>
    intro D ht hl hi
    have w : IntKind.wrap .i64 (i - 1) = (D.length : Int) := by rw [wrI (by omega) (by simp at hl hi; omega)]; simp at hi; omega
    apply k9q
    rw [w]
    exact a4q (decide_eq_false (by omega)) ⟨rfl, by simp⟩
  | cons y R1 ih0 =>
    intro D ht hl hi
    have hl' : D.length + R1.length + Q.length + 2 ≤ 3000000000000 := by simp at hl; omega
    have ih := ih0 (D ++ [y]) (fun w hw => ht w (by simp at hw ⊢; grind)) (by simp; omega) (by simp at hi ⊢; omega)
    have w : IntKind.wrap .i64 (i - 1) = ((D.length + R1.length + 1 : Nat) : Int) := by rw [wrI (by omega) (by simp at hi; omega)]; simp at hi; omega
    have w1 : IntKind.wrap .i64 ((D.length : Int) + 1) = ((D.length + 1 + ([] : List (List Da × Tm)).length : Nat) : Int) := by rw [wrI (by omega) (by omega)]; simp
    have eD : D ++ x :: y :: R1 ++ Q = D ++ x :: [] ++ y :: (R1 ++ Q) := by simp
    have eE : D ++ [y] ++ x :: R1 ++ Q = D ++ y :: [] ++ x :: (R1 ++ Q) := by simp
    have eO : D ++ [y] ++ R1 ++ x :: Q = D ++ y :: R1 ++ x :: Q := by simp
    have e1 : (D ++ [y]).length = D.length + 1 + ([] : List (List Da × Tm)).length := by simp
    have g1 := J2q (fun z : List Da × Tm => z.1) (P := D) (M := []) (Q := R1 ++ Q) (a := x) (b := y)
    have g2 := I6q (fun z : List Da × Tm => z.1) (P := D) (M := []) (Q := R1 ++ Q) (a := x) (b := y)
    have l1 := v0q (fun z : List Da × Tm => z.1) D [] (R1 ++ Q) x y
    have g3 : (((D ++ x :: [] ++ y :: (R1 ++ Q)).map (·.1)).set D.length y.1)[D.length + 1 + ([] : List (List Da × Tm)).length]? = some y.1 := by
      rw [List.getElem?_set_ne (by simp)]; exact g1
    obtain ⟨_, _, _, ex⟩ := (ht x (by simp)).term
    obtain ⟨_, _, _, ey⟩ := (ht y (by simp)).term
    rw [eE, eO, e1, ← S5q (fun z : List Da × Tm => z.1) (P := D) (M := []) (Q := R1 ++ Q) (a := x) (b := y)] at ih
    rw [ex] at g2
    rw [ey] at g1 g3
    rw [ex, ey] at ih
    apply k9q
    rw [w, eD, w1]
    exact b3q (decide_eq_true (by omega)) ⟨_, rfl, ⟨by rw [l1]; simp; omega⟩, _, rfl, _, _, _, g1, _, rfl, ⟨by rw [l1]; simp; omega⟩, _, rfl, _, _, _, g2, _, rfl, ⟨by rw [l1]; simp; omega⟩, _, rfl, _, _, _, g2, _, rfl, ⟨by rw [List.length_set, l1]; simp; omega⟩, _, rfl, _, _, _, g3, ih⟩
theorem a3bq (D : List (List Da × Tm)) (x : List Da × Tm) : ∀ (n : Nat) (L Q : List (List Da × Tm)), L.length = n → (∀ z ∈ D ++ L ++ x :: Q, TgP Tm.da z) → (D ++ L ++ x :: Q).length ≤ 3000000000000 → e0q (.tup []) [(2000, .lst 31 3 ((D ++ x :: L ++ Q).map (·.1)))] (D.length : Int) ((D ++ L).length : Int) ((D ++ L ++ x :: Q).map (·.1)) := by
  intro n
  induction n with
  | zero =>
    intro L Q hn ht hl
    have : L = [] := List.eq_nil_of_length_eq_zero hn
    subst this
    apply k3q
    exact a4q (decide_eq_false (by simp)) ⟨rfl, by simp⟩
  | succ n ih =>
    intro L Q hn ht hl
    obtain ⟨L', z, rfl⟩ : ∃ L' z, L = L' ++ [z] := by
      rcases List.eq_nil_or_concat L with rfl | ⟨L', z, h⟩
      · simp at hn
      · exact ⟨L', z, by rw [h, List.concat_eq_append]⟩
    have hl' : D.length + L'.length + Q.length + 2 ≤ 3000000000000 := by simp at hl; omega
    have i1 := ih L' (z :: Q) (by simpa using hn) (fun w hw => ht w (by simp at hw ⊢; grind)) (by simp; omega)
    have eD : D ++ (L' ++ [z]) ++ x :: Q = (D ++ L') ++ z :: [] ++ x :: Q := by simp
    have eE : D ++ L' ++ x :: z :: Q = (D ++ L') ++ x :: [] ++ z :: Q := by simp
    have eO : D ++ x :: L' ++ z :: Q = D ++ x :: (L' ++ [z]) ++ Q := by simp
    have hj : ((D ++ (L' ++ [z])).length : Int) = (((D ++ L').length + 1 + ([] : List (List Da × Tm)).length : Nat) : Int) := by simp; omega
    have w2 : IntKind.wrap .i64 ((((D ++ L').length + 1 + ([] : List (List Da × Tm)).length : Nat) : Int) - 1) = (((D ++ L').length : Nat) : Int) := by rw [wrI (by simp <;> omega) (by simp <;> omega)]; simp <;> omega
    have g1 := J2q (fun z : List Da × Tm => z.1) (P := D ++ L') (M := []) (Q := Q) (a := z) (b := x)
    have g2 := I6q (fun z : List Da × Tm => z.1) (P := D ++ L') (M := []) (Q := Q) (a := z) (b := x)
    have l1 := v0q (fun z : List Da × Tm => z.1) (D ++ L') [] Q z x
    have g3 : ((((D ++ L') ++ z :: [] ++ x :: Q).map (·.1)).set ((D ++ L').length + 1 + ([] : List (List Da × Tm)).length) z.1)[(D ++ L').length]? = some z.1 := by
      rw [List.getElem?_set_ne (by simp)]; exact g2
    obtain ⟨_, _, _, ex⟩ := (ht x (by simp)).term
    obtain ⟨_, _, _, ez⟩ := (ht z (by simp)).term
    rw [eE, eO, ← a0Hq] at i1
    rw [ex] at g1
    rw [ez] at g2 g3
    rw [ex, ez] at i1
    apply k3q
    rw [eD, hj, w2]
    exact b3q (decide_eq_true (by simp; omega)) ⟨_, rfl, ⟨by rw [l1]; simp; omega⟩, _, rfl, _, _, _, g2, _, rfl, ⟨by rw [l1]; simp; omega⟩, _, rfl, _, _, _, g1, _, rfl, ⟨by rw [l1]; simp; omega⟩, _, rfl, _, _, _, g1, _, rfl, ⟨by rw [List.length_set, l1]; simp; omega⟩, _, rfl, _, _, _, g3, i1⟩
theorem aa9q (hO : SWO e7q) (A R C : List (List Da × Tm)) (x : List Da × Tm) (ht : ∀ z ∈ A ++ x :: R ++ C, TgP Tm.da z) (hl : (A ++ x :: R ++ C).length ≤ 3000000000000) (hs : Sd e7q R) : ∃ M, M.Perm (x :: R) ∧ Sd e7q M ∧ c2q (.tup []) [(2000, .lst 31 3 ((A ++ M ++ C).map (·.1)))] (A.length : Int) ((A.length + 1 : Nat) : Int) ((A.length + 1 + R.length : Nat) : Int) ((A ++ x :: R ++ C).map (·.1)) := by
  have hl' : A.length + R.length + C.length + 1 ≤ 3000000000000 := by simp at hl; omega
  have hlen : ((A ++ x :: R ++ C).map (·.1)).length = A.length + R.length + C.length + 1 := by simp; omega
  have eD : A ++ x :: R ++ C = A ++ [x] ++ R ++ C := by simp
  have gx : ((A ++ x :: R ++ C).map (·.1))[A.length]? = some x.1 := by
    have := s3q (fun z : List Da × Tm => z.1) (P := A) (R := x :: R) (Q := C) (k := 0) (y := x) rfl
    exact this
  obtain ⟨k, k1, k2, k3, k4, k5⟩ := M2q (ι := AV × List (Nat × Ob)) (p := fun t i j => c2q t.1 t.2 (A.length : Int) (i : Int) (j : Int) ((A ++ x :: R ++ C).map (·.1))) (ex := fun t i => e2q t.1 t.2 (i : Int) (A.length : Int) ((A ++ x :: R ++ C).map (·.1)))
    (fun h => ∃ y, R[h - (A.length + 1)]? = some y ∧ e7q y x) (A.length + 1) (A.length + 1 + R.length) (fun t i _ _ h => by
      apply k8q
      exact a4q (decide_eq_false (by omega)) h) (fun t i j h1 h2 h3 => by
      obtain ⟨y, hy⟩ := g8q (l := R) (i := (i + j) / 2 - (A.length + 1)) (by omega)
      have hym := List.mem_of_getElem? hy
      have hcmp := a0Mq (ht y (by simp [hym])) (ht x (by simp))
      have gy := s3q (fun z : List Da × Tm => z.1) (P := A ++ [x]) (Q := C) hy
      have eh : (A ++ [x]).length + ((i + j) / 2 - (A.length + 1)) = (i + j) / 2 := by simp; omega
      rw [eh, ← eD] at gy
      obtain ⟨_, _, _, ex⟩ := (ht x (by simp)).term
      obtain ⟨_, _, _, ey⟩ := (ht y (by simp [hym])).term
      have core : (e7q y x → c2q t.1 t.2 (A.length : Int) (((i + j) / 2 + 1 : Nat) : Int) (j : Int) ((A ++ x :: R ++ C).map (·.1))) → (¬ e7q y x → c2q t.1 t.2 (A.length : Int) (i : Int) (((i + j) / 2 : Nat) : Int) ((A ++ x :: R ++ C).map (·.1))) → c2q t.1 t.2 (A.length : Int) (i : Int) (j : Int) ((A ++ x :: R ++ C).map (·.1)) := by
        intro c1 c2
        have w1 : IntKind.wrap .i64 ((((i + j) / 2 : Nat) : Int) + 1) = (((i + j) / 2 + 1 : Nat) : Int) := by rw [wrI (by omega) (by omega)]; simp
        have gx2 := gx
        rw [ex] at gx2 hcmp
        rw [ey] at gy hcmp
        apply k8q
        rw [R4q (by omega), w1]
        refine b3q (decide_eq_true (by omega)) ⟨⟨A3q⟩, _, rfl, ⟨by rw [hlen]; omega⟩, _, rfl, _, _, _, gy, _, rfl, ⟨by rw [hlen]; omega⟩, _, rfl, _, _, _, gx2, _, hcmp, ?_⟩
        by_cases hlt : e7q y x
        · exact b3q (decide_eq_true hlt) (c1 hlt)
        · exact a4q (decide_eq_false hlt) (c2 hlt)
      refine ⟨fun hf hp => core (fun _ => hp) fun hn => ?_, fun hn hp => core (fun hlt => absurd ⟨y, hy, hlt⟩ hn) fun _ => hp⟩
      obtain ⟨y', hy', hlt⟩ := hf
      rw [hy] at hy'
      cases hy'
      exact absurd hlt hn) R.length (A.length + 1) (A.length + 1 + R.length) (by omega) (Nat.le_refl _) (by omega) (Nat.le_refl _) (.inl rfl) (.inl rfl)
  obtain ⟨q, rfl⟩ : ∃ q, k = A.length + 1 + q := ⟨k - (A.length + 1), by omega⟩
  have hq : q ≤ R.length := by omega
  have hsR : Sd e7q (R.take q ++ R.drop q) := by rw [List.take_append_drop]; exact hs
  obtain ⟨s1, s2, _⟩ := o5q.1 hsR
  have hR1 : ∀ y ∈ R.take q, e7q y x := by
    refine P0q hO s1 ?_
    rcases k3 with h | ⟨y, hy, hlt⟩
    · have : q = 0 := by omega
      subst this; exact .inl (by simp)
    · by_cases h0 : q = 0
      · subst h0; exact .inl (by simp)
      · refine .inr ⟨y, ?_, hlt⟩
        rw [List.length_take, Nat.min_eq_left hq, List.getElem?_take_of_lt (by omega)]
        rw [← hy]; congr 1; omega
  have hR2 : ∀ y ∈ R.drop q, ¬ e7q y x := by
    refine D4q hO s2 ?_
    rcases k4 with h | h
    · exact .inl (List.drop_eq_nil_of_le (by omega))
    · by_cases h0 : q = R.length
      · exact .inl (List.drop_eq_nil_of_le (by omega))
      · obtain ⟨y, hy⟩ := g8q (l := R) (i := q) (by omega)
        refine .inr ⟨y, by rw [List.getElem?_drop]; simpa using hy, fun hlt => h ⟨y, ?_, hlt⟩⟩
        rw [← hy]; congr 1; omega
  refine ⟨R.take q ++ x :: R.drop q, ?_, I7q hO hsR hR2 (fun y hy => hO.asym (hR1 y hy)), k5 (_, _) ?_⟩
  · refine List.perm_middle.trans ?_
    rw [List.take_append_drop]
  · have h := a1Qq ((A.length + 1 + q : Nat) : Int) x (R.drop q ++ C) (R.take q) A (fun w hw => ht w (by
      have e : A ++ x :: R.take q ++ (R.drop q ++ C) = A ++ x :: R ++ C := by
        simp only [List.append_assoc, List.cons_append]; rw [← List.append_assoc (R.take q), List.take_append_drop]
      rw [e] at hw; exact hw)) (by simp; omega) (by simp; omega)
    have e1 : A ++ x :: R.take q ++ (R.drop q ++ C) = A ++ x :: R ++ C := by
      simp only [List.append_assoc, List.cons_append]; rw [← List.append_assoc (R.take q), List.take_append_drop]
    have e2 : A ++ R.take q ++ x :: (R.drop q ++ C) = A ++ (R.take q ++ x :: R.drop q) ++ C := by simp
    rw [e1, e2] at h
    exact h
theorem a9cq (hO : SWO e7q) (A L C : List (List Da × Tm)) (x : List Da × Tm) (ht : ∀ z ∈ A ++ L ++ x :: C, TgP Tm.da z) (hl : (A ++ L ++ x :: C).length ≤ 3000000000000) (hs : Sd e7q L) : ∃ M, M.Perm (L ++ [x]) ∧ Sd e7q M ∧ c0q (.tup []) [(2000, .lst 31 3 ((A ++ M ++ C).map (·.1)))] ((A.length + L.length : Nat) : Int) (A.length : Int) ((A.length + L.length : Nat) : Int) ((A ++ L ++ x :: C).map (·.1)) := by
  have hl' : A.length + L.length + C.length + 1 ≤ 3000000000000 := by simp at hl; omega
  have hlen : ((A ++ L ++ x :: C).map (·.1)).length = A.length + L.length + C.length + 1 := by simp; omega
  have gx : ((A ++ L ++ x :: C).map (·.1))[A.length + L.length]? = some x.1 := by simp
  obtain ⟨k, k1, k2, k3, k4, k5⟩ := M2q (ι := AV × List (Nat × Ob)) (p := fun t i j => c0q t.1 t.2 ((A.length + L.length : Nat) : Int) (i : Int) (j : Int) ((A ++ L ++ x :: C).map (·.1))) (ex := fun t i => e0q t.1 t.2 (i : Int) ((A.length + L.length : Nat) : Int) ((A ++ L ++ x :: C).map (·.1)))
    (fun h => ∃ y, L[h - A.length]? = some y ∧ ¬ e7q x y) A.length (A.length + L.length) (fun t i _ _ h => by
      apply k5q
      exact a4q (decide_eq_false (by omega)) h) (fun t i j h1 h2 h3 => by
      obtain ⟨y, hy⟩ := g8q (l := L) (i := (i + j) / 2 - A.length) (by omega)
      have hym := List.mem_of_getElem? hy
      have hcmp := a0Mq (ht x (by simp)) (ht y (by simp [hym]))
      have gy := s3q (fun z : List Da × Tm => z.1) (P := A) (Q := x :: C) hy
      have eh : A.length + ((i + j) / 2 - A.length) = (i + j) / 2 := by omega
      rw [eh] at gy
      obtain ⟨_, _, _, ex⟩ := (ht x (by simp)).term
      obtain ⟨_, _, _, ey⟩ := (ht y (by simp [hym])).term
      have core : (¬ e7q x y → c0q t.1 t.2 ((A.length + L.length : Nat) : Int) (((i + j) / 2 + 1 : Nat) : Int) (j : Int) ((A ++ L ++ x :: C).map (·.1))) → (e7q x y → c0q t.1 t.2 ((A.length + L.length : Nat) : Int) (i : Int) (((i + j) / 2 : Nat) : Int) ((A ++ L ++ x :: C).map (·.1))) → c0q t.1 t.2 ((A.length + L.length : Nat) : Int) (i : Int) (j : Int) ((A ++ L ++ x :: C).map (·.1)) := by
        intro c1 c2
        have w1 : IntKind.wrap .i64 ((((i + j) / 2 : Nat) : Int) + 1) = (((i + j) / 2 + 1 : Nat) : Int) := by rw [wrI (by omega) (by omega)]; simp
        have gx2 := gx
        rw [ex] at gx2 hcmp
        rw [ey] at gy hcmp
        apply k5q
        rw [R4q (by omega), w1]
        refine b3q (decide_eq_true (by omega)) ⟨⟨A3q⟩, _, rfl, ⟨by rw [hlen]; omega⟩, _, rfl, _, _, _, gx2, _, rfl, ⟨by rw [hlen]; omega⟩, _, rfl, _, _, _, gy, _, hcmp, ?_⟩
        by_cases hlt : e7q x y
        · exact a4q (by rw [decide_eq_true (show Tm.cmp x.2 y.2 < 0 from hlt)]; rfl) (c2 hlt)
        · exact b3q (by rw [decide_eq_false (show ¬ Tm.cmp x.2 y.2 < 0 from hlt)]; rfl) (c1 hlt)
      refine ⟨fun hf hp => core (fun _ => hp) fun hn => ?_, fun hn hp => core (fun hlt => absurd ⟨y, hy, hlt⟩ hn) fun _ => hp⟩
      obtain ⟨y', hy', hlt⟩ := hf
      rw [hy] at hy'
      cases hy'
      exact absurd hn hlt) L.length A.length (A.length + L.length) (by omega) (Nat.le_refl _) (by omega) (Nat.le_refl _) (.inl rfl) (.inl rfl)
  obtain ⟨q, rfl⟩ : ∃ q, k = A.length + q := ⟨k - A.length, by omega⟩
  have hq : q ≤ L.length := by omega
  have hsL : Sd e7q (L.take q ++ L.drop q) := by rw [List.take_append_drop]; exact hs
  obtain ⟨s1, s2, _⟩ := o5q.1 hsL
  have hL1 : ∀ y ∈ L.take q, ¬ e7q x y := by
    refine Q2q hO s1 ?_
    by_cases h0 : q = 0
    · subst h0; exact .inl (by simp)
    · rcases k3 with h | ⟨y, hy, hlt⟩
      · exact absurd (by omega) h0
      · refine .inr ⟨y, ?_, hlt⟩
        rw [List.length_take, Nat.min_eq_left hq, List.getElem?_take_of_lt (by omega)]
        rw [← hy]; congr 1; omega
  have hL2 : ∀ y ∈ L.drop q, e7q x y := by
    refine a3Rq hO s2 ?_
    by_cases h0 : q = L.length
    · exact .inl (List.drop_eq_nil_of_le (by omega))
    · rcases k4 with h | h
      · exact absurd (by omega) h0
      · obtain ⟨y, hy⟩ := g8q (l := L) (i := q) (by omega)
        refine .inr ⟨y, by rw [List.getElem?_drop]; simpa using hy, Classical.byContradiction fun hlt => h ⟨y, ?_, hlt⟩⟩
        rw [← hy]; congr 1; omega
  refine ⟨L.take q ++ x :: L.drop q, ?_, I7q hO hsL (fun y hy => hO.asym (hL2 y hy)) hL1, k5 (_, _) ?_⟩
  · refine List.perm_middle.trans ?_
    rw [List.take_append_drop]
    exact (List.perm_append_singleton x L).symm
  · have e1 : A ++ L.take q ++ L.drop q ++ x :: C = A ++ L ++ x :: C := by rw [List.append_assoc A, List.take_append_drop]
    have h := a3bq (A ++ L.take q) x (L.drop q).length (L.drop q) C rfl (by rw [e1]; exact ht) (by rw [e1]; exact hl)
    have e2 : A ++ L.take q ++ x :: L.drop q ++ C = A ++ (L.take q ++ x :: L.drop q) ++ C := by simp
    have e3 : (A ++ L.take q).length = A.length + q := by simp; omega
    have e4 : (A ++ L.take q ++ L.drop q).length = A.length + L.length := by simp
    rw [e1, e2, e3, e4] at h
    exact h
theorem a9Iq (hO : SWO e7q) (A L1 L2 R1 R2 C : List (List Da × Tm)) (a m b mid k e : Nat) (ha : a = A.length) (hk : k = a + L1.length) (hm : m = k + L2.length) (he : e = m + R1.length) (hb : b = e + R2.length) (hmid : mid = k + R1.length) (ht : ∀ z ∈ A ++ L1 ++ L2 ++ R1 ++ R2 ++ C, TgP Tm.da z) (hl : (A ++ L1 ++ L2 ++ R1 ++ R2 ++ C).length ≤ 3000000000000) (hL : Sd e7q (L1 ++ L2)) (hR : Sd e7q (R1 ++ R2))
    (f1 : (L1 = [] ∨ R2 = []) ∨ ∃ y0 z0, L1[L1.length - 1]? = some y0 ∧ R2[0]? = some z0 ∧ ¬ e7q z0 y0) (f2 : (L2 = [] ∨ R1 = []) ∨ ∃ y0 z0, L2[0]? = some y0 ∧ R1[R1.length - 1]? = some z0 ∧ e7q z0 y0)
    (ih : ∀ (A L R C : List (List Da × Tm)), (L ++ R).length < (L1 ++ L2 ++ R1 ++ R2).length → L ≠ [] → R ≠ [] → (∀ z ∈ A ++ L ++ R ++ C, TgP Tm.da z) → (A ++ L ++ R ++ C).length ≤ 3000000000000 → Sd e7q L → Sd e7q R → ∃ M, M.Perm (L ++ R) ∧ Sd e7q M ∧ XC Try.prog 137 [.one (.ol 2000), Z (A.length : Int), Z ((A ++ L).length : Int), Z ((A ++ L ++ R).length : Int), .one (.d (.fn 105))] [(2000, .lst 31 3 ((A ++ L ++ R ++ C).map (·.1)))] (.tup []) [(2000, .lst 31 3 ((A ++ M ++ C).map (·.1)))])
    (hlt1 : (L1 ++ R1).length < (L1 ++ L2 ++ R1 ++ R2).length) (hlt2 : (L2 ++ R2).length < (L1 ++ L2 ++ R1 ++ R2).length) :
    ∃ M, M.Perm (L1 ++ L2 ++ (R1 ++ R2)) ∧ Sd e7q M ∧ ∀ s21 s22 : Int, s21 = k → b2q (.tup []) [(2000, .lst 31 3 ((A ++ M ++ C).map (·.1)))] (a : Int) (m : Int) (b : Int) (mid : Int) ((mid + m : Nat) : Int) (k : Int) s21 s22 ((A ++ L1 ++ L2 ++ R1 ++ R2 ++ C).map (·.1)) := by
  have hl' : A.length + L1.length + L2.length + R1.length + R2.length + C.length ≤ 3000000000000 := by simp at hl; omega
  obtain ⟨hs1, hs2, hs12⟩ := o5q.1 hL
  obtain ⟨hr1, hr2, hr12⟩ := o5q.1 hR
  obtain ⟨M1, p1, q1, z1, c1⟩ : ∃ M1, M1.Perm (L1 ++ R1) ∧ Sd e7q M1 ∧ ((L1 = [] ∨ R1 = []) → M1 = L1 ++ R1) ∧ (L1 ≠ [] → R1 ≠ [] → XC Try.prog 137 [.one (.ol 2000), Z (a : Int), Z (k : Int), Z (mid : Int), .one (.d (.fn 105))] [(2000, .lst 31 3 ((A ++ L1 ++ R1 ++ L2 ++ R2 ++ C).map (·.1)))] (.tup []) [(2000, .lst 31 3 ((A ++ M1 ++ L2 ++ R2 ++ C).map (·.1)))]) := by
    by_cases h : L1 = [] ∨ R1 = []
    · refine ⟨L1 ++ R1, .refl _, ?_, fun _ => rfl, fun h1 h2 => absurd h (by simp [h1, h2])⟩
      rcases h with rfl | rfl
      · simpa using hr1
      · simpa using hs1
    · have h1 : L1 ≠ [] := fun e => h (.inl e)
      have h2 : R1 ≠ [] := fun e => h (.inr e)
      obtain ⟨M1, p, q, c⟩ := ih A L1 R1 (L2 ++ R2 ++ C) hlt1 h1 h2 (fun w hw => ht w (by simp at hw ⊢; grind)) (by simp; omega) hs1 hr1
      refine ⟨M1, p, q, fun e => absurd e h, fun _ _ => ?_⟩
      have e1 : (A ++ L1).length = k := by simp; omega
      have e2 : (A ++ L1 ++ R1).length = mid := by simp; omega
      have e3 : A ++ L1 ++ R1 ++ (L2 ++ R2 ++ C) = A ++ L1 ++ R1 ++ L2 ++ R2 ++ C := by simp
      have e4 : A ++ M1 ++ (L2 ++ R2 ++ C) = A ++ M1 ++ L2 ++ R2 ++ C := by simp
      rw [e1, e2, e3, e4, ← ha] at c
      exact c
  have pl1 := p1.length_eq
  simp only [List.length_append] at pl1
  obtain ⟨M2, p2, q2, z2, c2⟩ : ∃ M2, M2.Perm (L2 ++ R2) ∧ Sd e7q M2 ∧ ((L2 = [] ∨ R2 = []) → M2 = L2 ++ R2) ∧ (L2 ≠ [] → R2 ≠ [] → XC Try.prog 137 [.one (.ol 2000), Z (mid : Int), Z (e : Int), Z (b : Int), .one (.d (.fn 105))] [(2000, .lst 31 3 ((A ++ M1 ++ L2 ++ R2 ++ C).map (·.1)))] (.tup []) [(2000, .lst 31 3 ((A ++ M1 ++ M2 ++ C).map (·.1)))]) := by
    by_cases h : L2 = [] ∨ R2 = []
    · refine ⟨L2 ++ R2, .refl _, ?_, fun _ => rfl, fun h1 h2 => absurd h (by simp [h1, h2])⟩
      rcases h with rfl | rfl
      · simpa using hr2
      · simpa using hs2
    · have h1 : L2 ≠ [] := fun e => h (.inl e)
      have h2 : R2 ≠ [] := fun e => h (.inr e)
      obtain ⟨M2, p, q, c⟩ := ih (A ++ M1) L2 R2 C hlt2 h1 h2 (fun w hw => ht w (by
        have hp : w ∈ M1 → w ∈ L1 ++ R1 := fun h => p1.subset h
        simp at hw hp ⊢; grind)) (by simp; omega) hs2 hr2
      refine ⟨M2, p, q, fun e => absurd e h, fun _ _ => ?_⟩
      have e1 : (A ++ M1).length = mid := by simp; omega
      have e2 : (A ++ M1 ++ L2).length = e := by simp; omega
      have e3 : (A ++ M1 ++ L2 ++ R2).length = b := by simp; omega
      rw [e1, e2, e3] at c
      exact c
  have hcross1 : ∀ x ∈ L1, ∀ y ∈ R2, ¬ e7q y x := fun x hx y hy => by
    rcases f1 with (h | h) | ⟨y0, z0, g1, g2, g3⟩
    · simp [h] at hx
    · simp [h] at hy
    · exact D4q hO hr2 (.inr ⟨z0, g2, Q2q hO hs1 (.inr ⟨y0, g1, g3⟩) x hx⟩) y hy
  have hcross2 : ∀ x ∈ R1, ∀ y ∈ L2, ¬ e7q y x := fun x hx y hy => by
    rcases f2 with (h | h) | ⟨y0, z0, g1, g2, g3⟩
    · simp [h] at hy
    · simp [h] at hx
    · exact D4q hO hs2 (.inr ⟨y0, g1, hO.asym (P0q hO hr1 (.inr ⟨z0, g2, g3⟩) x hx)⟩) y hy
  refine ⟨M1 ++ M2, ?_, o5q.2 ⟨q1, q2, fun x hx y hy => ?_⟩, fun s21 s22 h21 => ?_⟩
  · refine (p1.append p2).trans ?_
    have e1 : L1 ++ R1 ++ (L2 ++ R2) = L1 ++ ((R1 ++ L2) ++ R2) := by simp
    have e2 : L1 ++ L2 ++ (R1 ++ R2) = L1 ++ ((L2 ++ R1) ++ R2) := by simp
    rw [e1, e2]
    exact (List.perm_append_comm.append_right R2).append_left L1
  · have hx := p1.subset hx
    have hy := p2.subset hy
    rcases List.mem_append.1 hx with hx | hx <;> rcases List.mem_append.1 hy with hy | hy
    · exact hs12 x hx y hy
    · exact hcross1 x hx y hy
    · exact hcross2 x hx y hy
    · exact hr12 x hx y hy
  · subst h21
    obtain ⟨D3, hD3⟩ : ∃ D3, D3 = A ++ M1 ++ M2 ++ C := ⟨_, rfl⟩
    have eO : A ++ (M1 ++ M2) ++ C = D3 := by rw [hD3]; simp
    rw [eO]
    have hRight : ifB (decide ((mid : Int) < ((e : Nat) : Int))) (ifB (decide (((e : Nat) : Int) < (b : Int))) (∃ xs', XC Try.prog 137 [.one (.ol 2000), Z (mid : Int), Z ((e : Nat) : Int), Z (b : Int), .one (.d (.fn 105))] [(2000, .lst 31 3 ((A ++ M1 ++ L2 ++ R2 ++ C).map (·.1)))] (.tup []) [(2000, .lst 31 3 xs')] ∧ ((AV.tup []) = .tup [] ∧ [((2000 : Nat), Ob.lst 31 3 (xs'))] = [(2000, Ob.lst 31 3 (D3.map (·.1)))])) ((AV.tup []) = .tup [] ∧ [((2000 : Nat), Ob.lst 31 3 ((A ++ M1 ++ L2 ++ R2 ++ C).map (·.1)))] = [(2000, Ob.lst 31 3 (D3.map (·.1)))])) ((AV.tup []) = .tup [] ∧ [((2000 : Nat), Ob.lst 31 3 ((A ++ M1 ++ L2 ++ R2 ++ C).map (·.1)))] = [(2000, Ob.lst 31 3 (D3.map (·.1)))]) := by
      by_cases h2 : L2 = []
      · refine a4q (decide_eq_false (by subst h2; simp at hm; omega)) ⟨rfl, ?_⟩
        rw [hD3, z2 (.inl h2)]; simp
      · have := List.length_pos_iff.2 h2
        refine b3q (decide_eq_true (by omega)) ?_
        by_cases h3 : R2 = []
        · refine a4q (decide_eq_false (by subst h3; simp at hb; omega)) ⟨rfl, ?_⟩
          rw [hD3, z2 (.inr h3)]; simp
        · have := List.length_pos_iff.2 h3
          exact b3q (decide_eq_true (by omega)) ⟨_, c2 h2 h3, rfl, by rw [hD3]⟩
    have hLeft : ifB (decide ((a : Int) < (k : Int))) (ifB (decide ((k : Int) < (mid : Int))) (∃ xs1, XC Try.prog 137 [.one (.ol 2000), Z (a : Int), Z (k : Int), Z (mid : Int), .one (.d (.fn 105))] [(2000, .lst 31 3 ((A ++ L1 ++ R1 ++ L2 ++ R2 ++ C).map (·.1)))] (.tup []) [(2000, .lst 31 3 xs1)] ∧ ifB (decide ((mid : Int) < ((e : Nat) : Int))) (ifB (decide (((e : Nat) : Int) < (b : Int))) (∃ xs', XC Try.prog 137 [.one (.ol 2000), Z (mid : Int), Z ((e : Nat) : Int), Z (b : Int), .one (.d (.fn 105))] [(2000, .lst 31 3 (xs1))] (.tup []) [(2000, .lst 31 3 xs')] ∧ ((AV.tup []) = .tup [] ∧ [((2000 : Nat), Ob.lst 31 3 (xs'))] = [(2000, Ob.lst 31 3 (D3.map (·.1)))])) ((AV.tup []) = .tup [] ∧ [((2000 : Nat), Ob.lst 31 3 (xs1))] = [(2000, Ob.lst 31 3 (D3.map (·.1)))])) ((AV.tup []) = .tup [] ∧ [((2000 : Nat), Ob.lst 31 3 (xs1))] = [(2000, Ob.lst 31 3 (D3.map (·.1)))])) (ifB (decide ((mid : Int) < ((e : Nat) : Int))) (ifB (decide (((e : Nat) : Int) < (b : Int))) (∃ xs', XC Try.prog 137 [.one (.ol 2000), Z (mid : Int), Z ((e : Nat) : Int), Z (b : Int), .one (.d (.fn 105))] [(2000, .lst 31 3 ((A ++ L1 ++ R1 ++ L2 ++ R2 ++ C).map (·.1)))] (.tup []) [(2000, .lst 31 3 xs')] ∧ ((AV.tup []) = .tup [] ∧ [((2000 : Nat), Ob.lst 31 3 (xs'))] = [(2000, Ob.lst 31 3 (D3.map (·.1)))])) ((AV.tup []) = .tup [] ∧ [((2000 : Nat), Ob.lst 31 3 ((A ++ L1 ++ R1 ++ L2 ++ R2 ++ C).map (·.1)))] = [(2000, Ob.lst 31 3 (D3.map (·.1)))])) ((AV.tup []) = .tup [] ∧ [((2000 : Nat), Ob.lst 31 3 ((A ++ L1 ++ R1 ++ L2 ++ R2 ++ C).map (·.1)))] = [(2000, Ob.lst 31 3 (D3.map (·.1)))]))) (ifB (decide ((mid : Int) < ((e : Nat) : Int))) (ifB (decide (((e : Nat) : Int) < (b : Int))) (∃ xs', XC Try.prog 137 [.one (.ol 2000), Z (mid : Int), Z ((e : Nat) : Int), Z (b : Int), .one (.d (.fn 105))] [(2000, .lst 31 3 ((A ++ L1 ++ R1 ++ L2 ++ R2 ++ C).map (·.1)))] (.tup []) [(2000, .lst 31 3 xs')] ∧ ((AV.tup []) = .tup [] ∧ [((2000 : Nat), Ob.lst 31 3 (xs'))] = [(2000, Ob.lst 31 3 (D3.map (·.1)))])) ((AV.tup []) = .tup [] ∧ [((2000 : Nat), Ob.lst 31 3 ((A ++ L1 ++ R1 ++ L2 ++ R2 ++ C).map (·.1)))] = [(2000, Ob.lst 31 3 (D3.map (·.1)))])) ((AV.tup []) = .tup [] ∧ [((2000 : Nat), Ob.lst 31 3 ((A ++ L1 ++ R1 ++ L2 ++ R2 ++ C).map (·.1)))] = [(2000, Ob.lst 31 3 (D3.map (·.1)))])) := by
      by_cases h2 : L1 = []
      · refine a4q (decide_eq_false (by subst h2; simp at hk; omega)) ?_
        rw [z1 (.inl h2)] at hRight
        simpa using hRight
      · have := List.length_pos_iff.2 h2
        refine b3q (decide_eq_true (by omega)) ?_
        by_cases h3 : R1 = []
        · refine a4q (decide_eq_false (by subst h3; simp at hmid; omega)) ?_
          rw [z1 (.inr h3)] at hRight
          simpa using hRight
        · have := List.length_pos_iff.2 h3
          exact b3q (decide_eq_true (by omega)) ⟨_, c1 h2 h3, hRight⟩
    have w : IntKind.wrap .i64 (((mid + m : Nat) : Int) - (k : Int)) = ((e : Nat) : Int) := by rw [wrI (by omega) (by omega)]; omega
    apply k6q
    rw [w]
    refine a4q (decide_eq_false (by omega)) ?_
    by_cases h2 : L2 = []
    · refine a4q (decide_eq_false (by subst h2; simp at hm; omega)) ?_
      have e1 : A ++ L1 ++ L2 ++ R1 ++ R2 ++ C = A ++ L1 ++ R1 ++ L2 ++ R2 ++ C := by subst h2; simp
      rw [e1]
      exact hLeft
    · have := List.length_pos_iff.2 h2
      refine b3q (decide_eq_true (by omega)) ?_
      by_cases h3 : R1 = []
      · refine a4q (decide_eq_false (by subst h3; simp at he; omega)) ?_
        have e1 : A ++ L1 ++ L2 ++ R1 ++ R2 ++ C = A ++ L1 ++ R1 ++ L2 ++ R2 ++ C := by subst h3; simp
        rw [e1]
        exact hLeft
      · have := List.length_pos_iff.2 h3
        have c := a40q (A ++ L1) L2 R1 (R2 ++ C) h2 h3 (fun w hw => ht w (by simp at hw ⊢; grind)) (by simp; omega)
        have e1 : A ++ L1 ++ L2 ++ R1 ++ (R2 ++ C) = A ++ L1 ++ L2 ++ R1 ++ R2 ++ C := by simp
        have e2 : A ++ L1 ++ R1 ++ L2 ++ (R2 ++ C) = A ++ L1 ++ R1 ++ L2 ++ R2 ++ C := by simp
        have e3 : (A ++ L1).length = k := by simp; omega
        have e4 : (A ++ L1 ++ L2).length = m := by simp; omega
        have e5 : (A ++ L1 ++ L2 ++ R1).length = e := by simp; omega
        rw [e1, e2, e3, e4, e5] at c
        exact b3q (decide_eq_true (by omega)) ⟨_, c, hLeft⟩
theorem a6kq (A L R C : List (List Da × Tm)) (a m b mid lo hi : Nat) (ha : a = A.length) (hm : m = a + L.length) (hb : b = m + R.length) (hlh : lo ≤ hi) (hla : a ≤ lo) (hhm : hi ≤ m) (hc : ∀ c, lo ≤ c → c < hi → m + c ≤ mid + m - 1 ∧ mid + m - 1 - c < b) (ht : ∀ z ∈ A ++ L ++ R ++ C, TgP Tm.da z) (hl : (A ++ L ++ R ++ C).length ≤ 3000000000000) (hmid : mid ≤ 3000000000000) :
    ∃ k, lo ≤ k ∧ k ≤ hi ∧ (k = lo ∨ ∃ y z, L[k - 1 - a]? = some y ∧ R[mid + m - 1 - (k - 1) - m]? = some z ∧ ¬ e7q z y) ∧ (k = hi ∨ ¬ ∃ y z, L[k - a]? = some y ∧ R[mid + m - 1 - k - m]? = some z ∧ ¬ e7q z y) ∧
    ∀ t : AV × List (Nat × Ob), b2q t.1 t.2 (a : Int) (m : Int) (b : Int) (mid : Int) ((mid + m : Nat) : Int) (k : Int) (k : Int) ((mid + m - 1 : Nat) : Int) ((A ++ L ++ R ++ C).map (·.1)) → b2q t.1 t.2 (a : Int) (m : Int) (b : Int) (mid : Int) ((mid + m : Nat) : Int) (lo : Int) (hi : Int) ((mid + m - 1 : Nat) : Int) ((A ++ L ++ R ++ C).map (·.1)) := by
  have hl' : A.length + L.length + R.length + C.length ≤ 3000000000000 := by simp at hl; omega
  have hlen : ((A ++ L ++ R ++ C).map (·.1)).length = A.length + L.length + R.length + C.length := by simp; omega
  refine M2q (ι := AV × List (Nat × Ob)) (p := fun t i j => b2q t.1 t.2 (a : Int) (m : Int) (b : Int) (mid : Int) ((mid + m : Nat) : Int) (i : Int) (j : Int) ((mid + m - 1 : Nat) : Int) ((A ++ L ++ R ++ C).map (·.1))) (ex := fun t i => b2q t.1 t.2 (a : Int) (m : Int) (b : Int) (mid : Int) ((mid + m : Nat) : Int) (i : Int) (i : Int) ((mid + m - 1 : Nat) : Int) ((A ++ L ++ R ++ C).map (·.1)))
    (fun c => ∃ y z, L[c - a]? = some y ∧ R[mid + m - 1 - c - m]? = some z ∧ ¬ e7q z y) lo hi (fun t i _ _ h => h) (fun t i j h1 h2 h3 => ?_) (hi - lo) lo hi (Nat.le_refl _) (Nat.le_refl _) hlh (Nat.le_refl _) (.inl rfl) (.inl rfl)
  obtain ⟨hc1, hc2⟩ := hc ((i + j) / 2) (by omega) (by omega)
  obtain ⟨y, hy⟩ := g8q (l := L) (i := (i + j) / 2 - a) (by omega)
  obtain ⟨z, hz⟩ := g8q (l := R) (i := mid + m - 1 - (i + j) / 2 - m) (by omega)
  have hym := List.mem_of_getElem? hy
  have hzm := List.mem_of_getElem? hz
  have hcmp := a0Mq (ht z (by simp [hzm])) (ht y (by simp [hym]))
  have gy := s3q (fun z : List Da × Tm => z.1) (P := A) (Q := R ++ C) hy
  have gz := s3q (fun z : List Da × Tm => z.1) (P := A ++ L) (Q := C) hz
  have eh : A.length + ((i + j) / 2 - a) = (i + j) / 2 := by omega
  have eg : (A ++ L).length + (mid + m - 1 - (i + j) / 2 - m) = mid + m - 1 - (i + j) / 2 := by simp; omega
  have eD : A ++ L ++ (R ++ C) = A ++ L ++ R ++ C := by simp
  rw [eh, eD] at gy
  rw [eg] at gz
  obtain ⟨_, _, _, ez⟩ := (ht z (by simp [hzm])).term
  obtain ⟨_, _, _, ey⟩ := (ht y (by simp [hym])).term
  have core : (¬ e7q z y → b2q t.1 t.2 (a : Int) (m : Int) (b : Int) (mid : Int) ((mid + m : Nat) : Int) (((i + j) / 2 + 1 : Nat) : Int) (j : Int) ((mid + m - 1 : Nat) : Int) ((A ++ L ++ R ++ C).map (·.1))) → (e7q z y → b2q t.1 t.2 (a : Int) (m : Int) (b : Int) (mid : Int) ((mid + m : Nat) : Int) (i : Int) (((i + j) / 2 : Nat) : Int) ((mid + m - 1 : Nat) : Int) ((A ++ L ++ R ++ C).map (·.1))) → b2q t.1 t.2 (a : Int) (m : Int) (b : Int) (mid : Int) ((mid + m : Nat) : Int) (i : Int) (j : Int) ((mid + m - 1 : Nat) : Int) ((A ++ L ++ R ++ C).map (·.1)) := by
    intro c1 c2
    have w1 : IntKind.wrap .i64 ((((i + j) / 2 : Nat) : Int) + 1) = (((i + j) / 2 + 1 : Nat) : Int) := by rw [wrI (by omega) (by omega)]; simp
    have w2 : IntKind.wrap .i64 (((mid + m - 1 : Nat) : Int) - (((i + j) / 2 : Nat) : Int)) = ((mid + m - 1 - (i + j) / 2 : Nat) : Int) := by rw [wrI (by omega) (by omega)]; omega
    rw [ez] at gz hcmp
    rw [ey] at gy hcmp
    apply k6q
    rw [R4q (by omega), w1, w2]
    refine b3q (decide_eq_true (by omega)) ⟨⟨A3q⟩, _, rfl, ⟨by rw [hlen]; omega⟩, _, rfl, _, _, _, gz, _, rfl, ⟨by rw [hlen]; omega⟩, _, rfl, _, _, _, gy, _, hcmp, ?_⟩
    by_cases hlt : e7q z y
    · exact a4q (by rw [decide_eq_true (show Tm.cmp z.2 y.2 < 0 from hlt)]; rfl) (c2 hlt)
    · exact b3q (by rw [decide_eq_false (show ¬ Tm.cmp z.2 y.2 < 0 from hlt)]; rfl) (c1 hlt)
  refine ⟨fun hf hp => core (fun _ => hp) fun hn => ?_, fun hn hp => core (fun hlt => absurd ⟨y, z, hy, hz, hlt⟩ hn) fun _ => hp⟩
  obtain ⟨y', z', hy', hz', hlt⟩ := hf
  rw [hy] at hy'
  rw [hz] at hz'
  cases hy'
  cases hz'
  exact absurd hn hlt
theorem P8q (hO : SWO e7q) : ∀ (n : Nat) (A L R C : List (List Da × Tm)), (L ++ R).length ≤ n → L ≠ [] → R ≠ [] → (∀ z ∈ A ++ L ++ R ++ C, TgP Tm.da z) → (A ++ L ++ R ++ C).length ≤ 3000000000000 → Sd e7q L → Sd e7q R → ∃ M, M.Perm (L ++ R) ∧ Sd e7q M ∧ XC Try.prog 137 [.one (.ol 2000), Z (A.length : Int), Z ((A ++ L).length : Int), Z ((A ++ L ++ R).length : Int), .one (.d (.fn 105))] [(2000, .lst 31 3 ((A ++ L ++ R ++ C).map (·.1)))] (.tup []) [(2000, .lst 31 3 ((A ++ M ++ C).map (·.1)))] := by
  intro n
  induction n with
  | zero =>
    intro A L R C hn hL _ _ _ _ _
    exact absurd (List.eq_nil_of_length_eq_zero (by simp at hn; simp [hn])) hL
  | succ n ih =>
    intro A L R C hn hL hR ht hl hsL hsR
    have hL' := List.length_pos_iff.2 hL
    have hR' := List.length_pos_iff.2 hR
    have hl' : A.length + L.length + R.length + C.length ≤ 3000000000000 := by simp at hl; omega
    have hn' : L.length + R.length ≤ n + 1 := by simpa using hn
    have em : (A ++ L).length = A.length + L.length := by simp
    have eb : (A ++ L ++ R).length = A.length + L.length + R.length := by simp; omega
    have w1 : IntKind.wrap .i64 (((A.length + L.length : Nat) : Int) - (A.length : Int)) = (L.length : Int) := by rw [wrI (by omega) (by omega)]; omega
    have w2 : IntKind.wrap .i64 (((A.length + L.length + R.length : Nat) : Int) - ((A.length + L.length : Nat) : Int)) = (R.length : Int) := by rw [wrI (by omega) (by omega)]; omega
    rw [em, eb]
    by_cases h1 : L.length = 1
    · obtain ⟨x, rfl⟩ : ∃ x, L = [x] := List.length_eq_one_iff.1 h1
      obtain ⟨M, p1, p2, p3⟩ := aa9q hO A R C x (by simpa using ht) (by simpa using hl) hsR
      refine ⟨M, p1, p2, ?_⟩
      apply h5q
      rw [w1]
      refine b3q (decide_eq_true (by omega)) ?_
      have e1 : A ++ [x] ++ R ++ C = A ++ x :: R ++ C := by simp
      rw [e1]
      exact p3
    · by_cases h2 : R.length = 1
      · obtain ⟨x, rfl⟩ : ∃ x, R = [x] := List.length_eq_one_iff.1 h2
        obtain ⟨M, p1, p2, p3⟩ := a9cq hO A L C x (by simpa using ht) (by simpa using hl) hsL
        refine ⟨M, p1, p2, ?_⟩
        apply h5q
        rw [w1, w2]
        refine a4q (decide_eq_false (by omega)) (b3q (decide_eq_true (by omega)) ?_)
        have e1 : A ++ L ++ [x] ++ C = A ++ L ++ x :: C := by simp
        rw [e1]
        exact p3
      · obtain ⟨a, ha⟩ : ∃ a, a = A.length := ⟨_, rfl⟩
        obtain ⟨m, hm⟩ : ∃ m, m = a + L.length := ⟨_, rfl⟩
        obtain ⟨b, hb⟩ : ∃ b, b = m + R.length := ⟨_, rfl⟩
        rw [← ha, ← hm] at w1
        rw [← ha, ← hm, ← hb] at w2 ⊢
        obtain ⟨mid, hmid⟩ : ∃ mid, mid = (a + b) / 2 := ⟨_, rfl⟩
        have wm : IntKind.wrap .i64 (((mid : Nat) : Int) + (m : Int)) = ((mid + m : Nat) : Int) := by rw [wrI (by omega) (by omega)]; simp
        have wp : IntKind.wrap .i64 (((mid + m : Nat) : Int) - 1) = ((mid + m - 1 : Nat) : Int) := by rw [wrI (by omega) (by omega)]; omega
        have hcases : ∃ lo hi, lo ≤ hi ∧ a ≤ lo ∧ hi ≤ m ∧ hi ≤ mid ∧ mid + m ≤ b + lo ∧ (∀ c, lo ≤ c → c < hi → m + c ≤ mid + m - 1 ∧ mid + m - 1 - c < b) ∧ (lo = a ∨ mid + m = b + lo) ∧ (hi = m ∨ hi = mid) ∧
            ∀ (r : AV) (O : List (Nat × Ob)), b2q r O (a : Int) (m : Int) (b : Int) (mid : Int) ((mid + m : Nat) : Int) (lo : Int) (hi : Int) ((mid + m - 1 : Nat) : Int) ((A ++ L ++ R ++ C).map (·.1)) → XC Try.prog 137 [.one (.ol 2000), Z (a : Int), Z (m : Int), Z (b : Int), .one (.d (.fn 105))] [(2000, .lst 31 3 ((A ++ L ++ R ++ C).map (·.1)))] r O := by
          by_cases hgt : mid < m
          · refine ⟨mid + m - b, mid, by omega, by omega, by omega, by omega, by omega, fun c h1 h2 => by omega, by omega, .inr rfl, fun r O h => ?_⟩
            have w3 : IntKind.wrap .i64 (((mid + m : Nat) : Int) - (b : Int)) = ((mid + m - b : Nat) : Int) := by rw [wrI (by omega) (by omega)]; omega
            apply h5q
            rw [w1, w2, R4q (by omega), ← hmid, wm, wp, w3]
            exact a4q (decide_eq_false (by omega)) (a4q (decide_eq_false (by omega)) ⟨⟨A3q⟩, b3q (decide_eq_true (by omega)) h⟩)
          · refine ⟨a, m, by omega, by omega, by omega, by omega, by omega, fun c h1 h2 => by omega, .inl rfl, .inl rfl, fun r O h => ?_⟩
            apply h5q
            rw [w1, w2, R4q (by omega), ← hmid, wm, wp]
            exact a4q (decide_eq_false (by omega)) (a4q (decide_eq_false (by omega)) ⟨⟨A3q⟩, a4q (decide_eq_false (by omega)) h⟩)
        obtain ⟨lo, hi, c1, c2, c3, c4, c5, c6, c7, c8, c9⟩ := hcases
        obtain ⟨k, k1, k2, k3, k4, k5⟩ := a6kq A L R C a m b mid lo hi ha hm hb c1 c2 c3 c6 ht hl (by omega)
        obtain ⟨L1, L2, rfl, hL1⟩ : ∃ L1 L2, L = L1 ++ L2 ∧ L1.length = k - a := ⟨L.take (k - a), L.drop (k - a), by simp, by simp; omega⟩
        obtain ⟨R1, R2, rfl, hR1⟩ : ∃ R1 R2, R = R1 ++ R2 ∧ R1.length = mid - k := ⟨R.take (mid - k), R.drop (mid - k), by simp, by simp; omega⟩
        rw [List.length_append] at hm hb
        have f1 : (L1 = [] ∨ R2 = []) ∨ ∃ y0 z0, L1[L1.length - 1]? = some y0 ∧ R2[0]? = some z0 ∧ ¬ e7q z0 y0 := by
          by_cases hk0 : k = lo
          · left
            rcases c7 with h | h
            · exact .inl (List.eq_nil_of_length_eq_zero (by omega))
            · exact .inr (List.eq_nil_of_length_eq_zero (by omega))
          · right
            rcases k3 with h | ⟨y, z, hy, hz, hlt⟩
            · exact absurd h hk0
            · refine ⟨y, z, ?_, ?_, hlt⟩
              · rw [← hy, List.getElem?_append_left (by omega)]; congr 1; omega
              · rw [← hz, List.getElem?_append_right (by omega)]; congr 1; omega
        have f2 : (L2 = [] ∨ R1 = []) ∨ ∃ y0 z0, L2[0]? = some y0 ∧ R1[R1.length - 1]? = some z0 ∧ e7q z0 y0 := by
          by_cases hk0 : k = hi
          · left
            rcases c8 with h | h
            · exact .inl (List.eq_nil_of_length_eq_zero (by omega))
            · exact .inr (List.eq_nil_of_length_eq_zero (by omega))
          · right
            have hc := c6 k k1 (by omega)
            obtain ⟨y, hy⟩ := g8q (l := L2) (i := 0) (by omega)
            obtain ⟨z, hz⟩ := g8q (l := R1) (i := R1.length - 1) (by omega)
            refine ⟨y, z, hy, hz, Classical.byContradiction fun hlt => ?_⟩
            rcases k4 with h | h
            · exact hk0 h
            · refine h ⟨y, z, ?_, ?_, hlt⟩
              · rw [← hy, List.getElem?_append_right (by omega)]; congr 1; omega
              · rw [← hz, List.getElem?_append_left (by omega)]; congr 1; omega
        have eD : A ++ (L1 ++ L2) ++ (R1 ++ R2) ++ C = A ++ L1 ++ L2 ++ R1 ++ R2 ++ C := by simp
        have hfacts : k = a + L1.length ∧ m = k + L2.length ∧ b = m + R1.length + R2.length ∧ mid = k + R1.length := by
          clear c7 c8 c9 k3 k4 k5 f1 f2 c6 w1 w2 wm wp ih ht hl
          omega
        have hsz : mid < b ∧ a < mid := by
          clear c7 c8 c9 k3 k4 k5 f1 f2 c6 w1 w2 wm wp ih ht hl
          simp only [List.length_append] at h1 h2 hL' hR'
          omega
        have hsum : (L1 ++ L2 ++ R1 ++ R2).length = L1.length + L2.length + R1.length + R2.length := by simp; omega
        have hs1 : (L1 ++ R1).length < (L1 ++ L2 ++ R1 ++ R2).length := by
          clear c7 c8 c9 k3 k4 k5 f1 f2 c6 w1 w2 wm wp ih ht hl
          rw [hsum, List.length_append]; omega
        have hs2 : (L2 ++ R2).length < (L1 ++ L2 ++ R1 ++ R2).length := by
          clear c7 c8 c9 k3 k4 k5 f1 f2 c6 w1 w2 wm wp ih ht hl
          rw [hsum, List.length_append]; omega
        have hn2 : (L1 ++ L2 ++ R1 ++ R2).length ≤ n + 1 := by
          rw [hsum]; simp only [List.length_append] at hn'; omega
        obtain ⟨g1, g2, g3, g4⟩ := hfacts
        obtain ⟨M, p1, p2, p3⟩ := a9Iq hO A L1 L2 R1 R2 C a m b mid k (m + R1.length) ha g1 g2 rfl g3 g4 (by rw [← eD]; exact ht) (by rw [← eD]; exact hl) hsL hsR f1 f2 (fun A' L' R' C' hlt h1 h2 h3 h4 h5 h6 => ih A' L' R' C' (Nat.le_of_lt_succ (Nat.lt_of_lt_of_le hlt hn2)) h1 h2 h3 h4 h5 h6) hs1 hs2
        refine ⟨M, p1, p2, c9 _ _ (k5 (_, _) ?_)⟩
        rw [eD]
        exact p3 _ _ rfl
inductive I1q (k : Nat) : List (List Da × Tm) → Prop
  | last {l} : l.length ≤ k → Sd e7q l → I1q k l
  | cons {b r} : b.length = k → Sd e7q b → I1q k r → I1q k (b ++ r)
theorem W8q {k : Nat} (hk : 0 < k) {l : List (List Da × Tm)} (h : I1q k l) (hl : l.length ≤ k) : Sd e7q l := by
  cases h with
  | last _ h => exact h
  | @cons b r h1 h2 _ =>
    have : r = [] := List.eq_nil_of_length_eq_zero (by simp at hl; omega)
    subst this
    simpa using h2
theorem a6Cq (hO : SWO e7q) (k : Nat) (hk : 0 < k) (hk2 : k ≤ 6000000000000) : ∀ (n : Nat) (D S : List (List Da × Tm)), S.length ≤ n → (∀ z ∈ D ++ S, TgP Tm.da z) → (D ++ S).length ≤ 3000000000000 → I1q k S → ∃ S', S'.Perm S ∧ I1q (2 * k) S' ∧ ∀ (r : AV) (O : List (Nat × Ob)), d3q r O ((D ++ S).length : Int) ((2 * k : Nat) : Int) ((D ++ S').map (·.1)) → f7q r O ((D ++ S).length : Int) (k : Int) (D.length : Int) ((D.length + 2 * k : Nat) : Int) ((D ++ S).map (·.1)) := by
  intro n
  induction n with
  | zero =>
    intro D S hn ht hl hb
    have : S = [] := List.eq_nil_of_length_eq_zero (by omega)
    subst this
    refine ⟨[], .refl _, .last (by simp) .nil, fun r O h => ?_⟩
    have w1 : IntKind.wrap .i64 ((D.length : Int) + (k : Int)) = ((D.length + k : Nat) : Int) := by rw [wrI (by omega) (by simp at hl; omega)]; simp
    have w2 : IntKind.wrap .i64 ((k : Int) * 2) = ((2 * k : Nat) : Int) := by rw [wrI (by omega) (by omega)]; omega
    apply g9q
    rw [w1, w2]
    exact a4q (decide_eq_false (by simp; omega)) (a4q (decide_eq_false (by simp; omega)) h)
  | succ n ih =>
    intro D S hn ht hl hb
    have hl' : D.length + S.length ≤ 3000000000000 := by simpa using hl
    have hlen : (D ++ S).length = D.length + S.length := by simp
    have w1 : IntKind.wrap .i64 ((D.length : Int) + (k : Int)) = ((D.length + k : Nat) : Int) := by rw [wrI (by omega) (by omega)]; simp
    have w2 : IntKind.wrap .i64 ((k : Int) * 2) = ((2 * k : Nat) : Int) := by rw [wrI (by omega) (by omega)]; omega
    have w3 : IntKind.wrap .i64 (2 * (k : Int)) = ((2 * k : Nat) : Int) := by rw [wrI (by omega) (by omega)]; omega
    have w4 : IntKind.wrap .i64 (((D.length + 2 * k : Nat) : Int) + ((2 * k : Nat) : Int)) = ((D.length + 2 * k + 2 * k : Nat) : Int) := by rw [wrI (by omega) (by omega)]; omega
    by_cases h1 : S.length ≤ k
    · refine ⟨S, .refl _, .last (by omega) (W8q hk hb h1), fun r O h => ?_⟩
      apply g9q
      rw [w1, w2]
      exact a4q (decide_eq_false (by omega)) (a4q (decide_eq_false (by omega)) h)
    · obtain ⟨b1, S1, rfl, hb1, hs1, hb2⟩ : ∃ b1 S1, S = b1 ++ S1 ∧ b1.length = k ∧ Sd e7q b1 ∧ I1q k S1 := by
        cases hb with
        | last h _ => exact absurd h h1
        | cons h2 h3 h4 => exact ⟨_, _, rfl, h2, h3, h4⟩
      simp only [List.length_append] at h1 hn hl'
      have hlen : (D ++ (b1 ++ S1)).length = D.length + (b1.length + S1.length) := by simp
      by_cases h2 : S1.length < k
      · have hs2 := W8q hk hb2 (by omega)
        obtain ⟨M, p1, p2, p3⟩ := P8q hO _ D b1 S1 [] (Nat.le_refl _) (by intro h; subst h; simp at hb1; omega) (by intro h; subst h; simp at h1; omega) (by simpa using ht) (by simpa using hl) hs1 hs2
        refine ⟨M, p1, .last (by rw [p1.length_eq]; simp; omega) p2, fun r O h => ?_⟩
        apply g9q
        rw [w1, w2]
        have e1 : (D ++ b1).length = D.length + k := by simp [hb1]
        have e2 : (D ++ b1 ++ S1).length = (D ++ (b1 ++ S1)).length := by simp <;> omega
        have e3 : D ++ b1 ++ S1 ++ [] = D ++ (b1 ++ S1) := by simp
        rw [e1, e2, e3, List.append_nil] at p3
        exact a4q (decide_eq_false (by omega)) (b3q (decide_eq_true (by omega)) ⟨_, p3, h⟩)
      · obtain ⟨b2, S2, rfl, hb2l, hs2, hb3⟩ : ∃ b2 S2, S1 = b2 ++ S2 ∧ b2.length = k ∧ Sd e7q b2 ∧ I1q k S2 := by
          cases hb2 with
          | last g g' => exact ⟨_, [], by simp, by omega, g', .last (by simp) .nil⟩
          | cons g2 g3 g4 => exact ⟨_, _, rfl, g2, g3, g4⟩
        simp only [List.length_append] at h1 h2 hn hl'
        have hlen : (D ++ (b1 ++ (b2 ++ S2))).length = D.length + (b1.length + (b2.length + S2.length)) := by simp
        obtain ⟨M, p1, p2, p3⟩ := P8q hO _ D b1 b2 S2 (Nat.le_refl _) (by intro h; subst h; simp at hb1; omega) (by intro h; subst h; simp at hb2l; omega) (by simpa using ht) (by simpa using hl) hs1 hs2
        have pl := p1.length_eq
        simp only [List.length_append] at pl
        obtain ⟨S', q1, q2, q3⟩ := ih (D ++ M) S2 (by omega) (fun w hw => ht w (by
          have hp : w ∈ M → w ∈ b1 ++ b2 := fun h => p1.subset h
          simp at hw hp ⊢; grind)) (by simp; omega) hb3
        refine ⟨M ++ S', ?_, .cons (by omega) p2 q2, fun r O h => ?_⟩
        · have := (p1.append q1)
          simpa using this
        · have e4 : D ++ M ++ S' = D ++ (M ++ S') := by simp
          have e5 : (D ++ M ++ S2).length = (D ++ (b1 ++ (b2 ++ S2))).length := by simp; omega
          have e6 : (D ++ M).length = D.length + 2 * k := by simp; omega
          have h5 := q3 r O
          rw [e4, e5, e6] at h5
          have e1 : (D ++ b1).length = D.length + k := by simp [hb1]
          have e2 : (D ++ b1 ++ b2).length = D.length + 2 * k := by simp; omega
          have e3 : D ++ b1 ++ b2 ++ S2 = D ++ (b1 ++ (b2 ++ S2)) := by simp
          rw [e1, e2, e3] at p3
          apply g9q
          rw [w1, w3, w4]
          exact b3q (decide_eq_true (by omega)) ⟨_, p3, h5 h⟩
theorem a6Hq (hO : SWO e7q) : ∀ (n k : Nat) (S : List (List Da × Tm)), S.length ≤ n + k → 0 < k → k ≤ 6000000000000 → (∀ z ∈ S, TgP Tm.da z) → S.length ≤ 3000000000000 → I1q k S → ∃ S', S'.Perm S ∧ Sd e7q S' ∧ d3q (.tup []) [(2000, .lst 31 3 ((S').map (·.1)))] (S.length : Int) (k : Int) (S.map (·.1)) := by
  intro n
  induction n with
  | zero =>
    intro k S hn hk hk2 ht hl hb
    refine ⟨S, .refl _, W8q hk hb (by omega), ?_⟩
    apply i7q
    exact a4q (decide_eq_false (by omega)) ⟨rfl, rfl⟩
  | succ n ih =>
    intro k S hn hk hk2 ht hl hb
    by_cases h : S.length ≤ k
    · refine ⟨S, .refl _, W8q hk hb h, ?_⟩
      apply i7q
      exact a4q (decide_eq_false (by omega)) ⟨rfl, rfl⟩
    · obtain ⟨S1, p1, p2, p3⟩ := a6Cq hO k hk hk2 S.length [] S (Nat.le_refl _) (by simpa using ht) (by simpa using hl) hb
      have pl := p1.length_eq
      obtain ⟨S', q1, q2, q3⟩ := ih (2 * k) S1 (by omega) (by omega) (by omega) (fun z hz => ht z (p1.subset hz)) (by omega) p2
      refine ⟨S', q1.trans p1, q2, ?_⟩
      have w3 : IntKind.wrap .i64 (2 * (k : Int)) = ((2 * k : Nat) : Int) := by rw [wrI (by omega) (by omega)]; omega
      have h5 := p3 (.tup []) [(2000, .lst 31 3 ((S').map (·.1)))]
      simp only [List.nil_append, List.length_nil, Nat.zero_add] at h5
      rw [pl] at q3
      apply i7q
      rw [w3]
      exact b3q (decide_eq_true (by omega)) (h5 q3)
theorem a2Wq (hO : SWO e7q) : ∀ (n : Nat) (D S : List (List Da × Tm)), S.length ≤ n → (∀ z ∈ D ++ S, TgP Tm.da z) → (D ++ S).length ≤ 3000000000000 → ∃ S', S'.Perm S ∧ I1q 20 S' ∧ ∀ (r : AV) (O : List (Nat × Ob)), d3q r O ((D ++ S).length : Int) 20 ((D ++ S').map (·.1)) → f8q r O ((D ++ S).length : Int) 20 (D.length : Int) ((D.length + 20 : Nat) : Int) ((D ++ S).map (·.1)) := by
  intro n
  induction n with
  | zero =>
    intro D S hn ht hl
    have : S = [] := List.eq_nil_of_length_eq_zero (by omega)
    subst this
    obtain ⟨M, p1, p2, p3⟩ := J6q hO D [] [] (by simpa using ht) (by simpa using hl)
    have : M = [] := List.eq_nil_of_length_eq_zero (by rw [p1.length_eq]; rfl)
    subst this
    refine ⟨[], .refl _, .last (by simp) .nil, fun r O h => ?_⟩
    simp only [List.append_nil] at p3 h ⊢
    apply i6q
    exact a4q (decide_eq_false (by omega)) ⟨_, p3, h⟩
  | succ n ih =>
    intro D S hn ht hl
    have hl' : D.length + S.length ≤ 3000000000000 := by simpa using hl
    have hlen : (D ++ S).length = D.length + S.length := by simp
    by_cases h1 : S.length < 20
    · obtain ⟨M, p1, p2, p3⟩ := J6q hO D S [] (by simpa using ht) (by simpa using hl)
      refine ⟨M, p1, .last (by rw [p1.length_eq]; omega) p2, fun r O h => ?_⟩
      apply i6q
      rw [List.append_nil, List.append_nil] at p3
      exact a4q (decide_eq_false (by omega)) ⟨_, p3, h⟩
    · obtain ⟨b, S2, rfl, hb⟩ : ∃ b S2, S = b ++ S2 ∧ b.length = 20 := ⟨S.take 20, S.drop 20, by simp, by simp; omega⟩
      simp only [List.length_append] at h1 hn hl'
      have hlen : (D ++ (b ++ S2)).length = D.length + (b.length + S2.length) := by simp
      obtain ⟨M, p1, p2, p3⟩ := J6q hO D b S2 (by simpa using ht) (by simpa using hl)
      have pl := p1.length_eq
      obtain ⟨S', q1, q2, q3⟩ := ih (D ++ M) S2 (by omega) (fun w hw => ht w (by
        have hp : w ∈ M → w ∈ b := fun h => p1.subset h
        simp at hw hp ⊢; grind)) (by simp; omega)
      refine ⟨M ++ S', p1.append q1, .cons (by omega) p2 q2, fun r O h => ?_⟩
      have e4 : D ++ M ++ S' = D ++ (M ++ S') := by simp
      have e5 : (D ++ M ++ S2).length = (D ++ (b ++ S2)).length := by simp; omega
      have e6 : (D ++ M).length = D.length + 20 := by simp; omega
      have h5 := q3 r O
      rw [e4, e5, e6] at h5
      have e1 : (D ++ b).length = D.length + 20 := by simp [hb]
      have e3 : D ++ b ++ S2 = D ++ (b ++ S2) := by simp
      have w4 : IntKind.wrap .i64 (((D.length + 20 : Nat) : Int) + 20) = ((D.length + 20 + 20 : Nat) : Int) := by rw [wrI (by omega) (by omega)]; omega
      rw [e1, e3] at p3
      apply i6q
      rw [w4]
      exact b3q (decide_eq_true (by omega)) ⟨_, p3, h5 h⟩
theorem a6vq (hO : SWO e7q) (S : List (List Da × Tm)) (ht : ∀ z ∈ S, TgP Tm.da z) (hl : S.length ≤ 3000000000000) : ∃ S', S'.Perm S ∧ Sd e7q S' ∧ XC Try.prog 104 [.one (.ol 2000), .one (.d (.fn 105))] [(2000, .lst 31 3 ((S).map (·.1)))] (.tup []) [(2000, .lst 31 3 ((S').map (·.1)))] := by
  obtain ⟨S1, p1, p2, p3⟩ := a2Wq hO S.length [] S (Nat.le_refl _) (by simpa using ht) (by simpa using hl)
  have pl := p1.length_eq
  obtain ⟨S', q1, q2, q3⟩ := a6Hq hO S.length 20 S1 (by omega) (by omega) (by omega) (fun z hz => ht z (p1.subset hz)) (by omega) p2
  refine ⟨S', q1.trans p1, q2, ?_⟩
  have h5 := p3 (.tup []) [(2000, .lst 31 3 ((S').map (·.1)))]
  simp only [List.nil_append, List.length_nil, Nat.zero_add] at h5
  rw [pl] at q3
  apply u6q
  refine ⟨_, u9q ?_, rfl, rfl⟩
  rw [List.length_map]
  exact h5 q3
def e6q (a b : List Da × Li) : Prop := Li.cmp a.2 b.2 < 0
instance (a b : List Da × Li) : Decidable (e6q a b) := inferInstanceAs (Decidable (_ < _))
theorem a0Oq {z w : List Da × Li} (hz : TgP Li.da z) (hw : TgP Li.da w) : XC Try.prog 89 [.dat z.1, .dat w.1] [] (Z (Li.cmp z.2 w.2)) [] := XC.ut (by
  show XC _ _ [.dat (Da.utL z.1), .dat (Da.utL w.1)] _ _ _
  rw [hz.ut Li.ut_da, hw.ut Li.ut_da]; exact O0q _ _)
theorem N3q (A Y C : List (List Da × Li)) : ∀ (X2 Z2 Z1 X1 : List (List Da × Li)), (∀ z ∈ A ++ Z1 ++ X2 ++ Y ++ X1 ++ Z2 ++ C, TgP Li.da z) → X2.length = Z2.length → X1.length = Z1.length → (A ++ Z1 ++ X2 ++ Y ++ X1 ++ Z2 ++ C).length ≤ 3000000000000 →
    e9q (.tup []) [(2000, .lst 61 7 ((A ++ Z1 ++ Z2 ++ Y ++ X1 ++ X2 ++ C).map (·.1)))] (A.length : Int) ((A ++ Z1 ++ X2 ++ Y).length : Int) ((Z1 ++ X2).length : Int) (Z1.length : Int) ((A ++ Z1 ++ X2 ++ Y ++ X1 ++ Z2 ++ C).map (·.1))
  | [], Z2, Z1, X1, ht, h1, h2, hl => by
    have : Z2 = [] := List.eq_nil_of_length_eq_zero h1.symm
    subst this
    apply j6q
    exact a4q (decide_eq_false (by simp)) ⟨rfl, by simp⟩
  | x :: X2, [], Z1, X1, ht, h1, h2, hl => by simp at h1
  | x :: X2, z :: Z2, Z1, X1, ht, h1, h2, hl => by
    have hl' : A.length + Z1.length + X2.length + Y.length + X1.length + Z2.length + C.length + 2 ≤ 3000000000000 := by simp at hl; omega
    have ih := N3q A Y C X2 Z2 (Z1 ++ [z]) (X1 ++ [x]) (fun w hw => ht w (by simp at hw ⊢; grind)) (by simpa using h1) (by simp [h2]) (by simp; omega)
    obtain ⟨_, _, _, _, _, _, _, ex⟩ := (ht x (by simp)).lit
    obtain ⟨_, _, _, _, _, _, _, ez⟩ := (ht z (by simp)).lit
    have eD : A ++ Z1 ++ x :: X2 ++ Y ++ X1 ++ z :: Z2 ++ C = (A ++ Z1) ++ x :: (X2 ++ Y ++ X1) ++ z :: (Z2 ++ C) := by simp
    have eD2 : (A ++ Z1) ++ z :: (X2 ++ Y ++ X1) ++ x :: (Z2 ++ C) = A ++ (Z1 ++ [z]) ++ X2 ++ Y ++ (X1 ++ [x]) ++ Z2 ++ C := by simp
    have eR : A ++ (Z1 ++ [z]) ++ Z2 ++ Y ++ (X1 ++ [x]) ++ X2 ++ C = A ++ Z1 ++ z :: Z2 ++ Y ++ X1 ++ x :: X2 ++ C := by simp
    have en : ((Z1 ++ [z]) ++ X2).length = (Z1 ++ x :: X2).length := by simp
    have eb : (A ++ (Z1 ++ [z]) ++ X2 ++ Y).length = (A ++ Z1 ++ x :: X2 ++ Y).length := by simp
    have ei : (Z1 ++ [z]).length = Z1.length + 1 := by simp
    have w1 : IntKind.wrap .i64 (((A ++ Z1 ++ x :: X2 ++ Y).length : Int) + (Z1.length : Int)) = (((A ++ Z1).length + 1 + (X2 ++ Y ++ X1).length : Nat) : Int) := by
      rw [wrI (by omega) (by simp; omega)]; simp; omega
    have w2 : IntKind.wrap .i64 ((A.length : Int) + (Z1.length : Int)) = (((A ++ Z1).length : Nat) : Int) := by
      rw [wrI (by omega) (by omega)]; simp
    have w3 : IntKind.wrap .i64 ((Z1.length : Int) + 1) = ((Z1.length + 1 : Nat) : Int) := by
      rw [wrI (by omega) (by omega)]; simp
    rw [en, eb, ei, ← eD2, eR, ← S5q] at ih
    rw [eD]
    have g1 := J2q (fun z : List Da × Li => z.1) (P := A ++ Z1) (M := X2 ++ Y ++ X1) (Q := Z2 ++ C) (a := x) (b := z)
    have g2 := I6q (fun z : List Da × Li => z.1) (P := A ++ Z1) (M := X2 ++ Y ++ X1) (Q := Z2 ++ C) (a := x) (b := z)
    have l1 := v0q (fun z : List Da × Li => z.1) (A ++ Z1) (X2 ++ Y ++ X1) (Z2 ++ C) x z
    have g3 : ((((A ++ Z1) ++ x :: (X2 ++ Y ++ X1) ++ z :: (Z2 ++ C)).map (·.1)).set (A ++ Z1).length z.1)[(A ++ Z1).length + 1 + (X2 ++ Y ++ X1).length]? = some z.1 := by
      rw [List.getElem?_set_ne (by omega)]; exact g1
    rw [ex] at g2 ih
    rw [ez] at g1 g3 ih
    apply j6q
    rw [w1, w2, w3]
    refine b3q (decide_eq_true (by simp; omega)) ⟨_, rfl, ⟨by rw [l1]; omega⟩, _, rfl, _, _, _, _, _, _, _, g1, _, rfl, ⟨by rw [l1]; omega⟩, _, rfl, _, _, _, _, _, _, _, g2, _, rfl, ⟨by rw [l1]; omega⟩, _, rfl, _, _, _, _, _, _, _, g2, _, rfl, ⟨by rw [List.length_set, l1]; omega⟩, _, rfl, _, _, _, _, _, _, _, g3, ih⟩
theorem C1q (A U Y V C : List (List Da × Li)) (ht : ∀ z ∈ A ++ U ++ Y ++ V ++ C, TgP Li.da z) (h : U.length = V.length) (hl : (A ++ U ++ Y ++ V ++ C).length ≤ 3000000000000) : XC Try.prog 145 [.one (.ol 2000), Z (A.length : Int), Z ((A ++ U ++ Y).length : Int), Z (U.length : Int), .one (.d (.fn 89))] [(2000, .lst 61 7 ((A ++ U ++ Y ++ V ++ C).map (·.1)))] (.tup []) [(2000, .lst 61 7 ((A ++ V ++ Y ++ U ++ C).map (·.1)))] := by
  apply q6q
  have := N3q A Y C U V [] [] (by simpa using ht) h rfl (by simpa using hl)
  simpa using this
theorem a4uq (T : List (List Da × Li)) : ∀ (n : Nat) (A U V C : List (List Da × Li)), U.length + V.length ≤ n → U ≠ [] → V ≠ [] → (∀ z ∈ A ++ U ++ V ++ C, TgP Li.da z) → (A ++ U ++ V ++ C).length ≤ 3000000000000 → A ++ V ++ U ++ C = T → d9q (.tup []) [(2000, .lst 61 7 ((T).map (·.1)))] ((A ++ U).length : Int) (U.length : Int) (V.length : Int) ((A ++ U ++ V ++ C).map (·.1)) := by
  intro n
  induction n with
  | zero =>
    intro A U V C hn hU _ _ _ _
    exact absurd (List.eq_nil_of_length_eq_zero (by omega)) hU
  | succ n ih =>
    intro A U V C hn hU hV ht hl hT
    have hU' := List.length_pos_iff.2 hU
    have hV' := List.length_pos_iff.2 hV
    have hl' : A.length + U.length + V.length + C.length ≤ 3000000000000 := by simp at hl; omega
    have w1 : IntKind.wrap .i64 (((A ++ U).length : Int) - (U.length : Int)) = (A.length : Int) := by rw [wrI (by simp <;> omega) (by simp <;> omega)]; simp <;> omega
    apply q7q
    rw [w1]
    by_cases he : U.length = V.length
    · have c := C1q A U [] V C (by simpa using ht) he (by simpa using hl)
      simp only [List.append_nil] at c
      rw [hT] at c
      exact a4q (decide_eq_false (by simp [he])) ⟨_, c, rfl, rfl⟩
    · refine b3q (decide_eq_true (by omega)) ?_
      by_cases hgt : V.length < U.length
      · refine b3q (decide_eq_true (by omega)) ?_
        obtain ⟨U1, U2, rfl, hU1⟩ : ∃ U1 U2, U = U1 ++ U2 ∧ U1.length = V.length := ⟨U.take V.length, U.drop V.length, by simp, by simp; omega⟩
        have c := C1q A U1 U2 V C (by simpa using ht) hU1 (by simpa using hl)
        have h2 : U2.length + V.length = (U1 ++ U2).length := by simp; omega
        have w2 : IntKind.wrap .i64 (((U1 ++ U2).length : Int) - (V.length : Int)) = (U2.length : Int) := by rw [wrI (by simp <;> omega) (by simp <;> omega)]; simp <;> omega
        have i1 := ih (A ++ V) U2 U1 C (by simp at hn; omega) (by intro h; subst h; simp at hgt hU1; omega) (by intro h; subst h; simp at hU1; omega) (fun w hw => ht w (by simp at hw ⊢; grind)) (by simp; omega) (by simpa [List.append_assoc] using hT)
        have e1 : A ++ (U1 ++ U2) ++ V ++ C = A ++ U1 ++ U2 ++ V ++ C := by simp
        have e2 : (A ++ V ++ U2).length = (A ++ (U1 ++ U2)).length := by simp; omega
        have e3 : (A ++ (U1 ++ U2)).length = (A ++ U1 ++ U2).length := by simp
        rw [w2, e1]
        rw [e2] at i1
        rw [e3] at i1 ⊢
        rw [hU1] at i1 c
        exact ⟨_, c, i1⟩
      · refine a4q (decide_eq_false (by omega)) ?_
        obtain ⟨V1, V2, rfl, hV2⟩ : ∃ V1 V2, V = V1 ++ V2 ∧ V2.length = U.length := ⟨V.take (V.length - U.length), V.drop (V.length - U.length), by simp, by simp; omega⟩
        have hvl : (V1 ++ V2).length = V1.length + V2.length := by simp
        have c := C1q A U V1 V2 C (by simpa using ht) hV2.symm (by simpa using hl)
        have w2 : IntKind.wrap .i64 (IntKind.wrap .i64 (((A ++ U).length : Int) + ((V1 ++ V2).length : Int)) - (U.length : Int)) = ((A ++ U ++ V1).length : Int) := by
          rw [wrI (x := ((A ++ U).length : Int) + _) (by omega) (by simp at hl' ⊢; omega), wrI (by simp; omega) (by simp at hl' ⊢; omega)]; simp; omega
        have w3 : IntKind.wrap .i64 (((V1 ++ V2).length : Int) - (U.length : Int)) = (V1.length : Int) := by rw [wrI (by simp; omega) (by simp at hl' ⊢; omega)]; simp; omega
        have i1 := ih A V2 V1 (U ++ C) (by omega) (by intro h; subst h; simp at hV2; omega) (by intro h; subst h; simp at he hgt hvl; omega) (fun w hw => ht w (by simp at hw ⊢; grind)) (by simp at hl' ⊢; omega) (by simpa [List.append_assoc] using hT)
        have e1 : A ++ U ++ (V1 ++ V2) ++ C = A ++ U ++ V1 ++ V2 ++ C := by simp
        have e2 : (A ++ V2).length = (A ++ U).length := by simp [hV2]
        have e4 : A ++ V2 ++ V1 ++ (U ++ C) = A ++ V2 ++ V1 ++ U ++ C := by simp
        rw [w2, w3, e1]
        rw [e2, hV2, e4] at i1
        exact ⟨_, c, i1⟩
theorem a4Dq (A U V C : List (List Da × Li)) (hU : U ≠ []) (hV : V ≠ []) (ht : ∀ z ∈ A ++ U ++ V ++ C, TgP Li.da z) (hl : (A ++ U ++ V ++ C).length ≤ 3000000000000) : XC Try.prog 139 [.one (.ol 2000), Z (A.length : Int), Z ((A ++ U).length : Int), Z ((A ++ U ++ V).length : Int), .one (.d (.fn 89))] [(2000, .lst 61 7 ((A ++ U ++ V ++ C).map (·.1)))] (.tup []) [(2000, .lst 61 7 ((A ++ V ++ U ++ C).map (·.1)))] := by
  have hl' : A.length + U.length + V.length + C.length ≤ 3000000000000 := by simp at hl; omega
  have w1 : IntKind.wrap .i64 (((A ++ U).length : Int) - (A.length : Int)) = (U.length : Int) := by rw [wrI (by simp <;> omega) (by simp <;> omega)]; simp <;> omega
  have w2 : IntKind.wrap .i64 (((A ++ U ++ V).length : Int) - ((A ++ U).length : Int)) = (V.length : Int) := by rw [wrI (by simp <;> omega) (by simp <;> omega)]; simp <;> omega
  apply s2q
  rw [w1, w2]
  exact a4uq _ _ A U V C (Nat.le_refl _) hU hV ht hl rfl
theorem a6sq (hO : SWO e6q) (A : List (List Da × Li)) (x : List Da × Li) : ∀ (n : Nat) (L R Q : List (List Da × Li)), L.length = n → (∀ z ∈ A ++ L ++ x :: R ++ Q, TgP Li.da z) → (A ++ L ++ x :: R ++ Q).length ≤ 3000000000000 → Sd e6q (L ++ R) → (∀ y ∈ R, e6q x y) → ∃ S, S.Perm (L ++ x :: R) ∧ Sd e6q S ∧ ∀ (r : AV) (O : List (Nat × Ob)) (b i : Int), (c8q r O (A.length : Int) b (IntKind.wrap .i64 (i + 1)) ((A ++ S ++ Q).map (·.1)) → e1q r O (A.length : Int) b i ((A ++ L).length : Int) ((A ++ L ++ x :: R ++ Q).map (·.1))) := by
  intro n
  induction n with
  | zero =>
    intro L R Q hn ht hl hs hR
    have : L = [] := List.eq_nil_of_length_eq_zero hn
    subst this
    refine ⟨x :: R, by simp, I7q hO (L := []) hs (fun y hy => hO.asym (hR y hy)) (by simp), fun r O b i h => ?_⟩
    apply h1q
    refine a4q (decide_eq_false (by simp)) ?_
    simpa using h
  | succ n ih =>
    intro L R Q hn ht hl hs hR
    obtain ⟨L', z, rfl⟩ : ∃ L' z, L = L' ++ [z] := by
      rcases List.eq_nil_or_concat L with rfl | ⟨L', z, h⟩
      · simp at hn
      · exact ⟨L', z, by rw [h, List.concat_eq_append]⟩
    have hl' : A.length + L'.length + R.length + Q.length + 2 ≤ 3000000000000 := by simp at hl; omega
    have hz := ht z (by simp)
    have hx := ht x (by simp)
    have hcmp := a0Oq hx hz
    obtain ⟨_, _, _, _, _, _, _, ex⟩ := (ht x (by simp)).lit
    obtain ⟨_, _, _, _, _, _, _, ez⟩ := (ht z (by simp)).lit
    have eD : A ++ (L' ++ [z]) ++ x :: R ++ Q = (A ++ L') ++ z :: [] ++ x :: (R ++ Q) := by simp
    have g1 := J2q (fun z : List Da × Li => z.1) (P := A ++ L') (M := []) (Q := R ++ Q) (a := z) (b := x)
    have g2 := I6q (fun z : List Da × Li => z.1) (P := A ++ L') (M := []) (Q := R ++ Q) (a := z) (b := x)
    have l1 := v0q (fun z : List Da × Li => z.1) (A ++ L') [] (R ++ Q) z x
    have g3 : ((((A ++ L') ++ z :: [] ++ x :: (R ++ Q)).map (·.1)).set ((A ++ L').length + 1 + ([] : List (List Da × Li)).length) z.1)[(A ++ L').length]? = some z.1 := by
      rw [List.getElem?_set_ne (by simp)]; exact g2
    have w1 : IntKind.wrap .i64 (((A ++ (L' ++ [z])).length : Int) - 1) = (((A ++ L').length : Nat) : Int) := by rw [wrI (by simp <;> omega) (by simp <;> omega)]; simp <;> omega
    have w2 : IntKind.wrap .i64 ((((A ++ L').length + 1 + ([] : List (List Da × Li)).length : Nat) : Int) - 1) = (((A ++ L').length : Nat) : Int) := by rw [wrI (by simp <;> omega) (by simp <;> omega)]; simp <;> omega
    have hj : ((A ++ (L' ++ [z])).length : Int) = (((A ++ L').length + 1 + ([] : List (List Da × Li)).length : Nat) : Int) := by simp; omega
    by_cases hlt : e6q x z
    · obtain ⟨S, p1, p2, p3⟩ := ih L' (z :: R) Q (by simpa using hn) (fun w hw => ht w (by simp at hw ⊢; grind)) (by simp; omega) (by simpa using hs) (fun y hy => by
        rcases List.mem_cons.1 hy with rfl | hy
        · exact hlt
        · exact hR y hy)
      refine ⟨S, p1.trans ?_, p2, fun r O b i h => ?_⟩
      · have : (L' ++ [z]) ++ x :: R = L' ++ z :: x :: R := by simp
        rw [this]
        exact (List.Perm.swap ..).append_left L'
      · have h4 := p3 r O b i h
        have eS : A ++ L' ++ x :: z :: R ++ Q = (A ++ L') ++ x :: [] ++ z :: (R ++ Q) := by simp
        rw [eS, ← a0Hq] at h4
        rw [ex] at g1 hcmp
        rw [ez] at g2 g3 hcmp
        rw [ex, ez] at h4
        apply h1q
        rw [eD, hj, w2]
        refine b3q (decide_eq_true (by simp; omega)) ⟨_, rfl, ⟨by rw [l1]; simp; omega⟩, _, rfl, _, _, _, _, _, _, _, g1, _, rfl, ⟨by rw [l1]; simp; omega⟩, _, rfl, _, _, _, _, _, _, _, g2, _, hcmp, b3q (decide_eq_true hlt) ⟨_, rfl, ⟨by rw [l1]; simp; omega⟩, _, rfl, _, _, _, _, _, _, _, g2, _, rfl, ⟨by rw [l1]; simp; omega⟩, _, rfl, _, _, _, _, _, _, _, g1, _, rfl, ⟨by rw [l1]; simp; omega⟩, _, rfl, _, _, _, _, _, _, _, g1, _, rfl, ⟨by rw [List.length_set, l1]; simp; omega⟩, _, rfl, _, _, _, _, _, _, _, g3, h4⟩⟩
    · refine ⟨(L' ++ [z]) ++ x :: R, .refl _, I7q hO hs (fun y hy => hO.asym (hR y hy)) (a3gq hO (o5q.1 hs).1 hlt), fun r O b i h => ?_⟩
      have e2 : A ++ (L' ++ [z] ++ x :: R) ++ Q = (A ++ L') ++ z :: [] ++ x :: (R ++ Q) := by simp
      rw [e2] at h
      rw [ex] at g1 hcmp
      rw [ez] at g2 hcmp
      apply h1q
      rw [eD, hj, w2]
      exact b3q (decide_eq_true (by simp; omega)) ⟨_, rfl, ⟨by rw [l1]; simp; omega⟩, _, rfl, _, _, _, _, _, _, _, g1, _, rfl, ⟨by rw [l1]; simp; omega⟩, _, rfl, _, _, _, _, _, _, _, g2, _, hcmp, a4q (decide_eq_false hlt) h⟩
theorem Y7q (hO : SWO e6q) (A C : List (List Da × Li)) : ∀ (R S : List (List Da × Li)), (∀ z ∈ A ++ S ++ R ++ C, TgP Li.da z) → (A ++ S ++ R ++ C).length ≤ 3000000000000 → Sd e6q S → ∃ M, M.Perm (S ++ R) ∧ Sd e6q M ∧ c8q (.tup []) [(2000, .lst 61 7 ((A ++ M ++ C).map (·.1)))] (A.length : Int) ((A ++ S ++ R).length : Int) ((A ++ S).length : Int) ((A ++ S ++ R ++ C).map (·.1))
  | [], S, ht, hl, hs => by
    refine ⟨S, by simp, hs, ?_⟩
    apply h2q
    exact a4q (decide_eq_false (by simp)) ⟨rfl, by simp⟩
  | x :: R, S, ht, hl, hs => by
    have hl' : A.length + S.length + R.length + C.length + 1 ≤ 3000000000000 := by simp at hl; omega
    obtain ⟨S', p1, p2, p3⟩ := a6sq hO A x S.length S [] (R ++ C) rfl (by simpa using ht) (by simpa using hl) (by simpa using hs) (by simp)
    have pl := p1.length_eq
    simp only [List.length_append, List.length_cons, List.length_nil] at pl
    obtain ⟨M, q1, q2, q3⟩ := Y7q hO A C R S' (fun w hw => ht w (by
      have hp : w ∈ S' → w ∈ S ++ [x] := fun h => p1.subset h
      simp at hw hp ⊢; grind)) (by simp; omega) p2
    refine ⟨M, q1.trans ?_, q2, ?_⟩
    · have e : S ++ x :: R = S ++ [x] ++ R := by simp
      rw [e]
      exact p1.append_right R
    · have h4 := p3 (.tup []) [(2000, .lst 61 7 ((A ++ M ++ C).map (·.1)))] ((A ++ S ++ x :: R).length : Int) ((A ++ S).length : Int)
      have w1 : IntKind.wrap .i64 (((A ++ S).length : Int) + 1) = ((A ++ S').length : Int) := by rw [wrI (by simp <;> omega) (by simp <;> omega)]; simp <;> omega
      have e1 : (A ++ S' ++ R).length = (A ++ S ++ x :: R).length := by simp; omega
      have e2 : A ++ S' ++ (R ++ C) = A ++ S' ++ R ++ C := by simp
      have e3 : A ++ S ++ [x] ++ (R ++ C) = A ++ S ++ x :: R ++ C := by simp
      rw [w1, e2, e3] at h4
      rw [e1] at q3
      apply h2q
      exact b3q (decide_eq_true (by simp; omega)) (h4 q3)
theorem K0q (hO : SWO e6q) (A R C : List (List Da × Li)) (ht : ∀ z ∈ A ++ R ++ C, TgP Li.da z) (hl : (A ++ R ++ C).length ≤ 3000000000000) : ∃ M, M.Perm R ∧ Sd e6q M ∧ XC Try.prog 125 [.one (.ol 2000), Z (A.length : Int), Z ((A ++ R).length : Int), .one (.d (.fn 89))] [(2000, .lst 61 7 ((A ++ R ++ C).map (·.1)))] (.tup []) [(2000, .lst 61 7 ((A ++ M ++ C).map (·.1)))] := by
  have hl' : A.length + R.length + C.length ≤ 3000000000000 := by simp at hl; omega
  have w1 : IntKind.wrap .i64 ((A.length : Int) + 1) = ((A.length + 1 : Nat) : Int) := by rw [wrI (by omega) (by omega)]; simp
  cases R with
  | nil =>
    refine ⟨[], .refl _, .nil, ?_⟩
    apply j4q
    rw [w1]
    apply h2q
    exact a4q (decide_eq_false (by simp <;> omega)) ⟨rfl, rfl⟩
  | cons x R =>
    obtain ⟨M, p1, p2, p3⟩ := Y7q hO A C R [x] (by simpa using ht) (by simpa using hl) (by simp)
    refine ⟨M, by simpa using p1, p2, ?_⟩
    apply j4q
    rw [w1]
    have e1 : (A ++ [x]).length = A.length + 1 := by simp
    have e2 : A ++ [x] ++ R = A ++ x :: R := by simp
    rw [e1, e2] at p3
    exact p3
theorem a2oq (i : Int) (x : List Da × Li) (Q : List (List Da × Li)) : ∀ (R1 D : List (List Da × Li)), (∀ z ∈ D ++ x :: R1 ++ Q, TgP Li.da z) → (D ++ x :: R1 ++ Q).length ≤ 3000000000000 → i = ((D.length + R1.length + 1 : Nat) : Int) → d7q (.tup []) [(2000, .lst 61 7 ((D ++ R1 ++ x :: Q).map (·.1)))] i (D.length : Int) ((D ++ x :: R1 ++ Q).map (·.1)) := by
  intro R1
  induction R1 with
  | nil =>
    intro D ht hl hi
    have w : IntKind.wrap .i64 (i - 1) = (D.length : Int) := by rw [wrI (by omega) (by simp at hl hi; omega)]; simp at hi; omega
    apply k0q
    rw [w]
    exact a4q (decide_eq_false (by omega)) ⟨rfl, by simp⟩
  | cons y R1 ih0 =>
    intro D ht hl hi
    have hl' : D.length + R1.length + Q.length + 2 ≤ 3000000000000 := by simp at hl; omega
    have ih := ih0 (D ++ [y]) (fun w hw => ht w (by simp at hw ⊢; grind)) (by simp; omega) (by simp at hi ⊢; omega)
    have w : IntKind.wrap .i64 (i - 1) = ((D.length + R1.length + 1 : Nat) : Int) := by rw [wrI (by omega) (by simp at hi; omega)]; simp at hi; omega
    have w1 : IntKind.wrap .i64 ((D.length : Int) + 1) = ((D.length + 1 + ([] : List (List Da × Li)).length : Nat) : Int) := by rw [wrI (by omega) (by omega)]; simp
    have eD : D ++ x :: y :: R1 ++ Q = D ++ x :: [] ++ y :: (R1 ++ Q) := by simp
    have eE : D ++ [y] ++ x :: R1 ++ Q = D ++ y :: [] ++ x :: (R1 ++ Q) := by simp
    have eO : D ++ [y] ++ R1 ++ x :: Q = D ++ y :: R1 ++ x :: Q := by simp
    have e1 : (D ++ [y]).length = D.length + 1 + ([] : List (List Da × Li)).length := by simp
    have g1 := J2q (fun z : List Da × Li => z.1) (P := D) (M := []) (Q := R1 ++ Q) (a := x) (b := y)
    have g2 := I6q (fun z : List Da × Li => z.1) (P := D) (M := []) (Q := R1 ++ Q) (a := x) (b := y)
    have l1 := v0q (fun z : List Da × Li => z.1) D [] (R1 ++ Q) x y
    have g3 : (((D ++ x :: [] ++ y :: (R1 ++ Q)).map (·.1)).set D.length y.1)[D.length + 1 + ([] : List (List Da × Li)).length]? = some y.1 := by
      rw [List.getElem?_set_ne (by simp)]; exact g1
    obtain ⟨_, _, _, _, _, _, _, ex⟩ := (ht x (by simp)).lit
    obtain ⟨_, _, _, _, _, _, _, ey⟩ := (ht y (by simp)).lit
    rw [eE, eO, e1, ← S5q (fun z : List Da × Li => z.1) (P := D) (M := []) (Q := R1 ++ Q) (a := x) (b := y)] at ih
    rw [ex] at g2
    rw [ey] at g1 g3
    rw [ex, ey] at ih
    apply k0q
    rw [w, eD, w1]
    exact b3q (decide_eq_true (by omega)) ⟨_, rfl, ⟨by rw [l1]; simp; omega⟩, _, rfl, _, _, _, _, _, _, _, g1, _, rfl, ⟨by rw [l1]; simp; omega⟩, _, rfl, _, _, _, _, _, _, _, g2, _, rfl, ⟨by rw [l1]; simp; omega⟩, _, rfl, _, _, _, _, _, _, _, g2, _, rfl, ⟨by rw [List.length_set, l1]; simp; omega⟩, _, rfl, _, _, _, _, _, _, _, g3, ih⟩
theorem a31q (D : List (List Da × Li)) (x : List Da × Li) : ∀ (n : Nat) (L Q : List (List Da × Li)), L.length = n → (∀ z ∈ D ++ L ++ x :: Q, TgP Li.da z) → (D ++ L ++ x :: Q).length ≤ 3000000000000 → d5q (.tup []) [(2000, .lst 61 7 ((D ++ x :: L ++ Q).map (·.1)))] (D.length : Int) ((D ++ L).length : Int) ((D ++ L ++ x :: Q).map (·.1)) := by
  intro n
  induction n with
  | zero =>
    intro L Q hn ht hl
    have : L = [] := List.eq_nil_of_length_eq_zero hn
    subst this
    apply j8q
    exact a4q (decide_eq_false (by simp)) ⟨rfl, by simp⟩
  | succ n ih =>
    intro L Q hn ht hl
    obtain ⟨L', z, rfl⟩ : ∃ L' z, L = L' ++ [z] := by
      rcases List.eq_nil_or_concat L with rfl | ⟨L', z, h⟩
      · simp at hn
      · exact ⟨L', z, by rw [h, List.concat_eq_append]⟩
    have hl' : D.length + L'.length + Q.length + 2 ≤ 3000000000000 := by simp at hl; omega
    have i1 := ih L' (z :: Q) (by simpa using hn) (fun w hw => ht w (by simp at hw ⊢; grind)) (by simp; omega)
    have eD : D ++ (L' ++ [z]) ++ x :: Q = (D ++ L') ++ z :: [] ++ x :: Q := by simp
    have eE : D ++ L' ++ x :: z :: Q = (D ++ L') ++ x :: [] ++ z :: Q := by simp
    have eO : D ++ x :: L' ++ z :: Q = D ++ x :: (L' ++ [z]) ++ Q := by simp
    have hj : ((D ++ (L' ++ [z])).length : Int) = (((D ++ L').length + 1 + ([] : List (List Da × Li)).length : Nat) : Int) := by simp; omega
    have w2 : IntKind.wrap .i64 ((((D ++ L').length + 1 + ([] : List (List Da × Li)).length : Nat) : Int) - 1) = (((D ++ L').length : Nat) : Int) := by rw [wrI (by simp <;> omega) (by simp <;> omega)]; simp <;> omega
    have g1 := J2q (fun z : List Da × Li => z.1) (P := D ++ L') (M := []) (Q := Q) (a := z) (b := x)
    have g2 := I6q (fun z : List Da × Li => z.1) (P := D ++ L') (M := []) (Q := Q) (a := z) (b := x)
    have l1 := v0q (fun z : List Da × Li => z.1) (D ++ L') [] Q z x
    have g3 : ((((D ++ L') ++ z :: [] ++ x :: Q).map (·.1)).set ((D ++ L').length + 1 + ([] : List (List Da × Li)).length) z.1)[(D ++ L').length]? = some z.1 := by
      rw [List.getElem?_set_ne (by simp)]; exact g2
    obtain ⟨_, _, _, _, _, _, _, ex⟩ := (ht x (by simp)).lit
    obtain ⟨_, _, _, _, _, _, _, ez⟩ := (ht z (by simp)).lit
    rw [eE, eO, ← a0Hq] at i1
    rw [ex] at g1
    rw [ez] at g2 g3
    rw [ex, ez] at i1
    apply j8q
    rw [eD, hj, w2]
    exact b3q (decide_eq_true (by simp; omega)) ⟨_, rfl, ⟨by rw [l1]; simp; omega⟩, _, rfl, _, _, _, _, _, _, _, g2, _, rfl, ⟨by rw [l1]; simp; omega⟩, _, rfl, _, _, _, _, _, _, _, g1, _, rfl, ⟨by rw [l1]; simp; omega⟩, _, rfl, _, _, _, _, _, _, _, g1, _, rfl, ⟨by rw [List.length_set, l1]; simp; omega⟩, _, rfl, _, _, _, _, _, _, _, g3, i1⟩
theorem aaoq (hO : SWO e6q) (A R C : List (List Da × Li)) (x : List Da × Li) (ht : ∀ z ∈ A ++ x :: R ++ C, TgP Li.da z) (hl : (A ++ x :: R ++ C).length ≤ 3000000000000) (hs : Sd e6q R) : ∃ M, M.Perm (x :: R) ∧ Sd e6q M ∧ b9q (.tup []) [(2000, .lst 61 7 ((A ++ M ++ C).map (·.1)))] (A.length : Int) ((A.length + 1 : Nat) : Int) ((A.length + 1 + R.length : Nat) : Int) ((A ++ x :: R ++ C).map (·.1)) := by
  have hl' : A.length + R.length + C.length + 1 ≤ 3000000000000 := by simp at hl; omega
  have hlen : ((A ++ x :: R ++ C).map (·.1)).length = A.length + R.length + C.length + 1 := by simp; omega
  have eD : A ++ x :: R ++ C = A ++ [x] ++ R ++ C := by simp
  have gx : ((A ++ x :: R ++ C).map (·.1))[A.length]? = some x.1 := by
    have := s3q (fun z : List Da × Li => z.1) (P := A) (R := x :: R) (Q := C) (k := 0) (y := x) rfl
    exact this
  obtain ⟨k, k1, k2, k3, k4, k5⟩ := M2q (ι := AV × List (Nat × Ob)) (p := fun t i j => b9q t.1 t.2 (A.length : Int) (i : Int) (j : Int) ((A ++ x :: R ++ C).map (·.1))) (ex := fun t i => d7q t.1 t.2 (i : Int) (A.length : Int) ((A ++ x :: R ++ C).map (·.1)))
    (fun h => ∃ y, R[h - (A.length + 1)]? = some y ∧ e6q y x) (A.length + 1) (A.length + 1 + R.length) (fun t i _ _ h => by
      apply j9q
      exact a4q (decide_eq_false (by omega)) h) (fun t i j h1 h2 h3 => by
      obtain ⟨y, hy⟩ := g8q (l := R) (i := (i + j) / 2 - (A.length + 1)) (by omega)
      have hym := List.mem_of_getElem? hy
      have hcmp := a0Oq (ht y (by simp [hym])) (ht x (by simp))
      have gy := s3q (fun z : List Da × Li => z.1) (P := A ++ [x]) (Q := C) hy
      have eh : (A ++ [x]).length + ((i + j) / 2 - (A.length + 1)) = (i + j) / 2 := by simp; omega
      rw [eh, ← eD] at gy
      obtain ⟨_, _, _, _, _, _, _, ex⟩ := (ht x (by simp)).lit
      obtain ⟨_, _, _, _, _, _, _, ey⟩ := (ht y (by simp [hym])).lit
      have core : (e6q y x → b9q t.1 t.2 (A.length : Int) (((i + j) / 2 + 1 : Nat) : Int) (j : Int) ((A ++ x :: R ++ C).map (·.1))) → (¬ e6q y x → b9q t.1 t.2 (A.length : Int) (i : Int) (((i + j) / 2 : Nat) : Int) ((A ++ x :: R ++ C).map (·.1))) → b9q t.1 t.2 (A.length : Int) (i : Int) (j : Int) ((A ++ x :: R ++ C).map (·.1)) := by
        intro c1 c2
        have w1 : IntKind.wrap .i64 ((((i + j) / 2 : Nat) : Int) + 1) = (((i + j) / 2 + 1 : Nat) : Int) := by rw [wrI (by omega) (by omega)]; simp
        have gx2 := gx
        rw [ex] at gx2 hcmp
        rw [ey] at gy hcmp
        apply j9q
        rw [R4q (by omega), w1]
        refine b3q (decide_eq_true (by omega)) ⟨⟨A3q⟩, _, rfl, ⟨by rw [hlen]; omega⟩, _, rfl, _, _, _, _, _, _, _, gy, _, rfl, ⟨by rw [hlen]; omega⟩, _, rfl, _, _, _, _, _, _, _, gx2, _, hcmp, ?_⟩
        by_cases hlt : e6q y x
        · exact b3q (decide_eq_true hlt) (c1 hlt)
        · exact a4q (decide_eq_false hlt) (c2 hlt)
      refine ⟨fun hf hp => core (fun _ => hp) fun hn => ?_, fun hn hp => core (fun hlt => absurd ⟨y, hy, hlt⟩ hn) fun _ => hp⟩
      obtain ⟨y', hy', hlt⟩ := hf
      rw [hy] at hy'
      cases hy'
      exact absurd hlt hn) R.length (A.length + 1) (A.length + 1 + R.length) (by omega) (Nat.le_refl _) (by omega) (Nat.le_refl _) (.inl rfl) (.inl rfl)
  obtain ⟨q, rfl⟩ : ∃ q, k = A.length + 1 + q := ⟨k - (A.length + 1), by omega⟩
  have hq : q ≤ R.length := by omega
  have hsR : Sd e6q (R.take q ++ R.drop q) := by rw [List.take_append_drop]; exact hs
  obtain ⟨s1, s2, _⟩ := o5q.1 hsR
  have hR1 : ∀ y ∈ R.take q, e6q y x := by
    refine P0q hO s1 ?_
    rcases k3 with h | ⟨y, hy, hlt⟩
    · have : q = 0 := by omega
      subst this; exact .inl (by simp)
    · by_cases h0 : q = 0
      · subst h0; exact .inl (by simp)
      · refine .inr ⟨y, ?_, hlt⟩
        rw [List.length_take, Nat.min_eq_left hq, List.getElem?_take_of_lt (by omega)]
        rw [← hy]; congr 1; omega
  have hR2 : ∀ y ∈ R.drop q, ¬ e6q y x := by
    refine D4q hO s2 ?_
    rcases k4 with h | h
    · exact .inl (List.drop_eq_nil_of_le (by omega))
    · by_cases h0 : q = R.length
      · exact .inl (List.drop_eq_nil_of_le (by omega))
      · obtain ⟨y, hy⟩ := g8q (l := R) (i := q) (by omega)
        refine .inr ⟨y, by rw [List.getElem?_drop]; simpa using hy, fun hlt => h ⟨y, ?_, hlt⟩⟩
        rw [← hy]; congr 1; omega
  refine ⟨R.take q ++ x :: R.drop q, ?_, I7q hO hsR hR2 (fun y hy => hO.asym (hR1 y hy)), k5 (_, _) ?_⟩
  · refine List.perm_middle.trans ?_
    rw [List.take_append_drop]
  · have h := a2oq ((A.length + 1 + q : Nat) : Int) x (R.drop q ++ C) (R.take q) A (fun w hw => ht w (by
      have e : A ++ x :: R.take q ++ (R.drop q ++ C) = A ++ x :: R ++ C := by
        simp only [List.append_assoc, List.cons_append]; rw [← List.append_assoc (R.take q), List.take_append_drop]
      rw [e] at hw; exact hw)) (by simp; omega) (by simp; omega)
    have e1 : A ++ x :: R.take q ++ (R.drop q ++ C) = A ++ x :: R ++ C := by
      simp only [List.append_assoc, List.cons_append]; rw [← List.append_assoc (R.take q), List.take_append_drop]
    have e2 : A ++ R.take q ++ x :: (R.drop q ++ C) = A ++ (R.take q ++ x :: R.drop q) ++ C := by simp
    rw [e1, e2] at h
    exact h
theorem a8pq (hO : SWO e6q) (A L C : List (List Da × Li)) (x : List Da × Li) (ht : ∀ z ∈ A ++ L ++ x :: C, TgP Li.da z) (hl : (A ++ L ++ x :: C).length ≤ 3000000000000) (hs : Sd e6q L) : ∃ M, M.Perm (L ++ [x]) ∧ Sd e6q M ∧ b8q (.tup []) [(2000, .lst 61 7 ((A ++ M ++ C).map (·.1)))] ((A.length + L.length : Nat) : Int) (A.length : Int) ((A.length + L.length : Nat) : Int) ((A ++ L ++ x :: C).map (·.1)) := by
  have hl' : A.length + L.length + C.length + 1 ≤ 3000000000000 := by simp at hl; omega
  have hlen : ((A ++ L ++ x :: C).map (·.1)).length = A.length + L.length + C.length + 1 := by simp; omega
  have gx : ((A ++ L ++ x :: C).map (·.1))[A.length + L.length]? = some x.1 := by simp
  obtain ⟨k, k1, k2, k3, k4, k5⟩ := M2q (ι := AV × List (Nat × Ob)) (p := fun t i j => b8q t.1 t.2 ((A.length + L.length : Nat) : Int) (i : Int) (j : Int) ((A ++ L ++ x :: C).map (·.1))) (ex := fun t i => d5q t.1 t.2 (i : Int) ((A.length + L.length : Nat) : Int) ((A ++ L ++ x :: C).map (·.1)))
    (fun h => ∃ y, L[h - A.length]? = some y ∧ ¬ e6q x y) A.length (A.length + L.length) (fun t i _ _ h => by
      apply j7q
      exact a4q (decide_eq_false (by omega)) h) (fun t i j h1 h2 h3 => by
      obtain ⟨y, hy⟩ := g8q (l := L) (i := (i + j) / 2 - A.length) (by omega)
      have hym := List.mem_of_getElem? hy
      have hcmp := a0Oq (ht x (by simp)) (ht y (by simp [hym]))
      have gy := s3q (fun z : List Da × Li => z.1) (P := A) (Q := x :: C) hy
      have eh : A.length + ((i + j) / 2 - A.length) = (i + j) / 2 := by omega
      rw [eh] at gy
      obtain ⟨_, _, _, _, _, _, _, ex⟩ := (ht x (by simp)).lit
      obtain ⟨_, _, _, _, _, _, _, ey⟩ := (ht y (by simp [hym])).lit
      have core : (¬ e6q x y → b8q t.1 t.2 ((A.length + L.length : Nat) : Int) (((i + j) / 2 + 1 : Nat) : Int) (j : Int) ((A ++ L ++ x :: C).map (·.1))) → (e6q x y → b8q t.1 t.2 ((A.length + L.length : Nat) : Int) (i : Int) (((i + j) / 2 : Nat) : Int) ((A ++ L ++ x :: C).map (·.1))) → b8q t.1 t.2 ((A.length + L.length : Nat) : Int) (i : Int) (j : Int) ((A ++ L ++ x :: C).map (·.1)) := by
        intro c1 c2
        have w1 : IntKind.wrap .i64 ((((i + j) / 2 : Nat) : Int) + 1) = (((i + j) / 2 + 1 : Nat) : Int) := by rw [wrI (by omega) (by omega)]; simp
        have gx2 := gx
        rw [ex] at gx2 hcmp
        rw [ey] at gy hcmp
        apply j7q
        rw [R4q (by omega), w1]
        refine b3q (decide_eq_true (by omega)) ⟨⟨A3q⟩, _, rfl, ⟨by rw [hlen]; omega⟩, _, rfl, _, _, _, _, _, _, _, gx2, _, rfl, ⟨by rw [hlen]; omega⟩, _, rfl, _, _, _, _, _, _, _, gy, _, hcmp, ?_⟩
        by_cases hlt : e6q x y
        · exact a4q (by rw [decide_eq_true (show Li.cmp x.2 y.2 < 0 from hlt)]; rfl) (c2 hlt)
        · exact b3q (by rw [decide_eq_false (show ¬ Li.cmp x.2 y.2 < 0 from hlt)]; rfl) (c1 hlt)
      refine ⟨fun hf hp => core (fun _ => hp) fun hn => ?_, fun hn hp => core (fun hlt => absurd ⟨y, hy, hlt⟩ hn) fun _ => hp⟩
      obtain ⟨y', hy', hlt⟩ := hf
      rw [hy] at hy'
      cases hy'
      exact absurd hn hlt) L.length A.length (A.length + L.length) (by omega) (Nat.le_refl _) (by omega) (Nat.le_refl _) (.inl rfl) (.inl rfl)
  obtain ⟨q, rfl⟩ : ∃ q, k = A.length + q := ⟨k - A.length, by omega⟩
  have hq : q ≤ L.length := by omega
  have hsL : Sd e6q (L.take q ++ L.drop q) := by rw [List.take_append_drop]; exact hs
  obtain ⟨s1, s2, _⟩ := o5q.1 hsL
  have hL1 : ∀ y ∈ L.take q, ¬ e6q x y := by
    refine Q2q hO s1 ?_
    by_cases h0 : q = 0
    · subst h0; exact .inl (by simp)
    · rcases k3 with h | ⟨y, hy, hlt⟩
      · exact absurd (by omega) h0
      · refine .inr ⟨y, ?_, hlt⟩
        rw [List.length_take, Nat.min_eq_left hq, List.getElem?_take_of_lt (by omega)]
        rw [← hy]; congr 1; omega
  have hL2 : ∀ y ∈ L.drop q, e6q x y := by
    refine a3Rq hO s2 ?_
    by_cases h0 : q = L.length
    · exact .inl (List.drop_eq_nil_of_le (by omega))
    · rcases k4 with h | h
      · exact absurd (by omega) h0
      · obtain ⟨y, hy⟩ := g8q (l := L) (i := q) (by omega)
        refine .inr ⟨y, by rw [List.getElem?_drop]; simpa using hy, Classical.byContradiction fun hlt => h ⟨y, ?_, hlt⟩⟩
        rw [← hy]; congr 1; omega
  refine ⟨L.take q ++ x :: L.drop q, ?_, I7q hO hsL (fun y hy => hO.asym (hL2 y hy)) hL1, k5 (_, _) ?_⟩
  · refine List.perm_middle.trans ?_
    rw [List.take_append_drop]
    exact (List.perm_append_singleton x L).symm
  · have e1 : A ++ L.take q ++ L.drop q ++ x :: C = A ++ L ++ x :: C := by rw [List.append_assoc A, List.take_append_drop]
    have h := a31q (A ++ L.take q) x (L.drop q).length (L.drop q) C rfl (by rw [e1]; exact ht) (by rw [e1]; exact hl)
    have e2 : A ++ L.take q ++ x :: L.drop q ++ C = A ++ (L.take q ++ x :: L.drop q) ++ C := by simp
    have e3 : (A ++ L.take q).length = A.length + q := by simp; omega
    have e4 : (A ++ L.take q ++ L.drop q).length = A.length + L.length := by simp
    rw [e1, e2, e3, e4] at h
    exact h
theorem aaaq (hO : SWO e6q) (A L1 L2 R1 R2 C : List (List Da × Li)) (a m b mid k e : Nat) (ha : a = A.length) (hk : k = a + L1.length) (hm : m = k + L2.length) (he : e = m + R1.length) (hb : b = e + R2.length) (hmid : mid = k + R1.length) (ht : ∀ z ∈ A ++ L1 ++ L2 ++ R1 ++ R2 ++ C, TgP Li.da z) (hl : (A ++ L1 ++ L2 ++ R1 ++ R2 ++ C).length ≤ 3000000000000) (hL : Sd e6q (L1 ++ L2)) (hR : Sd e6q (R1 ++ R2))
    (f1 : (L1 = [] ∨ R2 = []) ∨ ∃ y0 z0, L1[L1.length - 1]? = some y0 ∧ R2[0]? = some z0 ∧ ¬ e6q z0 y0) (f2 : (L2 = [] ∨ R1 = []) ∨ ∃ y0 z0, L2[0]? = some y0 ∧ R1[R1.length - 1]? = some z0 ∧ e6q z0 y0)
    (ih : ∀ (A L R C : List (List Da × Li)), (L ++ R).length < (L1 ++ L2 ++ R1 ++ R2).length → L ≠ [] → R ≠ [] → (∀ z ∈ A ++ L ++ R ++ C, TgP Li.da z) → (A ++ L ++ R ++ C).length ≤ 3000000000000 → Sd e6q L → Sd e6q R → ∃ M, M.Perm (L ++ R) ∧ Sd e6q M ∧ XC Try.prog 126 [.one (.ol 2000), Z (A.length : Int), Z ((A ++ L).length : Int), Z ((A ++ L ++ R).length : Int), .one (.d (.fn 89))] [(2000, .lst 61 7 ((A ++ L ++ R ++ C).map (·.1)))] (.tup []) [(2000, .lst 61 7 ((A ++ M ++ C).map (·.1)))])
    (hlt1 : (L1 ++ R1).length < (L1 ++ L2 ++ R1 ++ R2).length) (hlt2 : (L2 ++ R2).length < (L1 ++ L2 ++ R1 ++ R2).length) :
    ∃ M, M.Perm (L1 ++ L2 ++ (R1 ++ R2)) ∧ Sd e6q M ∧ ∀ s21 s22 : Int, s21 = k → b0q (.tup []) [(2000, .lst 61 7 ((A ++ M ++ C).map (·.1)))] (a : Int) (m : Int) (b : Int) (mid : Int) ((mid + m : Nat) : Int) (k : Int) s21 s22 ((A ++ L1 ++ L2 ++ R1 ++ R2 ++ C).map (·.1)) := by
  have hl' : A.length + L1.length + L2.length + R1.length + R2.length + C.length ≤ 3000000000000 := by simp at hl; omega
  obtain ⟨hs1, hs2, hs12⟩ := o5q.1 hL
  obtain ⟨hr1, hr2, hr12⟩ := o5q.1 hR
  obtain ⟨M1, p1, q1, z1, c1⟩ : ∃ M1, M1.Perm (L1 ++ R1) ∧ Sd e6q M1 ∧ ((L1 = [] ∨ R1 = []) → M1 = L1 ++ R1) ∧ (L1 ≠ [] → R1 ≠ [] → XC Try.prog 126 [.one (.ol 2000), Z (a : Int), Z (k : Int), Z (mid : Int), .one (.d (.fn 89))] [(2000, .lst 61 7 ((A ++ L1 ++ R1 ++ L2 ++ R2 ++ C).map (·.1)))] (.tup []) [(2000, .lst 61 7 ((A ++ M1 ++ L2 ++ R2 ++ C).map (·.1)))]) := by
    by_cases h : L1 = [] ∨ R1 = []
    · refine ⟨L1 ++ R1, .refl _, ?_, fun _ => rfl, fun h1 h2 => absurd h (by simp [h1, h2])⟩
      rcases h with rfl | rfl
      · simpa using hr1
      · simpa using hs1
    · have h1 : L1 ≠ [] := fun e => h (.inl e)
      have h2 : R1 ≠ [] := fun e => h (.inr e)
      obtain ⟨M1, p, q, c⟩ := ih A L1 R1 (L2 ++ R2 ++ C) hlt1 h1 h2 (fun w hw => ht w (by simp at hw ⊢; grind)) (by simp; omega) hs1 hr1
      refine ⟨M1, p, q, fun e => absurd e h, fun _ _ => ?_⟩
      have e1 : (A ++ L1).length = k := by simp; omega
      have e2 : (A ++ L1 ++ R1).length = mid := by simp; omega
      have e3 : A ++ L1 ++ R1 ++ (L2 ++ R2 ++ C) = A ++ L1 ++ R1 ++ L2 ++ R2 ++ C := by simp
      have e4 : A ++ M1 ++ (L2 ++ R2 ++ C) = A ++ M1 ++ L2 ++ R2 ++ C := by simp
      rw [e1, e2, e3, e4, ← ha] at c
      exact c
  have pl1 := p1.length_eq
  simp only [List.length_append] at pl1
  obtain ⟨M2, p2, q2, z2, c2⟩ : ∃ M2, M2.Perm (L2 ++ R2) ∧ Sd e6q M2 ∧ ((L2 = [] ∨ R2 = []) → M2 = L2 ++ R2) ∧ (L2 ≠ [] → R2 ≠ [] → XC Try.prog 126 [.one (.ol 2000), Z (mid : Int), Z (e : Int), Z (b : Int), .one (.d (.fn 89))] [(2000, .lst 61 7 ((A ++ M1 ++ L2 ++ R2 ++ C).map (·.1)))] (.tup []) [(2000, .lst 61 7 ((A ++ M1 ++ M2 ++ C).map (·.1)))]) := by
    by_cases h : L2 = [] ∨ R2 = []
    · refine ⟨L2 ++ R2, .refl _, ?_, fun _ => rfl, fun h1 h2 => absurd h (by simp [h1, h2])⟩
      rcases h with rfl | rfl
      · simpa using hr2
      · simpa using hs2
    · have h1 : L2 ≠ [] := fun e => h (.inl e)
      have h2 : R2 ≠ [] := fun e => h (.inr e)
      obtain ⟨M2, p, q, c⟩ := ih (A ++ M1) L2 R2 C hlt2 h1 h2 (fun w hw => ht w (by
        have hp : w ∈ M1 → w ∈ L1 ++ R1 := fun h => p1.subset h
        simp at hw hp ⊢; grind)) (by simp; omega) hs2 hr2
      refine ⟨M2, p, q, fun e => absurd e h, fun _ _ => ?_⟩
      have e1 : (A ++ M1).length = mid := by simp; omega
      have e2 : (A ++ M1 ++ L2).length = e := by simp; omega
      have e3 : (A ++ M1 ++ L2 ++ R2).length = b := by simp; omega
      rw [e1, e2, e3] at c
      exact c
  have hcross1 : ∀ x ∈ L1, ∀ y ∈ R2, ¬ e6q y x := fun x hx y hy => by
    rcases f1 with (h | h) | ⟨y0, z0, g1, g2, g3⟩
    · simp [h] at hx
    · simp [h] at hy
    · exact D4q hO hr2 (.inr ⟨z0, g2, Q2q hO hs1 (.inr ⟨y0, g1, g3⟩) x hx⟩) y hy
  have hcross2 : ∀ x ∈ R1, ∀ y ∈ L2, ¬ e6q y x := fun x hx y hy => by
    rcases f2 with (h | h) | ⟨y0, z0, g1, g2, g3⟩
    · simp [h] at hy
    · simp [h] at hx
    · exact D4q hO hs2 (.inr ⟨y0, g1, hO.asym (P0q hO hr1 (.inr ⟨z0, g2, g3⟩) x hx)⟩) y hy
  refine ⟨M1 ++ M2, ?_, o5q.2 ⟨q1, q2, fun x hx y hy => ?_⟩, fun s21 s22 h21 => ?_⟩
  · refine (p1.append p2).trans ?_
    have e1 : L1 ++ R1 ++ (L2 ++ R2) = L1 ++ ((R1 ++ L2) ++ R2) := by simp
    have e2 : L1 ++ L2 ++ (R1 ++ R2) = L1 ++ ((L2 ++ R1) ++ R2) := by simp
    rw [e1, e2]
    exact (List.perm_append_comm.append_right R2).append_left L1
  · have hx := p1.subset hx
    have hy := p2.subset hy
    rcases List.mem_append.1 hx with hx | hx <;> rcases List.mem_append.1 hy with hy | hy
    · exact hs12 x hx y hy
    · exact hcross1 x hx y hy
    · exact hcross2 x hx y hy
    · exact hr12 x hx y hy
  · subst h21
    obtain ⟨D3, hD3⟩ : ∃ D3, D3 = A ++ M1 ++ M2 ++ C := ⟨_, rfl⟩
    have eO : A ++ (M1 ++ M2) ++ C = D3 := by rw [hD3]; simp
    rw [eO]
    have hRight : ifB (decide ((mid : Int) < ((e : Nat) : Int))) (ifB (decide (((e : Nat) : Int) < (b : Int))) (∃ xs', XC Try.prog 126 [.one (.ol 2000), Z (mid : Int), Z ((e : Nat) : Int), Z (b : Int), .one (.d (.fn 89))] [(2000, .lst 61 7 ((A ++ M1 ++ L2 ++ R2 ++ C).map (·.1)))] (.tup []) [(2000, .lst 61 7 xs')] ∧ ((AV.tup []) = .tup [] ∧ [((2000 : Nat), Ob.lst 61 7 (xs'))] = [(2000, Ob.lst 61 7 (D3.map (·.1)))])) ((AV.tup []) = .tup [] ∧ [((2000 : Nat), Ob.lst 61 7 ((A ++ M1 ++ L2 ++ R2 ++ C).map (·.1)))] = [(2000, Ob.lst 61 7 (D3.map (·.1)))])) ((AV.tup []) = .tup [] ∧ [((2000 : Nat), Ob.lst 61 7 ((A ++ M1 ++ L2 ++ R2 ++ C).map (·.1)))] = [(2000, Ob.lst 61 7 (D3.map (·.1)))]) := by
      by_cases h2 : L2 = []
      · refine a4q (decide_eq_false (by subst h2; simp at hm; omega)) ⟨rfl, ?_⟩
        rw [hD3, z2 (.inl h2)]; simp
      · have := List.length_pos_iff.2 h2
        refine b3q (decide_eq_true (by omega)) ?_
        by_cases h3 : R2 = []
        · refine a4q (decide_eq_false (by subst h3; simp at hb; omega)) ⟨rfl, ?_⟩
          rw [hD3, z2 (.inr h3)]; simp
        · have := List.length_pos_iff.2 h3
          exact b3q (decide_eq_true (by omega)) ⟨_, c2 h2 h3, rfl, by rw [hD3]⟩
    have hLeft : ifB (decide ((a : Int) < (k : Int))) (ifB (decide ((k : Int) < (mid : Int))) (∃ xs1, XC Try.prog 126 [.one (.ol 2000), Z (a : Int), Z (k : Int), Z (mid : Int), .one (.d (.fn 89))] [(2000, .lst 61 7 ((A ++ L1 ++ R1 ++ L2 ++ R2 ++ C).map (·.1)))] (.tup []) [(2000, .lst 61 7 xs1)] ∧ ifB (decide ((mid : Int) < ((e : Nat) : Int))) (ifB (decide (((e : Nat) : Int) < (b : Int))) (∃ xs', XC Try.prog 126 [.one (.ol 2000), Z (mid : Int), Z ((e : Nat) : Int), Z (b : Int), .one (.d (.fn 89))] [(2000, .lst 61 7 (xs1))] (.tup []) [(2000, .lst 61 7 xs')] ∧ ((AV.tup []) = .tup [] ∧ [((2000 : Nat), Ob.lst 61 7 (xs'))] = [(2000, Ob.lst 61 7 (D3.map (·.1)))])) ((AV.tup []) = .tup [] ∧ [((2000 : Nat), Ob.lst 61 7 (xs1))] = [(2000, Ob.lst 61 7 (D3.map (·.1)))])) ((AV.tup []) = .tup [] ∧ [((2000 : Nat), Ob.lst 61 7 (xs1))] = [(2000, Ob.lst 61 7 (D3.map (·.1)))])) (ifB (decide ((mid : Int) < ((e : Nat) : Int))) (ifB (decide (((e : Nat) : Int) < (b : Int))) (∃ xs', XC Try.prog 126 [.one (.ol 2000), Z (mid : Int), Z ((e : Nat) : Int), Z (b : Int), .one (.d (.fn 89))] [(2000, .lst 61 7 ((A ++ L1 ++ R1 ++ L2 ++ R2 ++ C).map (·.1)))] (.tup []) [(2000, .lst 61 7 xs')] ∧ ((AV.tup []) = .tup [] ∧ [((2000 : Nat), Ob.lst 61 7 (xs'))] = [(2000, Ob.lst 61 7 (D3.map (·.1)))])) ((AV.tup []) = .tup [] ∧ [((2000 : Nat), Ob.lst 61 7 ((A ++ L1 ++ R1 ++ L2 ++ R2 ++ C).map (·.1)))] = [(2000, Ob.lst 61 7 (D3.map (·.1)))])) ((AV.tup []) = .tup [] ∧ [((2000 : Nat), Ob.lst 61 7 ((A ++ L1 ++ R1 ++ L2 ++ R2 ++ C).map (·.1)))] = [(2000, Ob.lst 61 7 (D3.map (·.1)))]))) (ifB (decide ((mid : Int) < ((e : Nat) : Int))) (ifB (decide (((e : Nat) : Int) < (b : Int))) (∃ xs', XC Try.prog 126 [.one (.ol 2000), Z (mid : Int), Z ((e : Nat) : Int), Z (b : Int), .one (.d (.fn 89))] [(2000, .lst 61 7 ((A ++ L1 ++ R1 ++ L2 ++ R2 ++ C).map (·.1)))] (.tup []) [(2000, .lst 61 7 xs')] ∧ ((AV.tup []) = .tup [] ∧ [((2000 : Nat), Ob.lst 61 7 (xs'))] = [(2000, Ob.lst 61 7 (D3.map (·.1)))])) ((AV.tup []) = .tup [] ∧ [((2000 : Nat), Ob.lst 61 7 ((A ++ L1 ++ R1 ++ L2 ++ R2 ++ C).map (·.1)))] = [(2000, Ob.lst 61 7 (D3.map (·.1)))])) ((AV.tup []) = .tup [] ∧ [((2000 : Nat), Ob.lst 61 7 ((A ++ L1 ++ R1 ++ L2 ++ R2 ++ C).map (·.1)))] = [(2000, Ob.lst 61 7 (D3.map (·.1)))])) := by
      by_cases h2 : L1 = []
      · refine a4q (decide_eq_false (by subst h2; simp at hk; omega)) ?_
        rw [z1 (.inl h2)] at hRight
        simpa using hRight
      · have := List.length_pos_iff.2 h2
        refine b3q (decide_eq_true (by omega)) ?_
        by_cases h3 : R1 = []
        · refine a4q (decide_eq_false (by subst h3; simp at hmid; omega)) ?_
          rw [z1 (.inr h3)] at hRight
          simpa using hRight
        · have := List.length_pos_iff.2 h3
          exact b3q (decide_eq_true (by omega)) ⟨_, c1 h2 h3, hRight⟩
    have w : IntKind.wrap .i64 (((mid + m : Nat) : Int) - (k : Int)) = ((e : Nat) : Int) := by rw [wrI (by omega) (by omega)]; omega
    apply j5q
    rw [w]
    refine a4q (decide_eq_false (by omega)) ?_
    by_cases h2 : L2 = []
    · refine a4q (decide_eq_false (by subst h2; simp at hm; omega)) ?_
      have e1 : A ++ L1 ++ L2 ++ R1 ++ R2 ++ C = A ++ L1 ++ R1 ++ L2 ++ R2 ++ C := by subst h2; simp
      rw [e1]
      exact hLeft
    · have := List.length_pos_iff.2 h2
      refine b3q (decide_eq_true (by omega)) ?_
      by_cases h3 : R1 = []
      · refine a4q (decide_eq_false (by subst h3; simp at he; omega)) ?_
        have e1 : A ++ L1 ++ L2 ++ R1 ++ R2 ++ C = A ++ L1 ++ R1 ++ L2 ++ R2 ++ C := by subst h3; simp
        rw [e1]
        exact hLeft
      · have := List.length_pos_iff.2 h3
        have c := a4Dq (A ++ L1) L2 R1 (R2 ++ C) h2 h3 (fun w hw => ht w (by simp at hw ⊢; grind)) (by simp; omega)
        have e1 : A ++ L1 ++ L2 ++ R1 ++ (R2 ++ C) = A ++ L1 ++ L2 ++ R1 ++ R2 ++ C := by simp
        have e2 : A ++ L1 ++ R1 ++ L2 ++ (R2 ++ C) = A ++ L1 ++ R1 ++ L2 ++ R2 ++ C := by simp
        have e3 : (A ++ L1).length = k := by simp; omega
        have e4 : (A ++ L1 ++ L2).length = m := by simp; omega
        have e5 : (A ++ L1 ++ L2 ++ R1).length = e := by simp; omega
        rw [e1, e2, e3, e4, e5] at c
        exact b3q (decide_eq_true (by omega)) ⟨_, c, hLeft⟩
theorem a6oq (A L R C : List (List Da × Li)) (a m b mid lo hi : Nat) (ha : a = A.length) (hm : m = a + L.length) (hb : b = m + R.length) (hlh : lo ≤ hi) (hla : a ≤ lo) (hhm : hi ≤ m) (hc : ∀ c, lo ≤ c → c < hi → m + c ≤ mid + m - 1 ∧ mid + m - 1 - c < b) (ht : ∀ z ∈ A ++ L ++ R ++ C, TgP Li.da z) (hl : (A ++ L ++ R ++ C).length ≤ 3000000000000) (hmid : mid ≤ 3000000000000) :
    ∃ k, lo ≤ k ∧ k ≤ hi ∧ (k = lo ∨ ∃ y z, L[k - 1 - a]? = some y ∧ R[mid + m - 1 - (k - 1) - m]? = some z ∧ ¬ e6q z y) ∧ (k = hi ∨ ¬ ∃ y z, L[k - a]? = some y ∧ R[mid + m - 1 - k - m]? = some z ∧ ¬ e6q z y) ∧
    ∀ t : AV × List (Nat × Ob), b0q t.1 t.2 (a : Int) (m : Int) (b : Int) (mid : Int) ((mid + m : Nat) : Int) (k : Int) (k : Int) ((mid + m - 1 : Nat) : Int) ((A ++ L ++ R ++ C).map (·.1)) → b0q t.1 t.2 (a : Int) (m : Int) (b : Int) (mid : Int) ((mid + m : Nat) : Int) (lo : Int) (hi : Int) ((mid + m - 1 : Nat) : Int) ((A ++ L ++ R ++ C).map (·.1)) := by
  have hl' : A.length + L.length + R.length + C.length ≤ 3000000000000 := by simp at hl; omega
  have hlen : ((A ++ L ++ R ++ C).map (·.1)).length = A.length + L.length + R.length + C.length := by simp; omega
  refine M2q (ι := AV × List (Nat × Ob)) (p := fun t i j => b0q t.1 t.2 (a : Int) (m : Int) (b : Int) (mid : Int) ((mid + m : Nat) : Int) (i : Int) (j : Int) ((mid + m - 1 : Nat) : Int) ((A ++ L ++ R ++ C).map (·.1))) (ex := fun t i => b0q t.1 t.2 (a : Int) (m : Int) (b : Int) (mid : Int) ((mid + m : Nat) : Int) (i : Int) (i : Int) ((mid + m - 1 : Nat) : Int) ((A ++ L ++ R ++ C).map (·.1)))
    (fun c => ∃ y z, L[c - a]? = some y ∧ R[mid + m - 1 - c - m]? = some z ∧ ¬ e6q z y) lo hi (fun t i _ _ h => h) (fun t i j h1 h2 h3 => ?_) (hi - lo) lo hi (Nat.le_refl _) (Nat.le_refl _) hlh (Nat.le_refl _) (.inl rfl) (.inl rfl)
  obtain ⟨hc1, hc2⟩ := hc ((i + j) / 2) (by omega) (by omega)
  obtain ⟨y, hy⟩ := g8q (l := L) (i := (i + j) / 2 - a) (by omega)
  obtain ⟨z, hz⟩ := g8q (l := R) (i := mid + m - 1 - (i + j) / 2 - m) (by omega)
  have hym := List.mem_of_getElem? hy
  have hzm := List.mem_of_getElem? hz
  have hcmp := a0Oq (ht z (by simp [hzm])) (ht y (by simp [hym]))
  have gy := s3q (fun z : List Da × Li => z.1) (P := A) (Q := R ++ C) hy
  have gz := s3q (fun z : List Da × Li => z.1) (P := A ++ L) (Q := C) hz
  have eh : A.length + ((i + j) / 2 - a) = (i + j) / 2 := by omega
  have eg : (A ++ L).length + (mid + m - 1 - (i + j) / 2 - m) = mid + m - 1 - (i + j) / 2 := by simp; omega
  have eD : A ++ L ++ (R ++ C) = A ++ L ++ R ++ C := by simp
  rw [eh, eD] at gy
  rw [eg] at gz
  obtain ⟨_, _, _, _, _, _, _, ez⟩ := (ht z (by simp [hzm])).lit
  obtain ⟨_, _, _, _, _, _, _, ey⟩ := (ht y (by simp [hym])).lit
  have core : (¬ e6q z y → b0q t.1 t.2 (a : Int) (m : Int) (b : Int) (mid : Int) ((mid + m : Nat) : Int) (((i + j) / 2 + 1 : Nat) : Int) (j : Int) ((mid + m - 1 : Nat) : Int) ((A ++ L ++ R ++ C).map (·.1))) → (e6q z y → b0q t.1 t.2 (a : Int) (m : Int) (b : Int) (mid : Int) ((mid + m : Nat) : Int) (i : Int) (((i + j) / 2 : Nat) : Int) ((mid + m - 1 : Nat) : Int) ((A ++ L ++ R ++ C).map (·.1))) → b0q t.1 t.2 (a : Int) (m : Int) (b : Int) (mid : Int) ((mid + m : Nat) : Int) (i : Int) (j : Int) ((mid + m - 1 : Nat) : Int) ((A ++ L ++ R ++ C).map (·.1)) := by
    intro c1 c2
    have w1 : IntKind.wrap .i64 ((((i + j) / 2 : Nat) : Int) + 1) = (((i + j) / 2 + 1 : Nat) : Int) := by rw [wrI (by omega) (by omega)]; simp
    have w2 : IntKind.wrap .i64 (((mid + m - 1 : Nat) : Int) - (((i + j) / 2 : Nat) : Int)) = ((mid + m - 1 - (i + j) / 2 : Nat) : Int) := by rw [wrI (by omega) (by omega)]; omega
    rw [ez] at gz hcmp
    rw [ey] at gy hcmp
    apply j5q
    rw [R4q (by omega), w1, w2]
    refine b3q (decide_eq_true (by omega)) ⟨⟨A3q⟩, _, rfl, ⟨by rw [hlen]; omega⟩, _, rfl, _, _, _, _, _, _, _, gz, _, rfl, ⟨by rw [hlen]; omega⟩, _, rfl, _, _, _, _, _, _, _, gy, _, hcmp, ?_⟩
    by_cases hlt : e6q z y
    · exact a4q (by rw [decide_eq_true (show Li.cmp z.2 y.2 < 0 from hlt)]; rfl) (c2 hlt)
    · exact b3q (by rw [decide_eq_false (show ¬ Li.cmp z.2 y.2 < 0 from hlt)]; rfl) (c1 hlt)
  refine ⟨fun hf hp => core (fun _ => hp) fun hn => ?_, fun hn hp => core (fun hlt => absurd ⟨y, z, hy, hz, hlt⟩ hn) fun _ => hp⟩
  obtain ⟨y', z', hy', hz', hlt⟩ := hf
  rw [hy] at hy'
  rw [hz] at hz'
  cases hy'
  cases hz'
  exact absurd hn hlt
theorem P9q (hO : SWO e6q) : ∀ (n : Nat) (A L R C : List (List Da × Li)), (L ++ R).length ≤ n → L ≠ [] → R ≠ [] → (∀ z ∈ A ++ L ++ R ++ C, TgP Li.da z) → (A ++ L ++ R ++ C).length ≤ 3000000000000 → Sd e6q L → Sd e6q R → ∃ M, M.Perm (L ++ R) ∧ Sd e6q M ∧ XC Try.prog 126 [.one (.ol 2000), Z (A.length : Int), Z ((A ++ L).length : Int), Z ((A ++ L ++ R).length : Int), .one (.d (.fn 89))] [(2000, .lst 61 7 ((A ++ L ++ R ++ C).map (·.1)))] (.tup []) [(2000, .lst 61 7 ((A ++ M ++ C).map (·.1)))] := by
  intro n
  induction n with
  | zero =>
    intro A L R C hn hL _ _ _ _ _
    exact absurd (List.eq_nil_of_length_eq_zero (by simp at hn; simp [hn])) hL
  | succ n ih =>
    intro A L R C hn hL hR ht hl hsL hsR
    have hL' := List.length_pos_iff.2 hL
    have hR' := List.length_pos_iff.2 hR
    have hl' : A.length + L.length + R.length + C.length ≤ 3000000000000 := by simp at hl; omega
    have hn' : L.length + R.length ≤ n + 1 := by simpa using hn
    have em : (A ++ L).length = A.length + L.length := by simp
    have eb : (A ++ L ++ R).length = A.length + L.length + R.length := by simp; omega
    have w1 : IntKind.wrap .i64 (((A.length + L.length : Nat) : Int) - (A.length : Int)) = (L.length : Int) := by rw [wrI (by omega) (by omega)]; omega
    have w2 : IntKind.wrap .i64 (((A.length + L.length + R.length : Nat) : Int) - ((A.length + L.length : Nat) : Int)) = (R.length : Int) := by rw [wrI (by omega) (by omega)]; omega
    rw [em, eb]
    by_cases h1 : L.length = 1
    · obtain ⟨x, rfl⟩ : ∃ x, L = [x] := List.length_eq_one_iff.1 h1
      obtain ⟨M, p1, p2, p3⟩ := aaoq hO A R C x (by simpa using ht) (by simpa using hl) hsR
      refine ⟨M, p1, p2, ?_⟩
      apply g5q
      rw [w1]
      refine b3q (decide_eq_true (by omega)) ?_
      have e1 : A ++ [x] ++ R ++ C = A ++ x :: R ++ C := by simp
      rw [e1]
      exact p3
    · by_cases h2 : R.length = 1
      · obtain ⟨x, rfl⟩ : ∃ x, R = [x] := List.length_eq_one_iff.1 h2
        obtain ⟨M, p1, p2, p3⟩ := a8pq hO A L C x (by simpa using ht) (by simpa using hl) hsL
        refine ⟨M, p1, p2, ?_⟩
        apply g5q
        rw [w1, w2]
        refine a4q (decide_eq_false (by omega)) (b3q (decide_eq_true (by omega)) ?_)
        have e1 : A ++ L ++ [x] ++ C = A ++ L ++ x :: C := by simp
        rw [e1]
        exact p3
      · obtain ⟨a, ha⟩ : ∃ a, a = A.length := ⟨_, rfl⟩
        obtain ⟨m, hm⟩ : ∃ m, m = a + L.length := ⟨_, rfl⟩
        obtain ⟨b, hb⟩ : ∃ b, b = m + R.length := ⟨_, rfl⟩
        rw [← ha, ← hm] at w1
        rw [← ha, ← hm, ← hb] at w2 ⊢
        obtain ⟨mid, hmid⟩ : ∃ mid, mid = (a + b) / 2 := ⟨_, rfl⟩
        have wm : IntKind.wrap .i64 (((mid : Nat) : Int) + (m : Int)) = ((mid + m : Nat) : Int) := by rw [wrI (by omega) (by omega)]; simp
        have wp : IntKind.wrap .i64 (((mid + m : Nat) : Int) - 1) = ((mid + m - 1 : Nat) : Int) := by rw [wrI (by omega) (by omega)]; omega
        have hcases : ∃ lo hi, lo ≤ hi ∧ a ≤ lo ∧ hi ≤ m ∧ hi ≤ mid ∧ mid + m ≤ b + lo ∧ (∀ c, lo ≤ c → c < hi → m + c ≤ mid + m - 1 ∧ mid + m - 1 - c < b) ∧ (lo = a ∨ mid + m = b + lo) ∧ (hi = m ∨ hi = mid) ∧
            ∀ (r : AV) (O : List (Nat × Ob)), b0q r O (a : Int) (m : Int) (b : Int) (mid : Int) ((mid + m : Nat) : Int) (lo : Int) (hi : Int) ((mid + m - 1 : Nat) : Int) ((A ++ L ++ R ++ C).map (·.1)) → XC Try.prog 126 [.one (.ol 2000), Z (a : Int), Z (m : Int), Z (b : Int), .one (.d (.fn 89))] [(2000, .lst 61 7 ((A ++ L ++ R ++ C).map (·.1)))] r O := by
          by_cases hgt : mid < m
          · refine ⟨mid + m - b, mid, by omega, by omega, by omega, by omega, by omega, fun c h1 h2 => by omega, by omega, .inr rfl, fun r O h => ?_⟩
            have w3 : IntKind.wrap .i64 (((mid + m : Nat) : Int) - (b : Int)) = ((mid + m - b : Nat) : Int) := by rw [wrI (by omega) (by omega)]; omega
            apply g5q
            rw [w1, w2, R4q (by omega), ← hmid, wm, wp, w3]
            exact a4q (decide_eq_false (by omega)) (a4q (decide_eq_false (by omega)) ⟨⟨A3q⟩, b3q (decide_eq_true (by omega)) h⟩)
          · refine ⟨a, m, by omega, by omega, by omega, by omega, by omega, fun c h1 h2 => by omega, .inl rfl, .inl rfl, fun r O h => ?_⟩
            apply g5q
            rw [w1, w2, R4q (by omega), ← hmid, wm, wp]
            exact a4q (decide_eq_false (by omega)) (a4q (decide_eq_false (by omega)) ⟨⟨A3q⟩, a4q (decide_eq_false (by omega)) h⟩)
        obtain ⟨lo, hi, c1, c2, c3, c4, c5, c6, c7, c8, c9⟩ := hcases
        obtain ⟨k, k1, k2, k3, k4, k5⟩ := a6oq A L R C a m b mid lo hi ha hm hb c1 c2 c3 c6 ht hl (by omega)
        obtain ⟨L1, L2, rfl, hL1⟩ : ∃ L1 L2, L = L1 ++ L2 ∧ L1.length = k - a := ⟨L.take (k - a), L.drop (k - a), by simp, by simp; omega⟩
        obtain ⟨R1, R2, rfl, hR1⟩ : ∃ R1 R2, R = R1 ++ R2 ∧ R1.length = mid - k := ⟨R.take (mid - k), R.drop (mid - k), by simp, by simp; omega⟩
        rw [List.length_append] at hm hb
        have f1 : (L1 = [] ∨ R2 = []) ∨ ∃ y0 z0, L1[L1.length - 1]? = some y0 ∧ R2[0]? = some z0 ∧ ¬ e6q z0 y0 := by
          by_cases hk0 : k = lo
          · left
            rcases c7 with h | h
            · exact .inl (List.eq_nil_of_length_eq_zero (by omega))
            · exact .inr (List.eq_nil_of_length_eq_zero (by omega))
          · right
            rcases k3 with h | ⟨y, z, hy, hz, hlt⟩
            · exact absurd h hk0
            · refine ⟨y, z, ?_, ?_, hlt⟩
              · rw [← hy, List.getElem?_append_left (by omega)]; congr 1; omega
              · rw [← hz, List.getElem?_append_right (by omega)]; congr 1; omega
        have f2 : (L2 = [] ∨ R1 = []) ∨ ∃ y0 z0, L2[0]? = some y0 ∧ R1[R1.length - 1]? = some z0 ∧ e6q z0 y0 := by
          by_cases hk0 : k = hi
          · left
            rcases c8 with h | h
            · exact .inl (List.eq_nil_of_length_eq_zero (by omega))
            · exact .inr (List.eq_nil_of_length_eq_zero (by omega))
          · right
            have hc := c6 k k1 (by omega)
            obtain ⟨y, hy⟩ := g8q (l := L2) (i := 0) (by omega)
            obtain ⟨z, hz⟩ := g8q (l := R1) (i := R1.length - 1) (by omega)
            refine ⟨y, z, hy, hz, Classical.byContradiction fun hlt => ?_⟩
            rcases k4 with h | h
            · exact hk0 h
            · refine h ⟨y, z, ?_, ?_, hlt⟩
              · rw [← hy, List.getElem?_append_right (by omega)]; congr 1; omega
              · rw [← hz, List.getElem?_append_left (by omega)]; congr 1; omega
        have eD : A ++ (L1 ++ L2) ++ (R1 ++ R2) ++ C = A ++ L1 ++ L2 ++ R1 ++ R2 ++ C := by simp
        have hfacts : k = a + L1.length ∧ m = k + L2.length ∧ b = m + R1.length + R2.length ∧ mid = k + R1.length := by
          clear c7 c8 c9 k3 k4 k5 f1 f2 c6 w1 w2 wm wp ih ht hl
          omega
        have hsz : mid < b ∧ a < mid := by
          clear c7 c8 c9 k3 k4 k5 f1 f2 c6 w1 w2 wm wp ih ht hl
          simp only [List.length_append] at h1 h2 hL' hR'
          omega
        have hsum : (L1 ++ L2 ++ R1 ++ R2).length = L1.length + L2.length + R1.length + R2.length := by simp; omega
        have hs1 : (L1 ++ R1).length < (L1 ++ L2 ++ R1 ++ R2).length := by
          clear c7 c8 c9 k3 k4 k5 f1 f2 c6 w1 w2 wm wp ih ht hl
          rw [hsum, List.length_append]; omega
        have hs2 : (L2 ++ R2).length < (L1 ++ L2 ++ R1 ++ R2).length := by
          clear c7 c8 c9 k3 k4 k5 f1 f2 c6 w1 w2 wm wp ih ht hl
          rw [hsum, List.length_append]; omega
        have hn2 : (L1 ++ L2 ++ R1 ++ R2).length ≤ n + 1 := by
          rw [hsum]; simp only [List.length_append] at hn'; omega
        obtain ⟨g1, g2, g3, g4⟩ := hfacts
        obtain ⟨M, p1, p2, p3⟩ := aaaq hO A L1 L2 R1 R2 C a m b mid k (m + R1.length) ha g1 g2 rfl g3 g4 (by rw [← eD]; exact ht) (by rw [← eD]; exact hl) hsL hsR f1 f2 (fun A' L' R' C' hlt h1 h2 h3 h4 h5 h6 => ih A' L' R' C' (Nat.le_of_lt_succ (Nat.lt_of_lt_of_le hlt hn2)) h1 h2 h3 h4 h5 h6) hs1 hs2
        refine ⟨M, p1, p2, c9 _ _ (k5 (_, _) ?_)⟩
        rw [eD]
        exact p3 _ _ rfl
inductive H9q (k : Nat) : List (List Da × Li) → Prop
  | last {l} : l.length ≤ k → Sd e6q l → H9q k l
  | cons {b r} : b.length = k → Sd e6q b → H9q k r → H9q k (b ++ r)
theorem V8q {k : Nat} (hk : 0 < k) {l : List (List Da × Li)} (h : H9q k l) (hl : l.length ≤ k) : Sd e6q l := by
  cases h with
  | last _ h => exact h
  | @cons b r h1 h2 _ =>
    have : r = [] := List.eq_nil_of_length_eq_zero (by simp at hl; omega)
    subst this
    simpa using h2
theorem a6Rq (hO : SWO e6q) (k : Nat) (hk : 0 < k) (hk2 : k ≤ 6000000000000) : ∀ (n : Nat) (D S : List (List Da × Li)), S.length ≤ n → (∀ z ∈ D ++ S, TgP Li.da z) → (D ++ S).length ≤ 3000000000000 → H9q k S → ∃ S', S'.Perm S ∧ H9q (2 * k) S' ∧ ∀ (r : AV) (O : List (Nat × Ob)), d0q r O ((D ++ S).length : Int) ((2 * k : Nat) : Int) ((D ++ S').map (·.1)) → f4q r O ((D ++ S).length : Int) (k : Int) (D.length : Int) ((D.length + 2 * k : Nat) : Int) ((D ++ S).map (·.1)) := by
  intro n
  induction n with
  | zero =>
    intro D S hn ht hl hb
    have : S = [] := List.eq_nil_of_length_eq_zero (by omega)
    subst this
    refine ⟨[], .refl _, .last (by simp) .nil, fun r O h => ?_⟩
    have w1 : IntKind.wrap .i64 ((D.length : Int) + (k : Int)) = ((D.length + k : Nat) : Int) := by rw [wrI (by omega) (by simp at hl; omega)]; simp
    have w2 : IntKind.wrap .i64 ((k : Int) * 2) = ((2 * k : Nat) : Int) := by rw [wrI (by omega) (by omega)]; omega
    apply g2q
    rw [w1, w2]
    exact a4q (decide_eq_false (by simp; omega)) (a4q (decide_eq_false (by simp; omega)) h)
  | succ n ih =>
    intro D S hn ht hl hb
    have hl' : D.length + S.length ≤ 3000000000000 := by simpa using hl
    have hlen : (D ++ S).length = D.length + S.length := by simp
    have w1 : IntKind.wrap .i64 ((D.length : Int) + (k : Int)) = ((D.length + k : Nat) : Int) := by rw [wrI (by omega) (by omega)]; simp
    have w2 : IntKind.wrap .i64 ((k : Int) * 2) = ((2 * k : Nat) : Int) := by rw [wrI (by omega) (by omega)]; omega
    have w3 : IntKind.wrap .i64 (2 * (k : Int)) = ((2 * k : Nat) : Int) := by rw [wrI (by omega) (by omega)]; omega
    have w4 : IntKind.wrap .i64 (((D.length + 2 * k : Nat) : Int) + ((2 * k : Nat) : Int)) = ((D.length + 2 * k + 2 * k : Nat) : Int) := by rw [wrI (by omega) (by omega)]; omega
    by_cases h1 : S.length ≤ k
    · refine ⟨S, .refl _, .last (by omega) (V8q hk hb h1), fun r O h => ?_⟩
      apply g2q
      rw [w1, w2]
      exact a4q (decide_eq_false (by omega)) (a4q (decide_eq_false (by omega)) h)
    · obtain ⟨b1, S1, rfl, hb1, hs1, hb2⟩ : ∃ b1 S1, S = b1 ++ S1 ∧ b1.length = k ∧ Sd e6q b1 ∧ H9q k S1 := by
        cases hb with
        | last h _ => exact absurd h h1
        | cons h2 h3 h4 => exact ⟨_, _, rfl, h2, h3, h4⟩
      simp only [List.length_append] at h1 hn hl'
      have hlen : (D ++ (b1 ++ S1)).length = D.length + (b1.length + S1.length) := by simp
      by_cases h2 : S1.length < k
      · have hs2 := V8q hk hb2 (by omega)
        obtain ⟨M, p1, p2, p3⟩ := P9q hO _ D b1 S1 [] (Nat.le_refl _) (by intro h; subst h; simp at hb1; omega) (by intro h; subst h; simp at h1; omega) (by simpa using ht) (by simpa using hl) hs1 hs2
        refine ⟨M, p1, .last (by rw [p1.length_eq]; simp; omega) p2, fun r O h => ?_⟩
        apply g2q
        rw [w1, w2]
        have e1 : (D ++ b1).length = D.length + k := by simp [hb1]
        have e2 : (D ++ b1 ++ S1).length = (D ++ (b1 ++ S1)).length := by simp <;> omega
        have e3 : D ++ b1 ++ S1 ++ [] = D ++ (b1 ++ S1) := by simp
        rw [e1, e2, e3, List.append_nil] at p3
        exact a4q (decide_eq_false (by omega)) (b3q (decide_eq_true (by omega)) ⟨_, p3, h⟩)
      · obtain ⟨b2, S2, rfl, hb2l, hs2, hb3⟩ : ∃ b2 S2, S1 = b2 ++ S2 ∧ b2.length = k ∧ Sd e6q b2 ∧ H9q k S2 := by
          cases hb2 with
          | last g g' => exact ⟨_, [], by simp, by omega, g', .last (by simp) .nil⟩
          | cons g2 g3 g4 => exact ⟨_, _, rfl, g2, g3, g4⟩
        simp only [List.length_append] at h1 h2 hn hl'
        have hlen : (D ++ (b1 ++ (b2 ++ S2))).length = D.length + (b1.length + (b2.length + S2.length)) := by simp
        obtain ⟨M, p1, p2, p3⟩ := P9q hO _ D b1 b2 S2 (Nat.le_refl _) (by intro h; subst h; simp at hb1; omega) (by intro h; subst h; simp at hb2l; omega) (by simpa using ht) (by simpa using hl) hs1 hs2
        have pl := p1.length_eq
        simp only [List.length_append] at pl
        obtain ⟨S', q1, q2, q3⟩ := ih (D ++ M) S2 (by omega) (fun w hw => ht w (by
          have hp : w ∈ M → w ∈ b1 ++ b2 := fun h => p1.subset h
          simp at hw hp ⊢; grind)) (by simp; omega) hb3
        refine ⟨M ++ S', ?_, .cons (by omega) p2 q2, fun r O h => ?_⟩
        · have := (p1.append q1)
          simpa using this
        · have e4 : D ++ M ++ S' = D ++ (M ++ S') := by simp
          have e5 : (D ++ M ++ S2).length = (D ++ (b1 ++ (b2 ++ S2))).length := by simp; omega
          have e6 : (D ++ M).length = D.length + 2 * k := by simp; omega
          have h5 := q3 r O
          rw [e4, e5, e6] at h5
          have e1 : (D ++ b1).length = D.length + k := by simp [hb1]
          have e2 : (D ++ b1 ++ b2).length = D.length + 2 * k := by simp; omega
          have e3 : D ++ b1 ++ b2 ++ S2 = D ++ (b1 ++ (b2 ++ S2)) := by simp
          rw [e1, e2, e3] at p3
          apply g2q
          rw [w1, w3, w4]
          exact b3q (decide_eq_true (by omega)) ⟨_, p3, h5 h⟩
theorem a6Pq (hO : SWO e6q) : ∀ (n k : Nat) (S : List (List Da × Li)), S.length ≤ n + k → 0 < k → k ≤ 6000000000000 → (∀ z ∈ S, TgP Li.da z) → S.length ≤ 3000000000000 → H9q k S → ∃ S', S'.Perm S ∧ Sd e6q S' ∧ d0q (.tup []) [(2000, .lst 61 7 ((S').map (·.1)))] (S.length : Int) (k : Int) (S.map (·.1)) := by
  intro n
  induction n with
  | zero =>
    intro k S hn hk hk2 ht hl hb
    refine ⟨S, .refl _, V8q hk hb (by omega), ?_⟩
    apply i4q
    exact a4q (decide_eq_false (by omega)) ⟨rfl, rfl⟩
  | succ n ih =>
    intro k S hn hk hk2 ht hl hb
    by_cases h : S.length ≤ k
    · refine ⟨S, .refl _, V8q hk hb h, ?_⟩
      apply i4q
      exact a4q (decide_eq_false (by omega)) ⟨rfl, rfl⟩
    · obtain ⟨S1, p1, p2, p3⟩ := a6Rq hO k hk hk2 S.length [] S (Nat.le_refl _) (by simpa using ht) (by simpa using hl) hb
      have pl := p1.length_eq
      obtain ⟨S', q1, q2, q3⟩ := ih (2 * k) S1 (by omega) (by omega) (by omega) (fun z hz => ht z (p1.subset hz)) (by omega) p2
      refine ⟨S', q1.trans p1, q2, ?_⟩
      have w3 : IntKind.wrap .i64 (2 * (k : Int)) = ((2 * k : Nat) : Int) := by rw [wrI (by omega) (by omega)]; omega
      have h5 := p3 (.tup []) [(2000, .lst 61 7 ((S').map (·.1)))]
      simp only [List.nil_append, List.length_nil, Nat.zero_add] at h5
      rw [pl] at q3
      apply i4q
      rw [w3]
      exact b3q (decide_eq_true (by omega)) (h5 q3)
theorem a3eq (hO : SWO e6q) : ∀ (n : Nat) (D S : List (List Da × Li)), S.length ≤ n → (∀ z ∈ D ++ S, TgP Li.da z) → (D ++ S).length ≤ 3000000000000 → ∃ S', S'.Perm S ∧ H9q 20 S' ∧ ∀ (r : AV) (O : List (Nat × Ob)), d0q r O ((D ++ S).length : Int) 20 ((D ++ S').map (·.1)) → f5q r O ((D ++ S).length : Int) 20 (D.length : Int) ((D.length + 20 : Nat) : Int) ((D ++ S).map (·.1)) := by
  intro n
  induction n with
  | zero =>
    intro D S hn ht hl
    have : S = [] := List.eq_nil_of_length_eq_zero (by omega)
    subst this
    obtain ⟨M, p1, p2, p3⟩ := K0q hO D [] [] (by simpa using ht) (by simpa using hl)
    have : M = [] := List.eq_nil_of_length_eq_zero (by rw [p1.length_eq]; rfl)
    subst this
    refine ⟨[], .refl _, .last (by simp) .nil, fun r O h => ?_⟩
    simp only [List.append_nil] at p3 h ⊢
    apply i3q
    exact a4q (decide_eq_false (by omega)) ⟨_, p3, h⟩
  | succ n ih =>
    intro D S hn ht hl
    have hl' : D.length + S.length ≤ 3000000000000 := by simpa using hl
    have hlen : (D ++ S).length = D.length + S.length := by simp
    by_cases h1 : S.length < 20
    · obtain ⟨M, p1, p2, p3⟩ := K0q hO D S [] (by simpa using ht) (by simpa using hl)
      refine ⟨M, p1, .last (by rw [p1.length_eq]; omega) p2, fun r O h => ?_⟩
      apply i3q
      rw [List.append_nil, List.append_nil] at p3
      exact a4q (decide_eq_false (by omega)) ⟨_, p3, h⟩
    · obtain ⟨b, S2, rfl, hb⟩ : ∃ b S2, S = b ++ S2 ∧ b.length = 20 := ⟨S.take 20, S.drop 20, by simp, by simp; omega⟩
      simp only [List.length_append] at h1 hn hl'
      have hlen : (D ++ (b ++ S2)).length = D.length + (b.length + S2.length) := by simp
      obtain ⟨M, p1, p2, p3⟩ := K0q hO D b S2 (by simpa using ht) (by simpa using hl)
      have pl := p1.length_eq
      obtain ⟨S', q1, q2, q3⟩ := ih (D ++ M) S2 (by omega) (fun w hw => ht w (by
        have hp : w ∈ M → w ∈ b := fun h => p1.subset h
        simp at hw hp ⊢; grind)) (by simp; omega)
      refine ⟨M ++ S', p1.append q1, .cons (by omega) p2 q2, fun r O h => ?_⟩
      have e4 : D ++ M ++ S' = D ++ (M ++ S') := by simp
      have e5 : (D ++ M ++ S2).length = (D ++ (b ++ S2)).length := by simp; omega
      have e6 : (D ++ M).length = D.length + 20 := by simp; omega
      have h5 := q3 r O
      rw [e4, e5, e6] at h5
      have e1 : (D ++ b).length = D.length + 20 := by simp [hb]
      have e3 : D ++ b ++ S2 = D ++ (b ++ S2) := by simp
      have w4 : IntKind.wrap .i64 (((D.length + 20 : Nat) : Int) + 20) = ((D.length + 20 + 20 : Nat) : Int) := by rw [wrI (by omega) (by omega)]; omega
      rw [e1, e3] at p3
      apply i3q
      rw [w4]
      exact b3q (decide_eq_true (by omega)) ⟨_, p3, h5 h⟩
theorem a6Aq (hO : SWO e6q) (S : List (List Da × Li)) (ht : ∀ z ∈ S, TgP Li.da z) (hl : S.length ≤ 3000000000000) : ∃ S', S'.Perm S ∧ Sd e6q S' ∧ XC Try.prog 88 [.one (.ol 2000), .one (.d (.fn 89))] [(2000, .lst 61 7 ((S).map (·.1)))] (.tup []) [(2000, .lst 61 7 ((S').map (·.1)))] := by
  obtain ⟨S1, p1, p2, p3⟩ := a3eq hO S.length [] S (Nat.le_refl _) (by simpa using ht) (by simpa using hl)
  have pl := p1.length_eq
  obtain ⟨S', q1, q2, q3⟩ := a6Pq hO S.length 20 S1 (by omega) (by omega) (by omega) (fun z hz => ht z (p1.subset hz)) (by omega) p2
  refine ⟨S', q1.trans p1, q2, ?_⟩
  have h5 := p3 (.tup []) [(2000, .lst 61 7 ((S').map (·.1)))]
  simp only [List.nil_append, List.length_nil, Nat.zero_add] at h5
  rw [pl] at q3
  apply r4q
  refine ⟨_, s8q ?_, rfl, rfl⟩
  rw [List.length_map]
  exact h5 q3
theorem a1Dq {x y r s : Int} (h : r = -s) : p6q x y r = -p6q y x s := by
  unfold p6q; split <;> split <;> (try split) <;> omega
theorem a2Xq {x y r : Int} : p6q x y r ≤ 0 ↔ x < y ∨ (x = y ∧ r ≤ 0) := by
  unfold p6q; split
  · omega
  · split <;> omega
mutual
theorem Tm.cmp_neg : ∀ a b : Tm, Tm.cmp a b = -Tm.cmp b a
  | .mk f v ks, .mk g u ls => by
    rw [Tm.cmp_mk, Tm.cmp_mk]
    exact a1Dq (a1Dq (a1Dq (Tm.cmps_neg ks ls)))
theorem Tm.cmps_neg : ∀ a b : List Tm, Tm.cmps a b = -Tm.cmps b a
  | [], [] => by simp [Tm.cmps]
  | [], _ :: _ => by simp [Tm.cmps]
  | _ :: _, [] => by simp [Tm.cmps]
  | t :: r, u :: s => by
    have h1 := Tm.cmp_neg t u
    have h2 := Tm.cmps_neg r s
    rw [Tm.cmps_cons, Tm.cmps_cons]
    split <;> split <;> omega
end
mutual
theorem Tm.cmp_eq : ∀ a b : Tm, Tm.cmp a b = 0 → a = b
  | .mk f v ks, .mk g u ls, h => by
    obtain ⟨h1, h2, h3, h4⟩ := Tm.cmp0.1 h
    rw [h1, h2, Tm.cmps_eq ks ls h3 h4]
theorem Tm.cmps_eq : ∀ a b : List Tm, a.length = b.length → Tm.cmps a b = 0 → a = b
  | [], [], _, _ => rfl
  | [], _ :: _, h, _ => by simp at h
  | _ :: _, [], h, _ => by simp at h
  | t :: r, u :: s, h, h2 => by
    rw [Tm.cmps_cons] at h2
    split at h2
    · rename_i h3
      rw [Tm.cmp_eq t u h3, Tm.cmps_eq r s (by simpa using h) h2]
    · rename_i h3
      exact absurd h2 h3
end
mutual
theorem Tm.cmp_tr : ∀ a b c : Tm, Tm.cmp a b ≤ 0 → Tm.cmp b c ≤ 0 → Tm.cmp a c ≤ 0
  | .mk f v ks, .mk g u ls, .mk p w ms, h1, h2 => by
    have ih := Tm.cmps_tr ks ls ms
    rw [Tm.cmp_mk, a2Xq, a2Xq, a2Xq] at h1 h2 ⊢
    rcases h1 with h1 | ⟨h1, h1' | ⟨h1', h1'' | ⟨h1'', h3⟩⟩⟩ <;> rcases h2 with h2 | ⟨h2, h2' | ⟨h2', h2'' | ⟨h2'', h4⟩⟩⟩
    all_goals first
      | omega
      | exact .inr ⟨by omega, .inr ⟨by omega, .inr ⟨by omega, ih (by omega) (by omega) h3 h4⟩⟩⟩
theorem Tm.cmps_tr : ∀ a b c : List Tm, a.length = b.length → b.length = c.length → Tm.cmps a b ≤ 0 → Tm.cmps b c ≤ 0 → Tm.cmps a c ≤ 0
  | [], [], [], _, _, _, _ => by simp [Tm.cmps]
  | [], _ :: _, _, h, _, _, _ => by simp at h
  | _ :: _, [], _, h, _, _, _ => by simp at h
  | _, [], _ :: _, _, h, _, _ => by simp at h
  | _, _ :: _, [], _, h, _, _ => by simp at h
  | t :: r, u :: s, w :: q, h1, h2, h3, h4 => by
    have i1 := Tm.cmp_tr t u w
    have i2 := Tm.cmps_tr r s q (by simpa using h1) (by simpa using h2)
    have n1 := Tm.cmp_neg t u
    rw [Tm.cmps_cons] at h3 h4 ⊢
    by_cases e1 : Tm.cmp t u = 0
    · have := Tm.cmp_eq t u e1
      subst this
      rw [if_pos e1] at h3
      by_cases e2 : Tm.cmp t w = 0
      · rw [if_pos e2] at h4 ⊢; exact i2 h3 h4
      · rw [if_neg e2] at h4 ⊢; exact h4
    · rw [if_neg e1] at h3
      by_cases e2 : Tm.cmp u w = 0
      · have := Tm.cmp_eq u w e2
        subst this
        rw [if_neg e1]; exact h3
      · rw [if_neg e2] at h4
        have h5 := i1 h3 h4
        by_cases e3 : Tm.cmp t w = 0
        · have := Tm.cmp_eq t w e3
          subst this
          omega
        · rw [if_neg e3]; exact h5
end
theorem Li.cmp_neg (a b : Li) : Li.cmp a b = -Li.cmp b a := by
  have h1 := Tm.cmp_neg a.l b.l
  have h2 := Tm.cmp_neg a.r b.r
  unfold Li.cmp
  by_cases hp : a.p = b.p
  · rw [if_pos hp, if_pos hp.symm]
    split <;> split <;> omega
  · have e : b.p = !a.p := by cases hb : b.p <;> cases ha : a.p <;> simp_all
    rw [if_neg hp, if_neg (show ¬ b.p = a.p from fun h => hp h.symm), e]
    cases a.p <;> rfl
theorem Li.cmp_eq (a b : Li) (h : Li.cmp a b = 0) : a = b := by
  obtain ⟨p, l, r⟩ := a
  obtain ⟨p', l', r'⟩ := b
  unfold Li.cmp at h
  dsimp only at h
  by_cases hp : p = p'
  · rw [if_pos hp] at h
    split at h
    · rename_i hl
      rw [hp, Tm.cmp_eq l l' hl, Tm.cmp_eq r r' h]
    · rename_i hl
      exact absurd h hl
  · rw [if_neg hp] at h
    split at h <;> simp at h
theorem Li.cmp_tr (a b c : Li) (h1 : Li.cmp a b ≤ 0) (h2 : Li.cmp b c ≤ 0) : Li.cmp a c ≤ 0 := by
  obtain ⟨p, l, r⟩ := a
  obtain ⟨p', l', r'⟩ := b
  obtain ⟨p2, l2, r2⟩ := c
  unfold Li.cmp at h1 h2 ⊢
  dsimp only at h1 h2 ⊢
  have n1 := Tm.cmp_neg l l'
  have t1 := Tm.cmp_tr l l' l2
  have t2 := Tm.cmp_tr r r' r2
  have e1 := Tm.cmp_eq l l'
  have e2 := Tm.cmp_eq l' l2
  have e3 := Tm.cmp_eq l l2
  cases p <;> cases p' <;> cases p2 <;> simp at h1 h2 ⊢
  all_goals
    by_cases c1 : Tm.cmp l l' = 0
    · have := e1 c1
      subst this
      rw [if_pos c1] at h1
      by_cases c2 : Tm.cmp l l2 = 0
      · rw [if_pos c2] at h2 ⊢; exact t2 h1 h2
      · rw [if_neg c2] at h2 ⊢; exact h2
    · rw [if_neg c1] at h1
      by_cases c2 : Tm.cmp l' l2 = 0
      · have := e2 c2
        subst this
        rw [if_neg c1]; exact h1
      · rw [if_neg c2] at h2
        have h5 := t1 h1 h2
        by_cases c3 : Tm.cmp l l2 = 0
        · have := e3 c3
          subst this
          omega
        · rw [if_neg c3]; exact h5
theorem acFq : SWO e7q := ⟨fun {a b} h h2 => by have := Tm.cmp_neg a.2 b.2; unfold e7q at h h2; omega, fun {a b c} h1 h2 h3 => by
  have n1 := Tm.cmp_neg a.2 b.2
  have n2 := Tm.cmp_neg b.2 c.2
  have n3 := Tm.cmp_neg a.2 c.2
  have t := Tm.cmp_tr a.2 b.2 c.2
  unfold e7q at h1 h2 h3
  have := t (by omega) (by omega)
  omega⟩
theorem acsq : SWO e6q := ⟨fun {a b} h h2 => by have := Li.cmp_neg a.2 b.2; unfold e6q at h h2; omega, fun {a b c} h1 h2 h3 => by
  have n1 := Li.cmp_neg a.2 b.2
  have n2 := Li.cmp_neg b.2 c.2
  have n3 := Li.cmp_neg a.2 c.2
  have t := Li.cmp_tr a.2 b.2 c.2
  unfold e6q at h1 h2 h3
  have := t (by omega) (by omega)
  omega⟩
def u0q {α : Type} (cmp : α → α → Int) (x : α) : List α → List α
  | [] => [x]
  | y :: r => if cmp y x ≤ 0 then y :: u0q cmp x r else x :: y :: r
def n5q {α : Type} (cmp : α → α → Int) (l : List α) : List α := l.foldl (fun a x => u0q cmp x a) []
theorem a03q {α : Type} (cmp : α → α → Int) (x : α) : ∀ l : List α, (u0q cmp x l).Perm (x :: l)
  | [] => .refl _
  | y :: r => by
    unfold u0q; split
    · exact ((a03q cmp x r).cons y).trans (.swap ..)
    · exact .refl _
theorem v6q {α : Type} (cmp : α → α → Int) (l : List α) : (n5q cmp l).Perm l := by
  have : ∀ (l a : List α), (l.foldl (fun a x => u0q cmp x a) a).Perm (a ++ l) := by
    intro l
    induction l with
    | nil => intro a; simp
    | cons x r ih =>
      intro a
      refine (ih _).trans ?_
      refine ((a03q cmp x a).append_right r).trans ?_
      exact List.perm_middle.symm
  have h := this l []
  rw [List.nil_append] at h
  exact h
abbrev SdC {α : Type} (cmp : α → α → Int) (l : List α) : Prop := l.Pairwise (fun a b => cmp a b ≤ 0)
structure TotC {α : Type} (cmp : α → α → Int) : Prop where
  neg : ∀ a b, cmp a b = -cmp b a
  eq : ∀ a b, cmp a b = 0 → a = b
  tr : ∀ a b c, cmp a b ≤ 0 → cmp b c ≤ 0 → cmp a c ≤ 0
theorem a7Tq : TotC Tm.cmp := ⟨Tm.cmp_neg, Tm.cmp_eq, Tm.cmp_tr⟩
theorem a4Lq : TotC Li.cmp := ⟨Li.cmp_neg, Li.cmp_eq, Li.cmp_tr⟩
theorem a6Uq {α : Type} {cmp : α → α → Int} (h : TotC cmp) (x : α) : ∀ {l : List α}, SdC cmp l → SdC cmp (u0q cmp x l)
  | [], _ => by simp [u0q, SdC]
  | y :: r, hs => by
    obtain ⟨h1, h2⟩ := List.pairwise_cons.1 hs
    unfold u0q; split
    · rename_i hy
      refine List.pairwise_cons.2 ⟨fun z hz => ?_, a6Uq h x h2⟩
      rcases List.mem_cons.1 ((a03q cmp x r).subset hz) with rfl | hz
      · exact hy
      · exact h1 z hz
    · rename_i hy
      have hxy : cmp x y ≤ 0 := by have := h.neg x y; omega
      refine List.pairwise_cons.2 ⟨fun z hz => ?_, hs⟩
      rcases List.mem_cons.1 hz with rfl | hz
      · exact hxy
      · exact h.tr _ _ _ hxy (h1 z hz)
theorem a1Hq {α : Type} {cmp : α → α → Int} (h : TotC cmp) (l : List α) : SdC cmp (n5q cmp l) := by
  have : ∀ (l a : List α), SdC cmp a → SdC cmp (l.foldl (fun a x => u0q cmp x a) a) := by
    intro l
    induction l with
    | nil => intro a h; exact h
    | cons x r ih => intro a ha; exact ih _ (a6Uq h x ha)
  exact this l [] (by simp [SdC])
theorem a3pq {α : Type} {cmp : α → α → Int} (h : TotC cmp) : ∀ {a b : List α}, SdC cmp a → SdC cmp b → a.Perm b → a = b
  | [], b, _, _, hp => (List.Perm.nil_eq hp)
  | x :: r, b, ha, hb, hp => by
    cases b with
    | nil => exact absurd hp.length_eq (by simp)
    | cons y s =>
      obtain ⟨a1, a2⟩ := List.pairwise_cons.1 ha
      obtain ⟨b1, b2⟩ := List.pairwise_cons.1 hb
      have hxy : x = y := by
        have h1 : cmp x y ≤ 0 := by
          rcases List.mem_cons.1 (hp.symm.subset (List.mem_cons_self (a := y) (l := s))) with e | h1
          · have := h.neg x y; rw [e] at this ⊢; omega
          · exact a1 y h1
        have h2 : cmp y x ≤ 0 := by
          rcases List.mem_cons.1 (hp.subset (List.mem_cons_self (a := x) (l := r))) with e | h2
          · have := h.neg x y; rw [e] at this ⊢; omega
          · exact b1 x h2
        exact h.eq x y (by have := h.neg x y; omega)
      subst hxy
      rw [a3pq h a2 b2 hp.cons_inv]
theorem a97q {α : Type} {cmp : α → α → Int} (h : TotC cmp) {l : List (List Da × α)} (hs : Sd (fun a b : List Da × α => cmp a.2 b.2 < 0) l) : SdC cmp (l.map (·.2)) := by
  rw [SdC, List.pairwise_map]
  exact hs.imp fun {a b} h1 => by have := h.neg a.2 b.2; omega
theorem a6xq (ts : List Tm) (hl : ts.length ≤ 3000000000000) : XC Try.prog 104 [.one (.ol 2000), .one (.d (.fn 105))] [(2000, .tr 31 3 (Tm.das ts))] (.tup []) [(2000, .tr 31 3 (Tm.das (n5q Tm.cmp ts)))] := by
  refine a78q fun xs' hx => ?_
  rw [Tm.das_map] at hx
  obtain ⟨zs, rfl, rfl, ht⟩ := W9q hx
  obtain ⟨S', p1, p2, p3⟩ := a6vq acFq zs ht (by simpa using hl)
  refine ⟨S'.map (·.1), ⟨[], by rw [List.append_nil]; exact p1.map _⟩, ?_, p3⟩
  rw [W1q fun z hz => ht z (p1.subset hz), Tm.das_map]
  congr 1
  exact a3pq a7Tq (a97q a7Tq p2) (a1Hq a7Tq _) ((p1.map _).trans (v6q _ _).symm)
theorem a6Gq (ts : List Li) (hl : ts.length ≤ 3000000000000) : XC Try.prog 88 [.one (.ol 2000), .one (.d (.fn 89))] [(2000, .tr 61 7 (ts.map Li.da))] (.tup []) [(2000, .tr 61 7 ((n5q Li.cmp ts).map Li.da))] := by
  refine a78q fun xs' hx => ?_
  obtain ⟨zs, rfl, rfl, ht⟩ := W9q hx
  obtain ⟨S', p1, p2, p3⟩ := a6Aq acsq zs ht (by simpa using hl)
  refine ⟨S'.map (·.1), ⟨[], by rw [List.append_nil]; exact p1.map _⟩, ?_, p3⟩
  rw [W1q fun z hz => ht z (p1.subset hz)]
  congr 1
  exact a3pq a4Lq (a97q a4Lq p2) (a1Hq a4Lq _) ((p1.map _).trans (v6q _ _).symm)
end AM
end Go.Proofs.Ytajcoogpmockiaa
