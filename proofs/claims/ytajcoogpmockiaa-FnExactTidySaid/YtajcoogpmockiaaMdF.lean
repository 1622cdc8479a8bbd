/- A part of the proof of the law that the last of these texts states, for every input; no conditions. -/
import Derived.Test.YtajcoogpmockiaaMdE
set_option linter.unusedVariables false
set_option linter.unusedSimpArgs false
set_option linter.unusedVariables false
set_option linter.unusedSimpArgs false
set_option maxRecDepth 100000
namespace Go.Proofs.Ytajcoogpmockiaa
namespace AM
open Go Go.ChangeShapes Go.WideShapes Go.RowKit
def bl (s : List Sy) (f : Int) : Bool := inR f 0 ((s.length : Int) - 1) && ((s[f.toNat]?).map (·.ac)).getD false
mutual
def nrm (s : List Sy) : Tm → Tm
  | .mk f v ks => .mk f v (if bl s f then o6q Tm.cmp (nrmK s (bl s f) f ks) else nrmK s (bl s f) f ks)
def nrmK (s : List Sy) (b : Bool) (f : Int) : List Tm → List Tm
  | [] => []
  | t :: r => (if b = true ∧ (nrm s t).f = f then (nrm s t).ks else [nrm s t]) ++ nrmK s b f r
end
theorem aboq (a b : List Tm) : Tm.cns (a ++ b) = Tm.cns a + Tm.cns b := by
  induction a with
  | nil => simp [Tm.cns]
  | cons x r ih => simp only [List.cons_append, Tm.cns, ih]; omega
theorem a9Gq {a b : List Tm} (h : a.Perm b) : Tm.cns a = Tm.cns b := by
  rw [Tm.cns_cnL, Tm.cns_cnL, cnL, cnL, h.length_eq, (h.map _).sum_nat]
theorem Tm.cn_ks (t : Tm) : Tm.cns t.ks = t.cn := by cases t; simp [Tm.ks, Tm.cn]
mutual
theorem a0tq (s : List Sy) : ∀ t : Tm, (nrm s t).cn ≤ t.cn
  | .mk f v ks => by
    have h := nrmK_cns s (bl s f) f ks
    simp only [nrm, Tm.cn]
    split
    · rw [a9Gq (w7q _ _)]; exact h
    · exact h
theorem nrmK_cns (s : List Sy) (b : Bool) (f : Int) : ∀ l : List Tm, Tm.cns (nrmK s b f l) ≤ Tm.cns l
  | [] => by simp [nrmK, Tm.cns]
  | t :: r => by
    have h1 := a0tq s t
    have h2 := nrmK_cns s b f r
    simp only [nrmK, aboq, Tm.cns]
    split
    · rw [Tm.cn_ks]; omega
    · simp only [Tm.cns]; omega
end
theorem a3jq {x lo hi : Int} : inR x lo hi = true ↔ lo ≤ x ∧ x ≤ hi := by simp [inR]
theorem a9fq {s : List Sy} {f : Int} {m : Nat} {x : Sy} (hf : f = (m : Int)) (hm : s[m]? = some x) : bl s f = x.ac := by
  have h := (List.getElem?_eq_some_iff.1 hm).1
  subst hf
  have : inR (m : Int) 0 ((s.length : Int) - 1) = true := a3jq.2 ⟨by omega, by omega⟩
  simp [bl, this, hm]
theorem a3pq (s : List Sy) (f : Int) (hs : s.length ≤ 10000000) : XC Try.prog 71 [L (s.map Sy.da), Z f] [] (B (bl s f)) [] := by
  have w : IntKind.wrap .i64 ((s.length : Int) - 1) = (s.length : Int) - 1 := wrI (by omega) (by omega)
  apply a4lq
  rw [List.length_map, w]
  refine ⟨_, a9yq f 0 _, ?_⟩
  by_cases h : inR f 0 ((s.length : Int) - 1) = true
  · obtain ⟨h1, h2⟩ := a3jq.1 h
    obtain ⟨m, rfl⟩ : ∃ m : Nat, f = (m : Int) := ⟨f.toNat, by omega⟩
    obtain ⟨x, hx⟩ := h8q (l := s) (i := m) (by omega)
    have hx2 := A8q (g := Sy.da) hx
    refine b1q h ⟨m, rfl, _, _, _, hx2, ?_, rfl⟩
    rw [a9fq rfl hx]
  · exact a4q (Bool.eq_false_iff.2 h) ⟨by simp [bl, h], rfl⟩
theorem a6Uq (s : List Sy) (f : Int) (hs : s.length ≤ 10000000) : XC Try.prog 108 [L (s.map Sy.da), Z f] [] (B (inR f 0 ((s.length : Int) - 1))) [] := by
  have w : IntKind.wrap .i64 ((s.length : Int) - 1) = (s.length : Int) - 1 := wrI (by omega) (by omega)
  apply a4Gq
  rw [List.length_map, w]
  exact ⟨_, a9bq f 0 _, rfl, rfl⟩
theorem T0q (s : List Sy) (f : Int) (hs : s.length ≤ 10000000) : XC Try.prog 75 [L (s.map Sy.da), Z f] [] (B (bl s f)) [] := by
  apply a4Sq
  refine ⟨_, a6Uq s f hs, ?_⟩
  by_cases h : inR f 0 ((s.length : Int) - 1) = true
  · obtain ⟨h1, h2⟩ := a3jq.1 h
    obtain ⟨m, rfl⟩ : ∃ m : Nat, f = (m : Int) := ⟨f.toNat, by omega⟩
    obtain ⟨x, hx⟩ := h8q (l := s) (i := m) (by omega)
    have hx2 := A8q (g := Sy.da) hx
    refine b1q h ⟨m, rfl, _, _, _, hx2, ?_, rfl⟩
    rw [a9fq rfl hx]
  · exact a4q (Bool.eq_false_iff.2 h) ⟨by simp [bl, h], rfl⟩
theorem F5q {α β : Type} (g : α → β) (p : List α) : List.drop p.length (p.map g) = [] := List.drop_eq_nil_of_le (by simp)
theorem a2Xq {α : Type} (cmp : α → α → Int) (l : List α) (x : α) : o6q cmp (l ++ [x]) = v0q cmp x (o6q cmp l) := by simp [o6q, List.foldl_append]
theorem a0Vq (a b : List Tm) : Tm.das (a ++ b) = Tm.das a ++ Tm.das b := by simp [Tm.das_map]
theorem a2oq (t : Tm) (l : List Tm) (hl : l.length ≤ 3000000000000) : ∀ (q p : List Tm), l = p ++ q → x4q (.one (.ol 0)) [(0, .lst 31 3 (Tm.das (p ++ v0q Tm.cmp t q)))] (Tm.das l) (p.length : Int) t.f t.v (Tm.das t.ks)
  | [], p, e => by
    have e3 : [] ++ (Tm.das l).take p.length ++ [[.int .i64 t.f, .int .i64 t.v, .sl (Tm.das t.ks)]] ++ (Tm.das l).drop p.length = Tm.das (p ++ v0q Tm.cmp t []) := by
      subst e
      obtain ⟨f, v, ks⟩ := t
      simp [Tm.das_map, v0q, r2q, F5q, Tm.da, Tm.f, Tm.v, Tm.ks]
    have hpl : l.length = p.length := by rw [e]; simp
    apply P1q
    refine a4q (decide_eq_false (by rw [c7q]; omega)) ⟨p.length, rfl, ⟨by rw [c7q]; omega⟩, ⟨S5q _⟩, ⟨fun y hy => S5q _ y (List.mem_of_mem_take (List.mem_of_mem_drop hy))⟩, ⟨?_⟩, ⟨?_⟩, p.length, rfl, ⟨by rw [c7q]; omega⟩, ⟨S5q _⟩, ⟨fun y hy => S5q _ y (List.mem_of_mem_take (List.mem_of_mem_drop hy))⟩, ⟨?_⟩, rfl, ?_⟩
    · simp [c7q]; omega
    · simp [c7q]; omega
    · simp [c7q]; omega
    · rw [← e3]; simp
  | y :: q, p, e => by
    have ih := a2oq t l hl q (p ++ [y]) (by simp [e])
    have hb := J7q t y
    have hn := Tm.cmp_neg t y
    have hx : (Tm.das l)[p.length]? = some y.da := by rw [e]; exact t9q
    have hpl : l.length = p.length + q.length + 1 := by rw [e]; simp; omega
    rw [i9q] at ih
    have e3 : Tm.cmp t y < 0 → [] ++ (Tm.das l).take p.length ++ [[.int .i64 t.f, .int .i64 t.v, .sl (Tm.das t.ks)]] ++ (Tm.das l).drop p.length = Tm.das (p ++ v0q Tm.cmp t (y :: q)) := fun h => by
      subst e
      have e4 : v0q Tm.cmp t (y :: q) = t :: y :: q := by rw [v0q, if_neg (by omega)]
      rw [e4]
      obtain ⟨f, v, ks⟩ := t
      simp [Tm.das_map, List.take_append, List.drop_append, r2q, F5q, Tm.da, Tm.f, Tm.v, Tm.ks]
    have et : t.da = [.int .i64 t.f, .int .i64 t.v, .sl (Tm.das t.ks)] := by obtain ⟨f, v, ks⟩ := t; rfl
    rw [et] at hb
    have ih2 : ¬ Tm.cmp t y < 0 → p ++ v0q Tm.cmp t (y :: q) = p ++ [y] ++ v0q Tm.cmp t q := fun h => by
      rw [v0q, if_pos (by omega)]; simp
    obtain ⟨g, u, ms⟩ := y
    apply P1q
    refine b1q (decide_eq_true (by rw [c7q]; omega)) ⟨p.length, rfl, g, u, Tm.das ms, hx, _, hb, ?_⟩
    by_cases h : Tm.cmp t (.mk g u ms) < 0
    · refine a4q (by simp [h]) ⟨p.length, rfl, ⟨by rw [c7q]; omega⟩, ⟨S5q _⟩, ⟨fun y hy => S5q _ y (List.mem_of_mem_take (List.mem_of_mem_drop hy))⟩, ⟨?_⟩, ⟨?_⟩, p.length, rfl, ⟨by rw [c7q]; omega⟩, ⟨S5q _⟩, ⟨fun y hy => S5q _ y (List.mem_of_mem_take (List.mem_of_mem_drop hy))⟩, ⟨?_⟩, rfl, ?_⟩
      · simp [c7q]; omega
      · simp [c7q]; omega
      · simp [c7q]; omega
      · rw [← e3 h]; simp
    · rw [ih2 h, wr1 (n := p.length + 1) (by omega) (by omega)]
      exact b1q (by simp [h]) ih
theorem a37q (t : Tm) (l : List Tm) (hl : l.length ≤ 3000000000000) : XC Try.prog 101 [L (Tm.das l), .dat t.da] [] (.one (.ol 0)) [(0, .lst 31 3 (Tm.das (v0q Tm.cmp t l)))] := by
  have h := a2oq t l hl l [] rfl
  obtain ⟨f, v, ks⟩ := t
  exact a4oq h
theorem a1iq (r : AV) (O : List (Nat × Ob)) (s0 : List (List Da)) (s6 s3 s31 : Int) (s32 : List (List Da)) (s5 s51 n2 n3 : Int) (w : List Tm) : ∀ (q p acc : List Tm), w = p ++ q → acc.length + q.length ≤ 2500000000000 → p.length + q.length ≤ 2500000000000 → p1q r O s0 (IntKind.wrap .i64 (s6 + 1)) s3 s31 s32 0 0 s5 s51 (Tm.das (o6q Tm.cmp (acc ++ q))) → A2q r O s0 s6 (p.length : Int) s3 s31 s32 0 0 s5 s51 n2 n3 (Tm.das w) (Tm.das (o6q Tm.cmp acc))
  | [], p, acc, e, _, _, h => by
    apply Q3q
    subst e
    exact a4q (j2q (by simp [c7q])) (by simpa using h)
  | y :: q, p, acc, e, h1, h2, h => by
    simp only [List.length_cons] at h1 h2
    have ih := a1iq r O s0 s6 s3 s31 s32 s5 s51 n2 n3 w q (p ++ [y]) (acc ++ [y]) (by simp [e]) (by simp; omega) (by simp; omega) (by simpa using h)
    have c := a37q y (o6q Tm.cmp acc) (by rw [(w7q _ _).length_eq]; omega)
    have hx : (Tm.das w)[p.length]? = some y.da := by rw [e]; exact t9q
    have hlt : p.length < w.length := by rw [e]; simp
    rw [i9q, a2Xq] at ih
    obtain ⟨g, u, ms⟩ := y
    apply Q3q
    refine b1q (j6q (by rw [c7q]; exact hlt)) ⟨p.length, rfl, g, u, Tm.das ms, hx, _, c, ?_⟩
    rw [wr1 (n := p.length + 1) (by omega) (by omega)]
    exact ih
theorem Y4q (s : List Sy) (hs : s.length ≤ 10000000) (f v : Int) (ks : List Tm) (hk : Tm.cns ks ≤ 1200000000000) : ∀ (q p acc : List Tm), ks = p ++ q → acc.length + Tm.cns q ≤ 2400000000000 → (∀ t ∈ q, t.cn ≤ 1200000000000 ∧ XC Try.prog 59 [L (s.map Sy.da), .dat t.da] [] (.dat (nrm s t).da) []) → p1q (.dat (Tm.mk f v (if bl s f then o6q Tm.cmp (acc ++ nrmK s (bl s f) f q) else acc ++ nrmK s (bl s f) f q)).da) [] (s.map Sy.da) (p.length : Int) f v (Tm.das ks) 0 0 f v (Tm.das (if bl s f then o6q Tm.cmp acc else acc))
  | [], p, acc, e, _, _ => by
    apply Q7q
    subst e
    refine a4q (j2q (by simp [c7q])) ⟨?_, rfl⟩
    simp only [nrmK, List.append_nil]
    rfl
  | y :: q, p, acc, e, ha, hc => by
    have hcn : Tm.cns (y :: q) = 1 + y.cn + Tm.cns q := by simp [Tm.cns]
    have hkl := Tm.cns_cnL ks ▸ l2q Tm.cn ks
    obtain ⟨hyc, cy⟩ := hc y (by simp)
    have hnc := a0tq s y
    have hnl := Tm.len_cns (nrm s y).ks
    rw [Tm.cn_ks] at hnl
    have hx : (Tm.das ks)[p.length]? = some y.da := by rw [e]; exact t9q
    have hlt : p.length < ks.length := by rw [e]; simp
    have hw : IntKind.wrap .i64 ((p.length : Int) + 1) = ((p.length + 1 : Nat) : Int) := wr1 hlt (by omega)
    have ih := fun acc' h => Y4q s hs f v ks hk q (p ++ [y]) acc' (by simp [e]) h (fun t ht => hc t (List.mem_cons_of_mem _ ht))
    rw [i9q] at ih
    have eb := a3pq s f hs
    have eK : nrmK s (bl s f) f (y :: q) = (if bl s f = true ∧ (nrm s y).f = f then (nrm s y).ks else [nrm s y]) ++ nrmK s (bl s f) f q := by rw [nrmK]
    rw [eK]
    have cP := a37q (nrm s y) (o6q Tm.cmp acc) (by rw [(w7q _ _).length_eq]; omega)
    generalize hny : nrm s y = ny at *
    generalize bl s f = b at *
    obtain ⟨g, u, ms⟩ := y
    obtain ⟨g', u', ms'⟩ := ny
    apply Q7q
    rw [hw]
    refine b1q (j6q (by rw [c7q]; exact hlt)) ⟨p.length, rfl, g, u, Tm.das ms, hx, _, _, _, cy, _, eb, ?_⟩
    cases b with
    | false =>
      refine b1q rfl ⟨⟨by simp [c7q]; omega⟩, ?_⟩
      have := ih (acc ++ [.mk g' u' ms']) (by simp; omega)
      simpa [a0Vq, Tm.das, Tm.da] using this
    | true =>
      refine a4q rfl ?_
      by_cases hg : g' = f
      · refine a4q (decide_eq_false (by simp [hg])) ?_
        have := ih (acc ++ ms') (by simp [Tm.ks] at hnl ⊢; omega)
        have h7 := a1iq (.dat (Tm.mk f v (if true = true then o6q Tm.cmp (acc ++ ((if true = true ∧ (Tm.mk g' u' ms').f = f then (Tm.mk g' u' ms').ks else [.mk g' u' ms']) ++ nrmK s true f q)) else acc ++ ((if true = true ∧ (Tm.mk g' u' ms').f = f then (Tm.mk g' u' ms').ks else [.mk g' u' ms']) ++ nrmK s true f q))).da) [] (s.map Sy.da) (p.length : Int) f v (Tm.das ks) f v g' u' ms' ms' [] acc rfl (by simp [Tm.ks] at hnl; omega) (by simp [Tm.ks] at hnl ⊢; omega)
        rw [hw] at h7
        refine h7 ?_
        simpa [Tm.f, Tm.ks, hg, List.append_assoc] using this
      · refine b1q (decide_eq_true (by simpa using hg)) ⟨_, cP, ?_⟩
        have := ih (acc ++ [.mk g' u' ms']) (by simp; omega)
        simp only [if_true, a2Xq] at this
        simpa [Tm.f, hg, List.append_assoc] using this
theorem Y7q (s : List Sy) (hs : s.length ≤ 10000000) (t : Tm) : t.cn ≤ 1200000000000 → XC Try.prog 59 [L (s.map Sy.da), .dat t.da] [] (.dat (nrm s t).da) [] := by
  induction t using Tm.ind with
  | h f v ks ih =>
  intro hc
  have hcn : (Tm.mk f v ks).cn = Tm.cns ks := by simp [Tm.cn]
  rw [hcn] at hc
  apply a65q
  have := Y4q s hs f v ks hc ks [] [] rfl (by simp; omega) (fun t ht => by
    have hb : t.cn ≤ 1200000000000 := by have := Tm.cns_cnL ks ▸ v6q (cn := Tm.cn) ht; omega
    exact ⟨hb, ih t ht hb⟩)
  simpa [nrm, o6q, Tm.das] using this
theorem Y6q (s : List Sy) (hs : s.length ≤ 10000000) (f v : Int) (ks : List Tm) (hk : Tm.cns ks ≤ 1200000000000) : ∀ (q p acc : List Tm), ks = p ++ q → acc.length + Tm.cns q ≤ 2400000000000 → (∀ t ∈ q, t.cn ≤ 1200000000000 ∧ XC Try.prog 65 [L (s.map Sy.da), .dat t.da] [] (.agg [.d (.int .i64 (nrm s t).f), .d (.int .i64 (nrm s t).v), .ol 0]) [(0, .tr 31 3 (Tm.das (nrm s t).ks))]) → q9q (.agg [.d (.int .i64 f), .d (.int .i64 v), .ol 0]) [(0, .tr 31 3 (Tm.das (if bl s f then o6q Tm.cmp (acc ++ nrmK s (bl s f) f q) else acc ++ nrmK s (bl s f) f q)))] (s.map Sy.da) (Tm.das ks) (ks.length : Int) (p.length : Int) f v (Tm.das ks) 0 0 (Tm.das acc)
  | [], p, acc, e, ha, _ => by
    have eb := T0q s f hs
    have cs := a6Lq acc (by omega)
    apply Q0q
    subst e
    refine a4q (j2q (by simp)) ⟨_, eb, ?_⟩
    simp only [nrmK, List.append_nil]
    generalize bl s f = b at *
    cases b with
    | true => exact b1q rfl ⟨_, cs, by simp⟩
    | false => exact a4q rfl (by simp)
  | y :: q, p, acc, e, ha, hc => by
    have hcn : Tm.cns (y :: q) = 1 + y.cn + Tm.cns q := by simp [Tm.cns]
    have hkl := Tm.cns_cnL ks ▸ l2q Tm.cn ks
    obtain ⟨hyc, cy⟩ := hc y (by simp)
    have hnc := a0tq s y
    have hnl := Tm.len_cns (nrm s y).ks
    rw [Tm.cn_ks] at hnl
    have hx : (Tm.das ks)[p.length]? = some y.da := by rw [e]; exact t9q
    have hlt : p.length < ks.length := by rw [e]; simp
    have hw : IntKind.wrap .i64 ((p.length : Int) + 1) = ((p.length + 1 : Nat) : Int) := wr1 hlt (by omega)
    have ih := fun acc' h => Y6q s hs f v ks hk q (p ++ [y]) acc' (by simp [e]) h (fun t ht => hc t (List.mem_cons_of_mem _ ht))
    rw [i9q] at ih
    have eb := T0q s f hs
    have eK : nrmK s (bl s f) f (y :: q) = (if bl s f = true ∧ (nrm s y).f = f then (nrm s y).ks else [nrm s y]) ++ nrmK s (bl s f) f q := by rw [nrmK]
    rw [eK]
    generalize hny : nrm s y = ny at *
    generalize bl s f = b at *
    obtain ⟨g, u, ms⟩ := y
    obtain ⟨g', u', ms'⟩ := ny
    apply Q0q
    rw [hw]
    refine b1q (j6q hlt) ⟨p.length, rfl, g, u, Tm.das ms, hx, _, _, _, cy, _, eb, ?_⟩
    simp only [Tm.f, Tm.v, Tm.ks] at hnl ⊢
    cases b with
    | false =>
      refine a4q rfl ⟨⟨by simp [c7q]; omega⟩, ?_⟩
      have := ih (acc ++ [.mk g' u' ms']) (by simp; omega)
      simpa [a0Vq, Tm.das, Tm.da] using this
    | true =>
      refine b1q rfl ?_
      by_cases hg : g' = f
      · refine b1q (decide_eq_true hg) ⟨⟨by simp [c7q]; omega⟩, ?_⟩
        have := ih (acc ++ ms') (by simp; omega)
        simpa [a0Vq, hg, List.append_assoc] using this
      · refine a4q (decide_eq_false hg) ⟨⟨by simp [c7q]; omega⟩, ?_⟩
        have := ih (acc ++ [.mk g' u' ms']) (by simp; omega)
        simpa [a0Vq, Tm.das, Tm.da, hg, List.append_assoc] using this
theorem Z2q (s : List Sy) (hs : s.length ≤ 10000000) (t : Tm) : t.cn ≤ 1200000000000 → XC Try.prog 65 [L (s.map Sy.da), .dat t.da] [] (.agg [.d (.int .i64 (nrm s t).f), .d (.int .i64 (nrm s t).v), .ol 0]) [(0, .tr 31 3 (Tm.das (nrm s t).ks))] := by
  induction t using Tm.ind with
  | h f v ks ih =>
  intro hc
  have hcn : (Tm.mk f v ks).cn = Tm.cns ks := by simp [Tm.cn]
  rw [hcn] at hc
  apply a54q
  have := Y6q s hs f v ks hc ks [] [] rfl (by simp; omega) (fun t ht => by
    have hb : t.cn ≤ 1200000000000 := by have := Tm.cns_cnL ks ▸ v6q (cn := Tm.cn) ht; omega
    exact ⟨hb, ih t ht hb⟩)
  rw [c7q]
  simpa [nrm, Tm.f, Tm.v, Tm.ks, Tm.das] using this
def lmk (s : List Sy) (pos : Bool) (a b : Tm) : Li := if Tm.cmp (nrm s a) (nrm s b) < 0 then ⟨pos, nrm s b, nrm s a⟩ else ⟨pos, nrm s a, nrm s b⟩
theorem acnq (s : List Sy) (pos : Bool) (a b : Tm) : (lmk s pos a b).cn ≤ a.cn + b.cn := by
  have h1 := a0tq s a
  have h2 := a0tq s b
  unfold lmk Li.cn; split <;> dsimp only <;> omega
theorem a1Tq (s : List Sy) (hs : s.length ≤ 10000000) (pos : Bool) (a b : Tm) (ha : a.cn ≤ 1200000000000) (hb : b.cn ≤ 1200000000000) : XC Try.prog 80 [L (s.map Sy.da), B pos, .dat a.da, .dat b.da] [] (.dat (lmk s pos a b).da) [] := by
  have h1 := Y7q s hs a ha
  have h2 := Y7q s hs b hb
  have h3 := J7q (nrm s a) (nrm s b)
  unfold lmk
  generalize nrm s a = x at *
  generalize nrm s b = y at *
  obtain ⟨f, v, ks⟩ := a
  obtain ⟨g, u, ls⟩ := b
  obtain ⟨f', v', ks'⟩ := x
  obtain ⟨g', u', ls'⟩ := y
  apply a2Rq
  refine ⟨_, _, _, h1, _, _, _, h2, _, h3, ?_⟩
  by_cases h : Tm.cmp (.mk f' v' ks') (.mk g' u' ls') < 0
  · rw [if_pos h]; exact b1q (decide_eq_true h) ⟨rfl, rfl⟩
  · rw [if_neg h]; exact a4q (decide_eq_false h) ⟨rfl, rfl⟩
theorem a25q (s : List Sy) (hs : s.length ≤ 10000000) (pos : Bool) (a b : Tm) (ha : a.cn ≤ 1200000000000) (hb : b.cn ≤ 1200000000000) : XC Try.prog 83 [L (s.map Sy.da), B pos, .dat a.da, .dat b.da] [] (.agg [.d (.bool (lmk s pos a b).p), .d (.int .i64 (lmk s pos a b).l.f), .d (.int .i64 (lmk s pos a b).l.v), .ol 0, .d (.int .i64 (lmk s pos a b).r.f), .d (.int .i64 (lmk s pos a b).r.v), .ol 1]) [(0, .tr 31 3 (Tm.das (lmk s pos a b).l.ks)), (1, .tr 31 3 (Tm.das (lmk s pos a b).r.ks))] := by
  have h1 := Z2q s hs a ha
  have h2 := Z2q s hs b hb
  have h3 := a2pq (nrm s a) (nrm s b)
  unfold lmk
  generalize nrm s a = x at *
  generalize nrm s b = y at *
  obtain ⟨f, v, ks⟩ := a
  obtain ⟨g, u, ls⟩ := b
  obtain ⟨f', v', ks'⟩ := x
  obtain ⟨g', u', ls'⟩ := y
  apply a2xq
  refine ⟨_, _, _, h1, _, _, _, h2, _, h3, ?_⟩
  by_cases h : Tm.cmp (.mk f' v' ks') (.mk g' u' ls') < 0
  · rw [if_pos h]; exact b1q (decide_eq_true h) ⟨rfl, rfl⟩
  · rw [if_neg h]; exact a4q (decide_eq_false h) ⟨rfl, rfl⟩
theorem a5aq : ∀ l : List Sy, C4q l = 3 * l.length
  | [] => by simp [C4q]
  | ⟨a, b, c⟩ :: r => by
    have h := a5aq r
    rw [a34q, h, List.length_cons]
    simp only [X8q]
    omega
def n8q {α : Type} (cmp : α → α → Int) (x : α) : List α → List α
  | [] => [x]
  | y :: r => if cmp y x < 0 then y :: n8q cmp x r else if cmp y x = 0 then y :: r else x :: y :: r
def I2q {α : Type} (cmp : α → α → Int) (l : List α) : List α := l.foldl (fun a x => n8q cmp x a) []
def m7q {β : Type} (eq : β → β → Bool) : β → List β → List β
  | _, [] => []
  | p, y :: r => if eq y p then m7q eq y r else y :: m7q eq y r
def L0q {β : Type} (eq : β → β → Bool) : List β → List β
  | [] => []
  | x :: r => x :: m7q eq x r
abbrev SsC {α : Type} (cmp : α → α → Int) (l : List α) : Prop := l.Pairwise (fun a b => cmp a b < 0)
section
variable {α : Type} {cmp : α → α → Int}
theorem TotC.lt_tr (h : TotC cmp) {a b c : α} (h1 : cmp a b < 0) (h2 : cmp b c ≤ 0) : cmp a c < 0 := by
  have h3 := h.tr a b c (by omega) h2
  by_cases h4 : cmp a c = 0
  · have := h.eq a c h4
    subst this
    have := h.neg a b
    omega
  · omega
theorem TotC.self (h : TotC cmp) (a : α) : cmp a a = 0 := by have := h.neg a a; omega
theorem a1Uq (h : TotC cmp) {x y : α} : ∀ {l : List α}, y ∈ n8q cmp x l ↔ y = x ∨ y ∈ l
  | [] => by simp [n8q]
  | z :: r => by
    have ih := a1Uq h (x := x) (y := y) (l := r)
    unfold n8q
    split
    · rw [List.mem_cons, ih, List.mem_cons]
      constructor <;> rintro (h | h | h) <;> simp [h]
    · split
      · rename_i h2
        have := h.eq _ _ h2
        subst this
        simp
      · simp
theorem a7eq (h : TotC cmp) {x : α} : ∀ {l : List α}, SsC cmp l → SsC cmp (n8q cmp x l)
  | [], _ => by simp [n8q, SsC]
  | z :: r, hs => by
    obtain ⟨h1, h2⟩ := List.pairwise_cons.1 hs
    unfold n8q
    split
    · rename_i hz
      refine List.pairwise_cons.2 ⟨fun w hw => ?_, a7eq h h2⟩
      rcases (a1Uq h).1 hw with rfl | hw
      · exact hz
      · exact h1 w hw
    · split
      · exact hs
      · have hxz : cmp x z < 0 := by have := h.neg x z; omega
        refine List.pairwise_cons.2 ⟨fun w hw => ?_, hs⟩
        rcases List.mem_cons.1 hw with rfl | hw
        · exact hxz
        · exact h.lt_tr hxz (by have := h1 w hw; omega)
theorem aaSq (h : TotC cmp) (l : List α) : ∀ a : List α, SsC cmp a → SsC cmp (l.foldl (fun a x => n8q cmp x a) a) ∧ ∀ y, y ∈ l.foldl (fun a x => n8q cmp x a) a ↔ y ∈ l ∨ y ∈ a := by
  induction l with
  | nil => intro a ha; exact ⟨ha, by simp⟩
  | cons x r ih =>
    intro a ha
    obtain ⟨h1, h2⟩ := ih _ (a7eq h ha)
    refine ⟨h1, fun y => ?_⟩
    rw [List.foldl_cons, h2, a1Uq h, List.mem_cons]
    constructor
    · rintro (h | h | h) <;> simp [h]
    · rintro ((h | h) | h) <;> simp [h]
theorem a79q (h : TotC cmp) : ∀ {a b : List α}, SsC cmp a → SsC cmp b → (∀ x, x ∈ a ↔ x ∈ b) → a = b
  | [], [], _, _, _ => rfl
  | [], y :: s, _, _, hm => by have := (hm y).2 (by simp); simp at this
  | x :: r, [], _, _, hm => by have := (hm x).1 (by simp); simp at this
  | x :: r, y :: s, ha, hb, hm => by
    obtain ⟨a1, a2⟩ := List.pairwise_cons.1 ha
    obtain ⟨b1, b2⟩ := List.pairwise_cons.1 hb
    have hxy : x = y := by
      rcases List.mem_cons.1 ((hm x).1 (by simp)) with e | h1
      · exact e
      · rcases List.mem_cons.1 ((hm y).2 (by simp)) with e | h2
        · exact e.symm
        · have := a1 y h2; have := b1 x h1; have := h.neg x y; omega
    subst hxy
    rw [a79q h a2 b2 fun z => ?_]
    have := hm z
    rw [List.mem_cons, List.mem_cons] at this
    constructor
    · intro hz
      rcases this.1 (.inr hz) with e | h1
      · subst e; have := a1 z hz; have := h.self z; omega
      · exact h1
    · intro hz
      rcases this.2 (.inr hz) with e | h1
      · subst e; have := b1 z hz; have := h.self z; omega
      · exact h1
theorem a5kq {eq : α → α → Bool} (he : ∀ a b, eq a b = true → a = b) {y : α} : ∀ {l : List α} {p : α}, (y ∈ m7q eq p l → y ∈ l) ∧ (y ∈ l → y = p ∨ y ∈ m7q eq p l)
  | [], p => by simp [m7q]
  | x :: r, p => by
    obtain ⟨h1, h2⟩ := a5kq he (y := y) (l := r) (p := x)
    unfold m7q
    split
    · rename_i h3
      have := he _ _ h3
      subst this
      exact ⟨fun h => List.mem_cons_of_mem _ (h1 h), fun h => by
        rcases List.mem_cons.1 h with h | h
        · exact .inl h
        · exact h2 h⟩
    · refine ⟨fun h => ?_, fun h => ?_⟩
      · rcases List.mem_cons.1 h with h | h
        · simp [h]
        · exact List.mem_cons_of_mem _ (h1 h)
      · rcases List.mem_cons.1 h with h | h
        · simp [h]
        · rcases h2 h with h | h <;> simp [h]
theorem a7nq (h : TotC cmp) {eq : α → α → Bool} (he : ∀ a b, eq a b = decide (cmp a b = 0)) : ∀ {l : List α} {p : α}, SdC cmp (p :: l) → SsC cmp (p :: m7q eq p l)
  | [], p, _ => by simp [m7q, SsC]
  | x :: r, p, hs => by
    obtain ⟨h1, h2⟩ := List.pairwise_cons.1 hs
    have ih := a7nq h he h2
    unfold m7q
    split
    · rename_i h3
      rw [he, decide_eq_true_eq] at h3
      have := h.eq _ _ h3
      subst this
      exact ih
    · rename_i h3
      rw [he, decide_eq_true_eq] at h3
      have hpx : cmp p x < 0 := by have := h1 x (by simp); have := h.neg p x; omega
      refine List.pairwise_cons.2 ⟨fun w hw => ?_, ih⟩
      rcases List.mem_cons.1 hw with rfl | hw
      · exact hpx
      · exact h.lt_tr hpx (by have := (List.pairwise_cons.1 ih).1 w hw; omega)
theorem a7Eq (h : TotC cmp) {eq : α → α → Bool} (he : ∀ a b, eq a b = decide (cmp a b = 0)) (l : List α) : L0q eq (o6q cmp l) = I2q cmp l := by
  obtain ⟨h1, h2⟩ := aaSq h l [] (by simp [SsC])
  have hs := a20q h l
  have hp := w7q cmp l
  have hee : ∀ a b, eq a b = true → a = b := fun a b e => h.eq a b (by simpa [he] using e)
  generalize o6q cmp l = s at hs hp
  refine a79q h ?_ h1 fun x => ?_
  · cases s with
    | nil => simp [L0q, SsC]
    | cons p r => exact a7nq h he hs
  · rw [I2q, h2, ← hp.mem_iff]
    cases s with
    | nil => simp [L0q]
    | cons p r =>
      obtain ⟨g1, g2⟩ := a5kq hee (y := x) (l := r) (p := p)
      simp only [L0q, List.mem_cons, List.not_mem_nil, or_false]
      constructor
      · rintro (h | h)
        · exact .inl h
        · exact .inr (g1 h)
      · rintro (h | h)
        · exact .inl h
        · exact g2 h
theorem a4aq {β : Type} (eq : β → β → Bool) : ∀ (l : List β) (p : β), ∃ r, (m7q eq p l ++ r).Perm l
  | [], p => ⟨[], by simp [m7q]⟩
  | y :: l, p => by
    obtain ⟨r, h⟩ := a4aq eq l y
    unfold m7q
    split
    · exact ⟨y :: r, List.perm_middle.trans (h.cons y)⟩
    · exact ⟨r, h.cons y⟩
theorem a5rq {β γ : Type} (g : β → γ) (eq : γ → γ → Bool) : ∀ (l : List β) (p : β), (m7q (fun a b => eq (g a) (g b)) p l).map g = m7q eq (g p) (l.map g)
  | [], p => rfl
  | y :: l, p => by
    have h := a5rq g eq l y
    simp only [m7q, List.map_cons]
    split
    · exact h
    · rw [List.map_cons, h]
theorem a5Zq {cn : α → Nat} {x : α} : ∀ l : List α, (((n8q cmp x l).map cn).sum + (n8q cmp x l).length) ≤ cn x + 1 + ((l.map cn).sum + l.length)
  | [] => by simp [n8q]
  | y :: r => by
    have h := a5Zq (cn := cn) (x := x) r
    unfold n8q; split
    · simp only [List.map_cons, List.sum_cons, List.length_cons]; omega
    · split <;> simp only [List.map_cons, List.sum_cons, List.length_cons] <;> omega
end
theorem a6lq (a b : Li) : XC Try.prog 87 [.dat a.da, .dat b.da] [] (B (decide (Li.cmp a b = 0))) [] := by
  have h1 := C7q a.l b.l
  have h2 := C7q a.r b.r
  obtain ⟨p, ⟨f, v, ks⟩, ⟨g, u, ls⟩⟩ := a
  obtain ⟨p', ⟨f', v', ks'⟩, ⟨g', u', ls'⟩⟩ := b
  apply a2Yq
  refine j7q (fun h => ⟨_, h1, a0vq (fun h3 => ⟨_, h2, bE ?_⟩) fun h3 => bE ?_⟩) fun h => bE ?_
  · subst h
    have h3 : Tm.cmp (.mk f v ks) (.mk f' v' ks') = 0 := by simpa using h3
    simp only [Li.cmp, if_true, if_pos h3]
  · subst h
    have h3 : ¬ Tm.cmp (.mk f v ks) (.mk f' v' ks') = 0 := by simpa using h3
    simp only [Li.cmp, if_true, if_neg h3]
    simp [h3]
  · simp only [Li.cmp, if_neg h]
    cases p <;> cases p' <;> simp_all
def a2Bq (a b : Li) : Bool := decide (Li.cmp a b = 0)
def q2q (a b : List Da × Li) : Bool := a2Bq a.2 b.2
theorem a1Aq {z w : List Da × Li} (hz : TgP Li.da z) (hw : TgP Li.da w) : XC Try.prog 91 [.dat z.1, .dat w.1] [] (B (q2q z w)) [] := XC.ut (by
  show XC _ _ [.dat (Da.utL z.1), .dat (Da.utL w.1)] _ _ _
  rw [hz.ut Li.ut_da, hw.ut Li.ut_da]; exact a1Pq _ _)
theorem a9vq : ∀ (R F G : List (List Da × Li)) (y : List Da × Li) (K j : Nat), (∀ z ∈ F ++ G ++ y :: R, TgP Li.da z) → K + j = F.length + G.length + 1 → 1 ≤ j → (F ++ G ++ y :: R).length ≤ 3000000000000 → f1q (.one (.ol 0)) [(0, .lst 61 7 ((F ++ m7q q2q y R).map (·.1)))] (F.length : Int) K (j + R.length) (j : Int) ((F ++ G ++ y :: R).map (·.1)) := by
  intro R
  induction R with
  | nil =>
    intro F G y K j ht hK hj hl
    apply n6q
    refine a4q (decide_eq_false (by simp)) ⟨F.length, rfl, ⟨by simp, Nat.le_refl _⟩, ⟨by simp⟩, F.length, rfl, ⟨by omega, by simp⟩, ⟨by simp⟩, rfl, ?_⟩
    simp [m7q, List.take_append, r2q]
  | cons x R ih =>
    intro F G y K j ht hK hj hl
    have hlen : (F ++ G ++ y :: x :: R).length = F.length + G.length + R.length + 2 := by simp; omega
    have hx := ht x (by simp)
    have hy := ht y (by simp)
    have c := a1Aq hx hy
    obtain ⟨b, n1, n2, d, n3, n4, d1, ex⟩ := hx.lit
    obtain ⟨b', m1, m2, d', m3, m4, d1', ey⟩ := hy.lit
    have gx : ((F ++ G ++ y :: x :: R).map (·.1))[K + j]? = some x.1 := by
      have h := i4q (g := fun z : List Da × Li => z.1) (p := F ++ G ++ [y]) (x := x) (q := R)
      rw [show (F ++ G ++ [y]).length = K + j by simp; omega] at h
      simpa using h
    have gy : ((F ++ G ++ y :: x :: R).map (·.1))[K + (j - 1)]? = some y.1 := by
      have h := i4q (g := fun z : List Da × Li => z.1) (p := F ++ G) (x := y) (q := x :: R)
      rw [show (F ++ G).length = K + (j - 1) by simp; omega] at h
      exact h
    have w0 : IntKind.wrap .i64 ((j : Int) - 1) = ((j - 1 : Nat) : Int) := by rw [wrI (by omega) (by omega)]; omega
    have w1 : IntKind.wrap .i64 ((j : Int) + 1) = ((j + 1 : Nat) : Int) := by rw [wrI (by omega) (by omega)]; omega
    have w2 : IntKind.wrap .i64 ((F.length : Int) + 1) = ((F.length + 1 : Nat) : Int) := by rw [wrI (by omega) (by omega)]; omega
    have gx2 := gx
    rw [ex] at c gx2
    rw [ey] at c gy
    apply n6q
    rw [w0, w1, w2]
    refine b1q (decide_eq_true (by simp; omega)) ⟨j, rfl, ⟨by simp⟩, K + j, rfl, _, _, _, _, _, _, _, gx2, j - 1, rfl, ⟨by simp; omega⟩, K + (j - 1), rfl, _, _, _, _, _, _, _, gy, _, c, ?_⟩
    by_cases hs : q2q x y = true
    · refine a4q (by simp [hs]) ?_
      have h := ih F (G ++ [y]) x K (j + 1) (by simpa using ht) (by simp; omega) (by omega) (by simp at hl ⊢; omega)
      have e1 : F ++ (G ++ [y]) ++ x :: R = F ++ G ++ y :: x :: R := by simp
      have e2 : m7q q2q y (x :: R) = m7q q2q x R := by rw [m7q, if_pos hs]
      rw [e1] at h
      rw [e2, show j + (x :: R).length = j + 1 + R.length by simp; omega]
      exact h
    · refine b1q (by simpa using hs) ?_
      obtain ⟨g, H, eG⟩ : ∃ g H, G ++ [y] = g :: H := by
        cases G with
        | nil => exact ⟨y, [], rfl⟩
        | cons g G' => exact ⟨g, G' ++ [y], rfl⟩
      have hHl : H.length = G.length := by have := congrArg List.length eG; simp at this; omega
      have e0 : F ++ G ++ y :: x :: R = F ++ g :: (H ++ x :: R) := by
        rw [show F ++ G ++ y :: x :: R = F ++ (G ++ [y]) ++ x :: R by simp, eG]; simp
      have hg := ht g (by rw [e0]; simp)
      obtain ⟨b2, k1, k2, d2, k3, k4, d3, eg⟩ := hg.lit
      have gg : ((F ++ G ++ y :: x :: R).map (·.1))[F.length]? = some g.1 := by rw [e0]; exact i4q
      rw [eg] at gg
      refine ⟨j, rfl, ⟨by simp⟩, K + j, rfl, _, _, _, _, _, _, _, gx2, F.length, rfl, ⟨by simp; omega⟩, F.length, rfl, _, _, _, _, _, _, _, gg, ?_⟩
      have h := ih (F ++ [x]) H x K (j + 1) (fun z hz => by
        apply ht z
        rw [e0]
        simp at hz ⊢
        rcases hz with h | h | h | h | h <;> simp [h]) (by simp; omega) (by omega) (by simp at hl ⊢; omega)
      have e3 : (F ++ [x] ++ H ++ x :: R).map (·.1) = ((F ++ G ++ y :: x :: R).map (·.1)).set F.length x.1 := by rw [e0]; simp [List.set_append]
      have e2 : F ++ m7q q2q y (x :: R) = F ++ [x] ++ m7q q2q x R := by rw [m7q, if_neg hs]; simp
      rw [e3, ex, show (F ++ [x]).length = F.length + 1 by simp] at h
      rw [e2, show j + (x :: R).length = j + 1 + R.length by simp; omega]
      exact h
theorem a8gq : ∀ (R P : List (List Da × Li)) (y : List Da × Li), (∀ z ∈ P ++ y :: R, TgP Li.da z) → (P ++ y :: R).length ≤ 3000000000000 → g5q (.one (.ol 0)) [(0, .lst 61 7 ((P ++ y :: m7q q2q y R).map (·.1)))] ((P.length + 1 : Nat) : Int) ((P ++ y :: R).map (·.1)) := by
  intro R
  induction R with
  | nil =>
    intro P y ht hl
    apply n7q
    exact a4q (decide_eq_false (by simp)) ⟨rfl, by simp [m7q]⟩
  | cons x R ih =>
    intro P y ht hl
    have hx := ht x (by simp)
    have hy := ht y (by simp)
    have c := a1Aq hx hy
    obtain ⟨b, n1, n2, d, n3, n4, d1, ex⟩ := hx.lit
    obtain ⟨b', m1, m2, d', m3, m4, d1', ey⟩ := hy.lit
    have gx : ((P ++ y :: x :: R).map (·.1))[P.length + 1]? = some x.1 := by
      have h := i4q (g := fun z : List Da × Li => z.1) (p := P ++ [y]) (x := x) (q := R)
      rw [show (P ++ [y]).length = P.length + 1 by simp, show P ++ [y] ++ x :: R = P ++ y :: x :: R by simp] at h
      exact h
    have gy : ((P ++ y :: x :: R).map (·.1))[P.length]? = some y.1 := i4q
    have hlen : (P ++ y :: x :: R).length = P.length + R.length + 2 := by simp; omega
    have w0 : IntKind.wrap .i64 (((P.length + 1 : Nat) : Int) - 1) = (P.length : Int) := by rw [wrI (by omega) (by omega)]; omega
    have w1 : IntKind.wrap .i64 (((P.length + 1 : Nat) : Int) + 1) = ((P.length + 1 + 1 : Nat) : Int) := by rw [wrI (by omega) (by omega)]; omega
    rw [ex] at c gx
    rw [ey] at c gy
    apply n7q
    rw [w0, w1]
    refine b1q (decide_eq_true (by simp; omega)) ⟨P.length + 1, rfl, ⟨by simp⟩, P.length + 1, rfl, _, _, _, _, _, _, _, gx, P.length, rfl, ⟨by simp⟩, P.length, rfl, _, _, _, _, _, _, _, gy, _, c, ?_⟩
    by_cases hs : q2q x y = true
    · refine b1q hs ⟨P.length + 1, rfl, ⟨by simp, Nat.le_refl _⟩, ?_⟩
      have h := a9vq R (P ++ [y]) [] x (P.length + 1) 1 (by simpa using ht) (by simp) (Nat.le_refl _) (by simp at hl ⊢; omega)
      have e1 : P ++ [y] ++ [] ++ x :: R = P ++ y :: x :: R := by simp
      have e2 : P ++ y :: m7q q2q y (x :: R) = P ++ [y] ++ m7q q2q x R := by rw [m7q, if_pos hs]; simp
      rw [e1, show (P ++ [y]).length = P.length + 1 by simp] at h
      rw [e2, show ((P ++ y :: x :: R).map (·.1)).length - (P.length + 1) = 1 + R.length by simp; omega, Nat.zero_add]
      exact h
    · refine a4q (by simpa using hs) ?_
      have h := ih (P ++ [y]) x (by simpa using ht) (by simp at hl ⊢; omega)
      have e1 : P ++ [y] ++ x :: R = P ++ y :: x :: R := by simp
      have e2 : P ++ y :: m7q q2q y (x :: R) = P ++ [y] ++ x :: m7q q2q x R := by rw [m7q, if_neg hs]; simp
      rw [e1, show (P ++ [y]).length = P.length + 1 by simp] at h
      rw [e2]
      exact h
theorem a6Aq (zs : List (List Da × Li)) (ht : ∀ z ∈ zs, TgP Li.da z) (hl : zs.length ≤ 3000000000000) : XC Try.prog 90 [.one (.ol 2000), .one (.d (.fn 91))] [(2000, .lst 61 7 (zs.map (·.1)))] (.one (.ol 0)) [(0, .lst 61 7 ((L0q q2q zs).map (·.1)))] := by
  apply y1q
  match zs, ht, hl with
  | [], _, _ => exact b1q (by simp) ⟨rfl, rfl⟩
  | [z], _, _ => exact b1q (by simp) ⟨rfl, rfl⟩
  | z :: x :: R, ht, hl =>
    refine a4q (decide_eq_false (by simp; omega)) ?_
    exact a8gq (x :: R) [] z ht hl
theorem a96q {β : Type} (eq : β → β → Bool) : ∀ l : List β, ∃ r, (L0q eq l ++ r).Perm l
  | [] => ⟨[], by simp [L0q]⟩
  | x :: l => by
    obtain ⟨r, h⟩ := a4aq eq l x
    exact ⟨r, h.cons x⟩
theorem aahq {β γ : Type} (g : β → γ) (eq : γ → γ → Bool) : ∀ l : List β, (L0q (fun a b => eq (g a) (g b)) l).map g = L0q eq (l.map g)
  | [] => rfl
  | x :: l => by
    show g x :: _ = _
    rw [a5rq g eq l x]; rfl
theorem a6Cq (ls : List Li) (hl : ls.length ≤ 3000000000000) : XC Try.prog 90 [.one (.ol 2000), .one (.d (.fn 91))] [(2000, .tr 61 7 (ls.map Li.da))] (.one (.ol 0)) [(0, .tr 61 7 ((L0q a2Bq ls).map Li.da))] := by
  refine a9Iq fun xs' hx => ?_
  obtain ⟨zs, rfl, rfl, ht⟩ := X2q hx
  obtain ⟨r, hp⟩ := a96q q2q zs
  refine ⟨(L0q q2q zs).map (·.1), ⟨r.map (·.1), ?_⟩, ?_, a6Aq zs ht (by simpa using hl)⟩
  · rw [← List.map_append]
    exact hp.map _
  · rw [W1q fun z hz => ht z (hp.subset (List.mem_append_left _ hz))]
    congr 1
    exact aahq (fun z : List Da × Li => z.2) a2Bq zs
def q4q (s : List Sy) (x : Li) : Li := lmk s x.p x.l x.r
def clm (s : List Sy) (ls : List Li) : List Li := I2q Li.cmp (ls.map (q4q s))
theorem abHq (s : List Sy) (x : Li) : (q4q s x).cn ≤ x.cn := acnq s x.p x.l x.r
theorem a5Lq (l : List Li) : ∀ a : List Li, cnL Li.cn (l.foldl (fun a x => n8q Li.cmp x a) a) ≤ cnL Li.cn a + cnL Li.cn l := by
  induction l with
  | nil => intro a; simp
  | cons x r ih =>
    intro a
    have h1 := ih (n8q Li.cmp x a)
    have h2 := a5Zq (cmp := Li.cmp) (cn := Li.cn) (x := x) a
    have e1 : cnL Li.cn (x :: r) = 1 + x.cn + cnL Li.cn r := by simp [cnL]; omega
    have e2 : cnL Li.cn a = a.length + (a.map Li.cn).sum := by simp [cnL]
    have e3 : cnL Li.cn (n8q Li.cmp x a) = (n8q Li.cmp x a).length + ((n8q Li.cmp x a).map Li.cn).sum := by simp [cnL]
    rw [List.foldl_cons]
    omega
theorem a5fq (s : List Sy) (l : List Li) : cnL Li.cn (l.map (q4q s)) ≤ cnL Li.cn l := by
  induction l with
  | nil => simp
  | cons x r ih =>
    have h := abHq s x
    have e1 : cnL Li.cn (x :: r) = 1 + x.cn + cnL Li.cn r := by simp [cnL]; omega
    have e2 : cnL Li.cn ((x :: r).map (q4q s)) = 1 + (q4q s x).cn + cnL Li.cn (r.map (q4q s)) := by simp [cnL]; omega
    omega
theorem acpq (s : List Sy) (ls : List Li) : cnL Li.cn (clm s ls) ≤ cnL Li.cn ls := by
  have h1 := a5Lq (ls.map (q4q s)) []
  have h2 := a5fq s ls
  have h3 : cnL Li.cn ([] : List Li) = 0 := by simp [cnL]
  unfold clm I2q
  omega
theorem G9q (s : List Sy) (hs : s.length ≤ 10000000) (ls : List Li) (hc : cnL Li.cn ls ≤ 1200000000000) : ∀ (q p : List Li), ls = p ++ q → p5q (.agg [.ol 0]) [(0, .tr 61 7 ((clm s ls).map Li.da))] (s.map Sy.da) (ls.map Li.da) (ls.length : Int) (p.length : Int) ((p.map (q4q s)).map Li.da)
  | [], p, e => by
    have hl := l2q Li.cn ls
    have c1 := a6Yq (ls.map (q4q s)) (by simp; omega)
    have c2 := a6Cq (o6q Li.cmp (ls.map (q4q s))) (by rw [(w7q _ _).length_eq]; simp; omega)
    have e1 : L0q a2Bq (o6q Li.cmp (ls.map (q4q s))) = clm s ls := a7Eq a4Vq (fun _ _ => rfl) _
    rw [e1] at c2
    apply D8q
    have ep : ls = p := by simpa using e
    subst ep
    exact a4q (decide_eq_false (by omega)) ⟨_, c1, _, c2, rfl, rfl⟩
  | x :: q, p, e => by
    have ih := G9q s hs ls hc q (p ++ [x]) (by simp [e])
    have hm := v6q (cn := Li.cn) (l := ls) (x := x) (by simp [e])
    have hl := l2q Li.cn ls
    have hxc : x.cn = x.l.cn + x.r.cn := rfl
    have c := a25q s hs x.p x.l x.r (by omega) (by omega)
    have hx : (ls.map Li.da)[p.length]? = some x.da := by rw [e]; exact i4q
    have hlt : p.length < ls.length := by rw [e]; simp
    have hw : IntKind.wrap .i64 ((p.length : Int) + 1) = ((p.length + 1 : Nat) : Int) := wr1 hlt (by omega)
    have e2 : ((p ++ [x]).map (q4q s)).map Li.da = (p.map (q4q s)).map Li.da ++ [(q4q s x).da] := by simp
    have e3 : q4q s x = lmk s x.p x.l x.r := rfl
    rw [i9q, e2, e3] at ih
    generalize lmk s x.p x.l x.r = y at *
    obtain ⟨pp, ⟨f, v, ks⟩, ⟨g, u, ms⟩⟩ := x
    obtain ⟨pp', ⟨f', v', ks'⟩, ⟨g', u', ms'⟩⟩ := y
    apply D8q
    rw [hw]
    exact b1q (decide_eq_true (by omega)) ⟨p.length, rfl, _, _, _, _, _, _, _, hx, _, _, _, _, _, _, _, c, ⟨by simp; omega⟩, ih⟩
theorem a02q (s : List Sy) (hs : s.length ≤ 10000000) (ls : List Li) (hc : cnL Li.cn ls ≤ 1200000000000) : XC Try.prog 44 [L (s.map Sy.da), L (ls.map Li.da)] [] (.agg [.ol 0]) [(0, .tr 61 7 ((clm s ls).map Li.da))] := by
  apply a0wq
  rw [List.length_map]
  exact G9q s hs ls hc ls [] rfl
theorem lis7 (l : List Li) : ∀ y ∈ l.map Li.da, y.length = 7 := by
  intro y hy
  obtain ⟨x, _, rfl⟩ := List.mem_map.1 hy
  obtain ⟨p, ⟨f, v, ks⟩, ⟨g, u, ms⟩⟩ := x
  rfl
theorem M3q (r : AV) (O : List (Nat × Ob)) (s1 : List (List Da)) (s0 : List (List Da)) (s6 : Int) (x : Li) (l : List Li) (hl : l.length ≤ 1200000000000) (h : g2q r O s0 s1 (IntKind.wrap .i64 (s6 + 1)) ((n8q Li.cmp x l).map Li.da)) : ∀ (q p : List Li), l = p ++ q → n8q Li.cmp x l = p ++ n8q Li.cmp x q → o9q r O s0 s1 s6 (p.length : Int) x.p x.l.f x.l.v (Tm.das x.l.ks) x.r.f x.r.v (Tm.das x.r.ks) (l.map Li.da)
  | [], p, e, e2 => by
    have hpl : l.length = p.length := by rw [e]; simp
    have ed : x.da = [.bool x.p, .int .i64 x.l.f, .int .i64 x.l.v, .sl (Tm.das x.l.ks), .int .i64 x.r.f, .int .i64 x.r.v, .sl (Tm.das x.r.ks)] := by obtain ⟨pp, ⟨f, v, ks⟩, ⟨g, u, ms⟩⟩ := x; rfl
    apply D7q
    refine a4q (decide_eq_false (by simp; omega)) (a4q (decide_eq_false (by simp; omega)) ⟨p.length, rfl, ⟨by omega, by simp; omega⟩, ⟨by simp; omega⟩, ⟨lis7 l⟩, ⟨by simp; omega⟩, ⟨by simp; omega⟩, p.length, rfl, ⟨by simp; omega, Nat.le_refl _⟩, ⟨by simp; omega⟩, ⟨lis7 l⟩, ⟨by simp; omega⟩, ?_⟩)
    rw [← ed]
    rw [e2] at h
    subst e
    simpa [n8q, r2q, F5q] using h
  | y :: q, p, e, e2 => by
    have hpl : l.length = p.length + q.length + 1 := by rw [e]; simp; omega
    have ed : x.da = [.bool x.p, .int .i64 x.l.f, .int .i64 x.l.v, .sl (Tm.das x.l.ks), .int .i64 x.r.f, .int .i64 x.r.v, .sl (Tm.das x.r.ks)] := by obtain ⟨pp, ⟨f, v, ks⟩, ⟨g, u, ms⟩⟩ := x; rfl
    have hx : (l.map Li.da)[p.length]? = some y.da := by rw [e]; exact i4q
    have c1 := a3Aq y x
    have c2 := a6lq y x
    rw [ed] at c1 c2
    have hlt : p.length < l.length := by omega
    have hw : IntKind.wrap .i64 ((p.length : Int) + 1) = ((p.length + 1 : Nat) : Int) := wr1 hlt (by omega)
    have ih := fun h2 => M3q r O s1 s0 s6 x l hl h q (p ++ [y]) (by simp [e]) h2
    rw [i9q] at ih
    apply D7q
    rw [hw]
    by_cases hb : Li.cmp y x < 0
    · have ih2 := ih (by rw [e2, n8q, if_pos hb]; simp)
      clear ih
      obtain ⟨pp, ⟨f, v, ks⟩, ⟨g, u, ms⟩⟩ := y
      exact b1q (decide_eq_true (by simp; omega)) ⟨p.length, rfl, ⟨by simp; omega⟩, p.length, rfl, _, _, _, _, _, _, _, hx, _, c1, b1q (decide_eq_true hb) ih2⟩
    · by_cases hs : Li.cmp y x = 0
      · have el : n8q Li.cmp x l = l := by rw [e2, n8q, if_neg hb, if_pos hs, ← e]
        rw [el] at h
        obtain ⟨pp, ⟨f, v, ks⟩, ⟨g, u, ms⟩⟩ := y
        exact b1q (decide_eq_true (by simp; omega)) ⟨p.length, rfl, ⟨by simp; omega⟩, p.length, rfl, _, _, _, _, _, _, _, hx, _, c1, a4q (decide_eq_false hb) (b1q (decide_eq_true (by simp; omega)) ⟨p.length, rfl, ⟨by simp; omega⟩, p.length, rfl, _, _, _, _, _, _, _, hx, _, c2, b1q (decide_eq_true hs) h⟩)⟩
      · have el : n8q Li.cmp x l = p ++ x :: y :: q := by rw [e2, n8q, if_neg hb, if_neg hs]
        rw [el] at h
        have h' : g2q r O s0 s1 (IntKind.wrap .i64 (s6 + 1)) ([] ++ ((l.map Li.da).drop (0 + 0)).take (p.length - 0) ++ [x.da] ++ ((l.map Li.da).drop (0 + p.length)).take ((l.map Li.da).length - p.length)) := by
          have e3 : [] ++ ((l.map Li.da).drop (0 + 0)).take (p.length - 0) ++ [x.da] ++ ((l.map Li.da).drop (0 + p.length)).take ((l.map Li.da).length - p.length) = (p ++ x :: y :: q).map Li.da := by
            rw [e]; simp [List.take_append, List.drop_append, r2q, F5q]
          rw [e3]; exact h
        rw [ed] at h'
        obtain ⟨pp, ⟨f, v, ks⟩, ⟨g, u, ms⟩⟩ := y
        exact b1q (decide_eq_true (by simp; omega)) ⟨p.length, rfl, ⟨by simp; omega⟩, p.length, rfl, _, _, _, _, _, _, _, hx, _, c1, a4q (decide_eq_false hb) (b1q (decide_eq_true (by simp; omega)) ⟨p.length, rfl, ⟨by simp; omega⟩, p.length, rfl, _, _, _, _, _, _, _, hx, _, c2, a4q (decide_eq_false hs) ⟨p.length, rfl, ⟨by omega, by simp; omega⟩, ⟨by simp; omega⟩, ⟨lis7 l⟩, ⟨by simp; omega⟩, ⟨by simp; omega⟩, p.length, rfl, ⟨by simp; omega, Nat.le_refl _⟩, ⟨by simp; omega⟩, ⟨lis7 l⟩, ⟨by simp; omega⟩, h'⟩⟩)⟩
theorem H3q (s : List Sy) (hs : s.length ≤ 10000000) (ls : List Li) (hc : cnL Li.cn ls ≤ 1200000000000) : ∀ (q p : List Li), ls = p ++ q → g2q (.dat (Cl.mk (clm s ls)).da) [] (s.map Sy.da) (ls.map Li.da) (p.length : Int) ((I2q Li.cmp (p.map (q4q s))).map Li.da)
  | [], p, e => by
    apply E4q
    have ep : ls = p := by simpa using e
    subst ep
    exact a4q (decide_eq_false (by simp)) ⟨rfl, rfl⟩
  | x :: q, p, e => by
    have ih := H3q s hs ls hc q (p ++ [x]) (by simp [e])
    have hm := v6q (cn := Li.cn) (l := ls) (x := x) (by simp [e])
    have hl := l2q Li.cn ls
    have hxc : x.cn = x.l.cn + x.r.cn := rfl
    have c := a1Tq s hs x.p x.l x.r (by omega) (by omega)
    have hx : (ls.map Li.da)[p.length]? = some x.da := by rw [e]; exact i4q
    have hlt : p.length < ls.length := by rw [e]; simp
    have hw : IntKind.wrap .i64 ((p.length : Int) + 1) = ((p.length + 1 : Nat) : Int) := wr1 hlt (by omega)
    have e2 : I2q Li.cmp ((p ++ [x]).map (q4q s)) = n8q Li.cmp (lmk s x.p x.l x.r) (I2q Li.cmp (p.map (q4q s))) := by simp [I2q, List.foldl_append, q4q]
    have hlen : (I2q Li.cmp (p.map (q4q s))).length ≤ 1200000000000 := by
      have h1 := a5Lq (p.map (q4q s)) []
      have h2 := a5fq s p
      have h3 : cnL Li.cn ([] : List Li) = 0 := by simp [cnL]
      have h4 := l2q Li.cn (I2q Li.cmp (p.map (q4q s)))
      have h5 : cnL Li.cn ls = cnL Li.cn p + cnL Li.cn (x :: q) := by rw [e]; simp [cnL]; omega
      unfold I2q at h4 ⊢
      omega
    rw [i9q, e2, ← hw] at ih
    have h7 := M3q _ _ _ _ _ (lmk s x.p x.l x.r) (I2q Li.cmp (p.map (q4q s))) hlen ih (I2q Li.cmp (p.map (q4q s))) [] rfl rfl
    generalize lmk s x.p x.l x.r = y at *
    obtain ⟨pp, ⟨f, v, ks⟩, ⟨g, u, ms⟩⟩ := x
    obtain ⟨pp', ⟨f', v', ks'⟩, ⟨g', u', ms'⟩⟩ := y
    apply E4q
    exact b1q (decide_eq_true (by simp; omega)) ⟨p.length, rfl, _, _, _, _, _, _, _, hx, p.length, rfl, _, _, _, _, _, _, _, hx, p.length, rfl, _, _, _, _, _, _, _, hx, _, _, _, _, _, _, _, c, h7⟩
theorem a06q (s : List Sy) (hs : s.length ≤ 10000000) (ls : List Li) (hc : cnL Li.cn ls ≤ 1200000000000) : XC Try.prog 42 [L (s.map Sy.da), L (ls.map Li.da)] [] (.dat (Cl.mk (clm s ls)).da) [] := by
  apply a0xq
  exact H3q s hs ls hc ls [] rfl
def ixN : List Int → Int → Nat
  | [], _ => 0
  | x :: r, v => if x = v then 0 else ixN r v + 1
theorem a7mq : ∀ (l : List Int) (v : Int) (i : Nat), v ∈ l → B1q (fun x => decide (v = x)) l i = ((i + ixN l v : Nat) : Int)
  | [], v, i, h => by simp at h
  | x :: r, v, i, h => by
    unfold B1q ixN
    by_cases hx : v = x
    · rw [if_pos (decide_eq_true hx), if_pos hx.symm]; simp
    · rw [if_neg (by simpa using hx), if_neg (fun e => hx e.symm), a7mq r v (i + 1) (by
        rcases List.mem_cons.1 h with h | h
        · exact absurd h hx
        · exact h)]
      omega
mutual
def Tm.rn (vs : List Int) : Tm → Tm
  | .mk f v ks => .mk f (if f = -1 then (ixN vs v : Int) else v) (Tm.rns vs ks)
def Tm.rns (vs : List Int) : List Tm → List Tm
  | [] => []
  | t :: r => Tm.rn vs t :: Tm.rns vs r
end
theorem Tm.rns_map (vs : List Int) (l : List Tm) : Tm.rns vs l = l.map (Tm.rn vs) := by induction l <;> simp_all [Tm.rns]
mutual
theorem Tm.rn_cn (vs : List Int) : ∀ t : Tm, (t.rn vs).cn = t.cn
  | .mk f v ks => by
    have h := Tm.rns_cns vs ks
    simp [Tm.rn, Tm.cn, h]
theorem Tm.rns_cns (vs : List Int) : ∀ l : List Tm, Tm.cns (Tm.rns vs l) = Tm.cns l
  | [] => rfl
  | t :: r => by
    have h1 := Tm.rn_cn vs t
    have h2 := Tm.rns_cns vs r
    simp [Tm.rns, Tm.cns, h1, h2]
end
def Li.rn (vs : List Int) (x : Li) : Li := ⟨x.p, x.l.rn vs, x.r.rn vs⟩
theorem Li.rn_cn (vs : List Int) (x : Li) : (x.rn vs).cn = x.cn := by simp [Li.rn, Li.cn, Tm.rn_cn]
theorem a5Gq (vs : List Int) (l : List Li) : cnL Li.cn (l.map (Li.rn vs)) = cnL Li.cn l := by
  simp [cnL, Function.comp_def, Li.rn_cn]
def tdy (s : List Sy) (ls : List Li) : List Li := clm s (ls.map (Li.rn (cvs ls [])))
theorem acAq (s : List Sy) (ls : List Li) : cnL Li.cn (tdy s ls) ≤ cnL Li.cn ls := by
  have h1 := acpq s (ls.map (Li.rn (cvs ls [])))
  rw [a5Gq] at h1
  exact h1
theorem a7cq : ∀ (l : List Li) (out : List Int) (y : Int), y ∈ cvs l out ↔ y ∈ out ∨ ∃ x ∈ l, x.l.occ y ∨ x.r.occ y
  | [], out, y => by simp [cvs]
  | x :: q, out, y => by
    rw [cvs, a7cq q, Tm.mem_vs, Tm.mem_vs]
    simp [or_assoc]
theorem a2aq (vs : List Int) (f v k : Int) (ks : List Tm) (hc : ks.length ≤ 1200000000000) : ∀ (q p : List Tm), ks = p ++ q → (∀ t ∈ q, XC Try.prog 94 [.dat t.da, L (vs.map In.da)] [] (.dat (t.rn vs).da) []) → k4q (.dat (Tm.mk f k (Tm.rns vs ks)).da) [] (vs.map In.da) (p.length : Int) f v (Tm.das ks) 0 0 f k (Tm.das (Tm.rns vs p))
  | [], p, e, _ => by
    subst e
    apply F7q
    rw [List.append_nil]
    exact a4q (decide_eq_false (by rw [c7q]; omega)) ⟨rfl, rfl⟩
  | y :: q, p, e, ht => by
    have ih := a2aq vs f v k ks hc q (p ++ [y]) (by simp [e]) (fun t h => ht t (List.mem_cons_of_mem _ h))
    have c := ht y (by simp)
    have hx : (Tm.das ks)[p.length]? = some y.da := by rw [e]; exact t9q
    have hlt : p.length < ks.length := by rw [e]; simp
    have hw : IntKind.wrap .i64 ((p.length : Int) + 1) = ((p.length + 1 : Nat) : Int) := wr1 hlt (by omega)
    have hb : ((Tm.das (Tm.rns vs p)).length + 1) * 40 ≤ 140737488355328 := by rw [c7q, Tm.rns_map, List.length_map]; omega
    have e2 : Tm.das (Tm.rns vs (p ++ [y])) = Tm.das (Tm.rns vs p) ++ [(y.rn vs).da] := by simp [Tm.rns_map, Tm.das_map]
    rw [i9q, e2] at ih
    generalize y.rn vs = z at *
    obtain ⟨g, x, ms⟩ := y
    obtain ⟨g', x', ms'⟩ := z
    apply F7q
    rw [hw]
    exact b1q (j6q (by rw [c7q]; exact hlt)) ⟨p.length, rfl, _, _, _, hx, _, _, _, c, ⟨hb⟩, ih⟩
theorem a74q (vs : List Int) (hv : vs.length ≤ 10000000000000) (r : AV) (O : List (Nat × Ob)) (f v : Int) (t2 : List (List Da)) (s4 s41 o1 : Int) (o2 : Int) : ∀ (q p : List Int), vs = p ++ q → k4q r O (vs.map In.da) 0 f v t2 s4 s41 o1 ((p.length + ixN q v : Nat) : Int) [] → q0q r O (vs.map In.da) (p.length : Int) f v t2 s4 s41 o1 o2
  | [], p, e, h => by
    apply F6q
    subst e
    refine a4q (decide_eq_false (by simp)) ?_
    simpa [ixN] using h
  | x :: q, p, e, h => by
    have ih := a74q vs hv r O f v t2 s4 s41 o1 o2 q (p ++ [x]) (by simp [e])
    have hx : (vs.map In.da)[p.length]? = some [.int .i64 x] := A8q (g := In.da) (by rw [e]; exact i0q)
    have hlt : p.length < vs.length := by rw [e]; simp
    have hw : IntKind.wrap .i64 ((p.length : Int) + 1) = ((p.length + 1 : Nat) : Int) := wr1 hlt (by omega)
    rw [i9q] at ih
    apply F6q
    rw [hw]
    refine b1q (j6q (by simpa using hlt)) ⟨p.length, rfl, _, hx, ?_⟩
    by_cases hxv : x = v
    · refine a4q (by simp [hxv]) ?_
      simpa [ixN, hxv] using h
    · refine b1q (by simpa using hxv) (ih ?_)
      have e3 : p.length + 1 + ixN q v = p.length + ixN (x :: q) v := by rw [ixN, if_neg hxv]; omega
      rw [e3]; exact h
theorem T7q (vs : List Int) (hv : vs.length ≤ 10000000000000) (t : Tm) : t.cn ≤ 1200000000000 → XC Try.prog 94 [.dat t.da, L (vs.map In.da)] [] (.dat (t.rn vs).da) [] := by
  induction t using Tm.ind with
  | h f v ks ih =>
  intro hc
  have hcn : (Tm.mk f v ks).cn = Tm.cns ks := by simp [Tm.cn]
  rw [hcn] at hc
  have hkl := Tm.len_cns ks
  have hk : ∀ t ∈ ks, XC Try.prog 94 [.dat t.da, L (vs.map In.da)] [] (.dat (t.rn vs).da) [] := fun t ht => ih t ht (by
    have := v6q (cn := Tm.cn) ht
    rw [← Tm.cns_cnL] at this
    omega)
  apply a1dq
  by_cases hf : f = -1
  · refine b1q (decide_eq_true hf) ?_
    have h := a2aq vs f v (ixN vs v : Int) ks (by omega) ks [] rfl hk
    have e : Tm.rn vs (.mk f v ks) = .mk f (ixN vs v : Int) (Tm.rns vs ks) := by rw [Tm.rn, if_pos hf]
    rw [e]
    refine a74q vs hv _ _ f v _ 0 0 f v vs [] rfl ?_
    simpa [Tm.rns, Tm.das] using h
  · refine a4q (decide_eq_false hf) ?_
    have h := a2aq vs f v v ks (by omega) ks [] rfl hk
    have e : Tm.rn vs (.mk f v ks) = .mk f v (Tm.rns vs ks) := by rw [Tm.rn, if_neg hf]
    rw [e]
    simpa [Tm.rns, Tm.das] using h
theorem Z1q (s : List Sy) (hs : s.length ≤ 10000000) (vs : List Int) (hv : vs.length ≤ 10000000000000) (ls : List Li) (hc : cnL Li.cn ls ≤ 1200000000000) : ∀ (q p : List Li), ls = p ++ q → z5q (.dat (Cl.mk (clm s (ls.map (Li.rn vs)))).da) [] (s.map Sy.da) (vs.map In.da) (p.length : Int) (ls.map Li.da) ((p.map (Li.rn vs)).map Li.da)
  | [], p, e => by
    have c := a06q s hs (ls.map (Li.rn vs)) (by rw [a5Gq]; exact hc)
    apply R0q
    have ep : ls = p := by simpa using e
    subst ep
    exact a4q (decide_eq_false (by simp)) ⟨_, c, rfl, rfl⟩
  | x :: q, p, e => by
    have ih := Z1q s hs vs hv ls hc q (p ++ [x]) (by simp [e])
    have hm := v6q (cn := Li.cn) (l := ls) (x := x) (by simp [e])
    have hl := l2q Li.cn ls
    have hxc : x.cn = x.l.cn + x.r.cn := rfl
    have c1 := T7q vs hv x.l (by omega)
    have c2 := T7q vs hv x.r (by omega)
    have hx : (ls.map Li.da)[p.length]? = some x.da := by rw [e]; exact i4q
    have hlt : p.length < ls.length := by rw [e]; simp
    have hw : IntKind.wrap .i64 ((p.length : Int) + 1) = ((p.length + 1 : Nat) : Int) := wr1 hlt (by omega)
    have e2 : ((p ++ [x]).map (Li.rn vs)).map Li.da = (p.map (Li.rn vs)).map Li.da ++ [(Li.mk x.p (x.l.rn vs) (x.r.rn vs)).da] := by simp [Li.rn]
    rw [i9q, e2] at ih
    generalize x.l.rn vs = a at *
    generalize x.r.rn vs = b at *
    obtain ⟨pp, ⟨f, v, ks⟩, ⟨g, u, ms⟩⟩ := x
    obtain ⟨f', v', ks'⟩ := a
    obtain ⟨g', u', ms'⟩ := b
    apply R0q
    rw [hw]
    exact b1q (decide_eq_true (by simp; omega)) ⟨p.length, rfl, _, _, _, _, _, _, _, hx, _, _, _, c1, _, _, _, c2, ⟨by simp; omega⟩, ih⟩
theorem a8Pq (ls : List Li) (hc : cnL Li.cn ls ≤ 1200000000000) : (cvs ls []).length ≤ 2400000000000 := by
  have h := a76q ls []
  have e : cnL Li.cn ls = ls.length + (ls.map Li.cn).sum := by simp [cnL]
  simp at h
  omega
theorem a4Cq (s : List Sy) (hs : s.length ≤ 10000000) (c : Cl) (hc : c.cn ≤ 1200000000000) : XC Try.prog 54 [L (s.map Sy.da), .dat c.da] [] (.dat (Cl.mk (tdy s c.ls)).da) [] := by
  have cv := a00q c hc
  obtain ⟨ls⟩ := c
  have hv := a8Pq ls hc
  have h := Z1q s hs (cvs ls []) (by omega) ls hc ls [] rfl
  apply a5Pq
  exact ⟨_, cv, h⟩
theorem a8uq (vs : List Int) (hv : vs.length ≤ 10000000000000) (v : Int) (h : v ∈ vs) : XC Try.prog 97 [Z v, .one (.op 2000 0)] [(2000, .var [.ol 2001]), (2001, .tr 3 1 (vs.map In.da))] (Z (ixN vs v : Int)) [(2000, .var [.ol 0]), (0, .tr 3 1 (vs.map In.da))] := by
  have c := H6q (s := vs.map In.da) (v := v) (by
    rw [List.length_map]
    exact L5q vs v hv vs [] rfl)
  rw [show (([] : List Int).length) = 0 from rfl, a7mq vs v 0 h, Nat.zero_add] at c
  apply a39q
  exact ⟨_, c, rfl, rfl⟩
theorem Z0q (vs : List Int) (hv : vs.length ≤ 10000000000000) (f v : Int) (ks : List Tm) (hc : ks.length ≤ 1200000000000) (hf : f = -1 → v ∈ vs) : ∀ (q p : List Tm), ks = p ++ q → (∀ t ∈ q, XC Try.prog 120 [.dat t.da, .one (.clo 97 [(2000, 0)])] [(2000, .var [.ol 2001]), (2001, .tr 3 1 (vs.map In.da))] (.agg [.d (.int .i64 (t.rn vs).f), .d (.int .i64 (t.rn vs).v), .ol 0]) [(2000, .var [.ol 1]), (0, .tr 31 3 (Tm.das (t.rn vs).ks)), (1, .tr 3 1 (vs.map In.da))]) →
    j5q (.agg [.d (.int .i64 f), .d (.int .i64 (if f = -1 then (ixN vs v : Int) else v)), .ol 0]) [(2000, .var [.ol 1]), (0, .tr 31 3 (Tm.das (Tm.rns vs ks))), (1, .tr 3 1 (vs.map In.da))] (Tm.das ks) (ks.length : Int) (p.length : Int) f v (Tm.das ks) 0 0 (Tm.das (Tm.rns vs p)) (vs.map In.da)
  | [], p, e, _ => by
    subst e
    apply t2q
    rw [List.append_nil]
    refine a4q (decide_eq_false (by omega)) ⟨_, a1xq (.mk f v p), j7q (fun h => ?_) fun h => ?_⟩
    · have h : f = -1 := h
      refine ⟨_, _, a8uq vs hv v (hf h), ?_⟩
      rw [if_pos h]
      exact ⟨rfl, rfl⟩
    · have h : ¬ f = -1 := h
      rw [if_neg h]
      exact ⟨rfl, rfl⟩
  | t :: q, p, e, ih0 => by
    have hpl : p.length < ks.length := by rw [e]; simp
    have hx : (Tm.das ks)[p.length]? = some t.da := x5q (by rw [e]; exact i0q)
    have hcall := ih0 t (by simp)
    have ih := Z0q vs hv f v ks hc hf q (p ++ [t]) (by rw [e]; simp) fun t ht => ih0 t (List.mem_cons_of_mem _ ht)
    have e2 : Tm.das (Tm.rns vs (p ++ [t])) = Tm.das (Tm.rns vs p) ++ [(t.rn vs).da] := by rw [Tm.rns_map, Tm.rns_map, Tm.das_map, Tm.das_map]; simp
    have hw : IntKind.wrap .i64 ((p.length : Int) + 1) = ((p.length + 1 : Nat) : Int) := wr1 hpl (by omega)
    rw [i9q, e2] at ih
    have hl2 : (Tm.das (Tm.rns vs p)).length = p.length := by rw [c7q, Tm.rns_map]; simp
    generalize t.rn vs = z at *
    obtain ⟨g, u, ls⟩ := t
    obtain ⟨g', u', ls'⟩ := z
    apply t2q
    rw [hw]
    exact b1q (decide_eq_true (by omega)) ⟨p.length, rfl, _, _, _, hx, _, _, _, _, hcall, ⟨by rw [hl2]; simp; omega⟩, ih⟩
theorem Z6q (vs : List Int) (hv : vs.length ≤ 10000000000000) (t : Tm) : t.cn ≤ 1200000000000 → (∀ y, t.occ y → y ∈ vs) → XC Try.prog 120 [.dat t.da, .one (.clo 97 [(2000, 0)])] [(2000, .var [.ol 2001]), (2001, .tr 3 1 (vs.map In.da))] (.agg [.d (.int .i64 (t.rn vs).f), .d (.int .i64 (t.rn vs).v), .ol 0]) [(2000, .var [.ol 1]), (0, .tr 31 3 (Tm.das (t.rn vs).ks)), (1, .tr 3 1 (vs.map In.da))] := by
  induction t using Tm.ind with
  | h f v ks ih =>
    intro hc ho
    have h1 := Tm.len_cns ks
    have h2 : (Tm.mk f v ks).cn = Tm.cns ks := rfl
    have hoc : ∀ t ∈ ks, ∀ y, t.occ y → Tm.occs ks y := by
      intro t ht y hy
      clear ih h1 h2 ho hc
      induction ks with
      | nil => simp at ht
      | cons a r ih =>
        rcases List.mem_cons.1 ht with rfl | ht
        · exact .inl hy
        · exact .inr (ih ht)
    have hk : ∀ t ∈ ks, _ := fun t ht => ih t ht (by
      have := v6q (cn := Tm.cn) ht
      rw [← Tm.cns_cnL] at this
      omega) (fun y hy => ho y (.inr (hoc t ht y hy)))
    have hl := Z0q vs hv f v ks (by omega) (fun hf => ho v (.inl ⟨hf, rfl⟩)) ks [] rfl hk
    apply K1q
    rw [c7q]
    exact hl
theorem H4q (vs : List Int) (hv : vs.length ≤ 10000000000000) (ls : List Li) (hc : cnL Li.cn ls ≤ 1200000000000) (ho : ∀ x ∈ ls, ∀ y, x.l.occ y ∨ x.r.occ y → y ∈ vs) : ∀ (q p : List Li), ls = p ++ q → i3q (.agg [.ol 0]) [(2000, .var [.ol 1]), (0, .tr 61 7 ((ls.map (Li.rn vs)).map Li.da)), (1, .tr 3 1 (vs.map In.da))] (ls.map Li.da) (ls.length : Int) (p.length : Int) (vs.map In.da) ((p.map (Li.rn vs)).map Li.da)
  | [], p, e => by
    subst e
    apply p3q
    rw [List.append_nil]
    exact a4q (decide_eq_false (by omega)) ⟨rfl, rfl⟩
  | x :: q, p, e => by
    have ih := H4q vs hv ls hc ho q (p ++ [x]) (by simp [e])
    have hxm : x ∈ ls := by simp [e]
    have hm := v6q (cn := Li.cn) (l := ls) (x := x) hxm
    have hl := l2q Li.cn ls
    have hxc : x.cn = x.l.cn + x.r.cn := rfl
    have c1 := Z6q vs hv x.l (by omega) (fun y hy => ho x hxm y (.inl hy))
    have c2 := Z6q vs hv x.r (by omega) (fun y hy => ho x hxm y (.inr hy))
    have hx : (ls.map Li.da)[p.length]? = some x.da := by rw [e]; exact i4q
    have hlt : p.length < ls.length := by rw [e]; simp
    have hw : IntKind.wrap .i64 ((p.length : Int) + 1) = ((p.length + 1 : Nat) : Int) := wr1 hlt (by omega)
    have e2 : ((p ++ [x]).map (Li.rn vs)).map Li.da = (p.map (Li.rn vs)).map Li.da ++ [(Li.mk x.p (x.l.rn vs) (x.r.rn vs)).da] := by simp [Li.rn]
    rw [i9q, e2] at ih
    generalize x.l.rn vs = a at *
    generalize x.r.rn vs = b at *
    obtain ⟨pp, ⟨f, v, ks⟩, ⟨g, u, ms⟩⟩ := x
    obtain ⟨f', v', ks'⟩ := a
    obtain ⟨g', u', ms'⟩ := b
    apply p3q
    rw [hw]
    exact b1q (decide_eq_true (by omega)) ⟨p.length, rfl, _, _, _, _, _, _, _, hx, _, _, _, _, c1, _, _, _, _, c2, ⟨by simp; omega⟩, ih⟩
theorem a4kq (s : List Sy) (hs : s.length ≤ 10000000) (c : Cl) (hc : c.cn ≤ 1200000000000) : XC Try.prog 55 [L (s.map Sy.da), .dat c.da] [] (.agg [.ol 0]) [(0, .tr 61 7 ((tdy s c.ls).map Li.da))] := by
  have cv := a05q c hc
  obtain ⟨ls⟩ := c
  have hv := a8Pq ls hc
  have hr := B6q (c := ls.map Li.da) (by
    rw [List.length_map]
    exact H4q (cvs ls []) (by omega) ls hc (fun x hx y hy => (a7cq ls [] y).2 (.inr ⟨x, hx, hy⟩)) ls [] rfl)
  have cm := a02q s hs (ls.map (Li.rn (cvs ls []))) (by rw [a5Gq]; exact hc)
  apply a5bq
  exact ⟨_, cv, _, _, hr, _, cm, rfl, rfl⟩
theorem X4q (ss : List Sy) (kss : ∀ y ∈ ss, Sy.ok y) (c : Cl) (kc : c.ok) : XC Try.prog 8 [L (ss.map Sy.da), .dat c.da] [] (B true) [] := by
  have s0 := a6Hq ss 1048576 (by omega) (by omega)
  rcases Int.lt_or_le (lft (cnL Sy.cn ss) 1048576) 0 with g0 | g0
  · obtain ⟨ls_1⟩ := c
    apply x9q
    exact ⟨_, s0, b1q (decide_eq_true g0) ⟨rfl, rfl⟩⟩
  have q0 := a9oq g0
  have s1 := a4pq c _ g0 (by omega)
  rcases Int.lt_or_le (lft (c.cn) (lft (cnL Sy.cn ss) 1048576)) 0 with g1 | g1
  · obtain ⟨ls_1⟩ := c
    apply x9q
    exact ⟨_, s0, a4q (decide_eq_false (Int.not_lt.2 g0)) ⟨_, s1, b1q (decide_eq_true g1) ⟨rfl, rfl⟩⟩⟩
  have q1 := a9oq g1
  have hlenss := l2q Sy.cn ss
  have hsyss := a5aq ss
  have hccc : c.cn = cnL Li.cn c.ls := rfl
  have hclc := l2q Li.cn c.ls
  have hcmc := a9xq c.ls
  have hu := acAq ss c.ls
  have hcu : cnL Li.cn (tdy ss c.ls) = (Cl.mk (tdy ss c.ls)).cn := rfl
  have hku := a9xq (tdy ss c.ls)
  have hlu := l2q Li.cn (tdy ss c.ls)
  have t0 := a5eq ss (by omega)
  have e0 := a6Nq ss
  have m0 := a4Oq ss (1) (by omega) (by omega) (by omega)
  have t1 := a3Hq c (by omega)
  have e1 := Z5q c
  have m1 := Q4q c (1 + C4q ss) (by omega) (by omega)
  have c1 := a4Cq ss (by omega) c (by omega)
  have c2 := a4kq ss (by omega) c (by omega)
  have hk : (((1 + C4q ss + mkN c.ls : Nat)) : Int) ≥ 0 := by omega
  generalize tdy ss c.ls = us at *
  generalize hus : Cl.mk us = u at *
  obtain rfl : us = u.ls := by rw [← hus]
  have eu := Z5q u
  have mu := Q4q u 1 (by omega) (by omega)
  have hd := a2iq u 1 (by omega) (by omega)
  obtain ⟨ls_1⟩ := c
  obtain ⟨l0⟩ := u
  apply x9q
  exact ⟨_, s0, a4q (decide_eq_false (Int.not_lt.2 g0)) ⟨_, s1, a4q (decide_eq_false (Int.not_lt.2 g1)) ⟨_, t0, _, t1, _, c1, _, t0, _, t1, _, c2, _, eu, a4q rfl ⟨_, t0, _, e0, a4q rfl ⟨_, t1, _, e1, a4q rfl ⟨_, _, m0, _, _, m1, a4q (decide_eq_false (by omega)) ⟨_, eu, a4q rfl ⟨_, _, mu, _, hd, a4q (decide_eq_false (by omega)) (a4q (by simp) ⟨_, t0, _, t1, _, c2, _, eu, a4q rfl ⟨_, hd, a4q (decide_eq_false (by omega)) (a4q (by simp) ⟨rfl, rfl⟩)⟩⟩)⟩⟩⟩⟩⟩⟩⟩⟩
end AM
end Go.Proofs.Ytajcoogpmockiaa
set_option linter.unusedSimpArgs false
set_option linter.unusedVariables false
namespace Go.Proofs.Ytajcoogpmockiaa
namespace AM
open Go Go.ChangeShapes Go.WideShapes Go.RowKit
set_option maxRecDepth 100000 in
theorem a0lq (os : Os) (started : os.Started) (H : Type) (enc : TypeId × Value → H) :
    ReturnsInHanded {} Try.checked os 8 .any (Rows.fnExactTidySpec.pre6 enc Try.prog Try.f8 Rows.fnExactTidyRow.domain false) (Rows.fnExactTidySpec.post enc Try.prog Try.f8 false true false false) := by
  refine a8dq (C := Try.checked) [22, 93, 9, 3, 4, 84, 71, 57, 25, 23] own started (by kernel_rfl) Try.func8
    (ChangeSpec.witness6 (enc := enc) (C := Try.checked) false ⟨#[], #[.slice none 0 0, .agg #[.slice none 0 0]], []⟩ 8 (by kernel_rfl) (by kernel_rfl) (by kernel_rfl) (by kernel_rfl))
    absq (by kernel_rfl) (by kernel_rfl) rfl rfl Try.underlying4 (fun ds hd => ?_) (fun xs hx => ?_)
  · match ds, hd with
    | [d0, d1], _ => exact ⟨rfl, rfl, rfl⟩
  · have hx2 : a2cq Try.prog [22, 84] xs := hx
    match xs, hx2 with
    | [x0, x1], ⟨h0, h1, _⟩ =>
      simp only [a19q, Try.underlying22] at h0
      obtain ⟨_, _, rfl, h0⟩ := h0
      obtain ⟨a, e0, k0⟩ := a70q _ h0
      cases e0
      simp only [a19q, Try.underlying84] at h1
      obtain ⟨_, _, rfl, h1⟩ := h1
      obtain ⟨b, e1, k1⟩ := a5Rq _ h1
      subst e1
      exact (X4q a k0 b k1).acall
theorem fnExactTidy_holds : Rows.FnExactTidySaid :=
  OpenClaim.holds_of_wide 8 Try.f8 rfl rfl rfl rfl rfl rfl rfl ⟨rfl, rfl, rfl, rfl, rfl⟩ rfl rfl rfl rfl rfl (by kernel_rfl) Try.func8 (by kernel_rfl)
    (of_decide_eq_true (by kernel_rfl)) (by unfold Func.isWrapper; rw [if_neg (by decide +kernel)]; exact ⟨rfl, rfl⟩)
    (fun os started H enc _ => a0lq os started H enc)
end AM
end Go.Proofs.Ytajcoogpmockiaa
