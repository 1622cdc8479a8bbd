/- A part of the proof of the law that the last of these texts states, for every input; no conditions. -/
import Derived.Test.YtajcoogpmockiaaMfE
set_option linter.unusedVariables false
set_option linter.unusedSimpArgs false
set_option linter.unusedVariables false
set_option linter.unusedSimpArgs false
set_option maxRecDepth 100000
namespace Go.Proofs.Ytajcoogpmockiaa
namespace AM
open Go Go.ChangeShapes Go.WideShapes Go.RowKit
def bl (s : List Sy) (f : Int) : Bool := inR f 0 ((s.length : Int) - 1) && ((s[f.toNat]?).map (·.ac)).getD false
mutual
def nrm (s : List Sy) : Tm → Tm
  | .mk f v ks => .mk f v (if bl s f then n5q Tm.cmp (nrmK s (bl s f) f ks) else nrmK s (bl s f) f ks)
def nrmK (s : List Sy) (b : Bool) (f : Int) : List Tm → List Tm
  | [] => []
  | t :: r => (if b = true ∧ (nrm s t).f = f then (nrm s t).ks else [nrm s t]) ++ nrmK s b f r
end
theorem aaPq (a b : List Tm) : Tm.cns (a ++ b) = Tm.cns a + Tm.cns b := by
  induction a with
  | nil => simp [Tm.cns]
  | cons x r ih => simp only [List.cons_append, Tm.cns, ih]; omega
theorem a9vq {a b : List Tm} (h : a.Perm b) : Tm.cns a = Tm.cns b := by
  rw [Tm.cns_cnL, Tm.cns_cnL, cnL, cnL, h.length_eq, (h.map _).sum_nat]
theorem Tm.cn_ks (t : Tm) : Tm.cns t.ks = t.cn := by cases t; simp [Tm.ks, Tm.cn]
mutual
theorem J0q (s : List Sy) : ∀ t : Tm, (nrm s t).cn ≤ t.cn
  | .mk f v ks => by
    have h := nrmK_cns s (bl s f) f ks
    simp only [nrm, Tm.cn]
    split
    · rw [a9vq (v6q _ _)]; exact h
    · exact h
theorem nrmK_cns (s : List Sy) (b : Bool) (f : Int) : ∀ l : List Tm, Tm.cns (nrmK s b f l) ≤ Tm.cns l
  | [] => by simp [nrmK, Tm.cns]
  | t :: r => by
    have h1 := J0q s t
    have h2 := nrmK_cns s b f r
    simp only [nrmK, aaPq, Tm.cns]
    split
    · rw [Tm.cn_ks]; omega
    · simp only [Tm.cns]; omega
end
theorem a2Yq {x lo hi : Int} : inR x lo hi = true ↔ lo ≤ x ∧ x ≤ hi := by simp [inR]
theorem a8wq {s : List Sy} {f : Int} {m : Nat} {x : Sy} (hf : f = (m : Int)) (hm : s[m]? = some x) : bl s f = x.ac := by
  have h := (List.getElem?_eq_some_iff.1 hm).1
  subst hf
  have : inR (m : Int) 0 ((s.length : Int) - 1) = true := a2Yq.2 ⟨by omega, by omega⟩
  simp [bl, this, hm]
theorem a3Aq (s : List Sy) (f : Int) (hs : s.length ≤ 10000000) : XC Try.prog 71 [L (s.map Sy.da), Z f] [] (B (bl s f)) [] := by
  have w : IntKind.wrap .i64 ((s.length : Int) - 1) = (s.length : Int) - 1 := wrI (by omega) (by omega)
  apply a48q
  rw [List.length_map, w]
  refine ⟨_, a8mq f 0 _, ?_⟩
  by_cases h : inR f 0 ((s.length : Int) - 1) = true
  · obtain ⟨h1, h2⟩ := a2Yq.1 h
    obtain ⟨m, rfl⟩ : ∃ m : Nat, f = (m : Int) := ⟨f.toNat, by omega⟩
    obtain ⟨x, hx⟩ := g8q (l := s) (i := m) (by omega)
    have hx2 := t3q (g := Sy.da) hx
    refine b3q h ⟨m, rfl, _, _, _, hx2, ?_, rfl⟩
    rw [a8wq rfl hx]
  · exact a4q (Bool.eq_false_iff.2 h) ⟨by simp [bl, h], rfl⟩
theorem a6Lq (s : List Sy) (f : Int) (hs : s.length ≤ 10000000) : XC Try.prog 108 [L (s.map Sy.da), Z f] [] (B (inR f 0 ((s.length : Int) - 1))) [] := by
  have w : IntKind.wrap .i64 ((s.length : Int) - 1) = (s.length : Int) - 1 := wrI (by omega) (by omega)
  apply a4Bq
  rw [List.length_map, w]
  exact ⟨_, a8xq f 0 _, rfl, rfl⟩
theorem T0q (s : List Sy) (f : Int) (hs : s.length ≤ 10000000) : XC Try.prog 75 [L (s.map Sy.da), Z f] [] (B (bl s f)) [] := by
  apply a3Yq
  refine ⟨_, a6Lq s f hs, ?_⟩
  by_cases h : inR f 0 ((s.length : Int) - 1) = true
  · obtain ⟨h1, h2⟩ := a2Yq.1 h
    obtain ⟨m, rfl⟩ : ∃ m : Nat, f = (m : Int) := ⟨f.toNat, by omega⟩
    obtain ⟨x, hx⟩ := g8q (l := s) (i := m) (by omega)
    have hx2 := t3q (g := Sy.da) hx
    refine b3q h ⟨m, rfl, _, _, _, hx2, ?_, rfl⟩
    rw [a8wq rfl hx]
  · exact a4q (Bool.eq_false_iff.2 h) ⟨by simp [bl, h], rfl⟩
theorem E6q {α β : Type} (g : α → β) (p : List α) : List.drop p.length (p.map g) = [] := List.drop_eq_nil_of_le (by simp)
theorem a2fq {α : Type} (cmp : α → α → Int) (l : List α) (x : α) : n5q cmp (l ++ [x]) = u0q cmp x (n5q cmp l) := by simp [n5q, List.foldl_append]
theorem a0Tq (a b : List Tm) : Tm.das (a ++ b) = Tm.das a ++ Tm.das b := by simp [Tm.das_map]
theorem a2yq (t : Tm) (l : List Tm) (hl : l.length ≤ 3000000000000) : ∀ (q p : List Tm), l = p ++ q → v9q (.one (.ol 0)) [(0, .lst 31 3 (Tm.das (p ++ u0q Tm.cmp t q)))] (Tm.das l) (p.length : Int) t.f t.v (Tm.das t.ks)
  | [], p, e => by
    have e3 : [] ++ (Tm.das l).take p.length ++ [[.int .i64 t.f, .int .i64 t.v, .sl (Tm.das t.ks)]] ++ (Tm.das l).drop p.length = Tm.das (p ++ u0q Tm.cmp t []) := by
      subst e
      obtain ⟨f, v, ks⟩ := t
      simp [Tm.das_map, u0q, y5q, E6q, Tm.da, Tm.f, Tm.v, Tm.ks]
    have hpl : l.length = p.length := by rw [e]; simp
    apply O1q
    refine a4q (decide_eq_false (by rw [c5q]; omega)) ⟨p.length, rfl, ⟨by rw [c5q]; omega⟩, ⟨N6q _⟩, ⟨fun y hy => N6q _ y (List.mem_of_mem_take (List.mem_of_mem_drop hy))⟩, ⟨?_⟩, ⟨?_⟩, p.length, rfl, ⟨by rw [c5q]; omega⟩, ⟨N6q _⟩, ⟨fun y hy => N6q _ y (List.mem_of_mem_take (List.mem_of_mem_drop hy))⟩, ⟨?_⟩, rfl, ?_⟩
    · simp [c5q]; omega
    · simp [c5q]; omega
    · simp [c5q]; omega
    · rw [← e3]; simp
  | y :: q, p, e => by
    have ih := a2yq t l hl q (p ++ [y]) (by simp [e])
    have hb := I2q t y
    have hn := Tm.cmp_neg t y
    have hx : (Tm.das l)[p.length]? = some y.da := by rw [e]; exact w2q
    have hpl : l.length = p.length + q.length + 1 := by rw [e]; simp; omega
    rw [n1q] at ih
    have e3 : Tm.cmp t y < 0 → [] ++ (Tm.das l).take p.length ++ [[.int .i64 t.f, .int .i64 t.v, .sl (Tm.das t.ks)]] ++ (Tm.das l).drop p.length = Tm.das (p ++ u0q Tm.cmp t (y :: q)) := fun h => by
      subst e
      have e4 : u0q Tm.cmp t (y :: q) = t :: y :: q := by rw [u0q, if_neg (by omega)]
      rw [e4]
      obtain ⟨f, v, ks⟩ := t
      simp [Tm.das_map, List.take_append, List.drop_append, y5q, E6q, Tm.da, Tm.f, Tm.v, Tm.ks]
    have et : t.da = [.int .i64 t.f, .int .i64 t.v, .sl (Tm.das t.ks)] := by obtain ⟨f, v, ks⟩ := t; rfl
    rw [et] at hb
    have ih2 : ¬ Tm.cmp t y < 0 → p ++ u0q Tm.cmp t (y :: q) = p ++ [y] ++ u0q Tm.cmp t q := fun h => by
      rw [u0q, if_pos (by omega)]; simp
    obtain ⟨g, u, ms⟩ := y
    apply O1q
    refine b3q (decide_eq_true (by rw [c5q]; omega)) ⟨p.length, rfl, g, u, Tm.das ms, hx, _, hb, ?_⟩
    by_cases h : Tm.cmp t (.mk g u ms) < 0
    · refine a4q (by simp [h]) ⟨p.length, rfl, ⟨by rw [c5q]; omega⟩, ⟨N6q _⟩, ⟨fun y hy => N6q _ y (List.mem_of_mem_take (List.mem_of_mem_drop hy))⟩, ⟨?_⟩, ⟨?_⟩, p.length, rfl, ⟨by rw [c5q]; omega⟩, ⟨N6q _⟩, ⟨fun y hy => N6q _ y (List.mem_of_mem_take (List.mem_of_mem_drop hy))⟩, ⟨?_⟩, rfl, ?_⟩
      · simp [c5q]; omega
      · simp [c5q]; omega
      · simp [c5q]; omega
      · rw [← e3 h]; simp
    · rw [ih2 h, wr1 (n := p.length + 1) (by omega) (by omega)]
      exact b3q (by simp [h]) ih
theorem a26q (t : Tm) (l : List Tm) (hl : l.length ≤ 3000000000000) : XC Try.prog 101 [L (Tm.das l), .dat t.da] [] (.one (.ol 0)) [(0, .lst 31 3 (Tm.das (u0q Tm.cmp t l)))] := by
  have h := a2yq t l hl l [] rfl
  obtain ⟨f, v, ks⟩ := t
  exact a47q h
theorem a1gq (r : AV) (O : List (Nat × Ob)) (s0 : List (List Da)) (s6 s3 s31 : Int) (s32 : List (List Da)) (s5 s51 n2 n3 : Int) (w : List Tm) : ∀ (q p acc : List Tm), w = p ++ q → acc.length + q.length ≤ 2500000000000 → p.length + q.length ≤ 2500000000000 → n9q r O s0 (IntKind.wrap .i64 (s6 + 1)) s3 s31 s32 0 0 s5 s51 (Tm.das (n5q Tm.cmp (acc ++ q))) → x9q r O s0 s6 (p.length : Int) s3 s31 s32 0 0 s5 s51 n2 n3 (Tm.das w) (Tm.das (n5q Tm.cmp acc))
  | [], p, acc, e, _, _, h => by
    apply P4q
    subst e
    exact a4q (j0q (by simp [c5q])) (by simpa using h)
  | y :: q, p, acc, e, h1, h2, h => by
    simp only [List.length_cons] at h1 h2
    have ih := a1gq r O s0 s6 s3 s31 s32 s5 s51 n2 n3 w q (p ++ [y]) (acc ++ [y]) (by simp [e]) (by simp; omega) (by simp; omega) (by simpa using h)
    have c := a26q y (n5q Tm.cmp acc) (by rw [(v6q _ _).length_eq]; omega)
    have hx : (Tm.das w)[p.length]? = some y.da := by rw [e]; exact w2q
    have hlt : p.length < w.length := by rw [e]; simp
    rw [n1q, a2fq] at ih
    obtain ⟨g, u, ms⟩ := y
    apply P4q
    refine b3q (l0q (by rw [c5q]; exact hlt)) ⟨p.length, rfl, g, u, Tm.das ms, hx, _, c, ?_⟩
    rw [wr1 (n := p.length + 1) (by omega) (by omega)]
    exact ih
theorem Y3q (s : List Sy) (hs : s.length ≤ 10000000) (f v : Int) (ks : List Tm) (hk : Tm.cns ks ≤ 1200000000000) : ∀ (q p acc : List Tm), ks = p ++ q → acc.length + Tm.cns q ≤ 2400000000000 → (∀ t ∈ q, t.cn ≤ 1200000000000 ∧ XC Try.prog 59 [L (s.map Sy.da), .dat t.da] [] (.dat (nrm s t).da) []) → n9q (.dat (Tm.mk f v (if bl s f then n5q Tm.cmp (acc ++ nrmK s (bl s f) f q) else acc ++ nrmK s (bl s f) f q)).da) [] (s.map Sy.da) (p.length : Int) f v (Tm.das ks) 0 0 f v (Tm.das (if bl s f then n5q Tm.cmp acc else acc))
  | [], p, acc, e, _, _ => by
    apply Q5q
    subst e
    refine a4q (j0q (by simp [c5q])) ⟨?_, rfl⟩
    simp only [nrmK, List.append_nil]
    rfl
  | y :: q, p, acc, e, ha, hc => by
    have hcn : Tm.cns (y :: q) = 1 + y.cn + Tm.cns q := by simp [Tm.cns]
    have hkl := Tm.cns_cnL ks ▸ i5q Tm.cn ks
    obtain ⟨hyc, cy⟩ := hc y (by simp)
    have hnc := J0q s y
    have hnl := Tm.len_cns (nrm s y).ks
    rw [Tm.cn_ks] at hnl
    have hx : (Tm.das ks)[p.length]? = some y.da := by rw [e]; exact w2q
    have hlt : p.length < ks.length := by rw [e]; simp
    have hw : IntKind.wrap .i64 ((p.length : Int) + 1) = ((p.length + 1 : Nat) : Int) := wr1 hlt (by omega)
    have ih := fun acc' h => Y3q s hs f v ks hk q (p ++ [y]) acc' (by simp [e]) h (fun t ht => hc t (List.mem_cons_of_mem _ ht))
    rw [n1q] at ih
    have eb := a3Aq s f hs
    have eK : nrmK s (bl s f) f (y :: q) = (if bl s f = true ∧ (nrm s y).f = f then (nrm s y).ks else [nrm s y]) ++ nrmK s (bl s f) f q := by rw [nrmK]
    rw [eK]
    have cP := a26q (nrm s y) (n5q Tm.cmp acc) (by rw [(v6q _ _).length_eq]; omega)
    generalize hny : nrm s y = ny at *
    generalize bl s f = b at *
    obtain ⟨g, u, ms⟩ := y
    obtain ⟨g', u', ms'⟩ := ny
    apply Q5q
    rw [hw]
    refine b3q (l0q (by rw [c5q]; exact hlt)) ⟨p.length, rfl, g, u, Tm.das ms, hx, _, _, _, cy, _, eb, ?_⟩
    cases b with
    | false =>
      refine b3q rfl ⟨⟨by simp [c5q]; omega⟩, ?_⟩
      have := ih (acc ++ [.mk g' u' ms']) (by simp; omega)
      simpa [a0Tq, Tm.das, Tm.da] using this
    | true =>
      refine a4q rfl ?_
      by_cases hg : g' = f
      · refine a4q (decide_eq_false (by simp [hg])) ?_
        have := ih (acc ++ ms') (by simp [Tm.ks] at hnl ⊢; omega)
        have h7 := a1gq (.dat (Tm.mk f v (if true = true then n5q Tm.cmp (acc ++ ((if true = true ∧ (Tm.mk g' u' ms').f = f then (Tm.mk g' u' ms').ks else [.mk g' u' ms']) ++ nrmK s true f q)) else acc ++ ((if true = true ∧ (Tm.mk g' u' ms').f = f then (Tm.mk g' u' ms').ks else [.mk g' u' ms']) ++ nrmK s true f q))).da) [] (s.map Sy.da) (p.length : Int) f v (Tm.das ks) f v g' u' ms' ms' [] acc rfl (by simp [Tm.ks] at hnl; omega) (by simp [Tm.ks] at hnl ⊢; omega)
        rw [hw] at h7
        refine h7 ?_
        simpa [Tm.f, Tm.ks, hg, List.append_assoc] using this
      · refine b3q (decide_eq_true (by simpa using hg)) ⟨_, cP, ?_⟩
        have := ih (acc ++ [.mk g' u' ms']) (by simp; omega)
        simp only [if_true, a2fq] at this
        simpa [Tm.f, hg, List.append_assoc] using this
theorem J8q (s : List Sy) (hs : s.length ≤ 10000000) (t : Tm) : t.cn ≤ 1200000000000 → XC Try.prog 59 [L (s.map Sy.da), .dat t.da] [] (.dat (nrm s t).da) [] := by
  induction t using Tm.ind with
  | h f v ks ih =>
  intro hc
  have hcn : (Tm.mk f v ks).cn = Tm.cns ks := by simp [Tm.cn]
  rw [hcn] at hc
  apply a5gq
  have := Y3q s hs f v ks hc ks [] [] rfl (by simp; omega) (fun t ht => by
    have hb : t.cn ≤ 1200000000000 := by have := Tm.cns_cnL ks ▸ o1q (cn := Tm.cn) ht; omega
    exact ⟨hb, ih t ht hb⟩)
  simpa [nrm, n5q, Tm.das] using this
theorem X9q (s : List Sy) (hs : s.length ≤ 10000000) (f v : Int) (ks : List Tm) (hk : Tm.cns ks ≤ 1200000000000) : ∀ (q p acc : List Tm), ks = p ++ q → acc.length + Tm.cns q ≤ 2400000000000 → (∀ t ∈ q, t.cn ≤ 1200000000000 ∧ XC Try.prog 65 [L (s.map Sy.da), .dat t.da] [] (.agg [.d (.int .i64 (nrm s t).f), .d (.int .i64 (nrm s t).v), .ol 0]) [(0, .tr 31 3 (Tm.das (nrm s t).ks))]) → p5q (.agg [.d (.int .i64 f), .d (.int .i64 v), .ol 0]) [(0, .tr 31 3 (Tm.das (if bl s f then n5q Tm.cmp (acc ++ nrmK s (bl s f) f q) else acc ++ nrmK s (bl s f) f q)))] (s.map Sy.da) (Tm.das ks) (ks.length : Int) (p.length : Int) f v (Tm.das ks) 0 0 (Tm.das acc)
  | [], p, acc, e, ha, _ => by
    have eb := T0q s f hs
    have cs := a6xq acc (by omega)
    apply O7q
    subst e
    refine a4q (j0q (by simp)) ⟨_, eb, ?_⟩
    simp only [nrmK, List.append_nil]
    generalize bl s f = b at *
    cases b with
    | true => exact b3q rfl ⟨_, cs, by simp⟩
    | false => exact a4q rfl (by simp)
  | y :: q, p, acc, e, ha, hc => by
    have hcn : Tm.cns (y :: q) = 1 + y.cn + Tm.cns q := by simp [Tm.cns]
    have hkl := Tm.cns_cnL ks ▸ i5q Tm.cn ks
    obtain ⟨hyc, cy⟩ := hc y (by simp)
    have hnc := J0q s y
    have hnl := Tm.len_cns (nrm s y).ks
    rw [Tm.cn_ks] at hnl
    have hx : (Tm.das ks)[p.length]? = some y.da := by rw [e]; exact w2q
    have hlt : p.length < ks.length := by rw [e]; simp
    have hw : IntKind.wrap .i64 ((p.length : Int) + 1) = ((p.length + 1 : Nat) : Int) := wr1 hlt (by omega)
    have ih := fun acc' h => X9q s hs f v ks hk q (p ++ [y]) acc' (by simp [e]) h (fun t ht => hc t (List.mem_cons_of_mem _ ht))
    rw [n1q] at ih
    have eb := T0q s f hs
    have eK : nrmK s (bl s f) f (y :: q) = (if bl s f = true ∧ (nrm s y).f = f then (nrm s y).ks else [nrm s y]) ++ nrmK s (bl s f) f q := by rw [nrmK]
    rw [eK]
    generalize hny : nrm s y = ny at *
    generalize bl s f = b at *
    obtain ⟨g, u, ms⟩ := y
    obtain ⟨g', u', ms'⟩ := ny
    apply O7q
    rw [hw]
    refine b3q (l0q hlt) ⟨p.length, rfl, g, u, Tm.das ms, hx, _, _, _, cy, _, eb, ?_⟩
    simp only [Tm.f, Tm.v, Tm.ks] at hnl ⊢
    cases b with
    | false =>
      refine a4q rfl ⟨⟨by simp [c5q]; omega⟩, ?_⟩
      have := ih (acc ++ [.mk g' u' ms']) (by simp; omega)
      simpa [a0Tq, Tm.das, Tm.da] using this
    | true =>
      refine b3q rfl ?_
      by_cases hg : g' = f
      · refine b3q (decide_eq_true hg) ⟨⟨by simp [c5q]; omega⟩, ?_⟩
        have := ih (acc ++ ms') (by simp; omega)
        simpa [a0Tq, hg, List.append_assoc] using this
      · refine a4q (decide_eq_false hg) ⟨⟨by simp [c5q]; omega⟩, ?_⟩
        have := ih (acc ++ [.mk g' u' ms']) (by simp; omega)
        simpa [a0Tq, Tm.das, Tm.da, hg, List.append_assoc] using this
theorem K2q (s : List Sy) (hs : s.length ≤ 10000000) (t : Tm) : t.cn ≤ 1200000000000 → XC Try.prog 65 [L (s.map Sy.da), .dat t.da] [] (.agg [.d (.int .i64 (nrm s t).f), .d (.int .i64 (nrm s t).v), .ol 0]) [(0, .tr 31 3 (Tm.das (nrm s t).ks))] := by
  induction t using Tm.ind with
  | h f v ks ih =>
  intro hc
  have hcn : (Tm.mk f v ks).cn = Tm.cns ks := by simp [Tm.cn]
  rw [hcn] at hc
  apply a59q
  have := X9q s hs f v ks hc ks [] [] rfl (by simp; omega) (fun t ht => by
    have hb : t.cn ≤ 1200000000000 := by have := Tm.cns_cnL ks ▸ o1q (cn := Tm.cn) ht; omega
    exact ⟨hb, ih t ht hb⟩)
  rw [c5q]
  simpa [nrm, Tm.f, Tm.v, Tm.ks, Tm.das] using this
def lmk (s : List Sy) (pos : Bool) (a b : Tm) : Li := if Tm.cmp (nrm s a) (nrm s b) < 0 then ⟨pos, nrm s b, nrm s a⟩ else ⟨pos, nrm s a, nrm s b⟩
theorem a8Fq (s : List Sy) (pos : Bool) (a b : Tm) : (lmk s pos a b).cn ≤ a.cn + b.cn := by
  have h1 := J0q s a
  have h2 := J0q s b
  unfold lmk Li.cn; split <;> dsimp only <;> omega
theorem O4q (s : List Sy) (hs : s.length ≤ 10000000) (pos : Bool) (a b : Tm) (ha : a.cn ≤ 1200000000000) (hb : b.cn ≤ 1200000000000) : XC Try.prog 80 [L (s.map Sy.da), B pos, .dat a.da, .dat b.da] [] (.dat (lmk s pos a b).da) [] := by
  have h1 := J8q s hs a ha
  have h2 := J8q s hs b hb
  have h3 := I2q (nrm s a) (nrm s b)
  unfold lmk
  generalize nrm s a = x at *
  generalize nrm s b = y at *
  obtain ⟨f, v, ks⟩ := a
  obtain ⟨g, u, ls⟩ := b
  obtain ⟨f', v', ks'⟩ := x
  obtain ⟨g', u', ls'⟩ := y
  apply a2gq
  refine ⟨_, _, _, h1, _, _, _, h2, _, h3, ?_⟩
  by_cases h : Tm.cmp (.mk f' v' ks') (.mk g' u' ls') < 0
  · rw [if_pos h]; exact b3q (decide_eq_true h) ⟨rfl, rfl⟩
  · rw [if_neg h]; exact a4q (decide_eq_false h) ⟨rfl, rfl⟩
theorem O3q (s : List Sy) (hs : s.length ≤ 10000000) (pos : Bool) (a b : Tm) (ha : a.cn ≤ 1200000000000) (hb : b.cn ≤ 1200000000000) : XC Try.prog 83 [L (s.map Sy.da), B pos, .dat a.da, .dat b.da] [] (.agg [.d (.bool (lmk s pos a b).p), .d (.int .i64 (lmk s pos a b).l.f), .d (.int .i64 (lmk s pos a b).l.v), .ol 0, .d (.int .i64 (lmk s pos a b).r.f), .d (.int .i64 (lmk s pos a b).r.v), .ol 1]) [(0, .tr 31 3 (Tm.das (lmk s pos a b).l.ks)), (1, .tr 31 3 (Tm.das (lmk s pos a b).r.ks))] := by
  have h1 := K2q s hs a ha
  have h2 := K2q s hs b hb
  have h3 := a23q (nrm s a) (nrm s b)
  unfold lmk
  generalize nrm s a = x at *
  generalize nrm s b = y at *
  obtain ⟨f, v, ks⟩ := a
  obtain ⟨g, u, ls⟩ := b
  obtain ⟨f', v', ks'⟩ := x
  obtain ⟨g', u', ls'⟩ := y
  apply a2Nq
  refine ⟨_, _, _, h1, _, _, _, h2, _, h3, ?_⟩
  by_cases h : Tm.cmp (.mk f' v' ks') (.mk g' u' ls') < 0
  · rw [if_pos h]; exact b3q (decide_eq_true h) ⟨rfl, rfl⟩
  · rw [if_neg h]; exact a4q (decide_eq_false h) ⟨rfl, rfl⟩
theorem a5Tq : ∀ l : List Sy, z3q l = 3 * l.length
  | [] => by simp [z3q]
  | ⟨a, b, c⟩ :: r => by
    have h := a5Tq r
    rw [a25q, h, List.length_cons]
    simp only [X4q]
    omega
theorem a9Uq {α : Type} (cn : α → Nat) (x : α) (r : List α) : cnL cn (x :: r) = 1 + cn x + cnL cn r := by simp [cnL]; omega
theorem a5Yq : ∀ l : List Bd, A5q l ≤ 3 * cnL Bd.cn l
  | [] => by simp [A5q]
  | ⟨v, .mk f u ks⟩ :: r => by
    have h := a5Yq r
    have e : Bd.cn ⟨v, .mk f u ks⟩ = Tm.cns ks := by simp [Bd.cn, Tm.cn]
    rw [a28q, a9Uq, e]
    simp only [W0q]
    omega
theorem a4Sq (x : Bd) (hc : x.cn ≤ 1048576) : XC Try.prog 82 [.dat x.da] [] (.agg [.d (.int .i64 x.v), .d (.int .i64 x.t.f), .d (.int .i64 x.t.v), .ol 0]) [(0, .tr 31 3 (Tm.das x.t.ks))] := by
  have h1 := N7q x.t hc
  obtain ⟨v, ⟨f, u, ks⟩⟩ := x
  apply a33q
  exact ⟨_, _, _, h1, rfl, rfl⟩
theorem a4cq (l : List Bd) (hc : cnL Bd.cn l ≤ 1048576) : XC Try.prog 33 [L (l.map Bd.da)] [] (.one (.ol 0)) [(0, .tr 117 4 (l.map Bd.da))] := by
  have hl := i5q Bd.cn l
  apply a2tq
  refine ⟨l.length, l.length, by simp, by simp, ⟨by omega, by omega, by omega⟩, ?_⟩
  have key := q2q (p := fun i => r2q (.one (.ol 0)) [(0, .tr 117 4 (l.map Bd.da))] (l.map Bd.da) (i : Int) ((l.map Bd.da).take i ++ List.replicate ((l.map Bd.da).length - i) [.int .i64 0, .int .i64 0, .int .i64 0, .sl []])) l.length ?_ ?_ 0 (Nat.zero_le _)
  · rw [List.take_zero, List.nil_append, Nat.sub_zero, List.length_map] at key
    exact key
  · apply J3q
    refine a4q (j0q (by simp)) ⟨rfl, ?_⟩
    rw [V0q rfl (by simp)]
  · intro i hi ih
    obtain ⟨x, hx⟩ := g8q hi
    have hx1 := t3q (g := Bd.da) hx
    have hm := o1q (cn := Bd.cn) (List.mem_of_getElem? hx)
    have hxc := a4Sq x (by omega)
    have hd := Bd.da_len x
    obtain ⟨v, ⟨f, u, ks⟩⟩ := x
    apply J3q
    refine b3q (l0q (by simpa using hi)) ⟨i, rfl, _, _, _, _, hx1, _, _, _, _, hxc, i, rfl, ⟨by simp; omega⟩, i, by omega, _, _, _, _, X0q rfl (by simpa using hi), ?_⟩
    rw [wr1 hi (by omega)]
    have he := O6q (z := [.int .i64 0, .int .i64 0, .int .i64 0, .sl []]) (n := (l.map Bd.da).length) rfl hx1 hd rfl
    exact he ▸ ih
def p0q : List Bd → Int → Tm
  | [], v => .mk (-1) v []
  | b :: r, v => if b.v = v then b.t else p0q r v
def G8q : List Bd → Int → Tm × Bool
  | [], _ => (.mk 0 0 [], false)
  | b :: r, v => if b.v = v then (b.t, true) else G8q r v
theorem a3Iq : ∀ (u : List Bd) (v : Int), p0q u v = if (G8q u v).2 then (G8q u v).1 else .mk (-1) v []
  | [], v => rfl
  | b :: r, v => by
    unfold p0q G8q; split
    · rfl
    · exact a3Iq r v
theorem a1kq : ∀ (u : List Bd) (v : Int), (p0q u v).cn ≤ cnL Bd.cn u
  | [], v => by simp [p0q, Tm.cn, Tm.cns]
  | b :: r, v => by
    have h := a1kq r v
    have e : cnL Bd.cn (b :: r) = 1 + b.t.cn + cnL Bd.cn r := by simp [cnL, Bd.cn]; omega
    unfold p0q; split
    · omega
    · omega
mutual
def fil (u : List Bd) : Tm → Tm
  | .mk f v ks => if f = -1 ∧ ks.length = 0 then p0q u v else .mk f v (fils u ks)
def fils (u : List Bd) : List Tm → List Tm
  | [] => []
  | t :: r => fil u t :: fils u r
end
theorem X5q (u : List Bd) (l : List Tm) : fils u l = l.map (fil u) := by induction l <;> simp_all [fils]
mutual
theorem a1Xq (u : List Bd) : ∀ t : Tm, (fil u t).cn + 1 ≤ (t.cn + 1) * (cnL Bd.cn u + 1)
  | .mk f v ks => by
    have h := fils_cns u ks
    have hl := a1kq u v
    simp only [fil, Tm.cn]
    rw [Nat.add_mul, Nat.one_mul]
    split
    · omega
    · simp only [Tm.cn]; omega
theorem fils_cns (u : List Bd) : ∀ l : List Tm, Tm.cns (fils u l) ≤ Tm.cns l * (cnL Bd.cn u + 1)
  | [] => by simp [fils, Tm.cns]
  | t :: r => by
    have h1 := a1Xq u t
    have h2 := fils_cns u r
    have e : Tm.cns (t :: r) = (t.cn + 1) + Tm.cns r := by simp [Tm.cns]; omega
    rw [e, Nat.add_mul]
    simp only [fils, Tm.cns]
    omega
end
theorem a3oq {u : List Bd} {t : Tm} (h1 : t.cn ≤ 1048576) (h2 : cnL Bd.cn u ≤ 1048576) : (fil u t).cn ≤ 1099513724928 := by
  have h := a1Xq u t
  have := Nat.mul_le_mul (show t.cn + 1 ≤ 1048577 by omega) (show cnL Bd.cn u + 1 ≤ 1048577 by omega)
  omega
theorem X8q (u : List Bd) (hu : cnL Bd.cn u ≤ 1048576) (v : Int) : ∀ (q p : List Bd), u = p ++ q → y2q (.dat (p0q q v).da) [] (u.map Bd.da) v (p.length : Int) 0 0
  | [], p, e => by
    apply Q4q
    subst e
    exact a4q (j0q (by simp)) ⟨_, _, _, a4eq ⟨rfl, rfl⟩, rfl, rfl⟩
  | b :: q, p, e => by
    have ih := X8q u hu v q (p ++ [b]) (by simp [e])
    have hl := i5q Bd.cn u
    have hm := o1q (cn := Bd.cn) (l := u) (x := b) (by simp [e])
    have hbc : b.cn = b.t.cn := rfl
    have hx : (u.map Bd.da)[p.length]? = some b.da := by rw [e]; exact k2q
    have hlt : p.length < u.length := by rw [e]; simp
    have hw : IntKind.wrap .i64 ((p.length : Int) + 1) = ((p.length + 1 : Nat) : Int) := wr1 hlt (by omega)
    have c := a6lq b.t (by omega)
    rw [n1q] at ih
    obtain ⟨w, ⟨f, x, ks⟩⟩ := b
    apply Q4q
    rw [hw]
    refine b3q (l0q (by simpa using hlt)) ⟨p.length, rfl, _, _, _, _, hx, ?_⟩
    by_cases h : w = v
    · refine b3q (decide_eq_true h) ⟨p.length, rfl, _, _, _, _, hx, _, _, _, c, ?_, rfl⟩
      simp [p0q, h, Tm.da]
    · refine a4q (decide_eq_false h) ?_
      have e2 : p0q (⟨w, .mk f x ks⟩ :: q) v = p0q q v := by simp [p0q, h]
      rw [e2]
      exact ih
theorem a42q (u : List Bd) (hu : cnL Bd.cn u ≤ 1048576) (v : Int) : XC Try.prog 122 [L (u.map Bd.da), Z v] [] (.dat (p0q u v).da) [] := by
  apply a5Rq
  exact X8q u hu v u [] rfl
theorem a27q (u : List Bd) (hl : u.length ≤ 1048576) (v : Int) : ∀ (q p : List Bd), u = p ++ q → w0q (.tup [.dat (G8q q v).1.da, B (G8q q v).2]) [] v (u.map Bd.da) (u.length : Int) (p.length : Int) 0 0
  | [], p, e => by
    apply N4q
    subst e
    exact a4q (j0q (by simp)) ⟨rfl, rfl⟩
  | b :: q, p, e => by
    have ih := a27q u hl v q (p ++ [b]) (by simp [e])
    have hx : (u.map Bd.da)[p.length]? = some b.da := by rw [e]; exact k2q
    have hlt : p.length < u.length := by rw [e]; simp
    have hw : IntKind.wrap .i64 ((p.length : Int) + 1) = ((p.length + 1 : Nat) : Int) := wr1 hlt (by omega)
    rw [n1q] at ih
    obtain ⟨w, ⟨f, x, ks⟩⟩ := b
    apply N4q
    rw [hw]
    refine b3q (l0q hlt) ⟨p.length, rfl, _, _, _, _, hx, ?_⟩
    by_cases h : w = v
    · refine b3q (decide_eq_true h) ⟨?_, rfl⟩
      simp [G8q, h, Tm.da]
    · refine a4q (decide_eq_false h) ?_
      have e2 : G8q (⟨w, .mk f x ks⟩ :: q) v = G8q q v := by simp [G8q, h]
      rw [e2]
      exact ih
theorem a7cq (u : List Bd) (hl : u.length ≤ 1048576) (v : Int) : XC Try.prog 138 [L (u.map Bd.da), Z v] [] (.tup [.dat (G8q u v).1.da, B (G8q u v).2]) [] := by
  apply a4rq
  rw [List.length_map]
  exact a27q u hl v u [] rfl
theorem a4Fq (u : List Bd) (hu : cnL Bd.cn u ≤ 1048576) (v : Int) : XC Try.prog 124 [L (u.map Bd.da), Z v] [] (.agg [.d (.int .i64 (p0q u v).f), .d (.int .i64 (p0q u v).v), .ol 0]) [(0, .tr 31 3 (Tm.das (p0q u v).ks))] := by
  have hl := i5q Bd.cn u
  have h1 := a7cq u (by omega) v
  have hlc := a1kq u v
  rw [a3Iq] at hlc ⊢
  generalize G8q u v = tb at *
  obtain ⟨t, b⟩ := tb
  dsimp only at h1 hlc ⊢
  cases b with
  | false =>
    obtain ⟨f, x, ks⟩ := t
    apply a0sq
    exact ⟨_, _, _, _, h1, b3q rfl ⟨_, _, a1yq ⟨rfl, rfl⟩, rfl, rfl⟩⟩
  | true =>
    have c := a4xq t (by simp at hlc; omega)
    obtain ⟨f, x, ks⟩ := t
    apply a0sq
    exact ⟨_, _, _, _, h1, a4q rfl ⟨_, _, _, c, rfl, rfl⟩⟩
theorem a2jq (u : List Bd) (f v : Int) (ks : List Tm) (hc : ks.length ≤ 1048576) : ∀ (q p : List Tm), ks = p ++ q → (∀ t ∈ q, XC Try.prog 111 [L (u.map Bd.da), .dat t.da] [] (.dat (fil u t).da) []) → q8q (.dat (Tm.mk f v (fils u ks)).da) [] (u.map Bd.da) (p.length : Int) f v (Tm.das ks) 0 0 f v (Tm.das (fils u p))
  | [], p, e, _ => by
    apply N8q
    subst e
    exact a4q (j0q (by simp [c5q])) ⟨by simp [Tm.da], rfl⟩
  | y :: q, p, e, ht => by
    have ih := a2jq u f v ks hc q (p ++ [y]) (by simp [e]) (fun t h => ht t (List.mem_cons_of_mem _ h))
    have c := ht y (by simp)
    have hx : (Tm.das ks)[p.length]? = some y.da := by rw [e]; exact w2q
    have hlt : p.length < ks.length := by rw [e]; simp
    have hw : IntKind.wrap .i64 ((p.length : Int) + 1) = ((p.length + 1 : Nat) : Int) := wr1 hlt (by omega)
    have hb : ((Tm.das (fils u p)).length + 1) * 40 ≤ 140737488355328 := by rw [c5q, X5q, List.length_map]; omega
    have e2 : Tm.das (fils u (p ++ [y])) = Tm.das (fils u p) ++ [(fil u y).da] := by simp [X5q, Tm.das_map]
    rw [n1q, e2] at ih
    generalize fil u y = z at *
    obtain ⟨g, x, ms⟩ := y
    obtain ⟨g', x', ms'⟩ := z
    apply N8q
    rw [hw]
    exact b3q (l0q (by rw [c5q]; exact hlt)) ⟨p.length, rfl, _, _, _, hx, _, _, _, c, ⟨hb⟩, ih⟩
theorem a84q (u : List Bd) (hu : cnL Bd.cn u ≤ 1048576) (t : Tm) : t.cn ≤ 1048576 → XC Try.prog 111 [L (u.map Bd.da), .dat t.da] [] (.dat (fil u t).da) [] := by
  induction t using Tm.ind with
  | h f v ks ih =>
  intro hc
  have hcn : (Tm.mk f v ks).cn = Tm.cns ks := by simp [Tm.cn]
  rw [hcn] at hc
  have hkl := Tm.cns_cnL ks ▸ i5q Tm.cn ks
  have lp := a2jq u f v ks (by omega) ks [] rfl (fun t ht => ih t ht (by have := Tm.cns_cnL ks ▸ o1q (cn := Tm.cn) ht; omega))
  have lk := a42q u hu v
  apply a43q
  by_cases hf : f = -1
  · refine b3q (decide_eq_true hf) ?_
    by_cases hk : ks.length = 0
    · have e : fil u (.mk f v ks) = p0q u v := by rw [fil, if_pos ⟨hf, hk⟩]
      rw [e]
      refine b3q (by rw [c5q]; simp [hk]) ?_
      generalize p0q u v = z at *
      obtain ⟨g, x, ms⟩ := z
      exact ⟨_, _, _, lk, rfl, rfl⟩
    · have e : fil u (.mk f v ks) = .mk f v (fils u ks) := by rw [fil, if_neg (fun h => hk h.2)]
      rw [e]
      exact a4q (by rw [c5q]; simp [hk]) lp
  · have e : fil u (.mk f v ks) = .mk f v (fils u ks) := by rw [fil, if_neg (fun h => hf h.1)]
    rw [e]
    exact a4q (decide_eq_false hf) lp
theorem a14q (u : List Bd) (f v : Int) (ks : List Tm) (hc : ks.length ≤ 1048576) : ∀ (q p : List Tm), ks = p ++ q → (∀ t ∈ q, XC Try.prog 113 [L (u.map Bd.da), .dat t.da] [] (.agg [.d (.int .i64 (fil u t).f), .d (.int .i64 (fil u t).v), .ol 0]) [(0, .tr 31 3 (Tm.das (fil u t).ks))]) → p2q (.agg [.d (.int .i64 f), .d (.int .i64 v), .ol 0]) [(0, .tr 31 3 (Tm.das (fils u ks)))] (u.map Bd.da) (Tm.das ks) (ks.length : Int) (p.length : Int) f v (Tm.das ks) 0 0 (Tm.das (fils u p))
  | [], p, e, _ => by
    apply L0q
    subst e
    exact a4q (j0q (by simp)) ⟨rfl, by simp⟩
  | y :: q, p, e, ht => by
    have ih := a14q u f v ks hc q (p ++ [y]) (by simp [e]) (fun t h => ht t (List.mem_cons_of_mem _ h))
    have c := ht y (by simp)
    have hx : (Tm.das ks)[p.length]? = some y.da := by rw [e]; exact w2q
    have hlt : p.length < ks.length := by rw [e]; simp
    have hw : IntKind.wrap .i64 ((p.length : Int) + 1) = ((p.length + 1 : Nat) : Int) := wr1 hlt (by omega)
    have hb : ((Tm.das (fils u p)).length + 1) * 40 ≤ 140737488355328 := by rw [c5q, X5q, List.length_map]; omega
    have e2 : Tm.das (fils u (p ++ [y])) = Tm.das (fils u p) ++ [(fil u y).da] := by simp [X5q, Tm.das_map]
    rw [n1q, e2] at ih
    generalize fil u y = z at *
    obtain ⟨g, x, ms⟩ := y
    obtain ⟨g', x', ms'⟩ := z
    apply L0q
    rw [hw]
    exact b3q (l0q hlt) ⟨p.length, rfl, _, _, _, hx, _, _, _, c, ⟨hb⟩, ih⟩
theorem a6iq (u : List Bd) (hu : cnL Bd.cn u ≤ 1048576) (t : Tm) : t.cn ≤ 1048576 → XC Try.prog 113 [L (u.map Bd.da), .dat t.da] [] (.agg [.d (.int .i64 (fil u t).f), .d (.int .i64 (fil u t).v), .ol 0]) [(0, .tr 31 3 (Tm.das (fil u t).ks))] := by
  induction t using Tm.ind with
  | h f v ks ih =>
  intro hc
  have hcn : (Tm.mk f v ks).cn = Tm.cns ks := by simp [Tm.cn]
  rw [hcn] at hc
  have hkl := Tm.cns_cnL ks ▸ i5q Tm.cn ks
  have lp := a14q u f v ks (by omega) ks [] rfl (fun t ht => ih t ht (by have := Tm.cns_cnL ks ▸ o1q (cn := Tm.cn) ht; omega))
  have lk := a4Fq u hu v
  apply a3xq
  rw [c5q]
  refine ⟨_, a6Qq (.mk f v ks), ?_⟩
  by_cases hf : f = -1
  · refine b3q (decide_eq_true hf) ?_
    by_cases hk : ks.length = 0
    · have e : fil u (.mk f v ks) = p0q u v := by rw [fil, if_pos ⟨hf, hk⟩]
      rw [e]
      exact b3q (by simp [hk]) ⟨_, _, _, lk, rfl, rfl⟩
    · have e : fil u (.mk f v ks) = .mk f v (fils u ks) := by rw [fil, if_neg (fun h => hk h.2)]
      rw [e]
      exact a4q (by simp [hk]) lp
  · have e : fil u (.mk f v ks) = .mk f v (fils u ks) := by rw [fil, if_neg (fun h => hf h.1)]
    rw [e]
    exact a4q (decide_eq_false hf) lp
def o2q (s : List Sy) (u : List Bd) (t : Tm) : Tm := nrm s (fil u t)
theorem a0Gq {s : List Sy} {u : List Bd} {t : Tm} (h1 : t.cn ≤ 1048576) (h2 : cnL Bd.cn u ≤ 1048576) : (o2q s u t).cn ≤ 1099513724928 := Nat.le_trans (J0q s _) (a3oq h1 h2)
def l9q (s : List Sy) (u : List Bd) (x : Li) : Li := lmk s x.p (o2q s u x.l) (o2q s u x.r)
theorem T3q (s : List Sy) (hs : s.length ≤ 10000000) (u : List Bd) (hu : cnL Bd.cn u ≤ 1048576) (t : Tm) (hc : t.cn ≤ 1048576) : XC Try.prog 81 [L (s.map Sy.da), L (u.map Bd.da), .dat t.da] [] (.dat (o2q s u t).da) [] := by
  have h1 := a84q u hu t hc
  have h2 := J8q s hs (fil u t) (by have := a3oq hc hu; omega)
  unfold o2q
  generalize nrm s (fil u t) = y at *
  generalize fil u t = x at *
  obtain ⟨f, v, ks⟩ := t
  obtain ⟨f', v', ks'⟩ := x
  obtain ⟨g, w, ms⟩ := y
  apply a4tq
  exact ⟨_, _, _, h1, _, _, _, h2, rfl, rfl⟩
theorem U6q (s : List Sy) (hs : s.length ≤ 10000000) (u : List Bd) (hu : cnL Bd.cn u ≤ 1048576) (t : Tm) (hc : t.cn ≤ 1048576) : XC Try.prog 84 [L (s.map Sy.da), L (u.map Bd.da), .dat t.da] [] (.agg [.d (.int .i64 (o2q s u t).f), .d (.int .i64 (o2q s u t).v), .ol 0]) [(0, .tr 31 3 (Tm.das (o2q s u t).ks))] := by
  have h1 := a6iq u hu t hc
  have h2 := K2q s hs (fil u t) (by have := a3oq hc hu; omega)
  unfold o2q
  generalize nrm s (fil u t) = y at *
  generalize fil u t = x at *
  obtain ⟨f, v, ks⟩ := t
  obtain ⟨f', v', ks'⟩ := x
  obtain ⟨g, w, ms⟩ := y
  apply a3Zq
  exact ⟨_, _, _, h1, _, _, _, h2, rfl, rfl⟩
theorem a0Wq (s : List Sy) (hs : s.length ≤ 10000000) (u : List Bd) (hu : cnL Bd.cn u ≤ 1048576) (x : Li) (hc : x.cn ≤ 1048576) : XC Try.prog 32 [L (s.map Sy.da), L (u.map Bd.da), .dat x.da] [] (.dat (l9q s u x).da) [] := by
  have h0 : x.cn = x.l.cn + x.r.cn := rfl
  have h1 := T3q s hs u hu x.l (by omega)
  have h2 := T3q s hs u hu x.r (by omega)
  have h3 := O4q s hs x.p (o2q s u x.l) (o2q s u x.r) (by have := a0Gq (s := s) (u := u) (t := x.l) (by omega) hu; omega) (by have := a0Gq (s := s) (u := u) (t := x.r) (by omega) hu; omega)
  unfold l9q
  generalize lmk s x.p (o2q s u x.l) (o2q s u x.r) = z at *
  generalize o2q s u x.l = a at *
  generalize o2q s u x.r = b at *
  obtain ⟨p, ⟨f, v, ks⟩, ⟨g, w, ms⟩⟩ := x
  obtain ⟨f1, v1, k1⟩ := a
  obtain ⟨f2, v2, k2⟩ := b
  obtain ⟨p3, ⟨f3, v3, k3⟩, ⟨f4, v4, k4⟩⟩ := z
  apply a1uq
  exact ⟨_, _, _, h1, _, _, _, h2, _, _, _, _, _, _, _, h3, rfl, rfl⟩
theorem a11q (s : List Sy) (hs : s.length ≤ 10000000) (u : List Bd) (hu : cnL Bd.cn u ≤ 1048576) (x : Li) (hc : x.cn ≤ 1048576) : XC Try.prog 35 [L (s.map Sy.da), L (u.map Bd.da), .dat x.da] [] (.agg [.d (.bool (l9q s u x).p), .d (.int .i64 (l9q s u x).l.f), .d (.int .i64 (l9q s u x).l.v), .ol 0, .d (.int .i64 (l9q s u x).r.f), .d (.int .i64 (l9q s u x).r.v), .ol 1]) [(0, .tr 31 3 (Tm.das (l9q s u x).l.ks)), (1, .tr 31 3 (Tm.das (l9q s u x).r.ks))] := by
  have h0 : x.cn = x.l.cn + x.r.cn := rfl
  have h1 := U6q s hs u hu x.l (by omega)
  have h2 := U6q s hs u hu x.r (by omega)
  have h3 := O3q s hs x.p (o2q s u x.l) (o2q s u x.r) (by have := a0Gq (s := s) (u := u) (t := x.l) (by omega) hu; omega) (by have := a0Gq (s := s) (u := u) (t := x.r) (by omega) hu; omega)
  unfold l9q
  generalize lmk s x.p (o2q s u x.l) (o2q s u x.r) = z at *
  generalize o2q s u x.l = a at *
  generalize o2q s u x.r = b at *
  obtain ⟨p, ⟨f, v, ks⟩, ⟨g, w, ms⟩⟩ := x
  obtain ⟨f1, v1, k1⟩ := a
  obtain ⟨f2, v2, k2⟩ := b
  obtain ⟨p3, ⟨f3, v3, k3⟩, ⟨f4, v4, k4⟩⟩ := z
  apply a1oq
  exact ⟨_, _, _, h1, _, _, _, h2, _, _, _, _, _, _, _, h3, rfl, rfl⟩
def m4q {α : Type} (cmp : α → α → Int) (x : α) : List α → List α
  | [] => [x]
  | y :: r => if cmp y x < 0 then y :: m4q cmp x r else if cmp y x = 0 then y :: r else x :: y :: r
def H1q {α : Type} (cmp : α → α → Int) (l : List α) : List α := l.foldl (fun a x => m4q cmp x a) []
def l5q {β : Type} (eq : β → β → Bool) : β → List β → List β
  | _, [] => []
  | p, y :: r => if eq y p then l5q eq y r else y :: l5q eq y r
def J7q {β : Type} (eq : β → β → Bool) : List β → List β
  | [] => []
  | x :: r => x :: l5q eq x r
abbrev SsC {α : Type} (cmp : α → α → Int) (l : List α) : Prop := l.Pairwise (fun a b => cmp a b < 0)
section
variable {α : Type} {cmp : α → α → Int}
theorem TotC.lt_tr (h : TotC cmp) {a b c : α} (h1 : cmp a b < 0) (h2 : cmp b c ≤ 0) : cmp a c < 0 := by
  have h3 := h.tr a b c (by omega) h2
  by_cases h4 : cmp a c = 0
  · have := h.eq a c h4
    subst this
    have := h.neg a b
    omega
  · omega
theorem TotC.self (h : TotC cmp) (a : α) : cmp a a = 0 := by have := h.neg a a; omega
theorem a1Fq (h : TotC cmp) {x y : α} : ∀ {l : List α}, y ∈ m4q cmp x l ↔ y = x ∨ y ∈ l
  | [] => by simp [m4q]
  | z :: r => by
    have ih := a1Fq h (x := x) (y := y) (l := r)
    unfold m4q
    split
    · rw [List.mem_cons, ih, List.mem_cons]
      constructor <;> rintro (h | h | h) <;> simp [h]
    · split
      · rename_i h2
        have := h.eq _ _ h2
        subst this
        simp
      · simp
theorem a75q (h : TotC cmp) {x : α} : ∀ {l : List α}, SsC cmp l → SsC cmp (m4q cmp x l)
  | [], _ => by simp [m4q, SsC]
  | z :: r, hs => by
    obtain ⟨h1, h2⟩ := List.pairwise_cons.1 hs
    unfold m4q
    split
    · rename_i hz
      refine List.pairwise_cons.2 ⟨fun w hw => ?_, a75q h h2⟩
      rcases (a1Fq h).1 hw with rfl | hw
      · exact hz
      · exact h1 w hw
    · split
      · exact hs
      · have hxz : cmp x z < 0 := by have := h.neg x z; omega
        refine List.pairwise_cons.2 ⟨fun w hw => ?_, hs⟩
        rcases List.mem_cons.1 hw with rfl | hw
        · exact hxz
        · exact h.lt_tr hxz (by have := h1 w hw; omega)
theorem aamq (h : TotC cmp) (l : List α) : ∀ a : List α, SsC cmp a → SsC cmp (l.foldl (fun a x => m4q cmp x a) a) ∧ ∀ y, y ∈ l.foldl (fun a x => m4q cmp x a) a ↔ y ∈ l ∨ y ∈ a := by
  induction l with
  | nil => intro a ha; exact ⟨ha, by simp⟩
  | cons x r ih =>
    intro a ha
    obtain ⟨h1, h2⟩ := ih _ (a75q h ha)
    refine ⟨h1, fun y => ?_⟩
    rw [List.foldl_cons, h2, a1Fq h, List.mem_cons]
    constructor
    · rintro (h | h | h) <;> simp [h]
    · rintro ((h | h) | h) <;> simp [h]
theorem a6Zq (h : TotC cmp) : ∀ {a b : List α}, SsC cmp a → SsC cmp b → (∀ x, x ∈ a ↔ x ∈ b) → a = b
  | [], [], _, _, _ => rfl
  | [], y :: s, _, _, hm => by have := (hm y).2 (by simp); simp at this
  | x :: r, [], _, _, hm => by have := (hm x).1 (by simp); simp at this
  | x :: r, y :: s, ha, hb, hm => by
    obtain ⟨a1, a2⟩ := List.pairwise_cons.1 ha
    obtain ⟨b1, b2⟩ := List.pairwise_cons.1 hb
    have hxy : x = y := by
      rcases List.mem_cons.1 ((hm x).1 (by simp)) with e | h1
      · exact e
      · rcases List.mem_cons.1 ((hm y).2 (by simp)) with e | h2
        · exact e.symm
        · have := a1 y h2; have := b1 x h1; have := h.neg x y; omega
    subst hxy
    rw [a6Zq h a2 b2 fun z => ?_]
    have := hm z
    rw [List.mem_cons, List.mem_cons] at this
    constructor
    · intro hz
      rcases this.1 (.inr hz) with e | h1
      · subst e; have := a1 z hz; have := h.self z; omega
      · exact h1
    · intro hz
      rcases this.2 (.inr hz) with e | h1
      · subst e; have := b1 z hz; have := h.self z; omega
      · exact h1
theorem a5wq {eq : α → α → Bool} (he : ∀ a b, eq a b = true → a = b) {y : α} : ∀ {l : List α} {p : α}, (y ∈ l5q eq p l → y ∈ l) ∧ (y ∈ l → y = p ∨ y ∈ l5q eq p l)
  | [], p => by simp [l5q]
  | x :: r, p => by
    obtain ⟨h1, h2⟩ := a5wq he (y := y) (l := r) (p := x)
    unfold l5q
    split
    · rename_i h3
      have := he _ _ h3
      subst this
      exact ⟨fun h => List.mem_cons_of_mem _ (h1 h), fun h => by
        rcases List.mem_cons.1 h with h | h
        · exact .inl h
        · exact h2 h⟩
    · refine ⟨fun h => ?_, fun h => ?_⟩
      · rcases List.mem_cons.1 h with h | h
        · simp [h]
        · exact List.mem_cons_of_mem _ (h1 h)
      · rcases List.mem_cons.1 h with h | h
        · simp [h]
        · rcases h2 h with h | h <;> simp [h]
theorem a79q (h : TotC cmp) {eq : α → α → Bool} (he : ∀ a b, eq a b = decide (cmp a b = 0)) : ∀ {l : List α} {p : α}, SdC cmp (p :: l) → SsC cmp (p :: l5q eq p l)
  | [], p, _ => by simp [l5q, SsC]
  | x :: r, p, hs => by
    obtain ⟨h1, h2⟩ := List.pairwise_cons.1 hs
    have ih := a79q h he h2
    unfold l5q
    split
    · rename_i h3
      rw [he, decide_eq_true_eq] at h3
      have := h.eq _ _ h3
      subst this
      exact ih
    · rename_i h3
      rw [he, decide_eq_true_eq] at h3
      have hpx : cmp p x < 0 := by have := h1 x (by simp); have := h.neg p x; omega
      refine List.pairwise_cons.2 ⟨fun w hw => ?_, ih⟩
      rcases List.mem_cons.1 hw with rfl | hw
      · exact hpx
      · exact h.lt_tr hpx (by have := (List.pairwise_cons.1 ih).1 w hw; omega)
theorem a7Qq (h : TotC cmp) {eq : α → α → Bool} (he : ∀ a b, eq a b = decide (cmp a b = 0)) (l : List α) : J7q eq (n5q cmp l) = H1q cmp l := by
  obtain ⟨h1, h2⟩ := aamq h l [] (by simp [SsC])
  have hs := a1Hq h l
  have hp := v6q cmp l
  have hee : ∀ a b, eq a b = true → a = b := fun a b e => h.eq a b (by simpa [he] using e)
  generalize n5q cmp l = s at hs hp
  refine a6Zq h ?_ h1 fun x => ?_
  · cases s with
    | nil => simp [J7q, SsC]
    | cons p r => exact a79q h he hs
  · rw [H1q, h2, ← hp.mem_iff]
    cases s with
    | nil => simp [J7q]
    | cons p r =>
      obtain ⟨g1, g2⟩ := a5wq hee (y := x) (l := r) (p := p)
      simp only [J7q, List.mem_cons, List.not_mem_nil, or_false]
      constructor
      · rintro (h | h)
        · exact .inl h
        · exact .inr (g1 h)
      · rintro (h | h)
        · exact .inl h
        · exact g2 h
theorem a3Sq {β : Type} (eq : β → β → Bool) : ∀ (l : List β) (p : β), ∃ r, (l5q eq p l ++ r).Perm l
  | [], p => ⟨[], by simp [l5q]⟩
  | y :: l, p => by
    obtain ⟨r, h⟩ := a3Sq eq l y
    unfold l5q
    split
    · exact ⟨y :: r, List.perm_middle.trans (h.cons y)⟩
    · exact ⟨r, h.cons y⟩
theorem a53q {β γ : Type} (g : β → γ) (eq : γ → γ → Bool) : ∀ (l : List β) (p : β), (l5q (fun a b => eq (g a) (g b)) p l).map g = l5q eq (g p) (l.map g)
  | [], p => rfl
  | y :: l, p => by
    have h := a53q g eq l y
    simp only [l5q, List.map_cons]
    split
    · exact h
    · rw [List.map_cons, h]
theorem a4Qq {cn : α → Nat} {x : α} : ∀ l : List α, (((m4q cmp x l).map cn).sum + (m4q cmp x l).length) ≤ cn x + 1 + ((l.map cn).sum + l.length)
  | [] => by simp [m4q]
  | y :: r => by
    have h := a4Qq (cn := cn) (x := x) r
    unfold m4q; split
    · simp only [List.map_cons, List.sum_cons, List.length_cons]; omega
    · split <;> simp only [List.map_cons, List.sum_cons, List.length_cons] <;> omega
end
theorem a5iq (a b : Li) : XC Try.prog 87 [.dat a.da, .dat b.da] [] (B (decide (Li.cmp a b = 0))) [] := by
  have h1 := A9q a.l b.l
  have h2 := A9q a.r b.r
  obtain ⟨p, ⟨f, v, ks⟩, ⟨g, u, ls⟩⟩ := a
  obtain ⟨p', ⟨f', v', ks'⟩, ⟨g', u', ls'⟩⟩ := b
  apply a1Vq
  refine i9q (fun h => ⟨_, h1, a0dq (fun h3 => ⟨_, h2, bE ?_⟩) fun h3 => bE ?_⟩) fun h => bE ?_
  · subst h
    have h3 : Tm.cmp (.mk f v ks) (.mk f' v' ks') = 0 := by simpa using h3
    simp only [Li.cmp, if_true, if_pos h3]
  · subst h
    have h3 : ¬ Tm.cmp (.mk f v ks) (.mk f' v' ks') = 0 := by simpa using h3
    simp only [Li.cmp, if_true, if_neg h3]
    simp [h3]
  · simp only [Li.cmp, if_neg h]
    cases p <;> cases p' <;> simp_all
def a2Fq (a b : Li) : Bool := decide (Li.cmp a b = 0)
def o8q (a b : List Da × Li) : Bool := a2Fq a.2 b.2
theorem a1fq {z w : List Da × Li} (hz : TgP Li.da z) (hw : TgP Li.da w) : XC Try.prog 91 [.dat z.1, .dat w.1] [] (B (o8q z w)) [] := XC.ut (by
  show XC _ _ [.dat (Da.utL z.1), .dat (Da.utL w.1)] _ _ _
  rw [hz.ut Li.ut_da, hw.ut Li.ut_da]; exact a1Kq _ _)
theorem a94q : ∀ (R F G : List (List Da × Li)) (y : List Da × Li) (K j : Nat), (∀ z ∈ F ++ G ++ y :: R, TgP Li.da z) → K + j = F.length + G.length + 1 → 1 ≤ j → (F ++ G ++ y :: R).length ≤ 3000000000000 → f2q (.one (.ol 0)) [(0, .lst 61 7 ((F ++ l5q o8q y R).map (·.1)))] (F.length : Int) K (j + R.length) (j : Int) ((F ++ G ++ y :: R).map (·.1)) := by
  intro R
  induction R with
  | nil =>
    intro F G y K j ht hK hj hl
    apply m3q
    refine a4q (decide_eq_false (by simp)) ⟨F.length, rfl, ⟨by simp, Nat.le_refl _⟩, ⟨by simp⟩, F.length, rfl, ⟨by omega, by simp⟩, ⟨by simp⟩, rfl, ?_⟩
    simp [l5q, List.take_append, y5q]
  | cons x R ih =>
    intro F G y K j ht hK hj hl
    have hlen : (F ++ G ++ y :: x :: R).length = F.length + G.length + R.length + 2 := by simp; omega
    have hx := ht x (by simp)
    have hy := ht y (by simp)
    have c := a1fq hx hy
    obtain ⟨b, n1, n2, d, n3, n4, d1, ex⟩ := hx.lit
    obtain ⟨b', m1, m2, d', m3, m4, d1', ey⟩ := hy.lit
    have gx : ((F ++ G ++ y :: x :: R).map (·.1))[K + j]? = some x.1 := by
      have h := k2q (g := fun z : List Da × Li => z.1) (p := F ++ G ++ [y]) (x := x) (q := R)
      rw [show (F ++ G ++ [y]).length = K + j by simp; omega] at h
      simpa using h
    have gy : ((F ++ G ++ y :: x :: R).map (·.1))[K + (j - 1)]? = some y.1 := by
      have h := k2q (g := fun z : List Da × Li => z.1) (p := F ++ G) (x := y) (q := x :: R)
      rw [show (F ++ G).length = K + (j - 1) by simp; omega] at h
      exact h
    have w0 : IntKind.wrap .i64 ((j : Int) - 1) = ((j - 1 : Nat) : Int) := by rw [wrI (by omega) (by omega)]; omega
    have w1 : IntKind.wrap .i64 ((j : Int) + 1) = ((j + 1 : Nat) : Int) := by rw [wrI (by omega) (by omega)]; omega
    have w2 : IntKind.wrap .i64 ((F.length : Int) + 1) = ((F.length + 1 : Nat) : Int) := by rw [wrI (by omega) (by omega)]; omega
    have gx2 := gx
    rw [ex] at c gx2
    rw [ey] at c gy
    apply m3q
    rw [w0, w1, w2]
    refine b3q (decide_eq_true (by simp; omega)) ⟨j, rfl, ⟨by simp⟩, K + j, rfl, _, _, _, _, _, _, _, gx2, j - 1, rfl, ⟨by simp; omega⟩, K + (j - 1), rfl, _, _, _, _, _, _, _, gy, _, c, ?_⟩
    by_cases hs : o8q x y = true
    · refine a4q (by simp [hs]) ?_
      have h := ih F (G ++ [y]) x K (j + 1) (by simpa using ht) (by simp; omega) (by omega) (by simp at hl ⊢; omega)
      have e1 : F ++ (G ++ [y]) ++ x :: R = F ++ G ++ y :: x :: R := by simp
      have e2 : l5q o8q y (x :: R) = l5q o8q x R := by rw [l5q, if_pos hs]
      rw [e1] at h
      rw [e2, show j + (x :: R).length = j + 1 + R.length by simp; omega]
      exact h
    · refine b3q (by simpa using hs) ?_
      obtain ⟨g, H, eG⟩ : ∃ g H, G ++ [y] = g :: H := by
        cases G with
        | nil => exact ⟨y, [], rfl⟩
        | cons g G' => exact ⟨g, G' ++ [y], rfl⟩
      have hHl : H.length = G.length := by have := congrArg List.length eG; simp at this; omega
      have e0 : F ++ G ++ y :: x :: R = F ++ g :: (H ++ x :: R) := by
        rw [show F ++ G ++ y :: x :: R = F ++ (G ++ [y]) ++ x :: R by simp, eG]; simp
      have hg := ht g (by rw [e0]; simp)
      obtain ⟨b2, k1, k2, d2, k3, k4, d3, eg⟩ := hg.lit
      have gg : ((F ++ G ++ y :: x :: R).map (·.1))[F.length]? = some g.1 := by rw [e0]; exact k2q
      rw [eg] at gg
      refine ⟨j, rfl, ⟨by simp⟩, K + j, rfl, _, _, _, _, _, _, _, gx2, F.length, rfl, ⟨by simp; omega⟩, F.length, rfl, _, _, _, _, _, _, _, gg, ?_⟩
      have h := ih (F ++ [x]) H x K (j + 1) (fun z hz => by
        apply ht z
        rw [e0]
        simp at hz ⊢
        rcases hz with h | h | h | h | h <;> simp [h]) (by simp; omega) (by omega) (by simp at hl ⊢; omega)
      have e3 : (F ++ [x] ++ H ++ x :: R).map (·.1) = ((F ++ G ++ y :: x :: R).map (·.1)).set F.length x.1 := by rw [e0]; simp [List.set_append]
      have e2 : F ++ l5q o8q y (x :: R) = F ++ [x] ++ l5q o8q x R := by rw [l5q, if_neg hs]; simp
      rw [e3, ex, show (F ++ [x]).length = F.length + 1 by simp] at h
      rw [e2, show j + (x :: R).length = j + 1 + R.length by simp; omega]
      exact h
theorem a7zq : ∀ (R P : List (List Da × Li)) (y : List Da × Li), (∀ z ∈ P ++ y :: R, TgP Li.da z) → (P ++ y :: R).length ≤ 3000000000000 → g6q (.one (.ol 0)) [(0, .lst 61 7 ((P ++ y :: l5q o8q y R).map (·.1)))] ((P.length + 1 : Nat) : Int) ((P ++ y :: R).map (·.1)) := by
  intro R
  induction R with
  | nil =>
    intro P y ht hl
    apply m2q
    exact a4q (decide_eq_false (by simp)) ⟨rfl, by simp [l5q]⟩
  | cons x R ih =>
    intro P y ht hl
    have hx := ht x (by simp)
    have hy := ht y (by simp)
    have c := a1fq hx hy
    obtain ⟨b, n1, n2, d, n3, n4, d1, ex⟩ := hx.lit
    obtain ⟨b', m1, m2, d', m3, m4, d1', ey⟩ := hy.lit
    have gx : ((P ++ y :: x :: R).map (·.1))[P.length + 1]? = some x.1 := by
      have h := k2q (g := fun z : List Da × Li => z.1) (p := P ++ [y]) (x := x) (q := R)
      rw [show (P ++ [y]).length = P.length + 1 by simp, show P ++ [y] ++ x :: R = P ++ y :: x :: R by simp] at h
      exact h
    have gy : ((P ++ y :: x :: R).map (·.1))[P.length]? = some y.1 := k2q
    have hlen : (P ++ y :: x :: R).length = P.length + R.length + 2 := by simp; omega
    have w0 : IntKind.wrap .i64 (((P.length + 1 : Nat) : Int) - 1) = (P.length : Int) := by rw [wrI (by omega) (by omega)]; omega
    have w1 : IntKind.wrap .i64 (((P.length + 1 : Nat) : Int) + 1) = ((P.length + 1 + 1 : Nat) : Int) := by rw [wrI (by omega) (by omega)]; omega
    rw [ex] at c gx
    rw [ey] at c gy
    apply m2q
    rw [w0, w1]
    refine b3q (decide_eq_true (by simp; omega)) ⟨P.length + 1, rfl, ⟨by simp⟩, P.length + 1, rfl, _, _, _, _, _, _, _, gx, P.length, rfl, ⟨by simp⟩, P.length, rfl, _, _, _, _, _, _, _, gy, _, c, ?_⟩
    by_cases hs : o8q x y = true
    · refine b3q hs ⟨P.length + 1, rfl, ⟨by simp, Nat.le_refl _⟩, ?_⟩
      have h := a94q R (P ++ [y]) [] x (P.length + 1) 1 (by simpa using ht) (by simp) (Nat.le_refl _) (by simp at hl ⊢; omega)
      have e1 : P ++ [y] ++ [] ++ x :: R = P ++ y :: x :: R := by simp
      have e2 : P ++ y :: l5q o8q y (x :: R) = P ++ [y] ++ l5q o8q x R := by rw [l5q, if_pos hs]; simp
      rw [e1, show (P ++ [y]).length = P.length + 1 by simp] at h
      rw [e2, show ((P ++ y :: x :: R).map (·.1)).length - (P.length + 1) = 1 + R.length by simp; omega, Nat.zero_add]
      exact h
    · refine a4q (by simpa using hs) ?_
      have h := ih (P ++ [y]) x (by simpa using ht) (by simp at hl ⊢; omega)
      have e1 : P ++ [y] ++ x :: R = P ++ y :: x :: R := by simp
      have e2 : P ++ y :: l5q o8q y (x :: R) = P ++ [y] ++ x :: l5q o8q x R := by rw [l5q, if_neg hs]; simp
      rw [e1, show (P ++ [y]).length = P.length + 1 by simp] at h
      rw [e2]
      exact h
theorem a6uq (zs : List (List Da × Li)) (ht : ∀ z ∈ zs, TgP Li.da z) (hl : zs.length ≤ 3000000000000) : XC Try.prog 90 [.one (.ol 2000), .one (.d (.fn 91))] [(2000, .lst 61 7 (zs.map (·.1)))] (.one (.ol 0)) [(0, .lst 61 7 ((J7q o8q zs).map (·.1)))] := by
  apply w7q
  match zs, ht, hl with
  | [], _, _ => exact b3q (by simp) ⟨rfl, rfl⟩
  | [z], _, _ => exact b3q (by simp) ⟨rfl, rfl⟩
  | z :: x :: R, ht, hl =>
    refine a4q (decide_eq_false (by simp; omega)) ?_
    exact a7zq (x :: R) [] z ht hl
theorem a9dq {β : Type} (eq : β → β → Bool) : ∀ l : List β, ∃ r, (J7q eq l ++ r).Perm l
  | [] => ⟨[], by simp [J7q]⟩
  | x :: l => by
    obtain ⟨r, h⟩ := a3Sq eq l x
    exact ⟨r, h.cons x⟩
theorem a9pq {β γ : Type} (g : β → γ) (eq : γ → γ → Bool) : ∀ l : List β, (J7q (fun a b => eq (g a) (g b)) l).map g = J7q eq (l.map g)
  | [] => rfl
  | x :: l => by
    show g x :: _ = _
    rw [a53q g eq l x]; rfl
theorem a6yq (ls : List Li) (hl : ls.length ≤ 3000000000000) : XC Try.prog 90 [.one (.ol 2000), .one (.d (.fn 91))] [(2000, .tr 61 7 (ls.map Li.da))] (.one (.ol 0)) [(0, .tr 61 7 ((J7q a2Fq ls).map Li.da))] := by
  refine a9rq fun xs' hx => ?_
  obtain ⟨zs, rfl, rfl, ht⟩ := W9q hx
  obtain ⟨r, hp⟩ := a9dq o8q zs
  refine ⟨(J7q o8q zs).map (·.1), ⟨r.map (·.1), ?_⟩, ?_, a6uq zs ht (by simpa using hl)⟩
  · rw [← List.map_append]
    exact hp.map _
  · rw [W1q fun z hz => ht z (hp.subset (List.mem_append_left _ hz))]
    congr 1
    exact a9pq (fun z : List Da × Li => z.2) a2Fq zs
def o9q (s : List Sy) (x : Li) : Li := lmk s x.p x.l x.r
def clm (s : List Sy) (ls : List Li) : List Li := H1q Li.cmp (ls.map (o9q s))
theorem abuq (s : List Sy) (x : Li) : (o9q s x).cn ≤ x.cn := a8Fq s x.p x.l x.r
theorem a5Iq (l : List Li) : ∀ a : List Li, cnL Li.cn (l.foldl (fun a x => m4q Li.cmp x a) a) ≤ cnL Li.cn a + cnL Li.cn l := by
  induction l with
  | nil => intro a; simp
  | cons x r ih =>
    intro a
    have h1 := ih (m4q Li.cmp x a)
    have h2 := a4Qq (cmp := Li.cmp) (cn := Li.cn) (x := x) a
    have e1 : cnL Li.cn (x :: r) = 1 + x.cn + cnL Li.cn r := by simp [cnL]; omega
    have e2 : cnL Li.cn a = a.length + (a.map Li.cn).sum := by simp [cnL]
    have e3 : cnL Li.cn (m4q Li.cmp x a) = (m4q Li.cmp x a).length + ((m4q Li.cmp x a).map Li.cn).sum := by simp [cnL]
    rw [List.foldl_cons]
    omega
theorem a64q (s : List Sy) (l : List Li) : cnL Li.cn (l.map (o9q s)) ≤ cnL Li.cn l := by
  induction l with
  | nil => simp
  | cons x r ih =>
    have h := abuq s x
    have e1 : cnL Li.cn (x :: r) = 1 + x.cn + cnL Li.cn r := by simp [cnL]; omega
    have e2 : cnL Li.cn ((x :: r).map (o9q s)) = 1 + (o9q s x).cn + cnL Li.cn (r.map (o9q s)) := by simp [cnL]; omega
    omega
theorem ackq (s : List Sy) (ls : List Li) : cnL Li.cn (clm s ls) ≤ cnL Li.cn ls := by
  have h1 := a5Iq (ls.map (o9q s)) []
  have h2 := a64q s ls
  have h3 : cnL Li.cn ([] : List Li) = 0 := by simp [cnL]
  unfold clm H1q
  omega
theorem G2q (s : List Sy) (hs : s.length ≤ 10000000) (ls : List Li) (hc : cnL Li.cn ls ≤ 1200000000000) : ∀ (q p : List Li), ls = p ++ q → n6q (.agg [.ol 0]) [(0, .tr 61 7 ((clm s ls).map Li.da))] (s.map Sy.da) (ls.map Li.da) (ls.length : Int) (p.length : Int) ((p.map (o9q s)).map Li.da)
  | [], p, e => by
    have hl := i5q Li.cn ls
    have c1 := a6Gq (ls.map (o9q s)) (by simp; omega)
    have c2 := a6yq (n5q Li.cmp (ls.map (o9q s))) (by rw [(v6q _ _).length_eq]; simp; omega)
    have e1 : J7q a2Fq (n5q Li.cmp (ls.map (o9q s))) = clm s ls := a7Qq a4Lq (fun _ _ => rfl) _
    rw [e1] at c2
    apply D3q
    have ep : ls = p := by simpa using e
    subst ep
    exact a4q (decide_eq_false (by omega)) ⟨_, c1, _, c2, rfl, rfl⟩
  | x :: q, p, e => by
    have ih := G2q s hs ls hc q (p ++ [x]) (by simp [e])
    have hm := o1q (cn := Li.cn) (l := ls) (x := x) (by simp [e])
    have hl := i5q Li.cn ls
    have hxc : x.cn = x.l.cn + x.r.cn := rfl
    have c := O3q s hs x.p x.l x.r (by omega) (by omega)
    have hx : (ls.map Li.da)[p.length]? = some x.da := by rw [e]; exact k2q
    have hlt : p.length < ls.length := by rw [e]; simp
    have hw : IntKind.wrap .i64 ((p.length : Int) + 1) = ((p.length + 1 : Nat) : Int) := wr1 hlt (by omega)
    have e2 : ((p ++ [x]).map (o9q s)).map Li.da = (p.map (o9q s)).map Li.da ++ [(o9q s x).da] := by simp
    have e3 : o9q s x = lmk s x.p x.l x.r := rfl
    rw [n1q, e2, e3] at ih
    generalize lmk s x.p x.l x.r = y at *
    obtain ⟨pp, ⟨f, v, ks⟩, ⟨g, u, ms⟩⟩ := x
    obtain ⟨pp', ⟨f', v', ks'⟩, ⟨g', u', ms'⟩⟩ := y
    apply D3q
    rw [hw]
    exact b3q (decide_eq_true (by omega)) ⟨p.length, rfl, _, _, _, _, _, _, _, hx, _, _, _, _, _, _, _, c, ⟨by simp; omega⟩, ih⟩
theorem Z0q (s : List Sy) (hs : s.length ≤ 10000000) (ls : List Li) (hc : cnL Li.cn ls ≤ 1200000000000) : XC Try.prog 44 [L (s.map Sy.da), L (ls.map Li.da)] [] (.agg [.ol 0]) [(0, .tr 61 7 ((clm s ls).map Li.da))] := by
  apply a0iq
  rw [List.length_map]
  exact G2q s hs ls hc ls [] rfl
theorem lis7 (l : List Li) : ∀ y ∈ l.map Li.da, y.length = 7 := by
  intro y hy
  obtain ⟨x, _, rfl⟩ := List.mem_map.1 hy
  obtain ⟨p, ⟨f, v, ks⟩, ⟨g, u, ms⟩⟩ := x
  rfl
theorem L2q (r : AV) (O : List (Nat × Ob)) (s1 : List (List Da)) (s0 : List (List Da)) (s6 : Int) (x : Li) (l : List Li) (hl : l.length ≤ 1200000000000) (h : g3q r O s0 s1 (IntKind.wrap .i64 (s6 + 1)) ((m4q Li.cmp x l).map Li.da)) : ∀ (q p : List Li), l = p ++ q → m4q Li.cmp x l = p ++ m4q Li.cmp x q → o0q r O s0 s1 s6 (p.length : Int) x.p x.l.f x.l.v (Tm.das x.l.ks) x.r.f x.r.v (Tm.das x.r.ks) (l.map Li.da)
  | [], p, e, e2 => by
    have hpl : l.length = p.length := by rw [e]; simp
    have ed : x.da = [.bool x.p, .int .i64 x.l.f, .int .i64 x.l.v, .sl (Tm.das x.l.ks), .int .i64 x.r.f, .int .i64 x.r.v, .sl (Tm.das x.r.ks)] := by obtain ⟨pp, ⟨f, v, ks⟩, ⟨g, u, ms⟩⟩ := x; rfl
    apply D2q
    refine a4q (decide_eq_false (by simp; omega)) (a4q (decide_eq_false (by simp; omega)) ⟨p.length, rfl, ⟨by omega, by simp; omega⟩, ⟨by simp; omega⟩, ⟨lis7 l⟩, ⟨by simp; omega⟩, ⟨by simp; omega⟩, p.length, rfl, ⟨by simp; omega, Nat.le_refl _⟩, ⟨by simp; omega⟩, ⟨lis7 l⟩, ⟨by simp; omega⟩, ?_⟩)
    rw [← ed]
    rw [e2] at h
    subst e
    simpa [m4q, y5q, E6q] using h
  | y :: q, p, e, e2 => by
    have hpl : l.length = p.length + q.length + 1 := by rw [e]; simp; omega
    have ed : x.da = [.bool x.p, .int .i64 x.l.f, .int .i64 x.l.v, .sl (Tm.das x.l.ks), .int .i64 x.r.f, .int .i64 x.r.v, .sl (Tm.das x.r.ks)] := by obtain ⟨pp, ⟨f, v, ks⟩, ⟨g, u, ms⟩⟩ := x; rfl
    have hx : (l.map Li.da)[p.length]? = some y.da := by rw [e]; exact k2q
    have c1 := a2Tq y x
    have c2 := a5iq y x
    rw [ed] at c1 c2
    have hlt : p.length < l.length := by omega
    have hw : IntKind.wrap .i64 ((p.length : Int) + 1) = ((p.length + 1 : Nat) : Int) := wr1 hlt (by omega)
    have ih := fun h2 => L2q r O s1 s0 s6 x l hl h q (p ++ [y]) (by simp [e]) h2
    rw [n1q] at ih
    apply D2q
    rw [hw]
    by_cases hb : Li.cmp y x < 0
    · have ih2 := ih (by rw [e2, m4q, if_pos hb]; simp)
      clear ih
      obtain ⟨pp, ⟨f, v, ks⟩, ⟨g, u, ms⟩⟩ := y
      exact b3q (decide_eq_true (by simp; omega)) ⟨p.length, rfl, ⟨by simp; omega⟩, p.length, rfl, _, _, _, _, _, _, _, hx, _, c1, b3q (decide_eq_true hb) ih2⟩
    · by_cases hs : Li.cmp y x = 0
      · have el : m4q Li.cmp x l = l := by rw [e2, m4q, if_neg hb, if_pos hs, ← e]
        rw [el] at h
        obtain ⟨pp, ⟨f, v, ks⟩, ⟨g, u, ms⟩⟩ := y
        exact b3q (decide_eq_true (by simp; omega)) ⟨p.length, rfl, ⟨by simp; omega⟩, p.length, rfl, _, _, _, _, _, _, _, hx, _, c1, a4q (decide_eq_false hb) (b3q (decide_eq_true (by simp; omega)) ⟨p.length, rfl, ⟨by simp; omega⟩, p.length, rfl, _, _, _, _, _, _, _, hx, _, c2, b3q (decide_eq_true hs) h⟩)⟩
      · have el : m4q Li.cmp x l = p ++ x :: y :: q := by rw [e2, m4q, if_neg hb, if_neg hs]
        rw [el] at h
        have h' : g3q r O s0 s1 (IntKind.wrap .i64 (s6 + 1)) ([] ++ ((l.map Li.da).drop (0 + 0)).take (p.length - 0) ++ [x.da] ++ ((l.map Li.da).drop (0 + p.length)).take ((l.map Li.da).length - p.length)) := by
          have e3 : [] ++ ((l.map Li.da).drop (0 + 0)).take (p.length - 0) ++ [x.da] ++ ((l.map Li.da).drop (0 + p.length)).take ((l.map Li.da).length - p.length) = (p ++ x :: y :: q).map Li.da := by
            rw [e]; simp [List.take_append, List.drop_append, y5q, E6q]
          rw [e3]; exact h
        rw [ed] at h'
        obtain ⟨pp, ⟨f, v, ks⟩, ⟨g, u, ms⟩⟩ := y
        exact b3q (decide_eq_true (by simp; omega)) ⟨p.length, rfl, ⟨by simp; omega⟩, p.length, rfl, _, _, _, _, _, _, _, hx, _, c1, a4q (decide_eq_false hb) (b3q (decide_eq_true (by simp; omega)) ⟨p.length, rfl, ⟨by simp; omega⟩, p.length, rfl, _, _, _, _, _, _, _, hx, _, c2, a4q (decide_eq_false hs) ⟨p.length, rfl, ⟨by omega, by simp; omega⟩, ⟨by simp; omega⟩, ⟨lis7 l⟩, ⟨by simp; omega⟩, ⟨by simp; omega⟩, p.length, rfl, ⟨by simp; omega, Nat.le_refl _⟩, ⟨by simp; omega⟩, ⟨lis7 l⟩, ⟨by simp; omega⟩, h'⟩⟩)⟩
theorem G1q (s : List Sy) (hs : s.length ≤ 10000000) (ls : List Li) (hc : cnL Li.cn ls ≤ 1200000000000) : ∀ (q p : List Li), ls = p ++ q → g3q (.dat (Cl.mk (clm s ls)).da) [] (s.map Sy.da) (ls.map Li.da) (p.length : Int) ((H1q Li.cmp (p.map (o9q s))).map Li.da)
  | [], p, e => by
    apply C3q
    have ep : ls = p := by simpa using e
    subst ep
    exact a4q (decide_eq_false (by simp)) ⟨rfl, rfl⟩
  | x :: q, p, e => by
    have ih := G1q s hs ls hc q (p ++ [x]) (by simp [e])
    have hm := o1q (cn := Li.cn) (l := ls) (x := x) (by simp [e])
    have hl := i5q Li.cn ls
    have hxc : x.cn = x.l.cn + x.r.cn := rfl
    have c := O4q s hs x.p x.l x.r (by omega) (by omega)
    have hx : (ls.map Li.da)[p.length]? = some x.da := by rw [e]; exact k2q
    have hlt : p.length < ls.length := by rw [e]; simp
    have hw : IntKind.wrap .i64 ((p.length : Int) + 1) = ((p.length + 1 : Nat) : Int) := wr1 hlt (by omega)
    have e2 : H1q Li.cmp ((p ++ [x]).map (o9q s)) = m4q Li.cmp (lmk s x.p x.l x.r) (H1q Li.cmp (p.map (o9q s))) := by simp [H1q, List.foldl_append, o9q]
    have hlen : (H1q Li.cmp (p.map (o9q s))).length ≤ 1200000000000 := by
      have h1 := a5Iq (p.map (o9q s)) []
      have h2 := a64q s p
      have h3 : cnL Li.cn ([] : List Li) = 0 := by simp [cnL]
      have h4 := i5q Li.cn (H1q Li.cmp (p.map (o9q s)))
      have h5 : cnL Li.cn ls = cnL Li.cn p + cnL Li.cn (x :: q) := by rw [e]; simp [cnL]; omega
      unfold H1q at h4 ⊢
      omega
    rw [n1q, e2, ← hw] at ih
    have h7 := L2q _ _ _ _ _ (lmk s x.p x.l x.r) (H1q Li.cmp (p.map (o9q s))) hlen ih (H1q Li.cmp (p.map (o9q s))) [] rfl rfl
    generalize lmk s x.p x.l x.r = y at *
    obtain ⟨pp, ⟨f, v, ks⟩, ⟨g, u, ms⟩⟩ := x
    obtain ⟨pp', ⟨f', v', ks'⟩, ⟨g', u', ms'⟩⟩ := y
    apply C3q
    exact b3q (decide_eq_true (by simp; omega)) ⟨p.length, rfl, _, _, _, _, _, _, _, hx, p.length, rfl, _, _, _, _, _, _, _, hx, p.length, rfl, _, _, _, _, _, _, _, hx, _, _, _, _, _, _, _, c, h7⟩
theorem Z4q (s : List Sy) (hs : s.length ≤ 10000000) (ls : List Li) (hc : cnL Li.cn ls ≤ 1200000000000) : XC Try.prog 42 [L (s.map Sy.da), L (ls.map Li.da)] [] (.dat (Cl.mk (clm s ls)).da) [] := by
  apply a0aq
  exact G1q s hs ls hc ls [] rfl
def clA (s : List Sy) (u : List Bd) (ls : List Li) : List Li := clm s (ls.map (l9q s u))
theorem a9Kq (s : List Sy) (u : List Bd) (x : Li) : (l9q s u x).cn + 2 ≤ (x.cn + 2) * (cnL Bd.cn u + 1) := by
  have h1 := a1Xq u x.l
  have h2 := a1Xq u x.r
  have h3 := a8Fq s x.p (o2q s u x.l) (o2q s u x.r)
  have h4 := J0q s (fil u x.l)
  have h5 := J0q s (fil u x.r)
  have h0 : x.cn = x.l.cn + x.r.cn := rfl
  have e1 : o2q s u x.l = nrm s (fil u x.l) := rfl
  have e2 : o2q s u x.r = nrm s (fil u x.r) := rfl
  rw [← e1] at h4
  rw [← e2] at h5
  have e : (x.cn + 2) * (cnL Bd.cn u + 1) = (x.l.cn + 1) * (cnL Bd.cn u + 1) + (x.r.cn + 1) * (cnL Bd.cn u + 1) := by rw [← Nat.add_mul, h0]; congr 1; omega
  unfold l9q
  omega
theorem aanq (s : List Sy) (u : List Bd) (l : List Li) : cnL Li.cn (l.map (l9q s u)) ≤ (2 * cnL Li.cn l) * (cnL Bd.cn u + 1) := by
  induction l with
  | nil => simp [cnL]
  | cons x r ih =>
    have h := a9Kq s u x
    have e1 : cnL Li.cn (x :: r) = 1 + x.cn + cnL Li.cn r := by simp [cnL]; omega
    have e2 : cnL Li.cn ((x :: r).map (l9q s u)) = 1 + (l9q s u x).cn + cnL Li.cn (r.map (l9q s u)) := by simp [cnL]; omega
    have e3 : (2 * cnL Li.cn (x :: r)) * (cnL Bd.cn u + 1) = (x.cn + 2) * (cnL Bd.cn u + 1) + x.cn * (cnL Bd.cn u + 1) + (2 * cnL Li.cn r) * (cnL Bd.cn u + 1) := by
      rw [← Nat.add_mul, ← Nat.add_mul, e1]; congr 1; omega
    omega
theorem aaxq {a b : Nat} (h : a + b ≤ 1048577) : 4 * (a * b) ≤ 1099513724929 := by
  have key : 4 * (a * b) ≤ (a + b) * (a + b) := by
    rcases Nat.le_total a b with h1 | h1
    · obtain ⟨d, rfl⟩ := Nat.exists_eq_add_of_le h1
      have e1 : a * (a + d) = a * a + a * d := Nat.mul_add ..
      have e2 : (a + (a + d)) * (a + (a + d)) = 4 * (a * a) + 4 * (a * d) + d * d := by
        simp only [Nat.add_mul, Nat.mul_add, Nat.mul_comm d a]; omega
      omega
    · obtain ⟨d, rfl⟩ := Nat.exists_eq_add_of_le h1
      have e1 : (b + d) * b = b * b + d * b := Nat.add_mul ..
      have e2 : (b + d + b) * (b + d + b) = 4 * (b * b) + 4 * (d * b) + d * d := by
        simp only [Nat.add_mul, Nat.mul_add, Nat.mul_comm b d]; omega
      omega
  have := Nat.mul_le_mul h h
  omega
theorem a1wq (s : List Sy) {u : List Bd} {l : List Li} (h : cnL Li.cn l + cnL Bd.cn u ≤ 1048576) : cnL Li.cn (l.map (l9q s u)) ≤ 600000000000 := by
  have h1 := aanq s u l
  have h2 := aaxq (a := cnL Li.cn l) (b := cnL Bd.cn u + 1) (by omega)
  rw [Nat.mul_assoc] at h1
  omega
theorem abZq (s : List Sy) (u : List Bd) (l : List Li) (h : cnL Li.cn l + cnL Bd.cn u ≤ 1048576) : cnL Li.cn (clA s u l) ≤ 600000000000 := by
  have h1 := a1wq s h
  have h2 := ackq s (l.map (l9q s u))
  unfold clA
  omega
theorem E9q (s : List Sy) (hs : s.length ≤ 10000000) (u : List Bd) (ls : List Li) (hc : cnL Li.cn ls + cnL Bd.cn u ≤ 1048576) : ∀ (q p : List Li), ls = p ++ q → m9q (.dat (Cl.mk (clA s u ls)).da) [] (s.map Sy.da) (u.map Bd.da) (p.length : Int) (ls.map Li.da) ((p.map (l9q s u)).map Li.da)
  | [], p, e => by
    have c := Z4q s hs (ls.map (l9q s u)) (by have := a1wq s hc; omega)
    apply A1q
    have ep : ls = p := by simpa using e
    subst ep
    exact a4q (decide_eq_false (by simp)) ⟨_, c, rfl, rfl⟩
  | x :: q, p, e => by
    have ih := E9q s hs u ls hc q (p ++ [x]) (by simp [e])
    have hm := o1q (cn := Li.cn) (l := ls) (x := x) (by simp [e])
    have hl := i5q Li.cn ls
    have c := a0Wq s hs u (by omega) x (by omega)
    have hx : (ls.map Li.da)[p.length]? = some x.da := by rw [e]; exact k2q
    have hlt : p.length < ls.length := by rw [e]; simp
    have hw : IntKind.wrap .i64 ((p.length : Int) + 1) = ((p.length + 1 : Nat) : Int) := wr1 hlt (by omega)
    have e2 : ((p ++ [x]).map (l9q s u)).map Li.da = (p.map (l9q s u)).map Li.da ++ [(l9q s u x).da] := by simp
    rw [n1q, e2] at ih
    generalize l9q s u x = y at *
    obtain ⟨pp, ⟨f, v, ks⟩, ⟨g, w, ms⟩⟩ := x
    obtain ⟨pp', ⟨f', v', ks'⟩, ⟨g', w', ms'⟩⟩ := y
    apply A1q
    rw [hw]
    exact b3q (decide_eq_true (by simp; omega)) ⟨p.length, rfl, _, _, _, _, _, _, _, hx, _, _, _, _, _, _, _, c, ⟨by simp; omega⟩, ih⟩
theorem X6q (s : List Sy) (hs : s.length ≤ 10000000) (u : List Bd) (c : Cl) (hc : c.cn + cnL Bd.cn u ≤ 1048576) : XC Try.prog 51 [L (s.map Sy.da), L (u.map Bd.da), .dat c.da] [] (.dat (Cl.mk (clA s u c.ls)).da) [] := by
  obtain ⟨ls⟩ := c
  apply Z1q
  exact E9q s hs u ls hc ls [] rfl
theorem D8q (s : List Sy) (hs : s.length ≤ 10000000) (u : List Bd) (ls : List Li) (hc : cnL Li.cn ls + cnL Bd.cn u ≤ 1048576) : ∀ (q p : List Li), ls = p ++ q → m8q (.agg [.ol 0]) [(0, .tr 61 7 ((clA s u ls).map Li.da))] (s.map Sy.da) (u.map Bd.da) (ls.map Li.da) (ls.length : Int) (p.length : Int) ((p.map (l9q s u)).map Li.da)
  | [], p, e => by
    have c := Z0q s hs (ls.map (l9q s u)) (by have := a1wq s hc; omega)
    apply A2q
    have ep : ls = p := by simpa using e
    subst ep
    exact a4q (decide_eq_false (by omega)) ⟨_, c, rfl, rfl⟩
  | x :: q, p, e => by
    have ih := D8q s hs u ls hc q (p ++ [x]) (by simp [e])
    have hm := o1q (cn := Li.cn) (l := ls) (x := x) (by simp [e])
    have hl := i5q Li.cn ls
    have c := a11q s hs u (by omega) x (by omega)
    have hx : (ls.map Li.da)[p.length]? = some x.da := by rw [e]; exact k2q
    have hlt : p.length < ls.length := by rw [e]; simp
    have hw : IntKind.wrap .i64 ((p.length : Int) + 1) = ((p.length + 1 : Nat) : Int) := wr1 hlt (by omega)
    have e2 : ((p ++ [x]).map (l9q s u)).map Li.da = (p.map (l9q s u)).map Li.da ++ [(l9q s u x).da] := by simp
    rw [n1q, e2] at ih
    generalize l9q s u x = y at *
    obtain ⟨pp, ⟨f, v, ks⟩, ⟨g, w, ms⟩⟩ := x
    obtain ⟨pp', ⟨f', v', ks'⟩, ⟨g', w', ms'⟩⟩ := y
    apply A2q
    rw [hw]
    exact b3q (decide_eq_true (by omega)) ⟨p.length, rfl, _, _, _, _, _, _, _, hx, _, _, _, _, _, _, _, c, ⟨by simp; omega⟩, ih⟩
theorem X2q (s : List Sy) (hs : s.length ≤ 10000000) (u : List Bd) (c : Cl) (hc : c.cn + cnL Bd.cn u ≤ 1048576) : XC Try.prog 53 [L (s.map Sy.da), L (u.map Bd.da), .dat c.da] [] (.agg [.ol 0]) [(0, .tr 61 7 ((clA s u c.ls).map Li.da))] := by
  obtain ⟨ls⟩ := c
  apply Y9q
  rw [List.length_map]
  exact D8q s hs u ls hc ls [] rfl
theorem I9q (ss : List Sy) (kss : ∀ y ∈ ss, Sy.ok y) (w : List Bd) (kw : ∀ y ∈ w, Bd.ok y) (c : Cl) (kc : c.ok) : XC Try.prog 7 [L (ss.map Sy.da), L (w.map Bd.da), .dat c.da] [] (B true) [] := by
  have s0 := a69q ss 1048576 (by omega) (by omega)
  rcases Int.lt_or_le (lft (cnL Sy.cn ss) 1048576) 0 with g0 | g0
  · obtain ⟨ls_1⟩ := c
    apply l6q
    exact ⟨_, s0, b3q (decide_eq_true g0) ⟨rfl, rfl⟩⟩
  have q0 := a4Yq g0
  have s1 := a5lq w _ g0 (by omega)
  rcases Int.lt_or_le (lft (cnL Bd.cn w) (lft (cnL Sy.cn ss) 1048576)) 0 with g1 | g1
  · obtain ⟨ls_1⟩ := c
    apply l6q
    exact ⟨_, s0, a4q (decide_eq_false (Int.not_lt.2 g0)) ⟨_, s1, b3q (decide_eq_true g1) ⟨rfl, rfl⟩⟩⟩
  have q1 := a4Yq g1
  have s2 := a4pq c _ g1 (by omega)
  rcases Int.lt_or_le (lft (c.cn) (lft (cnL Bd.cn w) (lft (cnL Sy.cn ss) 1048576))) 0 with g2 | g2
  · obtain ⟨ls_1⟩ := c
    apply l6q
    exact ⟨_, s0, a4q (decide_eq_false (Int.not_lt.2 g0)) ⟨_, s1, a4q (decide_eq_false (Int.not_lt.2 g1)) ⟨_, s2, b3q (decide_eq_true g2) ⟨rfl, rfl⟩⟩⟩⟩
  have q2 := a4Yq g2
  have hlenss := i5q Sy.cn ss
  have hsyss := a5Tq ss
  have hblw := i5q Bd.cn w
  have hbmw := a5Yq w
  have hccc : c.cn = cnL Li.cn c.ls := rfl
  have hclc := i5q Li.cn c.ls
  have hcmc := a8Bq c.ls
  have hu := abZq ss w c.ls (by omega)
  have hcu : cnL Li.cn (clA ss w c.ls) = (Cl.mk (clA ss w c.ls)).cn := rfl
  have hku := a8Bq (clA ss w c.ls)
  have hlu := i5q Li.cn (clA ss w c.ls)
  have t0 := a56q ss (by omega)
  have e0 := a6hq ss
  have m0 := a46q ss (1) (by omega) (by omega) (by omega)
  have t1 := a4cq w (by omega)
  have e1 := a65q w
  have m1 := a30q w (1 + z3q ss) (by omega) (by omega)
  have t2 := a34q c (by omega)
  have e2 := Y4q c
  have m2 := O9q c (1 + z3q ss + A5q w) (by omega) (by omega)
  have c1 := X6q ss (by omega) w c (by omega)
  have c2 := X2q ss (by omega) w c (by omega)
  have hk : (((1 + z3q ss + A5q w + mkN c.ls : Nat)) : Int) ≥ 0 := by omega
  generalize clA ss w c.ls = us at *
  generalize hus : Cl.mk us = u at *
  obtain rfl : us = u.ls := by rw [← hus]
  have eu := Y4q u
  have mu := O9q u 1 (by omega) (by omega)
  have hd := a2zq u 1 (by omega) (by omega)
  obtain ⟨ls_1⟩ := c
  obtain ⟨l0⟩ := u
  apply l6q
  exact ⟨_, s0, a4q (decide_eq_false (Int.not_lt.2 g0)) ⟨_, s1, a4q (decide_eq_false (Int.not_lt.2 g1)) ⟨_, s2, a4q (decide_eq_false (Int.not_lt.2 g2)) ⟨_, t0, _, t1, _, t2, _, c1, _, t0, _, t1, _, t2, _, c2, _, eu, a4q rfl ⟨_, t0, _, e0, a4q rfl ⟨_, t1, _, e1, a4q rfl ⟨_, t2, _, e2, a4q rfl ⟨_, _, m0, _, _, m1, _, _, m2, a4q (decide_eq_false (by omega)) ⟨_, eu, a4q rfl ⟨_, _, mu, _, hd, a4q (decide_eq_false (by omega)) (a4q (by simp) ⟨_, t0, _, t1, _, t2, _, c2, _, eu, a4q rfl ⟨_, hd, a4q (decide_eq_false (by omega)) (a4q (by simp) ⟨rfl, rfl⟩)⟩⟩)⟩⟩⟩⟩⟩⟩⟩⟩⟩⟩
end AM
end Go.Proofs.Ytajcoogpmockiaa
set_option linter.unusedSimpArgs false
set_option linter.unusedVariables false
namespace Go.Proofs.Ytajcoogpmockiaa
namespace AM
open Go Go.ChangeShapes Go.WideShapes Go.RowKit
set_option maxRecDepth 100000 in
theorem L6q (os : Os) (started : os.Started) (H : Type) (enc : TypeId × Value → H) :
    ReturnsInHanded {} Try.checked os 7 .any (Rows.fnExactClauseApplySpec.pre6 enc Try.prog Try.f7 Rows.fnExactClauseApplyRow.domain false) (Rows.fnExactClauseApplySpec.post enc Try.prog Try.f7 false true false false) := by
  refine a7Vq (C := Try.checked) [22, 93, 9, 3, 4, 55, 113, 25, 23, 84, 71, 57] own started (by kernel_rfl) Try.func7
    (ChangeSpec.witness6 (enc := enc) (C := Try.checked) false ⟨#[], #[.slice none 0 0, .slice none 0 0, .agg #[.slice none 0 0]], []⟩ 8 (by kernel_rfl) (by kernel_rfl) (by kernel_rfl) (by kernel_rfl))
    abxq (by kernel_rfl) (by kernel_rfl) rfl rfl Try.underlying4 (fun ds hd => ?_) (fun xs hx => ?_)
  · match ds, hd with
    | [d0, d1, d2], _ => exact ⟨rfl, rfl, rfl⟩
  · have hx2 : a2pq Try.prog [22, 55, 84] xs := hx
    match xs, hx2 with
    | [x0, x1, x2], ⟨h0, h1, h2, _⟩ =>
      simp only [W5q, Try.underlying22] at h0
      obtain ⟨_, _, rfl, h0⟩ := h0
      obtain ⟨a, e0, k0⟩ := a6Jq _ h0
      cases e0
      simp only [W5q, Try.underlying55] at h1
      obtain ⟨_, _, rfl, h1⟩ := h1
      obtain ⟨b, e1, k1⟩ := a6Fq _ h1
      cases e1
      simp only [W5q, Try.underlying84] at h2
      obtain ⟨_, _, rfl, h2⟩ := h2
      obtain ⟨c, e2, k2⟩ := a5kq _ h2
      subst e2
      exact (I9q a k0 b k1 c k2).acall
theorem fnExactClauseApply_holds : Rows.FnExactClauseApplySaid :=
  OpenClaim.holds_of_wide 7 Try.f7 rfl rfl rfl rfl rfl rfl rfl ⟨rfl, rfl, rfl, rfl, rfl⟩ rfl rfl rfl rfl rfl (by kernel_rfl) Try.func7 (by kernel_rfl)
    (of_decide_eq_true (by kernel_rfl)) (by unfold Func.isWrapper; rw [if_neg (by decide +kernel)]; exact ⟨rfl, rfl⟩)
    (fun os started H enc _ => L6q os started H enc)
end AM
end Go.Proofs.Ytajcoogpmockiaa
