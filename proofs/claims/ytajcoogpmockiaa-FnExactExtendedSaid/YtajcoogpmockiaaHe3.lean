/- Contracts of functions of the program, out of what their texts ask; no conditions. -/
import Derived.Test.YtajcoogpmockiaaHe2
import Derived.Test.YtajcoogpmockiaaDt
import Derived.Test.YtajcoogpmockiaaHr
set_option linter.unusedVariables false
set_option linter.unusedSimpArgs false
set_option maxRecDepth 100000
namespace Go.Proofs.Ytajcoogpmockiaa
namespace AM
open Go Go.ChangeShapes Go.WideShapes Go.RowKit

/-- Is a function blind to order and brackets? -/
def bl (s : List Sy) (f : Int) : Bool := inR f 0 ((s.length : Int) - 1) && ((s[f.toNat]?).map (·.ac)).getD false
mutual
def nrm (s : List Sy) : Tm → Tm
  | .mk f v ks => .mk f v (if bl s f then isort Tm.cmp (nrmK s (bl s f) f ks) else nrmK s (bl s f) f ks)
def nrmK (s : List Sy) (b : Bool) (f : Int) : List Tm → List Tm
  | [] => []
  | t :: r => (if b = true ∧ (nrm s t).f = f then (nrm s t).ks else [nrm s t]) ++ nrmK s b f r
end
theorem cns_app (a b : List Tm) : Tm.cns (a ++ b) = Tm.cns a + Tm.cns b := by
  induction a with
  | nil => simp [Tm.cns]
  | cons x r ih => simp only [List.cons_append, Tm.cns, ih]; omega
theorem cns_perm {a b : List Tm} (h : a.Perm b) : Tm.cns a = Tm.cns b := by
  rw [Tm.cns_cnL, Tm.cns_cnL, cnL, cnL, h.length_eq, (h.map _).sum_nat]
theorem Tm.cn_ks (t : Tm) : Tm.cns t.ks = t.cn := by cases t; simp [Tm.ks, Tm.cn]
mutual
theorem nrm_cn (s : List Sy) : ∀ t : Tm, (nrm s t).cn ≤ t.cn
  | .mk f v ks => by
    have h := nrmK_cns s (bl s f) f ks
    simp only [nrm, Tm.cn]
    split
    · rw [cns_perm (isort_perm _ _)]; exact h
    · exact h
theorem nrmK_cns (s : List Sy) (b : Bool) (f : Int) : ∀ l : List Tm, Tm.cns (nrmK s b f l) ≤ Tm.cns l
  | [] => by simp [nrmK, Tm.cns]
  | t :: r => by
    have h1 := nrm_cn s t
    have h2 := nrmK_cns s b f r
    simp only [nrmK, cns_app, Tm.cns]
    split
    · rw [Tm.cn_ks]; omega
    · simp only [Tm.cns]; omega
end
theorem nrm_f (s : List Sy) (t : Tm) : (nrm s t).f = t.f ∧ (nrm s t).v = t.v := by cases t; simp [nrm, Tm.f, Tm.v]
theorem inR_iff {x lo hi : Int} : inR x lo hi = true ↔ lo ≤ x ∧ x ≤ hi := by simp [inR]
theorem bl_get {s : List Sy} {f : Int} {m : Nat} {x : Sy} (hf : f = (m : Int)) (hm : s[m]? = some x) : bl s f = x.ac := by
  have h := (List.getElem?_eq_some_iff.1 hm).1
  subst hf
  have : inR (m : Int) 0 ((s.length : Int) - 1) = true := inR_iff.2 ⟨by omega, by omega⟩
  simp [bl, this, hm]
theorem specBlind_call (s : List Sy) (f : Int) (hs : s.length ≤ 10000000) : XC Try.prog 71 [L (s.map Sy.da), Z f] [] (B (bl s f)) [] := by
  have w : IntKind.wrap .i64 ((s.length : Int) - 1) = (s.length : Int) - 1 := wrI (by omega) (by omega)
  apply spec_Blind_of
  rw [List.length_map, w]
  refine ⟨_, l1In_call f 0 _, ?_⟩
  by_cases h : inR f 0 ((s.length : Int) - 1) = true
  · obtain ⟨h1, h2⟩ := inR_iff.1 h
    obtain ⟨m, rfl⟩ : ∃ m : Nat, f = (m : Int) := ⟨f.toNat, by omega⟩
    obtain ⟨x, hx⟩ := get_ex (l := s) (i := m) (by omega)
    have hx2 := get_map (g := Sy.da) hx
    refine ifB_t h ⟨m, rfl, _, _, _, hx2, ?_, rfl⟩
    rw [bl_get rfl hx]
  · exact ifB_f (Bool.eq_false_iff.2 h) ⟨by simp [bl, h], rfl⟩
theorem isSymB_call (s : List Sy) (f : Int) (hs : s.length ≤ 10000000) : XC Try.prog 108 [L (s.map Sy.da), Z f] [] (B (inR f 0 ((s.length : Int) - 1))) [] := by
  have w : IntKind.wrap .i64 ((s.length : Int) - 1) = (s.length : Int) - 1 := wrI (by omega) (by omega)
  apply impl_isSym_of
  rw [List.length_map, w]
  exact ⟨_, from_call f 0 _, rfl, rfl⟩
theorem implBlind_call (s : List Sy) (f : Int) (hs : s.length ≤ 10000000) : XC Try.prog 75 [L (s.map Sy.da), Z f] [] (B (bl s f)) [] := by
  apply impl_Blind_of
  refine ⟨_, isSymB_call s f hs, ?_⟩
  by_cases h : inR f 0 ((s.length : Int) - 1) = true
  · obtain ⟨h1, h2⟩ := inR_iff.1 h
    obtain ⟨m, rfl⟩ : ∃ m : Nat, f = (m : Int) := ⟨f.toNat, by omega⟩
    obtain ⟨x, hx⟩ := get_ex (l := s) (i := m) (by omega)
    have hx2 := get_map (g := Sy.da) hx
    refine ifB_t h ⟨m, rfl, _, _, _, hx2, ?_, rfl⟩
    rw [bl_get rfl hx]
  · exact ifB_f (Bool.eq_false_iff.2 h) ⟨by simp [bl, h], rfl⟩
theorem drop_map_len {α β : Type} (g : α → β) (p : List α) : List.drop p.length (p.map g) = [] := List.drop_eq_nil_of_le (by simp)
theorem isort_snoc {α : Type} (cmp : α → α → Int) (l : List α) (x : α) : isort cmp (l ++ [x]) = putC cmp x (isort cmp l) := by simp [isort, List.foldl_append]
theorem das_app (a b : List Tm) : Tm.das (a ++ b) = Tm.das a ++ Tm.das b := by simp [Tm.das_map]
theorem l4Put_loop (t : Tm) (l : List Tm) (hl : l.length ≤ 3000000000000) : ∀ (q p : List Tm), l = p ++ q → spec_l4Put_L2 (.one (.ol 0)) [(0, .lst 31 3 (Tm.das (p ++ putC Tm.cmp t q)))] (Tm.das l) (p.length : Int) t.f t.v (Tm.das t.ks)
  | [], p, e => by
    have e3 : [] ++ (Tm.das l).take p.length ++ [[.int .i64 t.f, .int .i64 t.v, .sl (Tm.das t.ks)]] ++ (Tm.das l).drop p.length = Tm.das (p ++ putC Tm.cmp t []) := by
      subst e
      obtain ⟨f, v, ks⟩ := t
      simp [Tm.das_map, putC, take_map_len, drop_map_len, Tm.da, Tm.f, Tm.v, Tm.ks]
    have hpl : l.length = p.length := by rw [e]; simp
    apply spec_l4Put_L2_of
    refine ifB_f (decide_eq_false (by rw [das_len]; omega)) ⟨p.length, rfl, ⟨by rw [das_len]; omega⟩, ⟨das3 _⟩, ⟨fun y hy => das3 _ y (List.mem_of_mem_take (List.mem_of_mem_drop hy))⟩, ⟨?_⟩, ⟨?_⟩, p.length, rfl, ⟨by rw [das_len]; omega⟩, ⟨das3 _⟩, ⟨fun y hy => das3 _ y (List.mem_of_mem_take (List.mem_of_mem_drop hy))⟩, ⟨?_⟩, rfl, ?_⟩
    · simp [das_len]; omega
    · simp [das_len]; omega
    · simp [das_len]; omega
    · rw [← e3]; simp
  | y :: q, p, e => by
    have ih := l4Put_loop t l hl q (p ++ [y]) (by simp [e])
    have hb := before_call t y
    have hn := Tm.cmp_neg t y
    have hx : (Tm.das l)[p.length]? = some y.da := by rw [e]; exact das_app_get
    have hpl : l.length = p.length + q.length + 1 := by rw [e]; simp; omega
    rw [len_app1] at ih
    have e3 : Tm.cmp t y < 0 → [] ++ (Tm.das l).take p.length ++ [[.int .i64 t.f, .int .i64 t.v, .sl (Tm.das t.ks)]] ++ (Tm.das l).drop p.length = Tm.das (p ++ putC Tm.cmp t (y :: q)) := fun h => by
      subst e
      have e4 : putC Tm.cmp t (y :: q) = t :: y :: q := by rw [putC, if_neg (by omega)]
      rw [e4]
      obtain ⟨f, v, ks⟩ := t
      simp [Tm.das_map, List.take_append, List.drop_append, take_map_len, drop_map_len, Tm.da, Tm.f, Tm.v, Tm.ks]
    have et : t.da = [.int .i64 t.f, .int .i64 t.v, .sl (Tm.das t.ks)] := by obtain ⟨f, v, ks⟩ := t; rfl
    rw [et] at hb
    have ih2 : ¬ Tm.cmp t y < 0 → p ++ putC Tm.cmp t (y :: q) = p ++ [y] ++ putC Tm.cmp t q := fun h => by
      rw [putC, if_pos (by omega)]; simp
    obtain ⟨g, u, ms⟩ := y
    apply spec_l4Put_L2_of
    refine ifB_t (decide_eq_true (by rw [das_len]; omega)) ⟨p.length, rfl, g, u, Tm.das ms, hx, _, hb, ?_⟩
    by_cases h : Tm.cmp t (.mk g u ms) < 0
    · refine ifB_f (by simp [h]) ⟨p.length, rfl, ⟨by rw [das_len]; omega⟩, ⟨das3 _⟩, ⟨fun y hy => das3 _ y (List.mem_of_mem_take (List.mem_of_mem_drop hy))⟩, ⟨?_⟩, ⟨?_⟩, p.length, rfl, ⟨by rw [das_len]; omega⟩, ⟨das3 _⟩, ⟨fun y hy => das3 _ y (List.mem_of_mem_take (List.mem_of_mem_drop hy))⟩, ⟨?_⟩, rfl, ?_⟩
      · simp [das_len]; omega
      · simp [das_len]; omega
      · simp [das_len]; omega
      · rw [← e3 h]; simp
    · rw [ih2 h, wr1 (n := p.length + 1) (by omega) (by omega)]
      exact ifB_t (by simp [h]) ih
theorem l4Put_call (t : Tm) (l : List Tm) (hl : l.length ≤ 3000000000000) : XC Try.prog 101 [L (Tm.das l), .dat t.da] [] (.one (.ol 0)) [(0, .lst 31 3 (Tm.das (putC Tm.cmp t l)))] := by
  have h := l4Put_loop t l hl l [] rfl
  obtain ⟨f, v, ks⟩ := t
  exact spec_l4Put_of h
theorem specNorm_in (r : AV) (O : List (Nat × Ob)) (s0 : List (List Da)) (s6 s3 s31 : Int) (s32 : List (List Da)) (s5 s51 n2 n3 : Int) (w : List Tm) : ∀ (q p acc : List Tm), w = p ++ q → acc.length + q.length ≤ 2500000000000 → p.length + q.length ≤ 2500000000000 → spec_Norm_L3 r O s0 (IntKind.wrap .i64 (s6 + 1)) s3 s31 s32 0 0 s5 s51 (Tm.das (isort Tm.cmp (acc ++ q))) → spec_Norm_L7 r O s0 s6 (p.length : Int) s3 s31 s32 0 0 s5 s51 n2 n3 (Tm.das w) (Tm.das (isort Tm.cmp acc))
  | [], p, acc, e, _, _, h => by
    apply spec_Norm_L7_of
    subst e
    exact ifB_f (lt_decF (by simp [das_len])) (by simpa using h)
  | y :: q, p, acc, e, h1, h2, h => by
    simp only [List.length_cons] at h1 h2
    have ih := specNorm_in r O s0 s6 s3 s31 s32 s5 s51 n2 n3 w q (p ++ [y]) (acc ++ [y]) (by simp [e]) (by simp; omega) (by simp; omega) (by simpa using h)
    have c := l4Put_call y (isort Tm.cmp acc) (by rw [(isort_perm _ _).length_eq]; omega)
    have hx : (Tm.das w)[p.length]? = some y.da := by rw [e]; exact das_app_get
    have hlt : p.length < w.length := by rw [e]; simp
    rw [len_app1, isort_snoc] at ih
    obtain ⟨g, u, ms⟩ := y
    apply spec_Norm_L7_of
    refine ifB_t (lt_dec (by rw [das_len]; exact hlt)) ⟨p.length, rfl, g, u, Tm.das ms, hx, _, c, ?_⟩
    rw [wr1 (n := p.length + 1) (by omega) (by omega)]
    exact ih
theorem specNorm_loop (s : List Sy) (hs : s.length ≤ 10000000) (f v : Int) (ks : List Tm) (hk : Tm.cns ks ≤ 1200000000000) : ∀ (q p acc : List Tm), ks = p ++ q → acc.length + Tm.cns q ≤ 2400000000000 → (∀ t ∈ q, t.cn ≤ 1200000000000 ∧ XC Try.prog 59 [L (s.map Sy.da), .dat t.da] [] (.dat (nrm s t).da) []) → spec_Norm_L3 (.dat (Tm.mk f v (if bl s f then isort Tm.cmp (acc ++ nrmK s (bl s f) f q) else acc ++ nrmK s (bl s f) f q)).da) [] (s.map Sy.da) (p.length : Int) f v (Tm.das ks) 0 0 f v (Tm.das (if bl s f then isort Tm.cmp acc else acc))
  | [], p, acc, e, _, _ => by
    apply spec_Norm_L3_of
    subst e
    refine ifB_f (lt_decF (by simp [das_len])) ⟨?_, rfl⟩
    simp only [nrmK, List.append_nil]
    rfl
  | y :: q, p, acc, e, ha, hc => by
    have hcn : Tm.cns (y :: q) = 1 + y.cn + Tm.cns q := by simp [Tm.cns]
    have hkl := Tm.cns_cnL ks ▸ cnL_len Tm.cn ks
    obtain ⟨hyc, cy⟩ := hc y (by simp)
    have hnc := nrm_cn s y
    have hnl := Tm.len_cns (nrm s y).ks
    rw [Tm.cn_ks] at hnl
    have hx : (Tm.das ks)[p.length]? = some y.da := by rw [e]; exact das_app_get
    have hlt : p.length < ks.length := by rw [e]; simp
    have hw : IntKind.wrap .i64 ((p.length : Int) + 1) = ((p.length + 1 : Nat) : Int) := wr1 hlt (by omega)
    have ih := fun acc' h => specNorm_loop s hs f v ks hk q (p ++ [y]) acc' (by simp [e]) h (fun t ht => hc t (List.mem_cons_of_mem _ ht))
    rw [len_app1] at ih
    have eb := specBlind_call s f hs
    have eK : nrmK s (bl s f) f (y :: q) = (if bl s f = true ∧ (nrm s y).f = f then (nrm s y).ks else [nrm s y]) ++ nrmK s (bl s f) f q := by rw [nrmK]
    rw [eK]
    have cP := l4Put_call (nrm s y) (isort Tm.cmp acc) (by rw [(isort_perm _ _).length_eq]; omega)
    generalize hny : nrm s y = ny at *
    generalize bl s f = b at *
    obtain ⟨g, u, ms⟩ := y
    obtain ⟨g', u', ms'⟩ := ny
    apply spec_Norm_L3_of
    rw [hw]
    refine ifB_t (lt_dec (by rw [das_len]; exact hlt)) ⟨p.length, rfl, g, u, Tm.das ms, hx, _, _, _, cy, _, eb, ?_⟩
    cases b with
    | false =>
      refine ifB_t rfl ⟨⟨by simp [das_len]; omega⟩, ?_⟩
      have := ih (acc ++ [.mk g' u' ms']) (by simp; omega)
      simpa [das_app, Tm.das, Tm.da] using this
    | true =>
      refine ifB_f rfl ?_
      by_cases hg : g' = f
      · refine ifB_f (decide_eq_false (by simp [hg])) ?_
        have := ih (acc ++ ms') (by simp [Tm.ks] at hnl ⊢; omega)
        have h7 := specNorm_in (.dat (Tm.mk f v (if true = true then isort Tm.cmp (acc ++ ((if true = true ∧ (Tm.mk g' u' ms').f = f then (Tm.mk g' u' ms').ks else [.mk g' u' ms']) ++ nrmK s true f q)) else acc ++ ((if true = true ∧ (Tm.mk g' u' ms').f = f then (Tm.mk g' u' ms').ks else [.mk g' u' ms']) ++ nrmK s true f q))).da) [] (s.map Sy.da) (p.length : Int) f v (Tm.das ks) f v g' u' ms' ms' [] acc rfl (by simp [Tm.ks] at hnl; omega) (by simp [Tm.ks] at hnl ⊢; omega)
        rw [hw] at h7
        refine h7 ?_
        simpa [Tm.f, Tm.ks, hg, List.append_assoc] using this
      · refine ifB_t (decide_eq_true (by simpa using hg)) ⟨_, cP, ?_⟩
        have := ih (acc ++ [.mk g' u' ms']) (by simp; omega)
        simp only [if_true, isort_snoc] at this
        simpa [Tm.f, hg, List.append_assoc] using this
theorem specNorm_call (s : List Sy) (hs : s.length ≤ 10000000) (t : Tm) : t.cn ≤ 1200000000000 → XC Try.prog 59 [L (s.map Sy.da), .dat t.da] [] (.dat (nrm s t).da) [] := by
  induction t using Tm.ind with
  | h f v ks ih =>
  intro hc
  have hcn : (Tm.mk f v ks).cn = Tm.cns ks := by simp [Tm.cn]
  rw [hcn] at hc
  apply spec_Norm_of
  have := specNorm_loop s hs f v ks hc ks [] [] rfl (by simp; omega) (fun t ht => by
    have hb : t.cn ≤ 1200000000000 := by have := Tm.cns_cnL ks ▸ cnL_mem (cn := Tm.cn) ht; omega
    exact ⟨hb, ih t ht hb⟩)
  simpa [nrm, isort, Tm.das] using this
theorem implNorm_loop (s : List Sy) (hs : s.length ≤ 10000000) (f v : Int) (ks : List Tm) (hk : Tm.cns ks ≤ 1200000000000) : ∀ (q p acc : List Tm), ks = p ++ q → acc.length + Tm.cns q ≤ 2400000000000 → (∀ t ∈ q, t.cn ≤ 1200000000000 ∧ XC Try.prog 65 [L (s.map Sy.da), .dat t.da] [] (.agg [.d (.int .i64 (nrm s t).f), .d (.int .i64 (nrm s t).v), .ol 0]) [(0, .tr 31 3 (Tm.das (nrm s t).ks))]) → impl_Norm_L3 (.agg [.d (.int .i64 f), .d (.int .i64 v), .ol 0]) [(0, .tr 31 3 (Tm.das (if bl s f then isort Tm.cmp (acc ++ nrmK s (bl s f) f q) else acc ++ nrmK s (bl s f) f q)))] (s.map Sy.da) (Tm.das ks) (ks.length : Int) (p.length : Int) f v (Tm.das ks) 0 0 (Tm.das acc)
  | [], p, acc, e, ha, _ => by
    have eb := implBlind_call s f hs
    have cs := sortTm_call acc (by omega)
    apply impl_Norm_L3_of
    subst e
    refine ifB_f (lt_decF (by simp)) ⟨_, eb, ?_⟩
    simp only [nrmK, List.append_nil]
    generalize bl s f = b at *
    cases b with
    | true => exact ifB_t rfl ⟨_, cs, by simp⟩
    | false => exact ifB_f rfl (by simp)
  | y :: q, p, acc, e, ha, hc => by
    have hcn : Tm.cns (y :: q) = 1 + y.cn + Tm.cns q := by simp [Tm.cns]
    have hkl := Tm.cns_cnL ks ▸ cnL_len Tm.cn ks
    obtain ⟨hyc, cy⟩ := hc y (by simp)
    have hnc := nrm_cn s y
    have hnl := Tm.len_cns (nrm s y).ks
    rw [Tm.cn_ks] at hnl
    have hx : (Tm.das ks)[p.length]? = some y.da := by rw [e]; exact das_app_get
    have hlt : p.length < ks.length := by rw [e]; simp
    have hw : IntKind.wrap .i64 ((p.length : Int) + 1) = ((p.length + 1 : Nat) : Int) := wr1 hlt (by omega)
    have ih := fun acc' h => implNorm_loop s hs f v ks hk q (p ++ [y]) acc' (by simp [e]) h (fun t ht => hc t (List.mem_cons_of_mem _ ht))
    rw [len_app1] at ih
    have eb := implBlind_call s f hs
    have eK : nrmK s (bl s f) f (y :: q) = (if bl s f = true ∧ (nrm s y).f = f then (nrm s y).ks else [nrm s y]) ++ nrmK s (bl s f) f q := by rw [nrmK]
    rw [eK]
    generalize hny : nrm s y = ny at *
    generalize bl s f = b at *
    obtain ⟨g, u, ms⟩ := y
    obtain ⟨g', u', ms'⟩ := ny
    apply impl_Norm_L3_of
    rw [hw]
    refine ifB_t (lt_dec hlt) ⟨p.length, rfl, g, u, Tm.das ms, hx, _, _, _, cy, _, eb, ?_⟩
    simp only [Tm.f, Tm.v, Tm.ks] at hnl ⊢
    cases b with
    | false =>
      refine ifB_f rfl ⟨⟨by simp [das_len]; omega⟩, ?_⟩
      have := ih (acc ++ [.mk g' u' ms']) (by simp; omega)
      simpa [das_app, Tm.das, Tm.da] using this
    | true =>
      refine ifB_t rfl ?_
      by_cases hg : g' = f
      · refine ifB_t (decide_eq_true hg) ⟨⟨by simp [das_len]; omega⟩, ?_⟩
        have := ih (acc ++ ms') (by simp; omega)
        simpa [das_app, hg, List.append_assoc] using this
      · refine ifB_f (decide_eq_false hg) ⟨⟨by simp [das_len]; omega⟩, ?_⟩
        have := ih (acc ++ [.mk g' u' ms']) (by simp; omega)
        simpa [das_app, Tm.das, Tm.da, hg, List.append_assoc] using this
theorem implNorm_call (s : List Sy) (hs : s.length ≤ 10000000) (t : Tm) : t.cn ≤ 1200000000000 → XC Try.prog 65 [L (s.map Sy.da), .dat t.da] [] (.agg [.d (.int .i64 (nrm s t).f), .d (.int .i64 (nrm s t).v), .ol 0]) [(0, .tr 31 3 (Tm.das (nrm s t).ks))] := by
  induction t using Tm.ind with
  | h f v ks ih =>
  intro hc
  have hcn : (Tm.mk f v ks).cn = Tm.cns ks := by simp [Tm.cn]
  rw [hcn] at hc
  apply impl_Norm_of
  have := implNorm_loop s hs f v ks hc ks [] [] rfl (by simp; omega) (fun t ht => by
    have hb : t.cn ≤ 1200000000000 := by have := Tm.cns_cnL ks ▸ cnL_mem (cn := Tm.cn) ht; omega
    exact ⟨hb, ih t ht hb⟩)
  rw [das_len]
  simpa [nrm, Tm.f, Tm.v, Tm.ks, Tm.das] using this
def lmk (s : List Sy) (pos : Bool) (a b : Tm) : Li := if Tm.cmp (nrm s a) (nrm s b) < 0 then ⟨pos, nrm s b, nrm s a⟩ else ⟨pos, nrm s a, nrm s b⟩
theorem lmk_cn (s : List Sy) (pos : Bool) (a b : Tm) : (lmk s pos a b).cn ≤ a.cn + b.cn := by
  have h1 := nrm_cn s a
  have h2 := nrm_cn s b
  unfold lmk Li.cn; split <;> dsimp only <;> omega
theorem mkNSy_eq : ∀ l : List Sy, mkNSy l = 3 * l.length
  | [] => by simp [mkNSy]
  | ⟨a, b, c⟩ :: r => by
    have h := mkNSy_eq r
    rw [mkNSy_cons, h, List.length_cons]
    simp only [mknSy]
    omega
/-- What a substitution says of a variable. -/
def lookT : List Bd → Int → Tm
  | [], v => .mk (-1) v []
  | b :: r, v => if b.v = v then b.t else lookT r v
def bndT : List Bd → Int → Tm × Bool
  | [], _ => (.mk 0 0 [], false)
  | b :: r, v => if b.v = v then (b.t, true) else bndT r v
theorem lookT_bnd : ∀ (u : List Bd) (v : Int), lookT u v = if (bndT u v).2 then (bndT u v).1 else .mk (-1) v []
  | [], v => rfl
  | b :: r, v => by
    unfold lookT bndT; split
    · rfl
    · exact lookT_bnd r v
theorem lookT_cn : ∀ (u : List Bd) (v : Int), (lookT u v).cn ≤ cnL Bd.cn u
  | [], v => by simp [lookT, Tm.cn, Tm.cns]
  | b :: r, v => by
    have h := lookT_cn r v
    have e : cnL Bd.cn (b :: r) = 1 + b.t.cn + cnL Bd.cn r := by simp [cnL, Bd.cn]; omega
    unfold lookT; split
    · omega
    · omega
mutual
def fil (u : List Bd) : Tm → Tm
  | .mk f v ks => if f = -1 ∧ ks.length = 0 then lookT u v else .mk f v (fils u ks)
def fils (u : List Bd) : List Tm → List Tm
  | [] => []
  | t :: r => fil u t :: fils u r
end
theorem fils_map (u : List Bd) (l : List Tm) : fils u l = l.map (fil u) := by induction l <;> simp_all [fils]
mutual
theorem fil_cn (u : List Bd) : ∀ t : Tm, (fil u t).cn + 1 ≤ (t.cn + 1) * (cnL Bd.cn u + 1)
  | .mk f v ks => by
    have h := fils_cns u ks
    have hl := lookT_cn u v
    simp only [fil, Tm.cn]
    rw [Nat.add_mul, Nat.one_mul]
    split
    · omega
    · simp only [Tm.cn]; omega
theorem fils_cns (u : List Bd) : ∀ l : List Tm, Tm.cns (fils u l) ≤ Tm.cns l * (cnL Bd.cn u + 1)
  | [] => by simp [fils, Tm.cns]
  | t :: r => by
    have h1 := fil_cn u t
    have h2 := fils_cns u r
    have e : Tm.cns (t :: r) = (t.cn + 1) + Tm.cns r := by simp [Tm.cns]; omega
    rw [e, Nat.add_mul]
    simp only [fils, Tm.cns]
    omega
end
theorem fil_big {u : List Bd} {t : Tm} (h1 : t.cn ≤ 1048576) (h2 : cnL Bd.cn u ≤ 1048576) : (fil u t).cn ≤ 1099513724928 := by
  have h := fil_cn u t
  have := Nat.mul_le_mul (show t.cn + 1 ≤ 1048577 by omega) (show cnL Bd.cn u + 1 ≤ 1048577 by omega)
  omega
def appT (s : List Sy) (u : List Bd) (t : Tm) : Tm := nrm s (fil u t)
theorem appT_cn {s : List Sy} {u : List Bd} {t : Tm} (h1 : t.cn ≤ 1048576) (h2 : cnL Bd.cn u ≤ 1048576) : (appT s u t).cn ≤ 1099513724928 := Nat.le_trans (nrm_cn s _) (fil_big h1 h2)
def litA (s : List Sy) (u : List Bd) (x : Li) : Li := lmk s x.p (appT s u x.l) (appT s u x.r)
theorem litA_cn {s : List Sy} {u : List Bd} {x : Li} (h1 : x.cn ≤ 1048576) (h2 : cnL Bd.cn u ≤ 1048576) : (litA s u x).cn ≤ 2199027449856 := by
  have h0 : x.cn = x.l.cn + x.r.cn := rfl
  have h3 := lmk_cn s x.p (appT s u x.l) (appT s u x.r)
  have h4 := appT_cn (s := s) (u := u) (t := x.l) (by omega) h2
  have h5 := appT_cn (s := s) (u := u) (t := x.r) (by omega) h2
  unfold litA
  omega
/-- What comes in goes to its place, unless it is there. -/
def insD {α : Type} (cmp : α → α → Int) (x : α) : List α → List α
  | [] => [x]
  | y :: r => if cmp y x < 0 then y :: insD cmp x r else if cmp y x = 0 then y :: r else x :: y :: r
def insS {α : Type} (cmp : α → α → Int) (l : List α) : List α := l.foldl (fun a x => insD cmp x a) []
/-- What is left of a list if what is as the one ahead goes away. -/
def cmpF {β : Type} (eq : β → β → Bool) : β → List β → List β
  | _, [] => []
  | p, y :: r => if eq y p then cmpF eq y r else y :: cmpF eq y r
def cmpL {β : Type} (eq : β → β → Bool) : List β → List β
  | [] => []
  | x :: r => x :: cmpF eq x r
abbrev SsC {α : Type} (cmp : α → α → Int) (l : List α) : Prop := l.Pairwise (fun a b => cmp a b < 0)
section
variable {α : Type} {cmp : α → α → Int}
theorem TotC.lt_tr (h : TotC cmp) {a b c : α} (h1 : cmp a b < 0) (h2 : cmp b c ≤ 0) : cmp a c < 0 := by
  have h3 := h.tr a b c (by omega) h2
  by_cases h4 : cmp a c = 0
  · have := h.eq a c h4
    subst this
    have := h.neg a b
    omega
  · omega
theorem TotC.self (h : TotC cmp) (a : α) : cmp a a = 0 := by have := h.neg a a; omega
theorem insD_mem (h : TotC cmp) {x y : α} : ∀ {l : List α}, y ∈ insD cmp x l ↔ y = x ∨ y ∈ l
  | [] => by simp [insD]
  | z :: r => by
    have ih := insD_mem h (x := x) (y := y) (l := r)
    unfold insD
    split
    · rw [List.mem_cons, ih, List.mem_cons]
      constructor <;> rintro (h | h | h) <;> simp [h]
    · split
      · rename_i h2
        have := h.eq _ _ h2
        subst this
        simp
      · simp
theorem insD_ss (h : TotC cmp) {x : α} : ∀ {l : List α}, SsC cmp l → SsC cmp (insD cmp x l)
  | [], _ => by simp [insD, SsC]
  | z :: r, hs => by
    obtain ⟨h1, h2⟩ := List.pairwise_cons.1 hs
    unfold insD
    split
    · rename_i hz
      refine List.pairwise_cons.2 ⟨fun w hw => ?_, insD_ss h h2⟩
      rcases (insD_mem h).1 hw with rfl | hw
      · exact hz
      · exact h1 w hw
    · split
      · exact hs
      · have hxz : cmp x z < 0 := by have := h.neg x z; omega
        refine List.pairwise_cons.2 ⟨fun w hw => ?_, hs⟩
        rcases List.mem_cons.1 hw with rfl | hw
        · exact hxz
        · exact h.lt_tr hxz (by have := h1 w hw; omega)
theorem insS_acc (h : TotC cmp) (l : List α) : ∀ a : List α, SsC cmp a → SsC cmp (l.foldl (fun a x => insD cmp x a) a) ∧ ∀ y, y ∈ l.foldl (fun a x => insD cmp x a) a ↔ y ∈ l ∨ y ∈ a := by
  induction l with
  | nil => intro a ha; exact ⟨ha, by simp⟩
  | cons x r ih =>
    intro a ha
    obtain ⟨h1, h2⟩ := ih _ (insD_ss h ha)
    refine ⟨h1, fun y => ?_⟩
    rw [List.foldl_cons, h2, insD_mem h, List.mem_cons]
    constructor
    · rintro (h | h | h) <;> simp [h]
    · rintro ((h | h) | h) <;> simp [h]
theorem ss_uniq (h : TotC cmp) : ∀ {a b : List α}, SsC cmp a → SsC cmp b → (∀ x, x ∈ a ↔ x ∈ b) → a = b
  | [], [], _, _, _ => rfl
  | [], y :: s, _, _, hm => by have := (hm y).2 (by simp); simp at this
  | x :: r, [], _, _, hm => by have := (hm x).1 (by simp); simp at this
  | x :: r, y :: s, ha, hb, hm => by
    obtain ⟨a1, a2⟩ := List.pairwise_cons.1 ha
    obtain ⟨b1, b2⟩ := List.pairwise_cons.1 hb
    have hxy : x = y := by
      rcases List.mem_cons.1 ((hm x).1 (by simp)) with e | h1
      · exact e
      · rcases List.mem_cons.1 ((hm y).2 (by simp)) with e | h2
        · exact e.symm
        · have := a1 y h2; have := b1 x h1; have := h.neg x y; omega
    subst hxy
    rw [ss_uniq h a2 b2 fun z => ?_]
    have := hm z
    rw [List.mem_cons, List.mem_cons] at this
    constructor
    · intro hz
      rcases this.1 (.inr hz) with e | h1
      · subst e; have := a1 z hz; have := h.self z; omega
      · exact h1
    · intro hz
      rcases this.2 (.inr hz) with e | h1
      · subst e; have := b1 z hz; have := h.self z; omega
      · exact h1
theorem cmpF_mem {eq : α → α → Bool} (he : ∀ a b, eq a b = true → a = b) {y : α} : ∀ {l : List α} {p : α}, (y ∈ cmpF eq p l → y ∈ l) ∧ (y ∈ l → y = p ∨ y ∈ cmpF eq p l)
  | [], p => by simp [cmpF]
  | x :: r, p => by
    obtain ⟨h1, h2⟩ := cmpF_mem he (y := y) (l := r) (p := x)
    unfold cmpF
    split
    · rename_i h3
      have := he _ _ h3
      subst this
      exact ⟨fun h => List.mem_cons_of_mem _ (h1 h), fun h => by
        rcases List.mem_cons.1 h with h | h
        · exact .inl h
        · exact h2 h⟩
    · refine ⟨fun h => ?_, fun h => ?_⟩
      · rcases List.mem_cons.1 h with h | h
        · simp [h]
        · exact List.mem_cons_of_mem _ (h1 h)
      · rcases List.mem_cons.1 h with h | h
        · simp [h]
        · rcases h2 h with h | h <;> simp [h]
theorem cmpF_ss (h : TotC cmp) {eq : α → α → Bool} (he : ∀ a b, eq a b = decide (cmp a b = 0)) : ∀ {l : List α} {p : α}, SdC cmp (p :: l) → SsC cmp (p :: cmpF eq p l)
  | [], p, _ => by simp [cmpF, SsC]
  | x :: r, p, hs => by
    obtain ⟨h1, h2⟩ := List.pairwise_cons.1 hs
    have ih := cmpF_ss h he h2
    unfold cmpF
    split
    · rename_i h3
      rw [he, decide_eq_true_eq] at h3
      have := h.eq _ _ h3
      subst this
      exact ih
    · rename_i h3
      rw [he, decide_eq_true_eq] at h3
      have hpx : cmp p x < 0 := by have := h1 x (by simp); have := h.neg p x; omega
      refine List.pairwise_cons.2 ⟨fun w hw => ?_, ih⟩
      rcases List.mem_cons.1 hw with rfl | hw
      · exact hpx
      · exact h.lt_tr hpx (by have := (List.pairwise_cons.1 ih).1 w hw; omega)
/-- To sort and to leave away is to put in, one by one. -/
theorem cmpL_isort (h : TotC cmp) {eq : α → α → Bool} (he : ∀ a b, eq a b = decide (cmp a b = 0)) (l : List α) : cmpL eq (isort cmp l) = insS cmp l := by
  obtain ⟨h1, h2⟩ := insS_acc h l [] (by simp [SsC])
  have hs := isort_sd h l
  have hp := isort_perm cmp l
  have hee : ∀ a b, eq a b = true → a = b := fun a b e => h.eq a b (by simpa [he] using e)
  generalize isort cmp l = s at hs hp
  refine ss_uniq h ?_ h1 fun x => ?_
  · cases s with
    | nil => simp [cmpL, SsC]
    | cons p r => exact cmpF_ss h he hs
  · rw [insS, h2, ← hp.mem_iff]
    cases s with
    | nil => simp [cmpL]
    | cons p r =>
      obtain ⟨g1, g2⟩ := cmpF_mem hee (y := x) (l := r) (p := p)
      simp only [cmpL, List.mem_cons, List.not_mem_nil, or_false]
      constructor
      · rintro (h | h)
        · exact .inl h
        · exact .inr (g1 h)
      · rintro (h | h)
        · exact .inl h
        · exact g2 h
theorem cmpF_perm {β : Type} (eq : β → β → Bool) : ∀ (l : List β) (p : β), ∃ r, (cmpF eq p l ++ r).Perm l
  | [], p => ⟨[], by simp [cmpF]⟩
  | y :: l, p => by
    obtain ⟨r, h⟩ := cmpF_perm eq l y
    unfold cmpF
    split
    · exact ⟨y :: r, List.perm_middle.trans (h.cons y)⟩
    · exact ⟨r, h.cons y⟩
theorem cmpF_map {β γ : Type} (g : β → γ) (eq : γ → γ → Bool) : ∀ (l : List β) (p : β), (cmpF (fun a b => eq (g a) (g b)) p l).map g = cmpF eq (g p) (l.map g)
  | [], p => rfl
  | y :: l, p => by
    have h := cmpF_map g eq l y
    simp only [cmpF, List.map_cons]
    split
    · exact h
    · rw [List.map_cons, h]
theorem insD_cnL {cn : α → Nat} {x : α} : ∀ l : List α, (((insD cmp x l).map cn).sum + (insD cmp x l).length) ≤ cn x + 1 + ((l.map cn).sum + l.length)
  | [] => by simp [insD]
  | y :: r => by
    have h := insD_cnL (cn := cn) (x := x) r
    unfold insD; split
    · simp only [List.map_cons, List.sum_cons, List.length_cons]; omega
    · split <;> simp only [List.map_cons, List.sum_cons, List.length_cons] <;> omega
end
def lmkL (s : List Sy) (x : Li) : Li := lmk s x.p x.l x.r
/-- A clause made of Lits. -/
def clm (s : List Sy) (ls : List Li) : List Li := insS Li.cmp (ls.map (lmkL s))
theorem lmkL_cn (s : List Sy) (x : Li) : (lmkL s x).cn ≤ x.cn := lmk_cn s x.p x.l x.r
theorem insS_cnL (l : List Li) : ∀ a : List Li, cnL Li.cn (l.foldl (fun a x => insD Li.cmp x a) a) ≤ cnL Li.cn a + cnL Li.cn l := by
  induction l with
  | nil => intro a; simp
  | cons x r ih =>
    intro a
    have h1 := ih (insD Li.cmp x a)
    have h2 := insD_cnL (cmp := Li.cmp) (cn := Li.cn) (x := x) a
    have e1 : cnL Li.cn (x :: r) = 1 + x.cn + cnL Li.cn r := by simp [cnL]; omega
    have e2 : cnL Li.cn a = a.length + (a.map Li.cn).sum := by simp [cnL]
    have e3 : cnL Li.cn (insD Li.cmp x a) = (insD Li.cmp x a).length + ((insD Li.cmp x a).map Li.cn).sum := by simp [cnL]
    rw [List.foldl_cons]
    omega
theorem lmkL_cnL (s : List Sy) (l : List Li) : cnL Li.cn (l.map (lmkL s)) ≤ cnL Li.cn l := by
  induction l with
  | nil => simp
  | cons x r ih =>
    have h := lmkL_cn s x
    have e1 : cnL Li.cn (x :: r) = 1 + x.cn + cnL Li.cn r := by simp [cnL]; omega
    have e2 : cnL Li.cn ((x :: r).map (lmkL s)) = 1 + (lmkL s x).cn + cnL Li.cn (r.map (lmkL s)) := by simp [cnL]; omega
    omega
theorem clm_cn (s : List Sy) (ls : List Li) : cnL Li.cn (clm s ls) ≤ cnL Li.cn ls := by
  have h1 := insS_cnL (ls.map (lmkL s)) []
  have h2 := lmkL_cnL s ls
  have h3 : cnL Li.cn ([] : List Li) = 0 := by simp [cnL]
  unfold clm insS
  omega
def clA (s : List Sy) (u : List Bd) (ls : List Li) : List Li := clm s (ls.map (litA s u))
theorem litA_cn2 (s : List Sy) (u : List Bd) (x : Li) : (litA s u x).cn + 2 ≤ (x.cn + 2) * (cnL Bd.cn u + 1) := by
  have h1 := fil_cn u x.l
  have h2 := fil_cn u x.r
  have h3 := lmk_cn s x.p (appT s u x.l) (appT s u x.r)
  have h4 := nrm_cn s (fil u x.l)
  have h5 := nrm_cn s (fil u x.r)
  have h0 : x.cn = x.l.cn + x.r.cn := rfl
  have e1 : appT s u x.l = nrm s (fil u x.l) := rfl
  have e2 : appT s u x.r = nrm s (fil u x.r) := rfl
  rw [← e1] at h4
  rw [← e2] at h5
  have e : (x.cn + 2) * (cnL Bd.cn u + 1) = (x.l.cn + 1) * (cnL Bd.cn u + 1) + (x.r.cn + 1) * (cnL Bd.cn u + 1) := by rw [← Nat.add_mul, h0]; congr 1; omega
  unfold litA
  omega
theorem litA_cnL (s : List Sy) (u : List Bd) (l : List Li) : cnL Li.cn (l.map (litA s u)) ≤ (2 * cnL Li.cn l) * (cnL Bd.cn u + 1) := by
  induction l with
  | nil => simp [cnL]
  | cons x r ih =>
    have h := litA_cn2 s u x
    have e1 : cnL Li.cn (x :: r) = 1 + x.cn + cnL Li.cn r := by simp [cnL]; omega
    have e2 : cnL Li.cn ((x :: r).map (litA s u)) = 1 + (litA s u x).cn + cnL Li.cn (r.map (litA s u)) := by simp [cnL]; omega
    have e3 : (2 * cnL Li.cn (x :: r)) * (cnL Bd.cn u + 1) = (x.cn + 2) * (cnL Bd.cn u + 1) + x.cn * (cnL Bd.cn u + 1) + (2 * cnL Li.cn r) * (cnL Bd.cn u + 1) := by
      rw [← Nat.add_mul, ← Nat.add_mul, e1]; congr 1; omega
    omega
theorem mul_half {a b : Nat} (h : a + b ≤ 1048577) : 4 * (a * b) ≤ 1099513724929 := by
  have key : 4 * (a * b) ≤ (a + b) * (a + b) := by
    rcases Nat.le_total a b with h1 | h1
    · obtain ⟨d, rfl⟩ := Nat.exists_eq_add_of_le h1
      have e1 : a * (a + d) = a * a + a * d := Nat.mul_add ..
      have e2 : (a + (a + d)) * (a + (a + d)) = 4 * (a * a) + 4 * (a * d) + d * d := by
        simp only [Nat.add_mul, Nat.mul_add, Nat.mul_comm d a]; omega
      omega
    · obtain ⟨d, rfl⟩ := Nat.exists_eq_add_of_le h1
      have e1 : (b + d) * b = b * b + d * b := Nat.add_mul ..
      have e2 : (b + d + b) * (b + d + b) = 4 * (b * b) + 4 * (d * b) + d * d := by
        simp only [Nat.add_mul, Nat.mul_add, Nat.mul_comm b d]; omega
      omega
  have := Nat.mul_le_mul h h
  omega
theorem litA_cnB (s : List Sy) {u : List Bd} {l : List Li} (h : cnL Li.cn l + cnL Bd.cn u ≤ 1048576) : cnL Li.cn (l.map (litA s u)) ≤ 600000000000 := by
  have h1 := litA_cnL s u l
  have h2 := mul_half (a := cnL Li.cn l) (b := cnL Bd.cn u + 1) (by omega)
  rw [Nat.mul_assoc] at h1
  omega
theorem clA_cn (s : List Sy) (u : List Bd) (l : List Li) (h : cnL Li.cn l + cnL Bd.cn u ≤ 1048576) : cnL Li.cn (clA s u l) ≤ 600000000000 := by
  have h1 := litA_cnB s h
  have h2 := clm_cn s (l.map (litA s u))
  unfold clA
  omega
/-- A term with another one at a place. -/
def putR : List Int → Tm → Tm → Tm
  | [], _, x => x
  | n :: r, t, x => match t.ks[n.toNat]? with
    | some u => .mk t.f t.v (t.ks.set n.toNat (putR r u x))
    | none => t
theorem cns_set : ∀ (l : List Tm) (m : Nat) (u y : Tm), l[m]? = some u → Tm.cns (l.set m y) + u.cn = Tm.cns l + y.cn
  | [], m, u, y, h => by simp at h
  | a :: l, 0, u, y, h => by
    have : a = u := by simpa using h
    subst this
    simp only [List.set_cons_zero, Tm.cns]; omega
  | a :: l, m + 1, u, y, h => by
    have := cns_set l m u y (by simpa using h)
    simp only [List.set_cons_succ, Tm.cns]; omega
theorem putR_cn : ∀ (w : List Int) (t x : Tm), (putR w t x).cn ≤ t.cn + x.cn
  | [], t, x => by simp [putR]
  | n :: r, t, x => by
    unfold putR
    split
    · rename_i u hu
      have h1 := putR_cn r u x
      have h2 := cns_set t.ks n.toNat u (putR r u x) hu
      have h3 : t.cn = Tm.cns t.ks := by cases t; rfl
      have h4 : (Tm.mk t.f t.v (t.ks.set n.toNat (putR r u x))).cn = Tm.cns (t.ks.set n.toNat (putR r u x)) := rfl
      omega
    · omega
theorem atR_ok {n : Int} {r : List Int} {t : Tm} (h : (atR (n :: r) t).2 = true) : ∃ (m : Nat) (u : Tm), n = (m : Int) ∧ t.ks[m]? = some u ∧ (atR r u).2 = true := by
  rw [atR] at h
  split at h
  · rename_i h1
    split at h
    · rename_i u hu
      exact ⟨n.toNat, u, by omega, hu, h⟩
    · simp at h
  · simp at h
theorem putR_cons {m : Nat} {r : List Int} {t u x : Tm} (h : t.ks[m]? = some u) : putR ((m : Int) :: r) t x = .mk t.f t.v (t.ks.set m (putR r u x)) := by
  rw [putR]
  simp [h]
theorem ints1 (l : List Int) : ∀ c ∈ l.map In.da, c.length = 1 := by
  intro c hc
  obtain ⟨n, _, rfl⟩ := List.mem_map.1 hc
  rfl
theorem l13Put_loop (m : Nat) (w : List Int) (f v : Int) (ks : List Tm) (u y x : Tm) (hu : ks[m]? = some u) (hc : Tm.cns ks ≤ 1200000000000) (c : XC Try.prog 60 [.dat u.da, L (w.map In.da), .dat x.da] [] (.dat y.da) []) : ∀ (q p : List Tm), ks = p ++ q → spec_l13Put_L5 (.dat (Tm.mk f v (ks.set m y)).da) [] (((m : Int) :: w).map In.da) (p.length : Int) f v (Tm.das ks) x.f x.v (Tm.das x.ks) 0 0 f v (Tm.das ((ks.set m y).take p.length))
  | [], p, e => by
    have hl : ks.length = p.length := by rw [e]; simp
    apply spec_l13Put_L5_of
    refine ifB_f (decide_eq_false (by rw [das_len]; omega)) ⟨?_, rfl⟩
    rw [List.take_of_length_le (by simp; omega)]
    rfl
  | z :: q, p, e => by
    have ih := l13Put_loop m w f v ks u y x hu hc c q (p ++ [z]) (by simp [e])
    have hlt : p.length < ks.length := by rw [e]; simp
    have hkl := Tm.len_cns ks
    have hz : ks[p.length]? = some z := by rw [e]; exact get_mid
    have hx := get_das hz
    have hw : IntKind.wrap .i64 ((p.length : Int) + 1) = ((p.length + 1 : Nat) : Int) := wr1 hlt (by omega)
    have hb : ((Tm.das ((ks.set m y).take p.length)).length + 1) * 40 ≤ 140737488355328 := by rw [das_len]; simp; omega
    have hzc : z.cn ≤ Tm.cns ks := by have := cnL_mem (cn := Tm.cn) (List.mem_of_getElem? hz); rw [← Tm.cns_cnL] at this; omega
    have c2 := l3Copy_call z (by omega)
    have ew : List.drop 1 (List.take (((m : Int) :: w).map In.da).length (((m : Int) :: w).map In.da)) = w.map In.da := by rw [List.take_length]; rfl
    rw [len_app1, List.take_add_one, das_app] at ih
    have e0 : (((m : Int) :: w).map In.da)[0]? = some [.int .i64 (m : Int)] := rfl
    apply spec_l13Put_L5_of
    rw [hw]
    refine ifB_t (lt_dec (by rw [das_len]; exact hlt)) ⟨0, rfl, _, e0, ?_⟩
    by_cases hm : p.length = m
    · have hzu : z = u := by rw [hm] at hz; rw [hz] at hu; exact Option.some.inj hu
      subst hzu
      have hs : (ks.set m y)[p.length]? = some y := by rw [hm]; exact List.getElem?_set_self (by omega)
      rw [hs] at ih
      rw [← ew] at c
      have ex : x.da = [.int .i64 x.f, .int .i64 x.v, .sl (Tm.das x.ks)] := by cases x; rfl
      have ey : Tm.das (some y).toList = [[.int .i64 y.f, .int .i64 y.v, .sl (Tm.das y.ks)]] := by cases y; rfl
      have ey2 : y.da = [.int .i64 y.f, .int .i64 y.v, .sl (Tm.das y.ks)] := by cases y; rfl
      rw [ex, ey2] at c
      rw [ey] at ih
      obtain ⟨g, a, ms⟩ := z
      exact ifB_t (decide_eq_true (by omega)) ⟨p.length, rfl, _, _, _, hx, 1, rfl, ⟨by simp, Nat.le_refl _⟩, ⟨ints1 _⟩, _, _, _, c, ⟨hb⟩, ih⟩
    · have hs : (ks.set m y)[p.length]? = some z := by rw [List.getElem?_set_ne (by omega)]; exact hz
      rw [hs] at ih
      obtain ⟨g, a, ms⟩ := z
      exact ifB_f (decide_eq_false (by omega)) ⟨p.length, rfl, _, _, _, hx, _, _, _, c2, ⟨hb⟩, ih⟩
theorem l13Put_call : ∀ (w : List Int) (t x : Tm), (atR w t).2 = true → t.cn ≤ 1200000000000 → x.cn ≤ 1200000000000 → XC Try.prog 60 [.dat t.da, L (w.map In.da), .dat x.da] [] (.dat (putR w t x).da) []
  | [], t, x, _, _, hx => by
    have c := l3Copy_call x hx
    rw [putR]
    obtain ⟨f, v, ks⟩ := t
    obtain ⟨g, u, ms⟩ := x
    apply spec_l13Put_of
    exact ifB_t rfl ⟨_, _, _, c, rfl, rfl⟩
  | n :: w, t, x, h, ht, hx => by
    obtain ⟨m, u, rfl, hu, h2⟩ := atR_ok h
    have huc := (cn_kidA hu).1
    have c := l13Put_call w u x h2 (by omega) hx
    rw [putR_cons hu]
    have h3 : t.cn = Tm.cns t.ks := by cases t; rfl
    have hl := l13Put_loop m w t.f t.v t.ks u (putR w u x) x hu (by omega) c t.ks [] rfl
    obtain ⟨f, v, ks⟩ := t
    obtain ⟨g, a, ms⟩ := x
    apply spec_l13Put_of
    exact ifB_f (decide_eq_false (by simp; omega)) hl
def putA (s : List Sy) (w : List Int) (t x : Tm) : Tm := if (atR w t).2 then nrm s (putR w t x) else nrm s t
theorem putA_cn (s : List Sy) (w : List Int) (t x : Tm) : (putA s w t x).cn ≤ t.cn + x.cn := by
  have h1 := nrm_cn s (putR w t x)
  have h2 := nrm_cn s t
  have h3 := putR_cn w t x
  unfold putA; split <;> omega
theorem specPutAt_call (s : List Sy) (hs : s.length ≤ 10000000) (t : Tm) (ht : t.cn ≤ 1048576) (w : List Int) (hw : w.length ≤ 1048576) (x : Tm) (hx : x.cn ≤ 100000000000) : XC Try.prog 11 [L (s.map Sy.da), .dat t.da, L (w.map In.da), .dat x.da] [] (.dat (putA s w t x).da) [] := by
  have c1 := specAt_call t w ht hw
  have c2 := specNorm_call s hs t (by omega)
  have hp := putR_cn w t x
  have c3 := fun h => l13Put_call w t x h (by omega) (by omega)
  have c4 := specNorm_call s hs (putR w t x) (by omega)
  unfold putA
  generalize atR w t = ub at *
  obtain ⟨y, b⟩ := ub
  dsimp only at *
  generalize putR w t x = z at *
  generalize nrm s z = nz at *
  generalize nrm s t = nt at *
  obtain ⟨f, v, ks⟩ := t
  obtain ⟨g, a, ms⟩ := x
  obtain ⟨f1, v1, ks1⟩ := y
  obtain ⟨f2, v2, ks2⟩ := z
  obtain ⟨f3, v3, ks3⟩ := nz
  obtain ⟨f4, v4, ks4⟩ := nt
  apply spec_PutAt_of
  cases b with
  | true => exact ⟨_, _, _, _, c1, ifB_f rfl ⟨_, _, _, c3 rfl, _, _, _, c4, rfl, rfl⟩⟩
  | false => exact ⟨_, _, _, _, c1, ifB_t rfl ⟨_, _, _, c2, rfl, rfl⟩⟩
theorem cloneTm_call (l : List Tm) (hl : l.length ≤ 3000000000000) : XC Try.prog 103 [L (Tm.das l)] [] (.one (.ol 0)) [(0, .lst 31 3 (Tm.das l))] := by
  apply slices_Clone_Term_of
  refine ⟨fun h => ⟨rfl, ?_⟩, ⟨fun y hy => ?_⟩, ⟨by simp [das_len]; omega⟩, rfl, by simp⟩
  · cases l with
    | nil => rfl
    | cons a r =>
      obtain ⟨f, v, ks⟩ := a
      simp [Tm.das, Tm.da] at h
  · rw [Tm.das_map] at hy
    obtain ⟨t, _, rfl⟩ := List.mem_map.1 hy
    exact Tm.da_len t
theorem putAtP_call : ∀ (w : List Int) (t x : Tm), (atR w t).2 = true → t.cn ≤ 1200000000000 → XC Try.prog 64 [.dat t.da, L (w.map In.da), .dat x.da] [] (.dat (putR w t x).da) []
  | [], t, x, _, _ => by
    rw [putR]
    obtain ⟨f, v, ks⟩ := t
    obtain ⟨g, u, ms⟩ := x
    apply impl_putAt_of
    exact ifB_t rfl ⟨rfl, rfl⟩
  | n :: w, t, x, h, ht => by
    obtain ⟨m, u, rfl, hu, h2⟩ := atR_ok h
    have huc := (cn_kidA hu).1
    have hkc := (cn_kidA hu).2
    have c := putAtP_call w u x h2 (by omega)
    have cc := cloneTm_call t.ks (by omega)
    rw [putR_cons hu]
    have hux := get_das hu
    have hml := (List.getElem?_eq_some_iff.1 hu).1
    have ew : List.drop 1 (List.take (((m : Int) :: w).map In.da).length (((m : Int) :: w).map In.da)) = w.map In.da := by rw [List.take_length]; rfl
    rw [← ew] at c
    have e0 : (((m : Int) :: w).map In.da)[0]? = some [.int .i64 (m : Int)] := rfl
    have es : Tm.das (t.ks.set m (putR w u x)) = (Tm.das t.ks).set m (putR w u x).da := by rw [Tm.das_map, Tm.das_map, List.map_set]
    have eT : (Tm.mk t.f t.v (t.ks.set m (putR w u x))).da = [.int .i64 t.f, .int .i64 t.v, .sl ((Tm.das t.ks).set m (putR w u x).da)] := by rw [← es]; rfl
    rw [eT]
    generalize putR w u x = y at *
    obtain ⟨f, v, ks⟩ := t
    obtain ⟨g, a, ms⟩ := x
    obtain ⟨f1, v1, ks1⟩ := u
    obtain ⟨f2, v2, ks2⟩ := y
    dsimp only [Tm.ks, Tm.f, Tm.v] at *
    apply impl_putAt_of
    exact ifB_f (decide_eq_false (by simp; omega)) ⟨_, cc, 0, rfl, _, e0, 0, rfl, _, e0, m, rfl, ⟨by rw [das_len]; exact hml⟩, m, rfl, _, _, _, hux, 1, rfl, ⟨by simp, Nat.le_refl _⟩, ⟨ints1 _⟩, _, _, _, c, m, rfl, ⟨by rw [das_len]; exact hml⟩, m, rfl, _, _, _, hux, rfl, rfl⟩
theorem implPutAt_call (s : List Sy) (hs : s.length ≤ 10000000) (t : Tm) (ht : t.cn ≤ 1048576) (w : List Int) (hw : w.length ≤ 1048576) (x : Tm) (hx : x.cn ≤ 100000000000) : XC Try.prog 15 [L (s.map Sy.da), .dat t.da, L (w.map In.da), .dat x.da] [] (.agg [.d (.int .i64 (putA s w t x).f), .d (.int .i64 (putA s w t x).v), .ol 0]) [(0, .tr 31 3 (Tm.das (putA s w t x).ks))] := by
  have c1 := implAt_call t w ht hw
  have c2 := implNorm_call s hs t (by omega)
  have hp := putR_cn w t x
  have c3 := fun h => putAtP_call w t x h (by omega)
  have c4 := implNorm_call s hs (putR w t x) (by omega)
  unfold putA
  generalize atR w t = ub at *
  obtain ⟨y, b⟩ := ub
  dsimp only at *
  generalize putR w t x = z at *
  generalize nrm s z = nz at *
  generalize nrm s t = nt at *
  obtain ⟨f, v, ks⟩ := t
  obtain ⟨g, a, ms⟩ := x
  obtain ⟨f1, v1, ks1⟩ := y
  obtain ⟨f2, v2, ks2⟩ := z
  obtain ⟨f3, v3, ks3⟩ := nz
  obtain ⟨f4, v4, ks4⟩ := nt
  apply impl_PutAt_of
  cases b with
  | true => exact ⟨_, _, _, _, c1, ifB_t rfl ⟨_, _, _, c3 rfl, _, _, _, c4, rfl, rfl⟩⟩
  | false => exact ⟨_, _, _, _, c1, ifB_f rfl ⟨_, _, _, c2, rfl, rfl⟩⟩
/-- A function of terms, in one form. -/
def mkF (s : List Sy) (f : Int) (ks : List Tm) : Tm :=
  if bl s f = true ∧ ks.length = 0 then .mk 0 0 []
  else if bl s f = true ∧ ks.length = 1 then nrm s (ks.headD (.mk 0 0 []))
  else if inR f 0 ((s.length : Int) - 1) then nrm s (.mk f 0 ks) else .mk f 0 ks
theorem mkF_cn (s : List Sy) (f : Int) (ks : List Tm) : (mkF s f ks).cn ≤ Tm.cns ks := by
  have h1 := nrm_cn s (.mk f 0 ks)
  have h2 := nrm_cn s (ks.headD (.mk 0 0 []))
  have h3 : (Tm.mk f 0 ks).cn = Tm.cns ks := rfl
  unfold mkF
  split
  · simp [Tm.cn, Tm.cns]
  · split
    · rename_i h
      obtain ⟨a, rfl⟩ := List.length_eq_one_iff.1 h.2
      simp [Tm.cns] at h2 ⊢
      omega
    · split <;> omega
theorem l3List_loop (ks : List Tm) (hc : Tm.cns ks ≤ 1200000000000) : ∀ (q p : List Tm), ks = p ++ q → spec_l3List_L3 (L (Tm.das ks)) [] (Tm.das ks) (p.length : Int) (Tm.das p)
  | [], p, e => by
    subst e
    apply spec_l3List_L3_of
    rw [List.append_nil]
    exact ifB_f (decide_eq_false (by rw [das_len]; omega)) ⟨rfl, rfl⟩
  | y :: q, p, e => by
    have ih := l3List_loop ks hc q (p ++ [y]) (by simp [e])
    have hkl := Tm.len_cns ks
    have hy : ks[p.length]? = some y := by rw [e]; exact get_mid
    have hx := get_das hy
    have hlt : p.length < ks.length := by rw [e]; simp
    have hw : IntKind.wrap .i64 ((p.length : Int) + 1) = ((p.length + 1 : Nat) : Int) := wr1 hlt (by omega)
    have hyc : y.cn ≤ Tm.cns ks := by have := cnL_mem (cn := Tm.cn) (List.mem_of_getElem? hy); rw [← Tm.cns_cnL] at this; omega
    have c := l3Copy_call y (by omega)
    have e2 : Tm.das (p ++ [y]) = Tm.das p ++ [y.da] := by simp [Tm.das_map]
    have hb : ((Tm.das p).length + 1) * 40 ≤ 140737488355328 := by rw [das_len]; omega
    rw [len_app1, e2] at ih
    obtain ⟨f, v, ms⟩ := y
    apply spec_l3List_L3_of
    rw [hw]
    exact ifB_t (lt_dec (by rw [das_len]; exact hlt)) ⟨p.length, rfl, _, _, _, hx, _, _, _, c, ⟨hb⟩, ih⟩
theorem l3List_call (ks : List Tm) (hc : Tm.cns ks ≤ 1200000000000) : XC Try.prog 107 [L (Tm.das ks)] [] (L (Tm.das ks)) [] := by
  apply spec_l3List_of
  exact l3List_loop ks hc ks [] rfl
theorem bl_in {s : List Sy} {f : Int} (h : bl s f = true) : inR f 0 ((s.length : Int) - 1) = true := by
  unfold bl at h
  simp at h
  exact h.1
theorem specMake_call (s : List Sy) (hs : s.length ≤ 10000000) (f : Int) (ks : List Tm) (hc : Tm.cns ks ≤ 1200000000000) : XC Try.prog 73 [L (s.map Sy.da), Z f, L (Tm.das ks)] [] (.dat (mkF s f ks).da) [] := by
  have eb := specBlind_call s f hs
  have c1 := specNorm_call s hs (.mk f 0 ks) hc
  have c2 := l3List_call ks hc
  have w : IntKind.wrap .i64 ((s.length : Int) - 1) = (s.length : Int) - 1 := wrI (by omega) (by omega)
  have cI := l1In_call f 0 ((s.length : Int) - 1)
  have hbi := @bl_in s f
  have hnorm : ∃ n8 n9 xs5, nrm s (.mk f 0 ks) = .mk n8 n9 xs5 := by
    generalize nrm s (.mk f 0 ks) = z
    obtain ⟨a, b, c⟩ := z
    exact ⟨_, _, _, rfl⟩
  obtain ⟨n8, n9, xs5, hn⟩ := hnorm
  rw [hn] at c1
  apply spec_Make_of
  rw [List.length_map, w]
  by_cases hb : bl s f = true
  · rw [hb] at eb
    have hi := hbi hb
    rw [hi] at cI
    refine ⟨_, eb, ifB_t rfl ?_⟩
    by_cases h0 : ks.length = 0
    · have e : mkF s f ks = .mk 0 0 [] := by rw [mkF, if_pos ⟨hb, h0⟩]
      rw [e]
      exact ifB_t (decide_eq_true (by rw [das_len, h0]; rfl)) ⟨rfl, rfl⟩
    · refine ifB_f (decide_eq_false (by rw [das_len]; omega)) ⟨_, eb, ifB_t rfl ?_⟩
      by_cases h1 : ks.length = 1
      · obtain ⟨a, rfl⟩ := List.length_eq_one_iff.1 h1
        have e : mkF s f [a] = nrm s a := by rw [mkF, if_neg (fun h => h0 h.2), if_pos ⟨hb, h1⟩]; rfl
        rw [e]
        have ca := specNorm_call s hs a (by simp [Tm.cns] at hc; omega)
        have hx : (Tm.das [a])[0]? = some a.da := rfl
        generalize nrm s a = z at *
        obtain ⟨g, v, ms⟩ := a
        obtain ⟨g', v', ms'⟩ := z
        exact ifB_t (decide_eq_true (by rw [das_len, h1]; rfl)) ⟨0, rfl, _, _, _, hx, _, _, _, ca, rfl, rfl⟩
      · have e : mkF s f ks = nrm s (.mk f 0 ks) := by rw [mkF, if_neg (fun h => h0 h.2), if_neg (fun h => h1 h.2), if_pos hi]
        rw [e, hn]
        exact ifB_f (decide_eq_false (by rw [das_len]; omega)) ⟨_, cI, ifB_f rfl ⟨_, _, _, spec_l3Of_of ⟨rfl, rfl⟩, _, _, _, c1, rfl, rfl⟩⟩
  · have hb' : bl s f = false := by simpa using hb
    rw [hb'] at eb
    refine ⟨_, eb, ifB_f rfl ⟨_, eb, ifB_f rfl ⟨_, cI, ?_⟩⟩⟩
    by_cases hi : inR f 0 ((s.length : Int) - 1) = true
    · have e : mkF s f ks = nrm s (.mk f 0 ks) := by rw [mkF, if_neg (fun h => hb h.1), if_neg (fun h => hb h.1), if_pos hi]
      rw [e, hn, hi]
      exact ifB_f rfl ⟨_, _, _, spec_l3Of_of ⟨rfl, rfl⟩, _, _, _, c1, rfl, rfl⟩
    · have e : mkF s f ks = .mk f 0 ks := by rw [mkF, if_neg (fun h => hb h.1), if_neg (fun h => hb h.1), if_neg hi]
      have hi' : inR f 0 ((s.length : Int) - 1) = false := by simpa using hi
      rw [e, hi']
      exact ifB_t rfl ⟨_, c2, _, _, _, spec_l3Of_of ⟨rfl, rfl⟩, rfl, rfl⟩
theorem copyTerms_call (ks : List Tm) (hc : Tm.cns ks ≤ 1200000000000) : XC Try.prog 109 [L (Tm.das ks)] [] (.one (.ol 0)) [(0, .tr 31 3 (Tm.das ks))] := by
  have hkl := Tm.len_cns ks
  apply impl_copyTerms_of
  rw [das_len]
  refine copyTerms_loop ks (by omega) ks [] rfl fun t ht => copyTerm_call t ?_
  have := cnL_mem (cn := Tm.cn) ht
  rw [← Tm.cns_cnL] at this
  omega
theorem implMake_call (s : List Sy) (hs : s.length ≤ 10000000) (f : Int) (ks : List Tm) (hc : Tm.cns ks ≤ 1200000000000) : XC Try.prog 77 [L (s.map Sy.da), Z f, L (Tm.das ks)] [] (.agg [.d (.int .i64 (mkF s f ks).f), .d (.int .i64 (mkF s f ks).v), .ol 0]) [(0, .tr 31 3 (Tm.das (mkF s f ks).ks))] := by
  have cI := isSymB_call s f hs
  have c1 := implNorm_call s hs (.mk f 0 ks) hc
  have c2 := copyTerms_call ks hc
  apply impl_Make_of
  refine ⟨_, cI, ?_⟩
  by_cases hi : inR f 0 ((s.length : Int) - 1) = true
  · obtain ⟨h1, h2⟩ := inR_iff.1 hi
    obtain ⟨m, rfl⟩ : ∃ m : Nat, f = (m : Int) := ⟨f.toNat, by omega⟩
    obtain ⟨x, hx⟩ := get_ex (l := s) (i := m) (by omega)
    have hx2 := get_map (g := Sy.da) hx
    have hb := bl_get rfl hx
    rw [hi]
    obtain ⟨nm, ar, ac⟩ := x
    have hb : bl s (m : Int) = ac := hb
    refine ifB_f rfl ⟨m, rfl, _, _, _, hx2, ?_⟩
    cases ac with
    | true =>
      by_cases h0 : ks.length = 0
      · have e : mkF s (m : Int) ks = .mk 0 0 [] := by rw [mkF, if_pos ⟨hb, h0⟩]
        rw [e]
        exact ifB_t rfl (ifB_t (decide_eq_true (by rw [das_len, h0]; rfl)) ⟨rfl, rfl⟩)
      · refine ifB_t rfl (ifB_f (decide_eq_false (by rw [das_len]; omega)) ⟨m, rfl, _, _, _, hx2, ifB_t rfl ?_⟩)
        by_cases h1 : ks.length = 1
        · obtain ⟨a, rfl⟩ := List.length_eq_one_iff.1 h1
          have e : mkF s (m : Int) [a] = nrm s a := by rw [mkF, if_neg (fun h => h0 h.2), if_pos ⟨hb, h1⟩]; rfl
          rw [e]
          have ca := implNorm_call s hs a (by simp [Tm.cns] at hc; omega)
          have hxa : (Tm.das [a])[0]? = some a.da := rfl
          generalize nrm s a = z at *
          obtain ⟨g, v, ms⟩ := a
          obtain ⟨g', v', ms'⟩ := z
          exact ifB_t (decide_eq_true (by rw [das_len, h1]; rfl)) ⟨0, rfl, _, _, _, hxa, _, _, _, ca, rfl, rfl⟩
        · have e : mkF s (m : Int) ks = nrm s (.mk (m : Int) 0 ks) := by rw [mkF, if_neg (fun h => h0 h.2), if_neg (fun h => h1 h.2), if_pos hi]
          rw [e]
          exact ifB_f (decide_eq_false (by rw [das_len]; omega)) ⟨_, _, _, c1, rfl, rfl⟩
    | false =>
      have hbn : ¬ bl s (m : Int) = true := by rw [hb]; simp
      have e : mkF s (m : Int) ks = nrm s (.mk (m : Int) 0 ks) := by rw [mkF, if_neg (fun h => hbn h.1), if_neg (fun h => hbn h.1), if_pos hi]
      rw [e]
      exact ifB_f rfl ⟨m, rfl, _, _, _, hx2, ifB_f rfl ⟨_, _, _, c1, rfl, rfl⟩⟩
  · have hi' : inR f 0 ((s.length : Int) - 1) = false := by simpa using hi
    have hbn : ¬ bl s f = true := fun h => by rw [bl, hi'] at h; simp at h
    have e : mkF s f ks = .mk f 0 ks := by rw [mkF, if_neg (fun h => hbn h.1), if_neg (fun h => hbn h.1), if_neg hi]
    rw [e, hi']
    exact ifB_t rfl ⟨_, c2, rfl, rfl⟩
/-- A rule of a blind function, with one more variable on both sides. -/
def extR (s : List Sy) (x : Ru) : Ru × Bool :=
  if bl s x.l.f then (⟨mkF s x.l.f [x.l, .mk (-1) 60 []], mkF s x.l.f [x.r, .mk (-1) 60 []]⟩, true) else (x, false)
theorem extR_cn (s : List Sy) (x : Ru) : (extR s x).1.cn ≤ x.cn + 4 := by
  have h1 := mkF_cn s x.l.f [x.l, .mk (-1) 60 []]
  have h2 := mkF_cn s x.l.f [x.r, .mk (-1) 60 []]
  have h0 : x.cn = x.l.cn + x.r.cn := rfl
  simp only [Tm.cns, Tm.cn] at h1 h2
  unfold extR
  split
  · show (mkF s x.l.f [x.l, .mk (-1) 60 []]).cn + (mkF s x.l.f [x.r, .mk (-1) 60 []]).cn ≤ _
    omega
  · show x.cn ≤ _
    omega
theorem specExtended_call (s : List Sy) (hs : s.length ≤ 10000000) (x : Ru) (hx : x.cn ≤ 100000000000) : XC Try.prog 24 [L (s.map Sy.da), .dat x.da] [] (.tup [.dat (extR s x).1.da, B (extR s x).2]) [] := by
  have h0 : x.cn = x.l.cn + x.r.cn := rfl
  have eb := specBlind_call s x.l.f hs
  have k1 := l3Copy_call x.l (by omega)
  have k2 := l3Copy_call x.r (by omega)
  have m1 := specMake_call s hs x.l.f [x.l, .mk (-1) 60 []] (by simp [Tm.cns, Tm.cn]; omega)
  have m2 := specMake_call s hs x.l.f [x.r, .mk (-1) 60 []] (by simp [Tm.cns, Tm.cn]; omega)
  unfold extR
  generalize mkF s x.l.f [x.l, .mk (-1) 60 []] = a at *
  generalize mkF s x.l.f [x.r, .mk (-1) 60 []] = b at *
  generalize bl s x.l.f = bb at *
  obtain ⟨⟨f, v, ks⟩, ⟨g, u, ms⟩⟩ := x
  obtain ⟨f1, v1, ks1⟩ := a
  obtain ⟨f2, v2, ks2⟩ := b
  apply spec_Extended_of
  cases bb with
  | true => exact ⟨_, eb, ifB_f rfl ⟨_, _, _, spec_l3Var_of ⟨rfl, rfl⟩, _, _, _, m1, _, _, _, spec_l3Var_of ⟨rfl, rfl⟩, _, _, _, m2, rfl, rfl⟩⟩
  | false => exact ⟨_, eb, ifB_t rfl ⟨_, _, _, _, _, _, spec_l14Copy_of ⟨_, _, _, k1, _, _, _, k2, rfl, rfl⟩, rfl, rfl⟩⟩
theorem implExtended_call (s : List Sy) (hs : s.length ≤ 10000000) (x : Ru) (hx : x.cn ≤ 100000000000) : XC Try.prog 26 [L (s.map Sy.da), .dat x.da] [] (.tup [.agg [.d (.int .i64 (extR s x).1.l.f), .d (.int .i64 (extR s x).1.l.v), .ol 0, .d (.int .i64 (extR s x).1.r.f), .d (.int .i64 (extR s x).1.r.v), .ol 1], B (extR s x).2]) [(0, .tr 31 3 (Tm.das (extR s x).1.l.ks)), (1, .tr 31 3 (Tm.das (extR s x).1.r.ks))] := by
  have h0 : x.cn = x.l.cn + x.r.cn := rfl
  have eb := implBlind_call s x.l.f hs
  have k1 := copyTerm_call x.l (by omega)
  have k2 := copyTerm_call x.r (by omega)
  have m1 := implMake_call s hs x.l.f [x.l, .mk (-1) 60 []] (by simp [Tm.cns, Tm.cn]; omega)
  have m2 := implMake_call s hs x.l.f [x.r, .mk (-1) 60 []] (by simp [Tm.cns, Tm.cn]; omega)
  unfold extR
  generalize mkF s x.l.f [x.l, .mk (-1) 60 []] = a at *
  generalize mkF s x.l.f [x.r, .mk (-1) 60 []] = b at *
  generalize bl s x.l.f = bb at *
  obtain ⟨⟨f, v, ks⟩, ⟨g, u, ms⟩⟩ := x
  obtain ⟨f1, v1, ks1⟩ := a
  obtain ⟨f2, v2, ks2⟩ := b
  apply impl_Extended_of
  cases bb with
  | true => exact ⟨_, eb, ifB_f rfl ⟨_, _, impl_variable_of ⟨rfl, rfl⟩, _, _, _, m1, _, _, impl_variable_of ⟨rfl, rfl⟩, _, _, _, m2, rfl, rfl⟩⟩
  | false => exact ⟨_, eb, ifB_t rfl ⟨_, _, _, k1, _, _, _, k2, rfl, rfl⟩⟩
theorem markRule_call (x : Ru) (k : Nat) (hk : k + 2 * x.cn ≤ 10000000000000) : XC Try.prog 28 [.agg [.d (.int .i64 x.l.f), .d (.int .i64 x.l.v), .ol 2000, .d (.int .i64 x.r.f), .d (.int .i64 x.r.v), .ol 2001], Z (k : Int)] [(2000, .mt 31 3 (Tm.das x.l.ks)), (2001, .mt 31 3 (Tm.das x.r.ks))] (Z ((k + 2 * x.cn : Nat) : Int)) [(2000, .mt 31 3 (Tm.das (Tm.mkL k x.l.ks))), (2001, .mt 31 3 (Tm.das (Tm.mkL (k + 2 * x.l.cn) x.r.ks)))] := by
  have h0 : x.cn = x.l.cn + x.r.cn := rfl
  have h1 := markTerm_call x.l k (by omega)
  have h2 := markTerm_call x.r (k + 2 * x.l.cn) (by omega)
  rw [show k + 2 * x.cn = k + 2 * x.l.cn + 2 * x.r.cn by omega]
  apply laws_markRule_of
  exact ⟨_, _, h1, _, _, h2, rfl, rfl⟩
theorem heldRule_call (x : Ru) (k : Nat) (hk : k + 2 * x.cn ≤ 10000000000000) : XC Try.prog 29 [.dat [.int .i64 x.l.f, .int .i64 x.l.v, .sl (Tm.das (Tm.mkL k x.l.ks)), .int .i64 x.r.f, .int .i64 x.r.v, .sl (Tm.das (Tm.mkL (k + 2 * x.l.cn) x.r.ks))], Z (k : Int)] [] (Z ((k + 2 * x.cn : Nat) : Int)) [] := by
  have h0 : x.cn = x.l.cn + x.r.cn := rfl
  have h1 := heldTerm_call x.l k (by omega)
  have h2 := heldTerm_call x.r (k + 2 * x.l.cn) (by omega)
  rw [show k + 2 * x.cn = k + 2 * x.l.cn + 2 * x.r.cn by omega]
  apply laws_heldRule_of
  exact ⟨_, h1, ifB_f (decide_eq_false (by omega)) ⟨_, h2, ifB_f (decide_eq_false (by omega)) ⟨rfl, rfl⟩⟩⟩
theorem laws_FnExactPutAt_law (ss : List Sy) (kss : ∀ y ∈ ss, Sy.ok y) (t : Tm) (kt : t.ok) (way : List Int) (kway : ∀ n ∈ way, i64 n) (x : Tm) (kx : x.ok) : XC Try.prog 3 [L (ss.map Sy.da), .dat t.da, L (way.map In.da), .dat x.da] [] (B true) [] := by
  rcases Nat.lt_or_ge 1048576 way.length with hlway | hlway
  · obtain ⟨f_1, v_1, ks_1⟩ := t
    obtain ⟨f_2, v_2, ks_2⟩ := x
    apply laws_FnExactPutAt_of
    exact ifB_t (decide_eq_true (by rw [List.length_map]; omega)) ⟨rfl, rfl⟩
  have s0 := szSymS_call ss 1048576 (by omega) (by omega)
  rcases Int.lt_or_le (lft (cnL Sy.cn ss) 1048576) 0 with g0 | g0
  · obtain ⟨f_1, v_1, ks_1⟩ := t
    obtain ⟨f_2, v_2, ks_2⟩ := x
    apply laws_FnExactPutAt_of
    exact ifB_f (decide_eq_false (by rw [List.length_map]; omega)) ⟨_, s0, ifB_t (decide_eq_true g0) ⟨rfl, rfl⟩⟩
  have q0 := lft_ok g0
  have s1 := szTerm_call t _ g0 (by omega)
  rcases Int.lt_or_le (lft (t.cn) (lft (cnL Sy.cn ss) 1048576)) 0 with g1 | g1
  · obtain ⟨f_1, v_1, ks_1⟩ := t
    obtain ⟨f_2, v_2, ks_2⟩ := x
    apply laws_FnExactPutAt_of
    exact ifB_f (decide_eq_false (by rw [List.length_map]; omega)) ⟨_, s0, ifB_f (decide_eq_false (Int.not_lt.2 g0)) ⟨_, s1, ifB_t (decide_eq_true g1) ⟨rfl, rfl⟩⟩⟩
  have q1 := lft_ok g1
  have s2 := szTerm_call x _ g1 (by omega)
  rcases Int.lt_or_le (lft (x.cn) (lft (t.cn) (lft (cnL Sy.cn ss) 1048576))) 0 with g2 | g2
  · obtain ⟨f_1, v_1, ks_1⟩ := t
    obtain ⟨f_2, v_2, ks_2⟩ := x
    apply laws_FnExactPutAt_of
    exact ifB_f (decide_eq_false (by rw [List.length_map]; omega)) ⟨_, s0, ifB_f (decide_eq_false (Int.not_lt.2 g0)) ⟨_, s1, ifB_f (decide_eq_false (Int.not_lt.2 g1)) ⟨_, s2, ifB_t (decide_eq_true g2) ⟨rfl, rfl⟩⟩⟩⟩
  have q2 := lft_ok g2
  have hlenss := cnL_len Sy.cn ss
  have hsyss := mkNSy_eq ss
  have hu := putA_cn ss way t x
  have t0 := toSymSO_call ss (by omega)
  have e0 := eqSymS_call ss
  have m0 := markSymS_call ss (1) (by omega) (by omega) (by omega)
  have t1 := toTermO_call t (by omega)
  have e1 := eqTerm_call t
  have m1 := markTerm_call t (1 + mkNSy ss) (by omega)
  have t2 := toIntSO_call way hlway
  have e2 := eqIntS_call way
  have m2 := markIntS_call way (1 + mkNSy ss + 2 * t.cn) (by omega) (by omega)
  have t3 := toTermO_call x (by omega)
  have e3 := eqTerm_call x
  have m3 := markTerm_call x (1 + mkNSy ss + 2 * t.cn + way.length) (by omega)
  have c1 := specPutAt_call ss (by omega) t (by omega) way hlway x (by omega)
  have c2 := implPutAt_call ss (by omega) t (by omega) way hlway x (by omega)
  have hk : (((1 + mkNSy ss + 2 * t.cn + way.length + 2 * x.cn : Nat)) : Int) ≥ 0 := by omega
  generalize putA ss way t x = u at *
  have eu := eqTerm_call u
  have mu := markTerm_call u 1 (by omega)
  have hd := heldTerm_call u 1 (by omega)
  obtain ⟨f_1, v_1, ks_1⟩ := t
  obtain ⟨f_2, v_2, ks_2⟩ := x
  obtain ⟨f0, v0, k0⟩ := u
  apply laws_FnExactPutAt_of
  exact ifB_f (decide_eq_false (by rw [List.length_map]; omega)) ⟨_, s0, ifB_f (decide_eq_false (Int.not_lt.2 g0)) ⟨_, s1, ifB_f (decide_eq_false (Int.not_lt.2 g1)) ⟨_, s2, ifB_f (decide_eq_false (Int.not_lt.2 g2)) ⟨_, t0, _, _, _, t1, _, t2, _, _, _, t3, _, _, _, c1, _, t0, _, _, _, t1, _, t2, _, _, _, t3, _, _, _, c2, _, eu, ifB_f rfl ⟨_, t0, _, e0, ifB_f rfl ⟨_, _, _, t1, _, e1, ifB_f rfl ⟨_, t2, _, e2, ifB_f rfl ⟨_, _, _, t3, _, e3, ifB_f rfl ⟨_, _, m0, _, _, m1, _, _, m2, _, _, m3, ifB_f (decide_eq_false (by omega)) ⟨_, eu, ifB_f rfl ⟨_, _, mu, _, hd, ifB_f (decide_eq_false (by omega)) (ifB_f (by simp) ⟨_, t0, _, _, _, t1, _, t2, _, _, _, t3, _, _, _, c2, _, eu, ifB_f rfl ⟨_, hd, ifB_f (decide_eq_false (by omega)) (ifB_f (by simp) ⟨rfl, rfl⟩)⟩⟩)⟩⟩⟩⟩⟩⟩⟩⟩⟩⟩⟩
theorem laws_FnExactExtended_law (ss : List Sy) (kss : ∀ y ∈ ss, Sy.ok y) (x : Ru) (kx : x.ok) : XC Try.prog 4 [L (ss.map Sy.da), .dat x.da] [] (B true) [] := by
  have s0 := szSymS_call ss 1048576 (by omega) (by omega)
  rcases Int.lt_or_le (lft (cnL Sy.cn ss) 1048576) 0 with g0 | g0
  · obtain ⟨⟨f_1, v_1, ks_1⟩, ⟨g_1, u_1, ms_1⟩⟩ := x
    apply laws_FnExactExtended_of
    exact ⟨_, s0, ifB_t (decide_eq_true g0) ⟨rfl, rfl⟩⟩
  have q0 := lft_ok g0
  have s1 := szRule_call x _ g0 (by omega)
  rcases Int.lt_or_le (lft (x.cn) (lft (cnL Sy.cn ss) 1048576)) 0 with g1 | g1
  · obtain ⟨⟨f_1, v_1, ks_1⟩, ⟨g_1, u_1, ms_1⟩⟩ := x
    apply laws_FnExactExtended_of
    exact ⟨_, s0, ifB_f (decide_eq_false (Int.not_lt.2 g0)) ⟨_, s1, ifB_t (decide_eq_true g1) ⟨rfl, rfl⟩⟩⟩
  have q1 := lft_ok g1
  have hlenss := cnL_len Sy.cn ss
  have hsyss := mkNSy_eq ss
  have hu := extR_cn ss x
  have t0 := toSymSO_call ss (by omega)
  have e0 := eqSymS_call ss
  have m0 := markSymS_call ss (1) (by omega) (by omega) (by omega)
  have t1 := toRuleO_call x (by omega)
  have e1 := eqRule_call x
  have m1 := markRule_call x (1 + mkNSy ss) (by omega)
  have c1 := specExtended_call ss (by omega) x (by omega)
  have c2 := implExtended_call ss (by omega) x (by omega)
  have hk : (((1 + mkNSy ss + 2 * x.cn : Nat)) : Int) ≥ 0 := by omega
  generalize extR ss x = ub at *
  obtain ⟨u, bb⟩ := ub
  try dsimp only at hu
  have eu := eqRule_call u
  have mu := markRule_call u 1 (by omega)
  have hd := heldRule_call u 1 (by omega)
  obtain ⟨⟨f_1, v_1, ks_1⟩, ⟨g_1, u_1, ms_1⟩⟩ := x
  obtain ⟨⟨f0, v0, k0⟩, ⟨g0', u0, l0⟩⟩ := u
  apply laws_FnExactExtended_of
  exact ⟨_, s0, ifB_f (decide_eq_false (Int.not_lt.2 g0)) ⟨_, s1, ifB_f (decide_eq_false (Int.not_lt.2 g1)) ⟨_, t0, _, _, _, _, _, _, t1, _, _, _, _, _, _, _, c1, _, t0, _, _, _, _, _, _, t1, _, _, _, _, _, _, _, c2, _, eu, ifB_f rfl (ifB_f (by simp) ⟨_, t0, _, e0, ifB_f rfl ⟨_, _, _, _, _, _, t1, _, e1, ifB_f rfl ⟨_, _, m0, _, _, _, m1, ifB_f (decide_eq_false (by omega)) ⟨_, eu, ifB_f rfl (ifB_f (by simp) ⟨_, _, _, mu, _, hd, ifB_f (decide_eq_false (by omega)) (ifB_f (by simp) ⟨_, t0, _, _, _, _, _, _, t1, _, _, _, _, _, _, _, c2, _, eu, ifB_f rfl (ifB_f (by simp) ⟨_, hd, ifB_f (decide_eq_false (by omega)) (ifB_f (by simp) ⟨rfl, rfl⟩)⟩)⟩)⟩)⟩⟩⟩⟩)⟩⟩⟩

end AM
end Go.Proofs.Ytajcoogpmockiaa
