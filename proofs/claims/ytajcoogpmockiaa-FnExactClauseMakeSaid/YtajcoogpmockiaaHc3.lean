/- Contracts of functions of the program, out of what their texts ask; no conditions. -/
import Derived.Test.YtajcoogpmockiaaHc2
import Derived.Test.YtajcoogpmockiaaDt
import Derived.Test.YtajcoogpmockiaaHr
set_option linter.unusedVariables false
set_option linter.unusedSimpArgs false
set_option maxRecDepth 100000
namespace Go.Proofs.Ytajcoogpmockiaa
namespace AM
open Go Go.ChangeShapes Go.WideShapes Go.RowKit

/-- Is a function blind to order and brackets? -/
def bl (s : List Sy) (f : Int) : Bool := inR f 0 ((s.length : Int) - 1) && ((s[f.toNat]?).map (·.ac)).getD false
mutual
def nrm (s : List Sy) : Tm → Tm
  | .mk f v ks => .mk f v (if bl s f then isort Tm.cmp (nrmK s (bl s f) f ks) else nrmK s (bl s f) f ks)
def nrmK (s : List Sy) (b : Bool) (f : Int) : List Tm → List Tm
  | [] => []
  | t :: r => (if b = true ∧ (nrm s t).f = f then (nrm s t).ks else [nrm s t]) ++ nrmK s b f r
end
theorem cns_app (a b : List Tm) : Tm.cns (a ++ b) = Tm.cns a + Tm.cns b := by
  induction a with
  | nil => simp [Tm.cns]
  | cons x r ih => simp only [List.cons_append, Tm.cns, ih]; omega
theorem cns_perm {a b : List Tm} (h : a.Perm b) : Tm.cns a = Tm.cns b := by
  rw [Tm.cns_cnL, Tm.cns_cnL, cnL, cnL, h.length_eq, (h.map _).sum_nat]
theorem Tm.cn_ks (t : Tm) : Tm.cns t.ks = t.cn := by cases t; simp [Tm.ks, Tm.cn]
mutual
theorem nrm_cn (s : List Sy) : ∀ t : Tm, (nrm s t).cn ≤ t.cn
  | .mk f v ks => by
    have h := nrmK_cns s (bl s f) f ks
    simp only [nrm, Tm.cn]
    split
    · rw [cns_perm (isort_perm _ _)]; exact h
    · exact h
theorem nrmK_cns (s : List Sy) (b : Bool) (f : Int) : ∀ l : List Tm, Tm.cns (nrmK s b f l) ≤ Tm.cns l
  | [] => by simp [nrmK, Tm.cns]
  | t :: r => by
    have h1 := nrm_cn s t
    have h2 := nrmK_cns s b f r
    simp only [nrmK, cns_app, Tm.cns]
    split
    · rw [Tm.cn_ks]; omega
    · simp only [Tm.cns]; omega
end
theorem nrm_f (s : List Sy) (t : Tm) : (nrm s t).f = t.f ∧ (nrm s t).v = t.v := by cases t; simp [nrm, Tm.f, Tm.v]
theorem inR_iff {x lo hi : Int} : inR x lo hi = true ↔ lo ≤ x ∧ x ≤ hi := by simp [inR]
theorem bl_get {s : List Sy} {f : Int} {m : Nat} {x : Sy} (hf : f = (m : Int)) (hm : s[m]? = some x) : bl s f = x.ac := by
  have h := (List.getElem?_eq_some_iff.1 hm).1
  subst hf
  have : inR (m : Int) 0 ((s.length : Int) - 1) = true := inR_iff.2 ⟨by omega, by omega⟩
  simp [bl, this, hm]
theorem specBlind_call (s : List Sy) (f : Int) (hs : s.length ≤ 10000000) : XC Try.prog 71 [L (s.map Sy.da), Z f] [] (B (bl s f)) [] := by
  have w : IntKind.wrap .i64 ((s.length : Int) - 1) = (s.length : Int) - 1 := wrI (by omega) (by omega)
  apply spec_Blind_of
  rw [List.length_map, w]
  refine ⟨_, l1In_call f 0 _, ?_⟩
  by_cases h : inR f 0 ((s.length : Int) - 1) = true
  · obtain ⟨h1, h2⟩ := inR_iff.1 h
    obtain ⟨m, rfl⟩ : ∃ m : Nat, f = (m : Int) := ⟨f.toNat, by omega⟩
    obtain ⟨x, hx⟩ := get_ex (l := s) (i := m) (by omega)
    have hx2 := get_map (g := Sy.da) hx
    refine ifB_t h ⟨m, rfl, _, _, _, hx2, ?_, rfl⟩
    rw [bl_get rfl hx]
  · exact ifB_f (Bool.eq_false_iff.2 h) ⟨by simp [bl, h], rfl⟩
theorem isSymB_call (s : List Sy) (f : Int) (hs : s.length ≤ 10000000) : XC Try.prog 108 [L (s.map Sy.da), Z f] [] (B (inR f 0 ((s.length : Int) - 1))) [] := by
  have w : IntKind.wrap .i64 ((s.length : Int) - 1) = (s.length : Int) - 1 := wrI (by omega) (by omega)
  apply impl_isSym_of
  rw [List.length_map, w]
  exact ⟨_, from_call f 0 _, rfl, rfl⟩
theorem implBlind_call (s : List Sy) (f : Int) (hs : s.length ≤ 10000000) : XC Try.prog 75 [L (s.map Sy.da), Z f] [] (B (bl s f)) [] := by
  apply impl_Blind_of
  refine ⟨_, isSymB_call s f hs, ?_⟩
  by_cases h : inR f 0 ((s.length : Int) - 1) = true
  · obtain ⟨h1, h2⟩ := inR_iff.1 h
    obtain ⟨m, rfl⟩ : ∃ m : Nat, f = (m : Int) := ⟨f.toNat, by omega⟩
    obtain ⟨x, hx⟩ := get_ex (l := s) (i := m) (by omega)
    have hx2 := get_map (g := Sy.da) hx
    refine ifB_t h ⟨m, rfl, _, _, _, hx2, ?_, rfl⟩
    rw [bl_get rfl hx]
  · exact ifB_f (Bool.eq_false_iff.2 h) ⟨by simp [bl, h], rfl⟩
theorem drop_map_len {α β : Type} (g : α → β) (p : List α) : List.drop p.length (p.map g) = [] := List.drop_eq_nil_of_le (by simp)
theorem isort_snoc {α : Type} (cmp : α → α → Int) (l : List α) (x : α) : isort cmp (l ++ [x]) = putC cmp x (isort cmp l) := by simp [isort, List.foldl_append]
theorem das_app (a b : List Tm) : Tm.das (a ++ b) = Tm.das a ++ Tm.das b := by simp [Tm.das_map]
theorem l4Put_loop (t : Tm) (l : List Tm) (hl : l.length ≤ 3000000000000) : ∀ (q p : List Tm), l = p ++ q → spec_l4Put_L2 (.one (.ol 0)) [(0, .lst 31 3 (Tm.das (p ++ putC Tm.cmp t q)))] (Tm.das l) (p.length : Int) t.f t.v (Tm.das t.ks)
  | [], p, e => by
    have e3 : [] ++ (Tm.das l).take p.length ++ [[.int .i64 t.f, .int .i64 t.v, .sl (Tm.das t.ks)]] ++ (Tm.das l).drop p.length = Tm.das (p ++ putC Tm.cmp t []) := by
      subst e
      obtain ⟨f, v, ks⟩ := t
      simp [Tm.das_map, putC, take_map_len, drop_map_len, Tm.da, Tm.f, Tm.v, Tm.ks]
    have hpl : l.length = p.length := by rw [e]; simp
    apply spec_l4Put_L2_of
    refine ifB_f (decide_eq_false (by rw [das_len]; omega)) ⟨p.length, rfl, ⟨by rw [das_len]; omega⟩, ⟨das3 _⟩, ⟨fun y hy => das3 _ y (List.mem_of_mem_take (List.mem_of_mem_drop hy))⟩, ⟨?_⟩, ⟨?_⟩, p.length, rfl, ⟨by rw [das_len]; omega⟩, ⟨das3 _⟩, ⟨fun y hy => das3 _ y (List.mem_of_mem_take (List.mem_of_mem_drop hy))⟩, ⟨?_⟩, rfl, ?_⟩
    · simp [das_len]; omega
    · simp [das_len]; omega
    · simp [das_len]; omega
    · rw [← e3]; simp
  | y :: q, p, e => by
    have ih := l4Put_loop t l hl q (p ++ [y]) (by simp [e])
    have hb := before_call t y
    have hn := Tm.cmp_neg t y
    have hx : (Tm.das l)[p.length]? = some y.da := by rw [e]; exact das_app_get
    have hpl : l.length = p.length + q.length + 1 := by rw [e]; simp; omega
    rw [len_app1] at ih
    have e3 : Tm.cmp t y < 0 → [] ++ (Tm.das l).take p.length ++ [[.int .i64 t.f, .int .i64 t.v, .sl (Tm.das t.ks)]] ++ (Tm.das l).drop p.length = Tm.das (p ++ putC Tm.cmp t (y :: q)) := fun h => by
      subst e
      have e4 : putC Tm.cmp t (y :: q) = t :: y :: q := by rw [putC, if_neg (by omega)]
      rw [e4]
      obtain ⟨f, v, ks⟩ := t
      simp [Tm.das_map, List.take_append, List.drop_append, take_map_len, drop_map_len, Tm.da, Tm.f, Tm.v, Tm.ks]
    have et : t.da = [.int .i64 t.f, .int .i64 t.v, .sl (Tm.das t.ks)] := by obtain ⟨f, v, ks⟩ := t; rfl
    rw [et] at hb
    have ih2 : ¬ Tm.cmp t y < 0 → p ++ putC Tm.cmp t (y :: q) = p ++ [y] ++ putC Tm.cmp t q := fun h => by
      rw [putC, if_pos (by omega)]; simp
    obtain ⟨g, u, ms⟩ := y
    apply spec_l4Put_L2_of
    refine ifB_t (decide_eq_true (by rw [das_len]; omega)) ⟨p.length, rfl, g, u, Tm.das ms, hx, _, hb, ?_⟩
    by_cases h : Tm.cmp t (.mk g u ms) < 0
    · refine ifB_f (by simp [h]) ⟨p.length, rfl, ⟨by rw [das_len]; omega⟩, ⟨das3 _⟩, ⟨fun y hy => das3 _ y (List.mem_of_mem_take (List.mem_of_mem_drop hy))⟩, ⟨?_⟩, ⟨?_⟩, p.length, rfl, ⟨by rw [das_len]; omega⟩, ⟨das3 _⟩, ⟨fun y hy => das3 _ y (List.mem_of_mem_take (List.mem_of_mem_drop hy))⟩, ⟨?_⟩, rfl, ?_⟩
      · simp [das_len]; omega
      · simp [das_len]; omega
      · simp [das_len]; omega
      · rw [← e3 h]; simp
    · rw [ih2 h, wr1 (n := p.length + 1) (by omega) (by omega)]
      exact ifB_t (by simp [h]) ih
theorem l4Put_call (t : Tm) (l : List Tm) (hl : l.length ≤ 3000000000000) : XC Try.prog 101 [L (Tm.das l), .dat t.da] [] (.one (.ol 0)) [(0, .lst 31 3 (Tm.das (putC Tm.cmp t l)))] := by
  have h := l4Put_loop t l hl l [] rfl
  obtain ⟨f, v, ks⟩ := t
  exact spec_l4Put_of h
theorem specNorm_in (r : AV) (O : List (Nat × Ob)) (s0 : List (List Da)) (s6 s3 s31 : Int) (s32 : List (List Da)) (s5 s51 n2 n3 : Int) (w : List Tm) : ∀ (q p acc : List Tm), w = p ++ q → acc.length + q.length ≤ 2500000000000 → p.length + q.length ≤ 2500000000000 → spec_Norm_L3 r O s0 (IntKind.wrap .i64 (s6 + 1)) s3 s31 s32 0 0 s5 s51 (Tm.das (isort Tm.cmp (acc ++ q))) → spec_Norm_L7 r O s0 s6 (p.length : Int) s3 s31 s32 0 0 s5 s51 n2 n3 (Tm.das w) (Tm.das (isort Tm.cmp acc))
  | [], p, acc, e, _, _, h => by
    apply spec_Norm_L7_of
    subst e
    exact ifB_f (lt_decF (by simp [das_len])) (by simpa using h)
  | y :: q, p, acc, e, h1, h2, h => by
    simp only [List.length_cons] at h1 h2
    have ih := specNorm_in r O s0 s6 s3 s31 s32 s5 s51 n2 n3 w q (p ++ [y]) (acc ++ [y]) (by simp [e]) (by simp; omega) (by simp; omega) (by simpa using h)
    have c := l4Put_call y (isort Tm.cmp acc) (by rw [(isort_perm _ _).length_eq]; omega)
    have hx : (Tm.das w)[p.length]? = some y.da := by rw [e]; exact das_app_get
    have hlt : p.length < w.length := by rw [e]; simp
    rw [len_app1, isort_snoc] at ih
    obtain ⟨g, u, ms⟩ := y
    apply spec_Norm_L7_of
    refine ifB_t (lt_dec (by rw [das_len]; exact hlt)) ⟨p.length, rfl, g, u, Tm.das ms, hx, _, c, ?_⟩
    rw [wr1 (n := p.length + 1) (by omega) (by omega)]
    exact ih
theorem specNorm_loop (s : List Sy) (hs : s.length ≤ 10000000) (f v : Int) (ks : List Tm) (hk : Tm.cns ks ≤ 1200000000000) : ∀ (q p acc : List Tm), ks = p ++ q → acc.length + Tm.cns q ≤ 2400000000000 → (∀ t ∈ q, t.cn ≤ 1200000000000 ∧ XC Try.prog 59 [L (s.map Sy.da), .dat t.da] [] (.dat (nrm s t).da) []) → spec_Norm_L3 (.dat (Tm.mk f v (if bl s f then isort Tm.cmp (acc ++ nrmK s (bl s f) f q) else acc ++ nrmK s (bl s f) f q)).da) [] (s.map Sy.da) (p.length : Int) f v (Tm.das ks) 0 0 f v (Tm.das (if bl s f then isort Tm.cmp acc else acc))
  | [], p, acc, e, _, _ => by
    apply spec_Norm_L3_of
    subst e
    refine ifB_f (lt_decF (by simp [das_len])) ⟨?_, rfl⟩
    simp only [nrmK, List.append_nil]
    rfl
  | y :: q, p, acc, e, ha, hc => by
    have hcn : Tm.cns (y :: q) = 1 + y.cn + Tm.cns q := by simp [Tm.cns]
    have hkl := Tm.cns_cnL ks ▸ cnL_len Tm.cn ks
    obtain ⟨hyc, cy⟩ := hc y (by simp)
    have hnc := nrm_cn s y
    have hnl := Tm.len_cns (nrm s y).ks
    rw [Tm.cn_ks] at hnl
    have hx : (Tm.das ks)[p.length]? = some y.da := by rw [e]; exact das_app_get
    have hlt : p.length < ks.length := by rw [e]; simp
    have hw : IntKind.wrap .i64 ((p.length : Int) + 1) = ((p.length + 1 : Nat) : Int) := wr1 hlt (by omega)
    have ih := fun acc' h => specNorm_loop s hs f v ks hk q (p ++ [y]) acc' (by simp [e]) h (fun t ht => hc t (List.mem_cons_of_mem _ ht))
    rw [len_app1] at ih
    have eb := specBlind_call s f hs
    have eK : nrmK s (bl s f) f (y :: q) = (if bl s f = true ∧ (nrm s y).f = f then (nrm s y).ks else [nrm s y]) ++ nrmK s (bl s f) f q := by rw [nrmK]
    rw [eK]
    have cP := l4Put_call (nrm s y) (isort Tm.cmp acc) (by rw [(isort_perm _ _).length_eq]; omega)
    generalize hny : nrm s y = ny at *
    generalize bl s f = b at *
    obtain ⟨g, u, ms⟩ := y
    obtain ⟨g', u', ms'⟩ := ny
    apply spec_Norm_L3_of
    rw [hw]
    refine ifB_t (lt_dec (by rw [das_len]; exact hlt)) ⟨p.length, rfl, g, u, Tm.das ms, hx, _, _, _, cy, _, eb, ?_⟩
    cases b with
    | false =>
      refine ifB_t rfl ⟨⟨by simp [das_len]; omega⟩, ?_⟩
      have := ih (acc ++ [.mk g' u' ms']) (by simp; omega)
      simpa [das_app, Tm.das, Tm.da] using this
    | true =>
      refine ifB_f rfl ?_
      by_cases hg : g' = f
      · refine ifB_f (decide_eq_false (by simp [hg])) ?_
        have := ih (acc ++ ms') (by simp [Tm.ks] at hnl ⊢; omega)
        have h7 := specNorm_in (.dat (Tm.mk f v (if true = true then isort Tm.cmp (acc ++ ((if true = true ∧ (Tm.mk g' u' ms').f = f then (Tm.mk g' u' ms').ks else [.mk g' u' ms']) ++ nrmK s true f q)) else acc ++ ((if true = true ∧ (Tm.mk g' u' ms').f = f then (Tm.mk g' u' ms').ks else [.mk g' u' ms']) ++ nrmK s true f q))).da) [] (s.map Sy.da) (p.length : Int) f v (Tm.das ks) f v g' u' ms' ms' [] acc rfl (by simp [Tm.ks] at hnl; omega) (by simp [Tm.ks] at hnl ⊢; omega)
        rw [hw] at h7
        refine h7 ?_
        simpa [Tm.f, Tm.ks, hg, List.append_assoc] using this
      · refine ifB_t (decide_eq_true (by simpa using hg)) ⟨_, cP, ?_⟩
        have := ih (acc ++ [.mk g' u' ms']) (by simp; omega)
        simp only [if_true, isort_snoc] at this
        simpa [Tm.f, hg, List.append_assoc] using this
theorem specNorm_call (s : List Sy) (hs : s.length ≤ 10000000) (t : Tm) : t.cn ≤ 1200000000000 → XC Try.prog 59 [L (s.map Sy.da), .dat t.da] [] (.dat (nrm s t).da) [] := by
  induction t using Tm.ind with
  | h f v ks ih =>
  intro hc
  have hcn : (Tm.mk f v ks).cn = Tm.cns ks := by simp [Tm.cn]
  rw [hcn] at hc
  apply spec_Norm_of
  have := specNorm_loop s hs f v ks hc ks [] [] rfl (by simp; omega) (fun t ht => by
    have hb : t.cn ≤ 1200000000000 := by have := Tm.cns_cnL ks ▸ cnL_mem (cn := Tm.cn) ht; omega
    exact ⟨hb, ih t ht hb⟩)
  simpa [nrm, isort, Tm.das] using this
theorem implNorm_loop (s : List Sy) (hs : s.length ≤ 10000000) (f v : Int) (ks : List Tm) (hk : Tm.cns ks ≤ 1200000000000) : ∀ (q p acc : List Tm), ks = p ++ q → acc.length + Tm.cns q ≤ 2400000000000 → (∀ t ∈ q, t.cn ≤ 1200000000000 ∧ XC Try.prog 65 [L (s.map Sy.da), .dat t.da] [] (.agg [.d (.int .i64 (nrm s t).f), .d (.int .i64 (nrm s t).v), .ol 0]) [(0, .tr 31 3 (Tm.das (nrm s t).ks))]) → impl_Norm_L3 (.agg [.d (.int .i64 f), .d (.int .i64 v), .ol 0]) [(0, .tr 31 3 (Tm.das (if bl s f then isort Tm.cmp (acc ++ nrmK s (bl s f) f q) else acc ++ nrmK s (bl s f) f q)))] (s.map Sy.da) (Tm.das ks) (ks.length : Int) (p.length : Int) f v (Tm.das ks) 0 0 (Tm.das acc)
  | [], p, acc, e, ha, _ => by
    have eb := implBlind_call s f hs
    have cs := sortTm_call acc (by omega)
    apply impl_Norm_L3_of
    subst e
    refine ifB_f (lt_decF (by simp)) ⟨_, eb, ?_⟩
    simp only [nrmK, List.append_nil]
    generalize bl s f = b at *
    cases b with
    | true => exact ifB_t rfl ⟨_, cs, by simp⟩
    | false => exact ifB_f rfl (by simp)
  | y :: q, p, acc, e, ha, hc => by
    have hcn : Tm.cns (y :: q) = 1 + y.cn + Tm.cns q := by simp [Tm.cns]
    have hkl := Tm.cns_cnL ks ▸ cnL_len Tm.cn ks
    obtain ⟨hyc, cy⟩ := hc y (by simp)
    have hnc := nrm_cn s y
    have hnl := Tm.len_cns (nrm s y).ks
    rw [Tm.cn_ks] at hnl
    have hx : (Tm.das ks)[p.length]? = some y.da := by rw [e]; exact das_app_get
    have hlt : p.length < ks.length := by rw [e]; simp
    have hw : IntKind.wrap .i64 ((p.length : Int) + 1) = ((p.length + 1 : Nat) : Int) := wr1 hlt (by omega)
    have ih := fun acc' h => implNorm_loop s hs f v ks hk q (p ++ [y]) acc' (by simp [e]) h (fun t ht => hc t (List.mem_cons_of_mem _ ht))
    rw [len_app1] at ih
    have eb := implBlind_call s f hs
    have eK : nrmK s (bl s f) f (y :: q) = (if bl s f = true ∧ (nrm s y).f = f then (nrm s y).ks else [nrm s y]) ++ nrmK s (bl s f) f q := by rw [nrmK]
    rw [eK]
    generalize hny : nrm s y = ny at *
    generalize bl s f = b at *
    obtain ⟨g, u, ms⟩ := y
    obtain ⟨g', u', ms'⟩ := ny
    apply impl_Norm_L3_of
    rw [hw]
    refine ifB_t (lt_dec hlt) ⟨p.length, rfl, g, u, Tm.das ms, hx, _, _, _, cy, _, eb, ?_⟩
    simp only [Tm.f, Tm.v, Tm.ks] at hnl ⊢
    cases b with
    | false =>
      refine ifB_f rfl ⟨⟨by simp [das_len]; omega⟩, ?_⟩
      have := ih (acc ++ [.mk g' u' ms']) (by simp; omega)
      simpa [das_app, Tm.das, Tm.da] using this
    | true =>
      refine ifB_t rfl ?_
      by_cases hg : g' = f
      · refine ifB_t (decide_eq_true hg) ⟨⟨by simp [das_len]; omega⟩, ?_⟩
        have := ih (acc ++ ms') (by simp; omega)
        simpa [das_app, hg, List.append_assoc] using this
      · refine ifB_f (decide_eq_false hg) ⟨⟨by simp [das_len]; omega⟩, ?_⟩
        have := ih (acc ++ [.mk g' u' ms']) (by simp; omega)
        simpa [das_app, Tm.das, Tm.da, hg, List.append_assoc] using this
theorem implNorm_call (s : List Sy) (hs : s.length ≤ 10000000) (t : Tm) : t.cn ≤ 1200000000000 → XC Try.prog 65 [L (s.map Sy.da), .dat t.da] [] (.agg [.d (.int .i64 (nrm s t).f), .d (.int .i64 (nrm s t).v), .ol 0]) [(0, .tr 31 3 (Tm.das (nrm s t).ks))] := by
  induction t using Tm.ind with
  | h f v ks ih =>
  intro hc
  have hcn : (Tm.mk f v ks).cn = Tm.cns ks := by simp [Tm.cn]
  rw [hcn] at hc
  apply impl_Norm_of
  have := implNorm_loop s hs f v ks hc ks [] [] rfl (by simp; omega) (fun t ht => by
    have hb : t.cn ≤ 1200000000000 := by have := Tm.cns_cnL ks ▸ cnL_mem (cn := Tm.cn) ht; omega
    exact ⟨hb, ih t ht hb⟩)
  rw [das_len]
  simpa [nrm, Tm.f, Tm.v, Tm.ks, Tm.das] using this
def lmk (s : List Sy) (pos : Bool) (a b : Tm) : Li := if Tm.cmp (nrm s a) (nrm s b) < 0 then ⟨pos, nrm s b, nrm s a⟩ else ⟨pos, nrm s a, nrm s b⟩
theorem lmk_cn (s : List Sy) (pos : Bool) (a b : Tm) : (lmk s pos a b).cn ≤ a.cn + b.cn := by
  have h1 := nrm_cn s a
  have h2 := nrm_cn s b
  unfold lmk Li.cn; split <;> dsimp only <;> omega
theorem specLitMake_call (s : List Sy) (hs : s.length ≤ 10000000) (pos : Bool) (a b : Tm) (ha : a.cn ≤ 1200000000000) (hb : b.cn ≤ 1200000000000) : XC Try.prog 80 [L (s.map Sy.da), B pos, .dat a.da, .dat b.da] [] (.dat (lmk s pos a b).da) [] := by
  have h1 := specNorm_call s hs a ha
  have h2 := specNorm_call s hs b hb
  have h3 := before_call (nrm s a) (nrm s b)
  unfold lmk
  generalize nrm s a = x at *
  generalize nrm s b = y at *
  obtain ⟨f, v, ks⟩ := a
  obtain ⟨g, u, ls⟩ := b
  obtain ⟨f', v', ks'⟩ := x
  obtain ⟨g', u', ls'⟩ := y
  apply spec_LitMake_of
  refine ⟨_, _, _, h1, _, _, _, h2, _, h3, ?_⟩
  by_cases h : Tm.cmp (.mk f' v' ks') (.mk g' u' ls') < 0
  · rw [if_pos h]; exact ifB_t (decide_eq_true h) ⟨rfl, rfl⟩
  · rw [if_neg h]; exact ifB_f (decide_eq_false h) ⟨rfl, rfl⟩
theorem implLitMake_call (s : List Sy) (hs : s.length ≤ 10000000) (pos : Bool) (a b : Tm) (ha : a.cn ≤ 1200000000000) (hb : b.cn ≤ 1200000000000) : XC Try.prog 83 [L (s.map Sy.da), B pos, .dat a.da, .dat b.da] [] (.agg [.d (.bool (lmk s pos a b).p), .d (.int .i64 (lmk s pos a b).l.f), .d (.int .i64 (lmk s pos a b).l.v), .ol 0, .d (.int .i64 (lmk s pos a b).r.f), .d (.int .i64 (lmk s pos a b).r.v), .ol 1]) [(0, .tr 31 3 (Tm.das (lmk s pos a b).l.ks)), (1, .tr 31 3 (Tm.das (lmk s pos a b).r.ks))] := by
  have h1 := implNorm_call s hs a ha
  have h2 := implNorm_call s hs b hb
  have h3 := implBefore_call (nrm s a) (nrm s b)
  unfold lmk
  generalize nrm s a = x at *
  generalize nrm s b = y at *
  obtain ⟨f, v, ks⟩ := a
  obtain ⟨g, u, ls⟩ := b
  obtain ⟨f', v', ks'⟩ := x
  obtain ⟨g', u', ls'⟩ := y
  apply impl_LitMake_of
  refine ⟨_, _, _, h1, _, _, _, h2, _, h3, ?_⟩
  by_cases h : Tm.cmp (.mk f' v' ks') (.mk g' u' ls') < 0
  · rw [if_pos h]; exact ifB_t (decide_eq_true h) ⟨rfl, rfl⟩
  · rw [if_neg h]; exact ifB_f (decide_eq_false h) ⟨rfl, rfl⟩
theorem mkNSy_eq : ∀ l : List Sy, mkNSy l = 3 * l.length
  | [] => by simp [mkNSy]
  | ⟨a, b, c⟩ :: r => by
    have h := mkNSy_eq r
    rw [mkNSy_cons, h, List.length_cons]
    simp only [mknSy]
    omega
/-- What a substitution says of a variable. -/
def lookT : List Bd → Int → Tm
  | [], v => .mk (-1) v []
  | b :: r, v => if b.v = v then b.t else lookT r v
def bndT : List Bd → Int → Tm × Bool
  | [], _ => (.mk 0 0 [], false)
  | b :: r, v => if b.v = v then (b.t, true) else bndT r v
theorem lookT_bnd : ∀ (u : List Bd) (v : Int), lookT u v = if (bndT u v).2 then (bndT u v).1 else .mk (-1) v []
  | [], v => rfl
  | b :: r, v => by
    unfold lookT bndT; split
    · rfl
    · exact lookT_bnd r v
theorem lookT_cn : ∀ (u : List Bd) (v : Int), (lookT u v).cn ≤ cnL Bd.cn u
  | [], v => by simp [lookT, Tm.cn, Tm.cns]
  | b :: r, v => by
    have h := lookT_cn r v
    have e : cnL Bd.cn (b :: r) = 1 + b.t.cn + cnL Bd.cn r := by simp [cnL, Bd.cn]; omega
    unfold lookT; split
    · omega
    · omega
mutual
def fil (u : List Bd) : Tm → Tm
  | .mk f v ks => if f = -1 ∧ ks.length = 0 then lookT u v else .mk f v (fils u ks)
def fils (u : List Bd) : List Tm → List Tm
  | [] => []
  | t :: r => fil u t :: fils u r
end
theorem fils_map (u : List Bd) (l : List Tm) : fils u l = l.map (fil u) := by induction l <;> simp_all [fils]
mutual
theorem fil_cn (u : List Bd) : ∀ t : Tm, (fil u t).cn + 1 ≤ (t.cn + 1) * (cnL Bd.cn u + 1)
  | .mk f v ks => by
    have h := fils_cns u ks
    have hl := lookT_cn u v
    simp only [fil, Tm.cn]
    rw [Nat.add_mul, Nat.one_mul]
    split
    · omega
    · simp only [Tm.cn]; omega
theorem fils_cns (u : List Bd) : ∀ l : List Tm, Tm.cns (fils u l) ≤ Tm.cns l * (cnL Bd.cn u + 1)
  | [] => by simp [fils, Tm.cns]
  | t :: r => by
    have h1 := fil_cn u t
    have h2 := fils_cns u r
    have e : Tm.cns (t :: r) = (t.cn + 1) + Tm.cns r := by simp [Tm.cns]; omega
    rw [e, Nat.add_mul]
    simp only [fils, Tm.cns]
    omega
end
theorem fil_big {u : List Bd} {t : Tm} (h1 : t.cn ≤ 1048576) (h2 : cnL Bd.cn u ≤ 1048576) : (fil u t).cn ≤ 1099513724928 := by
  have h := fil_cn u t
  have := Nat.mul_le_mul (show t.cn + 1 ≤ 1048577 by omega) (show cnL Bd.cn u + 1 ≤ 1048577 by omega)
  omega
def appT (s : List Sy) (u : List Bd) (t : Tm) : Tm := nrm s (fil u t)
theorem appT_cn {s : List Sy} {u : List Bd} {t : Tm} (h1 : t.cn ≤ 1048576) (h2 : cnL Bd.cn u ≤ 1048576) : (appT s u t).cn ≤ 1099513724928 := Nat.le_trans (nrm_cn s _) (fil_big h1 h2)
def litA (s : List Sy) (u : List Bd) (x : Li) : Li := lmk s x.p (appT s u x.l) (appT s u x.r)
theorem litA_cn {s : List Sy} {u : List Bd} {x : Li} (h1 : x.cn ≤ 1048576) (h2 : cnL Bd.cn u ≤ 1048576) : (litA s u x).cn ≤ 2199027449856 := by
  have h0 : x.cn = x.l.cn + x.r.cn := rfl
  have h3 := lmk_cn s x.p (appT s u x.l) (appT s u x.r)
  have h4 := appT_cn (s := s) (u := u) (t := x.l) (by omega) h2
  have h5 := appT_cn (s := s) (u := u) (t := x.r) (by omega) h2
  unfold litA
  omega
/-- What comes in goes to its place, unless it is there. -/
def insD {α : Type} (cmp : α → α → Int) (x : α) : List α → List α
  | [] => [x]
  | y :: r => if cmp y x < 0 then y :: insD cmp x r else if cmp y x = 0 then y :: r else x :: y :: r
def insS {α : Type} (cmp : α → α → Int) (l : List α) : List α := l.foldl (fun a x => insD cmp x a) []
/-- What is left of a list if what is as the one ahead goes away. -/
def cmpF {β : Type} (eq : β → β → Bool) : β → List β → List β
  | _, [] => []
  | p, y :: r => if eq y p then cmpF eq y r else y :: cmpF eq y r
def cmpL {β : Type} (eq : β → β → Bool) : List β → List β
  | [] => []
  | x :: r => x :: cmpF eq x r
abbrev SsC {α : Type} (cmp : α → α → Int) (l : List α) : Prop := l.Pairwise (fun a b => cmp a b < 0)
section
variable {α : Type} {cmp : α → α → Int}
theorem TotC.lt_tr (h : TotC cmp) {a b c : α} (h1 : cmp a b < 0) (h2 : cmp b c ≤ 0) : cmp a c < 0 := by
  have h3 := h.tr a b c (by omega) h2
  by_cases h4 : cmp a c = 0
  · have := h.eq a c h4
    subst this
    have := h.neg a b
    omega
  · omega
theorem TotC.self (h : TotC cmp) (a : α) : cmp a a = 0 := by have := h.neg a a; omega
theorem insD_mem (h : TotC cmp) {x y : α} : ∀ {l : List α}, y ∈ insD cmp x l ↔ y = x ∨ y ∈ l
  | [] => by simp [insD]
  | z :: r => by
    have ih := insD_mem h (x := x) (y := y) (l := r)
    unfold insD
    split
    · rw [List.mem_cons, ih, List.mem_cons]
      constructor <;> rintro (h | h | h) <;> simp [h]
    · split
      · rename_i h2
        have := h.eq _ _ h2
        subst this
        simp
      · simp
theorem insD_ss (h : TotC cmp) {x : α} : ∀ {l : List α}, SsC cmp l → SsC cmp (insD cmp x l)
  | [], _ => by simp [insD, SsC]
  | z :: r, hs => by
    obtain ⟨h1, h2⟩ := List.pairwise_cons.1 hs
    unfold insD
    split
    · rename_i hz
      refine List.pairwise_cons.2 ⟨fun w hw => ?_, insD_ss h h2⟩
      rcases (insD_mem h).1 hw with rfl | hw
      · exact hz
      · exact h1 w hw
    · split
      · exact hs
      · have hxz : cmp x z < 0 := by have := h.neg x z; omega
        refine List.pairwise_cons.2 ⟨fun w hw => ?_, hs⟩
        rcases List.mem_cons.1 hw with rfl | hw
        · exact hxz
        · exact h.lt_tr hxz (by have := h1 w hw; omega)
theorem insS_acc (h : TotC cmp) (l : List α) : ∀ a : List α, SsC cmp a → SsC cmp (l.foldl (fun a x => insD cmp x a) a) ∧ ∀ y, y ∈ l.foldl (fun a x => insD cmp x a) a ↔ y ∈ l ∨ y ∈ a := by
  induction l with
  | nil => intro a ha; exact ⟨ha, by simp⟩
  | cons x r ih =>
    intro a ha
    obtain ⟨h1, h2⟩ := ih _ (insD_ss h ha)
    refine ⟨h1, fun y => ?_⟩
    rw [List.foldl_cons, h2, insD_mem h, List.mem_cons]
    constructor
    · rintro (h | h | h) <;> simp [h]
    · rintro ((h | h) | h) <;> simp [h]
theorem ss_uniq (h : TotC cmp) : ∀ {a b : List α}, SsC cmp a → SsC cmp b → (∀ x, x ∈ a ↔ x ∈ b) → a = b
  | [], [], _, _, _ => rfl
  | [], y :: s, _, _, hm => by have := (hm y).2 (by simp); simp at this
  | x :: r, [], _, _, hm => by have := (hm x).1 (by simp); simp at this
  | x :: r, y :: s, ha, hb, hm => by
    obtain ⟨a1, a2⟩ := List.pairwise_cons.1 ha
    obtain ⟨b1, b2⟩ := List.pairwise_cons.1 hb
    have hxy : x = y := by
      rcases List.mem_cons.1 ((hm x).1 (by simp)) with e | h1
      · exact e
      · rcases List.mem_cons.1 ((hm y).2 (by simp)) with e | h2
        · exact e.symm
        · have := a1 y h2; have := b1 x h1; have := h.neg x y; omega
    subst hxy
    rw [ss_uniq h a2 b2 fun z => ?_]
    have := hm z
    rw [List.mem_cons, List.mem_cons] at this
    constructor
    · intro hz
      rcases this.1 (.inr hz) with e | h1
      · subst e; have := a1 z hz; have := h.self z; omega
      · exact h1
    · intro hz
      rcases this.2 (.inr hz) with e | h1
      · subst e; have := b1 z hz; have := h.self z; omega
      · exact h1
theorem cmpF_mem {eq : α → α → Bool} (he : ∀ a b, eq a b = true → a = b) {y : α} : ∀ {l : List α} {p : α}, (y ∈ cmpF eq p l → y ∈ l) ∧ (y ∈ l → y = p ∨ y ∈ cmpF eq p l)
  | [], p => by simp [cmpF]
  | x :: r, p => by
    obtain ⟨h1, h2⟩ := cmpF_mem he (y := y) (l := r) (p := x)
    unfold cmpF
    split
    · rename_i h3
      have := he _ _ h3
      subst this
      exact ⟨fun h => List.mem_cons_of_mem _ (h1 h), fun h => by
        rcases List.mem_cons.1 h with h | h
        · exact .inl h
        · exact h2 h⟩
    · refine ⟨fun h => ?_, fun h => ?_⟩
      · rcases List.mem_cons.1 h with h | h
        · simp [h]
        · exact List.mem_cons_of_mem _ (h1 h)
      · rcases List.mem_cons.1 h with h | h
        · simp [h]
        · rcases h2 h with h | h <;> simp [h]
theorem cmpF_ss (h : TotC cmp) {eq : α → α → Bool} (he : ∀ a b, eq a b = decide (cmp a b = 0)) : ∀ {l : List α} {p : α}, SdC cmp (p :: l) → SsC cmp (p :: cmpF eq p l)
  | [], p, _ => by simp [cmpF, SsC]
  | x :: r, p, hs => by
    obtain ⟨h1, h2⟩ := List.pairwise_cons.1 hs
    have ih := cmpF_ss h he h2
    unfold cmpF
    split
    · rename_i h3
      rw [he, decide_eq_true_eq] at h3
      have := h.eq _ _ h3
      subst this
      exact ih
    · rename_i h3
      rw [he, decide_eq_true_eq] at h3
      have hpx : cmp p x < 0 := by have := h1 x (by simp); have := h.neg p x; omega
      refine List.pairwise_cons.2 ⟨fun w hw => ?_, ih⟩
      rcases List.mem_cons.1 hw with rfl | hw
      · exact hpx
      · exact h.lt_tr hpx (by have := (List.pairwise_cons.1 ih).1 w hw; omega)
/-- To sort and to leave away is to put in, one by one. -/
theorem cmpL_isort (h : TotC cmp) {eq : α → α → Bool} (he : ∀ a b, eq a b = decide (cmp a b = 0)) (l : List α) : cmpL eq (isort cmp l) = insS cmp l := by
  obtain ⟨h1, h2⟩ := insS_acc h l [] (by simp [SsC])
  have hs := isort_sd h l
  have hp := isort_perm cmp l
  have hee : ∀ a b, eq a b = true → a = b := fun a b e => h.eq a b (by simpa [he] using e)
  generalize isort cmp l = s at hs hp
  refine ss_uniq h ?_ h1 fun x => ?_
  · cases s with
    | nil => simp [cmpL, SsC]
    | cons p r => exact cmpF_ss h he hs
  · rw [insS, h2, ← hp.mem_iff]
    cases s with
    | nil => simp [cmpL]
    | cons p r =>
      obtain ⟨g1, g2⟩ := cmpF_mem hee (y := x) (l := r) (p := p)
      simp only [cmpL, List.mem_cons, List.not_mem_nil, or_false]
      constructor
      · rintro (h | h)
        · exact .inl h
        · exact .inr (g1 h)
      · rintro (h | h)
        · exact .inl h
        · exact g2 h
theorem cmpF_perm {β : Type} (eq : β → β → Bool) : ∀ (l : List β) (p : β), ∃ r, (cmpF eq p l ++ r).Perm l
  | [], p => ⟨[], by simp [cmpF]⟩
  | y :: l, p => by
    obtain ⟨r, h⟩ := cmpF_perm eq l y
    unfold cmpF
    split
    · exact ⟨y :: r, List.perm_middle.trans (h.cons y)⟩
    · exact ⟨r, h.cons y⟩
theorem cmpF_map {β γ : Type} (g : β → γ) (eq : γ → γ → Bool) : ∀ (l : List β) (p : β), (cmpF (fun a b => eq (g a) (g b)) p l).map g = cmpF eq (g p) (l.map g)
  | [], p => rfl
  | y :: l, p => by
    have h := cmpF_map g eq l y
    simp only [cmpF, List.map_cons]
    split
    · exact h
    · rw [List.map_cons, h]
theorem insD_cnL {cn : α → Nat} {x : α} : ∀ l : List α, (((insD cmp x l).map cn).sum + (insD cmp x l).length) ≤ cn x + 1 + ((l.map cn).sum + l.length)
  | [] => by simp [insD]
  | y :: r => by
    have h := insD_cnL (cn := cn) (x := x) r
    unfold insD; split
    · simp only [List.map_cons, List.sum_cons, List.length_cons]; omega
    · split <;> simp only [List.map_cons, List.sum_cons, List.length_cons] <;> omega
end
theorem litSame_call (a b : Li) : XC Try.prog 87 [.dat a.da, .dat b.da] [] (B (decide (Li.cmp a b = 0))) [] := by
  have h1 := termSame_call a.l b.l
  have h2 := termSame_call a.r b.r
  obtain ⟨p, ⟨f, v, ks⟩, ⟨g, u, ls⟩⟩ := a
  obtain ⟨p', ⟨f', v', ks'⟩, ⟨g', u', ls'⟩⟩ := b
  apply spec_LitSame_of
  refine ifB_d (fun h => ⟨_, h1, ifB_of (fun h3 => ⟨_, h2, bE ?_⟩) fun h3 => bE ?_⟩) fun h => bE ?_
  · subst h
    have h3 : Tm.cmp (.mk f v ks) (.mk f' v' ks') = 0 := by simpa using h3
    simp only [Li.cmp, if_true, if_pos h3]
  · subst h
    have h3 : ¬ Tm.cmp (.mk f v ks) (.mk f' v' ks') = 0 := by simpa using h3
    simp only [Li.cmp, if_true, if_neg h3]
    simp [h3]
  · simp only [Li.cmp, if_neg h]
    cases p <;> cases p' <;> simp_all
def sameLi (a b : Li) : Bool := decide (Li.cmp a b = 0)
def sameTg (a b : List Da × Li) : Bool := sameLi a.2 b.2
theorem sameTg_call {z w : List Da × Li} (hz : TgP Li.da z) (hw : TgP Li.da w) : XC Try.prog 91 [.dat z.1, .dat w.1] [] (B (sameTg z w)) [] := XC.ut (by
  show XC _ _ [.dat (Da.utL z.1), .dat (Da.utL w.1)] _ _ _
  rw [hz.ut Li.ut_da, hw.ut Li.ut_da]; exact implLitSame_call _ _)
theorem compLi_in : ∀ (R F G : List (List Da × Li)) (y : List Da × Li) (K j : Nat), (∀ z ∈ F ++ G ++ y :: R, TgP Li.da z) → K + j = F.length + G.length + 1 → 1 ≤ j → (F ++ G ++ y :: R).length ≤ 3000000000000 → slices_CompactFunc_Lit_impl_LitSame_L9 (.one (.ol 0)) [(0, .lst 61 7 ((F ++ cmpF sameTg y R).map (·.1)))] (F.length : Int) K (j + R.length) (j : Int) ((F ++ G ++ y :: R).map (·.1)) := by
  intro R
  induction R with
  | nil =>
    intro F G y K j ht hK hj hl
    apply slices_CompactFunc_Lit_impl_LitSame_L9_of
    refine ifB_f (decide_eq_false (by simp)) ⟨F.length, rfl, ⟨by simp, Nat.le_refl _⟩, ⟨by simp⟩, F.length, rfl, ⟨by omega, by simp⟩, ⟨by simp⟩, rfl, ?_⟩
    simp [cmpF, List.take_append, take_map_len]
  | cons x R ih =>
    intro F G y K j ht hK hj hl
    have hlen : (F ++ G ++ y :: x :: R).length = F.length + G.length + R.length + 2 := by simp; omega
    have hx := ht x (by simp)
    have hy := ht y (by simp)
    have c := sameTg_call hx hy
    obtain ⟨b, n1, n2, d, n3, n4, d1, ex⟩ := hx.lit
    obtain ⟨b', m1, m2, d', m3, m4, d1', ey⟩ := hy.lit
    have gx : ((F ++ G ++ y :: x :: R).map (·.1))[K + j]? = some x.1 := by
      have h := map_app_get (g := fun z : List Da × Li => z.1) (p := F ++ G ++ [y]) (x := x) (q := R)
      rw [show (F ++ G ++ [y]).length = K + j by simp; omega] at h
      simpa using h
    have gy : ((F ++ G ++ y :: x :: R).map (·.1))[K + (j - 1)]? = some y.1 := by
      have h := map_app_get (g := fun z : List Da × Li => z.1) (p := F ++ G) (x := y) (q := x :: R)
      rw [show (F ++ G).length = K + (j - 1) by simp; omega] at h
      exact h
    have w0 : IntKind.wrap .i64 ((j : Int) - 1) = ((j - 1 : Nat) : Int) := by rw [wrI (by omega) (by omega)]; omega
    have w1 : IntKind.wrap .i64 ((j : Int) + 1) = ((j + 1 : Nat) : Int) := by rw [wrI (by omega) (by omega)]; omega
    have w2 : IntKind.wrap .i64 ((F.length : Int) + 1) = ((F.length + 1 : Nat) : Int) := by rw [wrI (by omega) (by omega)]; omega
    have gx2 := gx
    rw [ex] at c gx2
    rw [ey] at c gy
    apply slices_CompactFunc_Lit_impl_LitSame_L9_of
    rw [w0, w1, w2]
    refine ifB_t (decide_eq_true (by simp; omega)) ⟨j, rfl, ⟨by simp⟩, K + j, rfl, _, _, _, _, _, _, _, gx2, j - 1, rfl, ⟨by simp; omega⟩, K + (j - 1), rfl, _, _, _, _, _, _, _, gy, _, c, ?_⟩
    by_cases hs : sameTg x y = true
    · refine ifB_f (by simp [hs]) ?_
      have h := ih F (G ++ [y]) x K (j + 1) (by simpa using ht) (by simp; omega) (by omega) (by simp at hl ⊢; omega)
      have e1 : F ++ (G ++ [y]) ++ x :: R = F ++ G ++ y :: x :: R := by simp
      have e2 : cmpF sameTg y (x :: R) = cmpF sameTg x R := by rw [cmpF, if_pos hs]
      rw [e1] at h
      rw [e2, show j + (x :: R).length = j + 1 + R.length by simp; omega]
      exact h
    · refine ifB_t (by simpa using hs) ?_
      obtain ⟨g, H, eG⟩ : ∃ g H, G ++ [y] = g :: H := by
        cases G with
        | nil => exact ⟨y, [], rfl⟩
        | cons g G' => exact ⟨g, G' ++ [y], rfl⟩
      have hHl : H.length = G.length := by have := congrArg List.length eG; simp at this; omega
      have e0 : F ++ G ++ y :: x :: R = F ++ g :: (H ++ x :: R) := by
        rw [show F ++ G ++ y :: x :: R = F ++ (G ++ [y]) ++ x :: R by simp, eG]; simp
      have hg := ht g (by rw [e0]; simp)
      obtain ⟨b2, k1, k2, d2, k3, k4, d3, eg⟩ := hg.lit
      have gg : ((F ++ G ++ y :: x :: R).map (·.1))[F.length]? = some g.1 := by rw [e0]; exact map_app_get
      rw [eg] at gg
      refine ⟨j, rfl, ⟨by simp⟩, K + j, rfl, _, _, _, _, _, _, _, gx2, F.length, rfl, ⟨by simp; omega⟩, F.length, rfl, _, _, _, _, _, _, _, gg, ?_⟩
      have h := ih (F ++ [x]) H x K (j + 1) (fun z hz => by
        apply ht z
        rw [e0]
        simp at hz ⊢
        rcases hz with h | h | h | h | h <;> simp [h]) (by simp; omega) (by omega) (by simp at hl ⊢; omega)
      have e3 : (F ++ [x] ++ H ++ x :: R).map (·.1) = ((F ++ G ++ y :: x :: R).map (·.1)).set F.length x.1 := by rw [e0]; simp [List.set_append]
      have e2 : F ++ cmpF sameTg y (x :: R) = F ++ [x] ++ cmpF sameTg x R := by rw [cmpF, if_neg hs]; simp
      rw [e3, ex, show (F ++ [x]).length = F.length + 1 by simp] at h
      rw [e2, show j + (x :: R).length = j + 1 + R.length by simp; omega]
      exact h
theorem compLi_out : ∀ (R P : List (List Da × Li)) (y : List Da × Li), (∀ z ∈ P ++ y :: R, TgP Li.da z) → (P ++ y :: R).length ≤ 3000000000000 → slices_CompactFunc_Lit_impl_LitSame_L4 (.one (.ol 0)) [(0, .lst 61 7 ((P ++ y :: cmpF sameTg y R).map (·.1)))] ((P.length + 1 : Nat) : Int) ((P ++ y :: R).map (·.1)) := by
  intro R
  induction R with
  | nil =>
    intro P y ht hl
    apply slices_CompactFunc_Lit_impl_LitSame_L4_of
    exact ifB_f (decide_eq_false (by simp)) ⟨rfl, by simp [cmpF]⟩
  | cons x R ih =>
    intro P y ht hl
    have hx := ht x (by simp)
    have hy := ht y (by simp)
    have c := sameTg_call hx hy
    obtain ⟨b, n1, n2, d, n3, n4, d1, ex⟩ := hx.lit
    obtain ⟨b', m1, m2, d', m3, m4, d1', ey⟩ := hy.lit
    have gx : ((P ++ y :: x :: R).map (·.1))[P.length + 1]? = some x.1 := by
      have h := map_app_get (g := fun z : List Da × Li => z.1) (p := P ++ [y]) (x := x) (q := R)
      rw [show (P ++ [y]).length = P.length + 1 by simp, show P ++ [y] ++ x :: R = P ++ y :: x :: R by simp] at h
      exact h
    have gy : ((P ++ y :: x :: R).map (·.1))[P.length]? = some y.1 := map_app_get
    have hlen : (P ++ y :: x :: R).length = P.length + R.length + 2 := by simp; omega
    have w0 : IntKind.wrap .i64 (((P.length + 1 : Nat) : Int) - 1) = (P.length : Int) := by rw [wrI (by omega) (by omega)]; omega
    have w1 : IntKind.wrap .i64 (((P.length + 1 : Nat) : Int) + 1) = ((P.length + 1 + 1 : Nat) : Int) := by rw [wrI (by omega) (by omega)]; omega
    rw [ex] at c gx
    rw [ey] at c gy
    apply slices_CompactFunc_Lit_impl_LitSame_L4_of
    rw [w0, w1]
    refine ifB_t (decide_eq_true (by simp; omega)) ⟨P.length + 1, rfl, ⟨by simp⟩, P.length + 1, rfl, _, _, _, _, _, _, _, gx, P.length, rfl, ⟨by simp⟩, P.length, rfl, _, _, _, _, _, _, _, gy, _, c, ?_⟩
    by_cases hs : sameTg x y = true
    · refine ifB_t hs ⟨P.length + 1, rfl, ⟨by simp, Nat.le_refl _⟩, ?_⟩
      have h := compLi_in R (P ++ [y]) [] x (P.length + 1) 1 (by simpa using ht) (by simp) (Nat.le_refl _) (by simp at hl ⊢; omega)
      have e1 : P ++ [y] ++ [] ++ x :: R = P ++ y :: x :: R := by simp
      have e2 : P ++ y :: cmpF sameTg y (x :: R) = P ++ [y] ++ cmpF sameTg x R := by rw [cmpF, if_pos hs]; simp
      rw [e1, show (P ++ [y]).length = P.length + 1 by simp] at h
      rw [e2, show ((P ++ y :: x :: R).map (·.1)).length - (P.length + 1) = 1 + R.length by simp; omega, Nat.zero_add]
      exact h
    · refine ifB_f (by simpa using hs) ?_
      have h := ih (P ++ [y]) x (by simpa using ht) (by simp at hl ⊢; omega)
      have e1 : P ++ [y] ++ x :: R = P ++ y :: x :: R := by simp
      have e2 : P ++ y :: cmpF sameTg y (x :: R) = P ++ [y] ++ x :: cmpF sameTg x R := by rw [cmpF, if_neg hs]; simp
      rw [e1, show (P ++ [y]).length = P.length + 1 by simp] at h
      rw [e2]
      exact h
theorem compLi_tags (zs : List (List Da × Li)) (ht : ∀ z ∈ zs, TgP Li.da z) (hl : zs.length ≤ 3000000000000) : XC Try.prog 90 [.one (.ol 2000), .one (.d (.fn 91))] [(2000, .lst 61 7 (zs.map (·.1)))] (.one (.ol 0)) [(0, .lst 61 7 ((cmpL sameTg zs).map (·.1)))] := by
  apply slices_CompactFunc_Lit_impl_LitSame_of
  match zs, ht, hl with
  | [], _, _ => exact ifB_t (by simp) ⟨rfl, rfl⟩
  | [z], _, _ => exact ifB_t (by simp) ⟨rfl, rfl⟩
  | z :: x :: R, ht, hl =>
    refine ifB_f (decide_eq_false (by simp; omega)) ?_
    exact compLi_out (x :: R) [] z ht hl
theorem cmpL_perm {β : Type} (eq : β → β → Bool) : ∀ l : List β, ∃ r, (cmpL eq l ++ r).Perm l
  | [] => ⟨[], by simp [cmpL]⟩
  | x :: l => by
    obtain ⟨r, h⟩ := cmpF_perm eq l x
    exact ⟨r, h.cons x⟩
theorem cmpL_map {β γ : Type} (g : β → γ) (eq : γ → γ → Bool) : ∀ l : List β, (cmpL (fun a b => eq (g a) (g b)) l).map g = cmpL eq (l.map g)
  | [] => rfl
  | x :: l => by
    show g x :: _ = _
    rw [cmpF_map g eq l x]; rfl
theorem compLi_call (ls : List Li) (hl : ls.length ≤ 3000000000000) : XC Try.prog 90 [.one (.ol 2000), .one (.d (.fn 91))] [(2000, .tr 61 7 (ls.map Li.da))] (.one (.ol 0)) [(0, .tr 61 7 ((cmpL sameLi ls).map Li.da))] := by
  refine xc_taken fun xs' hx => ?_
  obtain ⟨zs, rfl, rfl, ht⟩ := zip_tags hx
  obtain ⟨r, hp⟩ := cmpL_perm sameTg zs
  refine ⟨(cmpL sameTg zs).map (·.1), ⟨r.map (·.1), ?_⟩, ?_, compLi_tags zs ht (by simpa using hl)⟩
  · rw [← List.map_append]
    exact hp.map _
  · rw [tags_map fun z hz => ht z (hp.subset (List.mem_append_left _ hz))]
    congr 1
    exact cmpL_map (fun z : List Da × Li => z.2) sameLi zs
def lmkL (s : List Sy) (x : Li) : Li := lmk s x.p x.l x.r
/-- A clause made of Lits. -/
def clm (s : List Sy) (ls : List Li) : List Li := insS Li.cmp (ls.map (lmkL s))
theorem lmkL_cn (s : List Sy) (x : Li) : (lmkL s x).cn ≤ x.cn := lmk_cn s x.p x.l x.r
theorem insS_cnL (l : List Li) : ∀ a : List Li, cnL Li.cn (l.foldl (fun a x => insD Li.cmp x a) a) ≤ cnL Li.cn a + cnL Li.cn l := by
  induction l with
  | nil => intro a; simp
  | cons x r ih =>
    intro a
    have h1 := ih (insD Li.cmp x a)
    have h2 := insD_cnL (cmp := Li.cmp) (cn := Li.cn) (x := x) a
    have e1 : cnL Li.cn (x :: r) = 1 + x.cn + cnL Li.cn r := by simp [cnL]; omega
    have e2 : cnL Li.cn a = a.length + (a.map Li.cn).sum := by simp [cnL]
    have e3 : cnL Li.cn (insD Li.cmp x a) = (insD Li.cmp x a).length + ((insD Li.cmp x a).map Li.cn).sum := by simp [cnL]
    rw [List.foldl_cons]
    omega
theorem lmkL_cnL (s : List Sy) (l : List Li) : cnL Li.cn (l.map (lmkL s)) ≤ cnL Li.cn l := by
  induction l with
  | nil => simp
  | cons x r ih =>
    have h := lmkL_cn s x
    have e1 : cnL Li.cn (x :: r) = 1 + x.cn + cnL Li.cn r := by simp [cnL]; omega
    have e2 : cnL Li.cn ((x :: r).map (lmkL s)) = 1 + (lmkL s x).cn + cnL Li.cn (r.map (lmkL s)) := by simp [cnL]; omega
    omega
theorem clm_cn (s : List Sy) (ls : List Li) : cnL Li.cn (clm s ls) ≤ cnL Li.cn ls := by
  have h1 := insS_cnL (ls.map (lmkL s)) []
  have h2 := lmkL_cnL s ls
  have h3 : cnL Li.cn ([] : List Li) = 0 := by simp [cnL]
  unfold clm insS
  omega
theorem implClauseMake_loop (s : List Sy) (hs : s.length ≤ 10000000) (ls : List Li) (hc : cnL Li.cn ls ≤ 1200000000000) : ∀ (q p : List Li), ls = p ++ q → impl_ClauseMake_L3 (.agg [.ol 0]) [(0, .tr 61 7 ((clm s ls).map Li.da))] (s.map Sy.da) (ls.map Li.da) (ls.length : Int) (p.length : Int) ((p.map (lmkL s)).map Li.da)
  | [], p, e => by
    have hl := cnL_len Li.cn ls
    have c1 := sortLi_call (ls.map (lmkL s)) (by simp; omega)
    have c2 := compLi_call (isort Li.cmp (ls.map (lmkL s))) (by rw [(isort_perm _ _).length_eq]; simp; omega)
    have e1 : cmpL sameLi (isort Li.cmp (ls.map (lmkL s))) = clm s ls := cmpL_isort totLi (fun _ _ => rfl) _
    rw [e1] at c2
    apply impl_ClauseMake_L3_of
    have ep : ls = p := by simpa using e
    subst ep
    exact ifB_f (decide_eq_false (by omega)) ⟨_, c1, _, c2, rfl, rfl⟩
  | x :: q, p, e => by
    have ih := implClauseMake_loop s hs ls hc q (p ++ [x]) (by simp [e])
    have hm := cnL_mem (cn := Li.cn) (l := ls) (x := x) (by simp [e])
    have hl := cnL_len Li.cn ls
    have hxc : x.cn = x.l.cn + x.r.cn := rfl
    have c := implLitMake_call s hs x.p x.l x.r (by omega) (by omega)
    have hx : (ls.map Li.da)[p.length]? = some x.da := by rw [e]; exact map_app_get
    have hlt : p.length < ls.length := by rw [e]; simp
    have hw : IntKind.wrap .i64 ((p.length : Int) + 1) = ((p.length + 1 : Nat) : Int) := wr1 hlt (by omega)
    have e2 : ((p ++ [x]).map (lmkL s)).map Li.da = (p.map (lmkL s)).map Li.da ++ [(lmkL s x).da] := by simp
    have e3 : lmkL s x = lmk s x.p x.l x.r := rfl
    rw [len_app1, e2, e3] at ih
    generalize lmk s x.p x.l x.r = y at *
    obtain ⟨pp, ⟨f, v, ks⟩, ⟨g, u, ms⟩⟩ := x
    obtain ⟨pp', ⟨f', v', ks'⟩, ⟨g', u', ms'⟩⟩ := y
    apply impl_ClauseMake_L3_of
    rw [hw]
    exact ifB_t (decide_eq_true (by omega)) ⟨p.length, rfl, _, _, _, _, _, _, _, hx, _, _, _, _, _, _, _, c, ⟨by simp; omega⟩, ih⟩
theorem implClauseMake_call (s : List Sy) (hs : s.length ≤ 10000000) (ls : List Li) (hc : cnL Li.cn ls ≤ 1200000000000) : XC Try.prog 44 [L (s.map Sy.da), L (ls.map Li.da)] [] (.agg [.ol 0]) [(0, .tr 61 7 ((clm s ls).map Li.da))] := by
  apply impl_ClauseMake_of
  rw [List.length_map]
  exact implClauseMake_loop s hs ls hc ls [] rfl
theorem lis7 (l : List Li) : ∀ y ∈ l.map Li.da, y.length = 7 := by
  intro y hy
  obtain ⟨x, _, rfl⟩ := List.mem_map.1 hy
  obtain ⟨p, ⟨f, v, ks⟩, ⟨g, u, ms⟩⟩ := x
  rfl
theorem specClauseMake_in (r : AV) (O : List (Nat × Ob)) (s1 : List (List Da)) (s0 : List (List Da)) (s6 : Int) (x : Li) (l : List Li) (hl : l.length ≤ 1200000000000) (h : spec_ClauseMake_L3 r O s0 s1 (IntKind.wrap .i64 (s6 + 1)) ((insD Li.cmp x l).map Li.da)) : ∀ (q p : List Li), l = p ++ q → insD Li.cmp x l = p ++ insD Li.cmp x q → spec_ClauseMake_L7 r O s0 s1 s6 (p.length : Int) x.p x.l.f x.l.v (Tm.das x.l.ks) x.r.f x.r.v (Tm.das x.r.ks) (l.map Li.da)
  | [], p, e, e2 => by
    have hpl : l.length = p.length := by rw [e]; simp
    have ed : x.da = [.bool x.p, .int .i64 x.l.f, .int .i64 x.l.v, .sl (Tm.das x.l.ks), .int .i64 x.r.f, .int .i64 x.r.v, .sl (Tm.das x.r.ks)] := by obtain ⟨pp, ⟨f, v, ks⟩, ⟨g, u, ms⟩⟩ := x; rfl
    apply spec_ClauseMake_L7_of
    refine ifB_f (decide_eq_false (by simp; omega)) (ifB_f (decide_eq_false (by simp; omega)) ⟨p.length, rfl, ⟨by omega, by simp; omega⟩, ⟨by simp; omega⟩, ⟨lis7 l⟩, ⟨by simp; omega⟩, ⟨by simp; omega⟩, p.length, rfl, ⟨by simp; omega, Nat.le_refl _⟩, ⟨by simp; omega⟩, ⟨lis7 l⟩, ⟨by simp; omega⟩, ?_⟩)
    rw [← ed]
    rw [e2] at h
    subst e
    simpa [insD, take_map_len, drop_map_len] using h
  | y :: q, p, e, e2 => by
    have hpl : l.length = p.length + q.length + 1 := by rw [e]; simp; omega
    have ed : x.da = [.bool x.p, .int .i64 x.l.f, .int .i64 x.l.v, .sl (Tm.das x.l.ks), .int .i64 x.r.f, .int .i64 x.r.v, .sl (Tm.das x.r.ks)] := by obtain ⟨pp, ⟨f, v, ks⟩, ⟨g, u, ms⟩⟩ := x; rfl
    have hx : (l.map Li.da)[p.length]? = some y.da := by rw [e]; exact map_app_get
    have c1 := litBefore_call y x
    have c2 := litSame_call y x
    rw [ed] at c1 c2
    have hlt : p.length < l.length := by omega
    have hw : IntKind.wrap .i64 ((p.length : Int) + 1) = ((p.length + 1 : Nat) : Int) := wr1 hlt (by omega)
    have ih := fun h2 => specClauseMake_in r O s1 s0 s6 x l hl h q (p ++ [y]) (by simp [e]) h2
    rw [len_app1] at ih
    apply spec_ClauseMake_L7_of
    rw [hw]
    by_cases hb : Li.cmp y x < 0
    · have ih2 := ih (by rw [e2, insD, if_pos hb]; simp)
      clear ih
      obtain ⟨pp, ⟨f, v, ks⟩, ⟨g, u, ms⟩⟩ := y
      exact ifB_t (decide_eq_true (by simp; omega)) ⟨p.length, rfl, ⟨by simp; omega⟩, p.length, rfl, _, _, _, _, _, _, _, hx, _, c1, ifB_t (decide_eq_true hb) ih2⟩
    · by_cases hs : Li.cmp y x = 0
      · have el : insD Li.cmp x l = l := by rw [e2, insD, if_neg hb, if_pos hs, ← e]
        rw [el] at h
        obtain ⟨pp, ⟨f, v, ks⟩, ⟨g, u, ms⟩⟩ := y
        exact ifB_t (decide_eq_true (by simp; omega)) ⟨p.length, rfl, ⟨by simp; omega⟩, p.length, rfl, _, _, _, _, _, _, _, hx, _, c1, ifB_f (decide_eq_false hb) (ifB_t (decide_eq_true (by simp; omega)) ⟨p.length, rfl, ⟨by simp; omega⟩, p.length, rfl, _, _, _, _, _, _, _, hx, _, c2, ifB_t (decide_eq_true hs) h⟩)⟩
      · have el : insD Li.cmp x l = p ++ x :: y :: q := by rw [e2, insD, if_neg hb, if_neg hs]
        rw [el] at h
        have h' : spec_ClauseMake_L3 r O s0 s1 (IntKind.wrap .i64 (s6 + 1)) ([] ++ ((l.map Li.da).drop (0 + 0)).take (p.length - 0) ++ [x.da] ++ ((l.map Li.da).drop (0 + p.length)).take ((l.map Li.da).length - p.length)) := by
          have e3 : [] ++ ((l.map Li.da).drop (0 + 0)).take (p.length - 0) ++ [x.da] ++ ((l.map Li.da).drop (0 + p.length)).take ((l.map Li.da).length - p.length) = (p ++ x :: y :: q).map Li.da := by
            rw [e]; simp [List.take_append, List.drop_append, take_map_len, drop_map_len]
          rw [e3]; exact h
        rw [ed] at h'
        obtain ⟨pp, ⟨f, v, ks⟩, ⟨g, u, ms⟩⟩ := y
        exact ifB_t (decide_eq_true (by simp; omega)) ⟨p.length, rfl, ⟨by simp; omega⟩, p.length, rfl, _, _, _, _, _, _, _, hx, _, c1, ifB_f (decide_eq_false hb) (ifB_t (decide_eq_true (by simp; omega)) ⟨p.length, rfl, ⟨by simp; omega⟩, p.length, rfl, _, _, _, _, _, _, _, hx, _, c2, ifB_f (decide_eq_false hs) ⟨p.length, rfl, ⟨by omega, by simp; omega⟩, ⟨by simp; omega⟩, ⟨lis7 l⟩, ⟨by simp; omega⟩, ⟨by simp; omega⟩, p.length, rfl, ⟨by simp; omega, Nat.le_refl _⟩, ⟨by simp; omega⟩, ⟨lis7 l⟩, ⟨by simp; omega⟩, h'⟩⟩)⟩
theorem specClauseMake_loop (s : List Sy) (hs : s.length ≤ 10000000) (ls : List Li) (hc : cnL Li.cn ls ≤ 1200000000000) : ∀ (q p : List Li), ls = p ++ q → spec_ClauseMake_L3 (.dat (Cl.mk (clm s ls)).da) [] (s.map Sy.da) (ls.map Li.da) (p.length : Int) ((insS Li.cmp (p.map (lmkL s))).map Li.da)
  | [], p, e => by
    apply spec_ClauseMake_L3_of
    have ep : ls = p := by simpa using e
    subst ep
    exact ifB_f (decide_eq_false (by simp)) ⟨rfl, rfl⟩
  | x :: q, p, e => by
    have ih := specClauseMake_loop s hs ls hc q (p ++ [x]) (by simp [e])
    have hm := cnL_mem (cn := Li.cn) (l := ls) (x := x) (by simp [e])
    have hl := cnL_len Li.cn ls
    have hxc : x.cn = x.l.cn + x.r.cn := rfl
    have c := specLitMake_call s hs x.p x.l x.r (by omega) (by omega)
    have hx : (ls.map Li.da)[p.length]? = some x.da := by rw [e]; exact map_app_get
    have hlt : p.length < ls.length := by rw [e]; simp
    have hw : IntKind.wrap .i64 ((p.length : Int) + 1) = ((p.length + 1 : Nat) : Int) := wr1 hlt (by omega)
    have e2 : insS Li.cmp ((p ++ [x]).map (lmkL s)) = insD Li.cmp (lmk s x.p x.l x.r) (insS Li.cmp (p.map (lmkL s))) := by simp [insS, List.foldl_append, lmkL]
    have hlen : (insS Li.cmp (p.map (lmkL s))).length ≤ 1200000000000 := by
      have h1 := insS_cnL (p.map (lmkL s)) []
      have h2 := lmkL_cnL s p
      have h3 : cnL Li.cn ([] : List Li) = 0 := by simp [cnL]
      have h4 := cnL_len Li.cn (insS Li.cmp (p.map (lmkL s)))
      have h5 : cnL Li.cn ls = cnL Li.cn p + cnL Li.cn (x :: q) := by rw [e]; simp [cnL]; omega
      unfold insS at h4 ⊢
      omega
    rw [len_app1, e2, ← hw] at ih
    have h7 := specClauseMake_in _ _ _ _ _ (lmk s x.p x.l x.r) (insS Li.cmp (p.map (lmkL s))) hlen ih (insS Li.cmp (p.map (lmkL s))) [] rfl rfl
    generalize lmk s x.p x.l x.r = y at *
    obtain ⟨pp, ⟨f, v, ks⟩, ⟨g, u, ms⟩⟩ := x
    obtain ⟨pp', ⟨f', v', ks'⟩, ⟨g', u', ms'⟩⟩ := y
    apply spec_ClauseMake_L3_of
    exact ifB_t (decide_eq_true (by simp; omega)) ⟨p.length, rfl, _, _, _, _, _, _, _, hx, p.length, rfl, _, _, _, _, _, _, _, hx, p.length, rfl, _, _, _, _, _, _, _, hx, _, _, _, _, _, _, _, c, h7⟩
theorem specClauseMake_call (s : List Sy) (hs : s.length ≤ 10000000) (ls : List Li) (hc : cnL Li.cn ls ≤ 1200000000000) : XC Try.prog 42 [L (s.map Sy.da), L (ls.map Li.da)] [] (.dat (Cl.mk (clm s ls)).da) [] := by
  apply spec_ClauseMake_of
  exact specClauseMake_loop s hs ls hc ls [] rfl
theorem laws_FnExactClauseMake_law (ss : List Sy) (kss : ∀ y ∈ ss, Sy.ok y) (ls : List Li) (kls : ∀ y ∈ ls, Li.ok y) : XC Try.prog 6 [L (ss.map Sy.da), L (ls.map Li.da)] [] (B true) [] := by
  have s0 := szSymS_call ss 1048576 (by omega) (by omega)
  rcases Int.lt_or_le (lft (cnL Sy.cn ss) 1048576) 0 with g0 | g0
  · apply laws_FnExactClauseMake_of
    exact ⟨_, s0, ifB_t (decide_eq_true g0) ⟨rfl, rfl⟩⟩
  have q0 := lft_ok g0
  have s1 := szLitS_call ls _ g0 (by omega)
  rcases Int.lt_or_le (lft (cnL Li.cn ls) (lft (cnL Sy.cn ss) 1048576)) 0 with g1 | g1
  · apply laws_FnExactClauseMake_of
    exact ⟨_, s0, ifB_f (decide_eq_false (Int.not_lt.2 g0)) ⟨_, s1, ifB_t (decide_eq_true g1) ⟨rfl, rfl⟩⟩⟩
  have q1 := lft_ok g1
  have hlenss := cnL_len Sy.cn ss
  have hsyss := mkNSy_eq ss
  have hllls := cnL_len Li.cn ls
  have hlmls := mkN_le ls
  have hu := clm_cn ss ls
  have hcu : cnL Li.cn (clm ss ls) = (Cl.mk (clm ss ls)).cn := rfl
  have hku := mkN_le (clm ss ls)
  have hlu := cnL_len Li.cn (clm ss ls)
  have t0 := toSymSO_call ss (by omega)
  have e0 := eqSymS_call ss
  have m0 := markSymS_call ss (1) (by omega) (by omega) (by omega)
  have t1 := toLitSO_call ls (by omega)
  have e1 := eqLitS_call ls
  have m1 := markLitS_call ls (1 + mkNSy ss) (by omega) (by omega)
  have c1 := specClauseMake_call ss (by omega) ls (by omega)
  have c2 := implClauseMake_call ss (by omega) ls (by omega)
  have hk : (((1 + mkNSy ss + mkN ls : Nat)) : Int) ≥ 0 := by omega
  generalize clm ss ls = us at *
  generalize hus : Cl.mk us = u at *
  obtain rfl : us = u.ls := by rw [← hus]
  have eu := eqClause_call u
  have mu := markClause_call u 1 (by omega) (by omega)
  have hd := heldClause_call u 1 (by omega) (by omega)
  obtain ⟨l0⟩ := u
  apply laws_FnExactClauseMake_of
  exact ⟨_, s0, ifB_f (decide_eq_false (Int.not_lt.2 g0)) ⟨_, s1, ifB_f (decide_eq_false (Int.not_lt.2 g1)) ⟨_, t0, _, t1, _, c1, _, t0, _, t1, _, c2, _, eu, ifB_f rfl ⟨_, t0, _, e0, ifB_f rfl ⟨_, t1, _, e1, ifB_f rfl ⟨_, _, m0, _, _, m1, ifB_f (decide_eq_false (by omega)) ⟨_, eu, ifB_f rfl ⟨_, _, mu, _, hd, ifB_f (decide_eq_false (by omega)) (ifB_f (by simp) ⟨_, t0, _, t1, _, c2, _, eu, ifB_f rfl ⟨_, hd, ifB_f (decide_eq_false (by omega)) (ifB_f (by simp) ⟨rfl, rfl⟩)⟩⟩)⟩⟩⟩⟩⟩⟩⟩⟩

end AM
end Go.Proofs.Ytajcoogpmockiaa
