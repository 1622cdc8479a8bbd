/- Contracts of functions of the program, out of what their texts ask; no conditions. -/
import Derived.Test.YtajcoogpmockiaaHk2
import Derived.Test.YtajcoogpmockiaaDt
import Derived.Test.YtajcoogpmockiaaHr
set_option linter.unusedVariables false
set_option linter.unusedSimpArgs false
set_option maxRecDepth 100000
namespace Go.Proofs.Ytajcoogpmockiaa
namespace AM
open Go Go.ChangeShapes Go.WideShapes Go.RowKit

/-- Is a function blind to order and brackets? -/
def bl (s : List Sy) (f : Int) : Bool := inR f 0 ((s.length : Int) - 1) && ((s[f.toNat]?).map (·.ac)).getD false
mutual
def nrm (s : List Sy) : Tm → Tm
  | .mk f v ks => .mk f v (if bl s f then isort Tm.cmp (nrmK s (bl s f) f ks) else nrmK s (bl s f) f ks)
def nrmK (s : List Sy) (b : Bool) (f : Int) : List Tm → List Tm
  | [] => []
  | t :: r => (if b = true ∧ (nrm s t).f = f then (nrm s t).ks else [nrm s t]) ++ nrmK s b f r
end
theorem cns_app (a b : List Tm) : Tm.cns (a ++ b) = Tm.cns a + Tm.cns b := by
  induction a with
  | nil => simp [Tm.cns]
  | cons x r ih => simp only [List.cons_append, Tm.cns, ih]; omega
theorem cns_perm {a b : List Tm} (h : a.Perm b) : Tm.cns a = Tm.cns b := by
  rw [Tm.cns_cnL, Tm.cns_cnL, cnL, cnL, h.length_eq, (h.map _).sum_nat]
theorem Tm.cn_ks (t : Tm) : Tm.cns t.ks = t.cn := by cases t; simp [Tm.ks, Tm.cn]
mutual
theorem nrm_cn (s : List Sy) : ∀ t : Tm, (nrm s t).cn ≤ t.cn
  | .mk f v ks => by
    have h := nrmK_cns s (bl s f) f ks
    simp only [nrm, Tm.cn]
    split
    · rw [cns_perm (isort_perm _ _)]; exact h
    · exact h
theorem nrmK_cns (s : List Sy) (b : Bool) (f : Int) : ∀ l : List Tm, Tm.cns (nrmK s b f l) ≤ Tm.cns l
  | [] => by simp [nrmK, Tm.cns]
  | t :: r => by
    have h1 := nrm_cn s t
    have h2 := nrmK_cns s b f r
    simp only [nrmK, cns_app, Tm.cns]
    split
    · rw [Tm.cn_ks]; omega
    · simp only [Tm.cns]; omega
end
theorem nrm_f (s : List Sy) (t : Tm) : (nrm s t).f = t.f ∧ (nrm s t).v = t.v := by cases t; simp [nrm, Tm.f, Tm.v]
theorem inR_iff {x lo hi : Int} : inR x lo hi = true ↔ lo ≤ x ∧ x ≤ hi := by simp [inR]
theorem bl_get {s : List Sy} {f : Int} {m : Nat} {x : Sy} (hf : f = (m : Int)) (hm : s[m]? = some x) : bl s f = x.ac := by
  have h := (List.getElem?_eq_some_iff.1 hm).1
  subst hf
  have : inR (m : Int) 0 ((s.length : Int) - 1) = true := inR_iff.2 ⟨by omega, by omega⟩
  simp [bl, this, hm]
theorem specBlind_call (s : List Sy) (f : Int) (hs : s.length ≤ 10000000) : XC Try.prog 71 [L (s.map Sy.da), Z f] [] (B (bl s f)) [] := by
  have w : IntKind.wrap .i64 ((s.length : Int) - 1) = (s.length : Int) - 1 := wrI (by omega) (by omega)
  apply spec_Blind_of
  rw [List.length_map, w]
  refine ⟨_, l1In_call f 0 _, ?_⟩
  by_cases h : inR f 0 ((s.length : Int) - 1) = true
  · obtain ⟨h1, h2⟩ := inR_iff.1 h
    obtain ⟨m, rfl⟩ : ∃ m : Nat, f = (m : Int) := ⟨f.toNat, by omega⟩
    obtain ⟨x, hx⟩ := get_ex (l := s) (i := m) (by omega)
    have hx2 := get_map (g := Sy.da) hx
    refine ifB_t h ⟨m, rfl, _, _, _, hx2, ?_, rfl⟩
    rw [bl_get rfl hx]
  · exact ifB_f (Bool.eq_false_iff.2 h) ⟨by simp [bl, h], rfl⟩
theorem isSymB_call (s : List Sy) (f : Int) (hs : s.length ≤ 10000000) : XC Try.prog 108 [L (s.map Sy.da), Z f] [] (B (inR f 0 ((s.length : Int) - 1))) [] := by
  have w : IntKind.wrap .i64 ((s.length : Int) - 1) = (s.length : Int) - 1 := wrI (by omega) (by omega)
  apply impl_isSym_of
  rw [List.length_map, w]
  exact ⟨_, from_call f 0 _, rfl, rfl⟩
theorem implBlind_call (s : List Sy) (f : Int) (hs : s.length ≤ 10000000) : XC Try.prog 75 [L (s.map Sy.da), Z f] [] (B (bl s f)) [] := by
  apply impl_Blind_of
  refine ⟨_, isSymB_call s f hs, ?_⟩
  by_cases h : inR f 0 ((s.length : Int) - 1) = true
  · obtain ⟨h1, h2⟩ := inR_iff.1 h
    obtain ⟨m, rfl⟩ : ∃ m : Nat, f = (m : Int) := ⟨f.toNat, by omega⟩
    obtain ⟨x, hx⟩ := get_ex (l := s) (i := m) (by omega)
    have hx2 := get_map (g := Sy.da) hx
    refine ifB_t h ⟨m, rfl, _, _, _, hx2, ?_, rfl⟩
    rw [bl_get rfl hx]
  · exact ifB_f (Bool.eq_false_iff.2 h) ⟨by simp [bl, h], rfl⟩
theorem drop_map_len {α β : Type} (g : α → β) (p : List α) : List.drop p.length (p.map g) = [] := List.drop_eq_nil_of_le (by simp)
theorem isort_snoc {α : Type} (cmp : α → α → Int) (l : List α) (x : α) : isort cmp (l ++ [x]) = putC cmp x (isort cmp l) := by simp [isort, List.foldl_append]
theorem das_app (a b : List Tm) : Tm.das (a ++ b) = Tm.das a ++ Tm.das b := by simp [Tm.das_map]
theorem l4Put_loop (t : Tm) (l : List Tm) (hl : l.length ≤ 3000000000000) : ∀ (q p : List Tm), l = p ++ q → spec_l4Put_L2 (.one (.ol 0)) [(0, .lst 31 3 (Tm.das (p ++ putC Tm.cmp t q)))] (Tm.das l) (p.length : Int) t.f t.v (Tm.das t.ks)
  | [], p, e => by
    have e3 : [] ++ (Tm.das l).take p.length ++ [[.int .i64 t.f, .int .i64 t.v, .sl (Tm.das t.ks)]] ++ (Tm.das l).drop p.length = Tm.das (p ++ putC Tm.cmp t []) := by
      subst e
      obtain ⟨f, v, ks⟩ := t
      simp [Tm.das_map, putC, take_map_len, drop_map_len, Tm.da, Tm.f, Tm.v, Tm.ks]
    have hpl : l.length = p.length := by rw [e]; simp
    apply spec_l4Put_L2_of
    refine ifB_f (decide_eq_false (by rw [das_len]; omega)) ⟨p.length, rfl, ⟨by rw [das_len]; omega⟩, ⟨das3 _⟩, ⟨fun y hy => das3 _ y (List.mem_of_mem_take (List.mem_of_mem_drop hy))⟩, ⟨?_⟩, ⟨?_⟩, p.length, rfl, ⟨by rw [das_len]; omega⟩, ⟨das3 _⟩, ⟨fun y hy => das3 _ y (List.mem_of_mem_take (List.mem_of_mem_drop hy))⟩, ⟨?_⟩, rfl, ?_⟩
    · simp [das_len]; omega
    · simp [das_len]; omega
    · simp [das_len]; omega
    · rw [← e3]; simp
  | y :: q, p, e => by
    have ih := l4Put_loop t l hl q (p ++ [y]) (by simp [e])
    have hb := before_call t y
    have hn := Tm.cmp_neg t y
    have hx : (Tm.das l)[p.length]? = some y.da := by rw [e]; exact das_app_get
    have hpl : l.length = p.length + q.length + 1 := by rw [e]; simp; omega
    rw [len_app1] at ih
    have e3 : Tm.cmp t y < 0 → [] ++ (Tm.das l).take p.length ++ [[.int .i64 t.f, .int .i64 t.v, .sl (Tm.das t.ks)]] ++ (Tm.das l).drop p.length = Tm.das (p ++ putC Tm.cmp t (y :: q)) := fun h => by
      subst e
      have e4 : putC Tm.cmp t (y :: q) = t :: y :: q := by rw [putC, if_neg (by omega)]
      rw [e4]
      obtain ⟨f, v, ks⟩ := t
      simp [Tm.das_map, List.take_append, List.drop_append, take_map_len, drop_map_len, Tm.da, Tm.f, Tm.v, Tm.ks]
    have et : t.da = [.int .i64 t.f, .int .i64 t.v, .sl (Tm.das t.ks)] := by obtain ⟨f, v, ks⟩ := t; rfl
    rw [et] at hb
    have ih2 : ¬ Tm.cmp t y < 0 → p ++ putC Tm.cmp t (y :: q) = p ++ [y] ++ putC Tm.cmp t q := fun h => by
      rw [putC, if_pos (by omega)]; simp
    obtain ⟨g, u, ms⟩ := y
    apply spec_l4Put_L2_of
    refine ifB_t (decide_eq_true (by rw [das_len]; omega)) ⟨p.length, rfl, g, u, Tm.das ms, hx, _, hb, ?_⟩
    by_cases h : Tm.cmp t (.mk g u ms) < 0
    · refine ifB_f (by simp [h]) ⟨p.length, rfl, ⟨by rw [das_len]; omega⟩, ⟨das3 _⟩, ⟨fun y hy => das3 _ y (List.mem_of_mem_take (List.mem_of_mem_drop hy))⟩, ⟨?_⟩, ⟨?_⟩, p.length, rfl, ⟨by rw [das_len]; omega⟩, ⟨das3 _⟩, ⟨fun y hy => das3 _ y (List.mem_of_mem_take (List.mem_of_mem_drop hy))⟩, ⟨?_⟩, rfl, ?_⟩
      · simp [das_len]; omega
      · simp [das_len]; omega
      · simp [das_len]; omega
      · rw [← e3 h]; simp
    · rw [ih2 h, wr1 (n := p.length + 1) (by omega) (by omega)]
      exact ifB_t (by simp [h]) ih
theorem l4Put_call (t : Tm) (l : List Tm) (hl : l.length ≤ 3000000000000) : XC Try.prog 101 [L (Tm.das l), .dat t.da] [] (.one (.ol 0)) [(0, .lst 31 3 (Tm.das (putC Tm.cmp t l)))] := by
  have h := l4Put_loop t l hl l [] rfl
  obtain ⟨f, v, ks⟩ := t
  exact spec_l4Put_of h
theorem specNorm_in (r : AV) (O : List (Nat × Ob)) (s0 : List (List Da)) (s6 s3 s31 : Int) (s32 : List (List Da)) (s5 s51 n2 n3 : Int) (w : List Tm) : ∀ (q p acc : List Tm), w = p ++ q → acc.length + q.length ≤ 2500000000000 → p.length + q.length ≤ 2500000000000 → spec_Norm_L3 r O s0 (IntKind.wrap .i64 (s6 + 1)) s3 s31 s32 0 0 s5 s51 (Tm.das (isort Tm.cmp (acc ++ q))) → spec_Norm_L7 r O s0 s6 (p.length : Int) s3 s31 s32 0 0 s5 s51 n2 n3 (Tm.das w) (Tm.das (isort Tm.cmp acc))
  | [], p, acc, e, _, _, h => by
    apply spec_Norm_L7_of
    subst e
    exact ifB_f (lt_decF (by simp [das_len])) (by simpa using h)
  | y :: q, p, acc, e, h1, h2, h => by
    simp only [List.length_cons] at h1 h2
    have ih := specNorm_in r O s0 s6 s3 s31 s32 s5 s51 n2 n3 w q (p ++ [y]) (acc ++ [y]) (by simp [e]) (by simp; omega) (by simp; omega) (by simpa using h)
    have c := l4Put_call y (isort Tm.cmp acc) (by rw [(isort_perm _ _).length_eq]; omega)
    have hx : (Tm.das w)[p.length]? = some y.da := by rw [e]; exact das_app_get
    have hlt : p.length < w.length := by rw [e]; simp
    rw [len_app1, isort_snoc] at ih
    obtain ⟨g, u, ms⟩ := y
    apply spec_Norm_L7_of
    refine ifB_t (lt_dec (by rw [das_len]; exact hlt)) ⟨p.length, rfl, g, u, Tm.das ms, hx, _, c, ?_⟩
    rw [wr1 (n := p.length + 1) (by omega) (by omega)]
    exact ih
theorem specNorm_loop (s : List Sy) (hs : s.length ≤ 10000000) (f v : Int) (ks : List Tm) (hk : Tm.cns ks ≤ 1200000000000) : ∀ (q p acc : List Tm), ks = p ++ q → acc.length + Tm.cns q ≤ 2400000000000 → (∀ t ∈ q, t.cn ≤ 1200000000000 ∧ XC Try.prog 59 [L (s.map Sy.da), .dat t.da] [] (.dat (nrm s t).da) []) → spec_Norm_L3 (.dat (Tm.mk f v (if bl s f then isort Tm.cmp (acc ++ nrmK s (bl s f) f q) else acc ++ nrmK s (bl s f) f q)).da) [] (s.map Sy.da) (p.length : Int) f v (Tm.das ks) 0 0 f v (Tm.das (if bl s f then isort Tm.cmp acc else acc))
  | [], p, acc, e, _, _ => by
    apply spec_Norm_L3_of
    subst e
    refine ifB_f (lt_decF (by simp [das_len])) ⟨?_, rfl⟩
    simp only [nrmK, List.append_nil]
    rfl
  | y :: q, p, acc, e, ha, hc => by
    have hcn : Tm.cns (y :: q) = 1 + y.cn + Tm.cns q := by simp [Tm.cns]
    have hkl := Tm.cns_cnL ks ▸ cnL_len Tm.cn ks
    obtain ⟨hyc, cy⟩ := hc y (by simp)
    have hnc := nrm_cn s y
    have hnl := Tm.len_cns (nrm s y).ks
    rw [Tm.cn_ks] at hnl
    have hx : (Tm.das ks)[p.length]? = some y.da := by rw [e]; exact das_app_get
    have hlt : p.length < ks.length := by rw [e]; simp
    have hw : IntKind.wrap .i64 ((p.length : Int) + 1) = ((p.length + 1 : Nat) : Int) := wr1 hlt (by omega)
    have ih := fun acc' h => specNorm_loop s hs f v ks hk q (p ++ [y]) acc' (by simp [e]) h (fun t ht => hc t (List.mem_cons_of_mem _ ht))
    rw [len_app1] at ih
    have eb := specBlind_call s f hs
    have eK : nrmK s (bl s f) f (y :: q) = (if bl s f = true ∧ (nrm s y).f = f then (nrm s y).ks else [nrm s y]) ++ nrmK s (bl s f) f q := by rw [nrmK]
    rw [eK]
    have cP := l4Put_call (nrm s y) (isort Tm.cmp acc) (by rw [(isort_perm _ _).length_eq]; omega)
    generalize hny : nrm s y = ny at *
    generalize bl s f = b at *
    obtain ⟨g, u, ms⟩ := y
    obtain ⟨g', u', ms'⟩ := ny
    apply spec_Norm_L3_of
    rw [hw]
    refine ifB_t (lt_dec (by rw [das_len]; exact hlt)) ⟨p.length, rfl, g, u, Tm.das ms, hx, _, _, _, cy, _, eb, ?_⟩
    cases b with
    | false =>
      refine ifB_t rfl ⟨⟨by simp [das_len]; omega⟩, ?_⟩
      have := ih (acc ++ [.mk g' u' ms']) (by simp; omega)
      simpa [das_app, Tm.das, Tm.da] using this
    | true =>
      refine ifB_f rfl ?_
      by_cases hg : g' = f
      · refine ifB_f (decide_eq_false (by simp [hg])) ?_
        have := ih (acc ++ ms') (by simp [Tm.ks] at hnl ⊢; omega)
        have h7 := specNorm_in (.dat (Tm.mk f v (if true = true then isort Tm.cmp (acc ++ ((if true = true ∧ (Tm.mk g' u' ms').f = f then (Tm.mk g' u' ms').ks else [.mk g' u' ms']) ++ nrmK s true f q)) else acc ++ ((if true = true ∧ (Tm.mk g' u' ms').f = f then (Tm.mk g' u' ms').ks else [.mk g' u' ms']) ++ nrmK s true f q))).da) [] (s.map Sy.da) (p.length : Int) f v (Tm.das ks) f v g' u' ms' ms' [] acc rfl (by simp [Tm.ks] at hnl; omega) (by simp [Tm.ks] at hnl ⊢; omega)
        rw [hw] at h7
        refine h7 ?_
        simpa [Tm.f, Tm.ks, hg, List.append_assoc] using this
      · refine ifB_t (decide_eq_true (by simpa using hg)) ⟨_, cP, ?_⟩
        have := ih (acc ++ [.mk g' u' ms']) (by simp; omega)
        simp only [if_true, isort_snoc] at this
        simpa [Tm.f, hg, List.append_assoc] using this
theorem specNorm_call (s : List Sy) (hs : s.length ≤ 10000000) (t : Tm) : t.cn ≤ 1200000000000 → XC Try.prog 59 [L (s.map Sy.da), .dat t.da] [] (.dat (nrm s t).da) [] := by
  induction t using Tm.ind with
  | h f v ks ih =>
  intro hc
  have hcn : (Tm.mk f v ks).cn = Tm.cns ks := by simp [Tm.cn]
  rw [hcn] at hc
  apply spec_Norm_of
  have := specNorm_loop s hs f v ks hc ks [] [] rfl (by simp; omega) (fun t ht => by
    have hb : t.cn ≤ 1200000000000 := by have := Tm.cns_cnL ks ▸ cnL_mem (cn := Tm.cn) ht; omega
    exact ⟨hb, ih t ht hb⟩)
  simpa [nrm, isort, Tm.das] using this
theorem implNorm_loop (s : List Sy) (hs : s.length ≤ 10000000) (f v : Int) (ks : List Tm) (hk : Tm.cns ks ≤ 1200000000000) : ∀ (q p acc : List Tm), ks = p ++ q → acc.length + Tm.cns q ≤ 2400000000000 → (∀ t ∈ q, t.cn ≤ 1200000000000 ∧ XC Try.prog 65 [L (s.map Sy.da), .dat t.da] [] (.agg [.d (.int .i64 (nrm s t).f), .d (.int .i64 (nrm s t).v), .ol 0]) [(0, .tr 31 3 (Tm.das (nrm s t).ks))]) → impl_Norm_L3 (.agg [.d (.int .i64 f), .d (.int .i64 v), .ol 0]) [(0, .tr 31 3 (Tm.das (if bl s f then isort Tm.cmp (acc ++ nrmK s (bl s f) f q) else acc ++ nrmK s (bl s f) f q)))] (s.map Sy.da) (Tm.das ks) (ks.length : Int) (p.length : Int) f v (Tm.das ks) 0 0 (Tm.das acc)
  | [], p, acc, e, ha, _ => by
    have eb := implBlind_call s f hs
    have cs := sortTm_call acc (by omega)
    apply impl_Norm_L3_of
    subst e
    refine ifB_f (lt_decF (by simp)) ⟨_, eb, ?_⟩
    simp only [nrmK, List.append_nil]
    generalize bl s f = b at *
    cases b with
    | true => exact ifB_t rfl ⟨_, cs, by simp⟩
    | false => exact ifB_f rfl (by simp)
  | y :: q, p, acc, e, ha, hc => by
    have hcn : Tm.cns (y :: q) = 1 + y.cn + Tm.cns q := by simp [Tm.cns]
    have hkl := Tm.cns_cnL ks ▸ cnL_len Tm.cn ks
    obtain ⟨hyc, cy⟩ := hc y (by simp)
    have hnc := nrm_cn s y
    have hnl := Tm.len_cns (nrm s y).ks
    rw [Tm.cn_ks] at hnl
    have hx : (Tm.das ks)[p.length]? = some y.da := by rw [e]; exact das_app_get
    have hlt : p.length < ks.length := by rw [e]; simp
    have hw : IntKind.wrap .i64 ((p.length : Int) + 1) = ((p.length + 1 : Nat) : Int) := wr1 hlt (by omega)
    have ih := fun acc' h => implNorm_loop s hs f v ks hk q (p ++ [y]) acc' (by simp [e]) h (fun t ht => hc t (List.mem_cons_of_mem _ ht))
    rw [len_app1] at ih
    have eb := implBlind_call s f hs
    have eK : nrmK s (bl s f) f (y :: q) = (if bl s f = true ∧ (nrm s y).f = f then (nrm s y).ks else [nrm s y]) ++ nrmK s (bl s f) f q := by rw [nrmK]
    rw [eK]
    generalize hny : nrm s y = ny at *
    generalize bl s f = b at *
    obtain ⟨g, u, ms⟩ := y
    obtain ⟨g', u', ms'⟩ := ny
    apply impl_Norm_L3_of
    rw [hw]
    refine ifB_t (lt_dec hlt) ⟨p.length, rfl, g, u, Tm.das ms, hx, _, _, _, cy, _, eb, ?_⟩
    simp only [Tm.f, Tm.v, Tm.ks] at hnl ⊢
    cases b with
    | false =>
      refine ifB_f rfl ⟨⟨by simp [das_len]; omega⟩, ?_⟩
      have := ih (acc ++ [.mk g' u' ms']) (by simp; omega)
      simpa [das_app, Tm.das, Tm.da] using this
    | true =>
      refine ifB_t rfl ?_
      by_cases hg : g' = f
      · refine ifB_t (decide_eq_true hg) ⟨⟨by simp [das_len]; omega⟩, ?_⟩
        have := ih (acc ++ ms') (by simp; omega)
        simpa [das_app, hg, List.append_assoc] using this
      · refine ifB_f (decide_eq_false hg) ⟨⟨by simp [das_len]; omega⟩, ?_⟩
        have := ih (acc ++ [.mk g' u' ms']) (by simp; omega)
        simpa [das_app, Tm.das, Tm.da, hg, List.append_assoc] using this
theorem implNorm_call (s : List Sy) (hs : s.length ≤ 10000000) (t : Tm) : t.cn ≤ 1200000000000 → XC Try.prog 65 [L (s.map Sy.da), .dat t.da] [] (.agg [.d (.int .i64 (nrm s t).f), .d (.int .i64 (nrm s t).v), .ol 0]) [(0, .tr 31 3 (Tm.das (nrm s t).ks))] := by
  induction t using Tm.ind with
  | h f v ks ih =>
  intro hc
  have hcn : (Tm.mk f v ks).cn = Tm.cns ks := by simp [Tm.cn]
  rw [hcn] at hc
  apply impl_Norm_of
  have := implNorm_loop s hs f v ks hc ks [] [] rfl (by simp; omega) (fun t ht => by
    have hb : t.cn ≤ 1200000000000 := by have := Tm.cns_cnL ks ▸ cnL_mem (cn := Tm.cn) ht; omega
    exact ⟨hb, ih t ht hb⟩)
  rw [das_len]
  simpa [nrm, Tm.f, Tm.v, Tm.ks, Tm.das] using this
theorem markLit_call (x : Li) (k : Nat) (hk : k + 2 * x.cn ≤ 10000000000000) : XC Try.prog 39 [.agg [.d (.bool x.p), .d (.int .i64 x.l.f), .d (.int .i64 x.l.v), .ol 2000, .d (.int .i64 x.r.f), .d (.int .i64 x.r.v), .ol 2001], Z (k : Int)] [(2000, .mt 31 3 (Tm.das x.l.ks)), (2001, .mt 31 3 (Tm.das x.r.ks))] (Z ((k + 2 * x.cn : Nat) : Int)) [(2000, .mt 31 3 (Tm.das (Tm.mkL k x.l.ks))), (2001, .mt 31 3 (Tm.das (Tm.mkL (k + 2 * x.l.cn) x.r.ks)))] := by
  have h0 : x.cn = x.l.cn + x.r.cn := rfl
  have h1 := markTerm_call x.l k (by omega)
  have h2 := markTerm_call x.r (k + 2 * x.l.cn) (by omega)
  rw [show k + 2 * x.cn = k + 2 * x.l.cn + 2 * x.r.cn by omega]
  apply laws_markLit_of
  exact ⟨_, _, h1, _, _, h2, rfl, rfl⟩
theorem heldLit_call (x : Li) (k : Nat) (hk : k + 2 * x.cn ≤ 10000000000000) : XC Try.prog 40 [.dat [.bool x.p, .int .i64 x.l.f, .int .i64 x.l.v, .sl (Tm.das (Tm.mkL k x.l.ks)), .int .i64 x.r.f, .int .i64 x.r.v, .sl (Tm.das (Tm.mkL (k + 2 * x.l.cn) x.r.ks))], Z (k : Int)] [] (Z ((k + 2 * x.cn : Nat) : Int)) [] := by
  have h0 : x.cn = x.l.cn + x.r.cn := rfl
  have h1 := heldTerm_call x.l k (by omega)
  have h2 := heldTerm_call x.r (k + 2 * x.l.cn) (by omega)
  rw [show k + 2 * x.cn = k + 2 * x.l.cn + 2 * x.r.cn by omega]
  apply laws_heldLit_of
  exact ⟨_, h1, ifB_f (decide_eq_false (by omega)) ⟨_, h2, ifB_f (decide_eq_false (by omega)) ⟨rfl, rfl⟩⟩⟩
def lmk (s : List Sy) (pos : Bool) (a b : Tm) : Li := if Tm.cmp (nrm s a) (nrm s b) < 0 then ⟨pos, nrm s b, nrm s a⟩ else ⟨pos, nrm s a, nrm s b⟩
theorem lmk_cn (s : List Sy) (pos : Bool) (a b : Tm) : (lmk s pos a b).cn ≤ a.cn + b.cn := by
  have h1 := nrm_cn s a
  have h2 := nrm_cn s b
  unfold lmk Li.cn; split <;> dsimp only <;> omega
theorem specLitMake_call (s : List Sy) (hs : s.length ≤ 10000000) (pos : Bool) (a b : Tm) (ha : a.cn ≤ 1200000000000) (hb : b.cn ≤ 1200000000000) : XC Try.prog 80 [L (s.map Sy.da), B pos, .dat a.da, .dat b.da] [] (.dat (lmk s pos a b).da) [] := by
  have h1 := specNorm_call s hs a ha
  have h2 := specNorm_call s hs b hb
  have h3 := before_call (nrm s a) (nrm s b)
  unfold lmk
  generalize nrm s a = x at *
  generalize nrm s b = y at *
  obtain ⟨f, v, ks⟩ := a
  obtain ⟨g, u, ls⟩ := b
  obtain ⟨f', v', ks'⟩ := x
  obtain ⟨g', u', ls'⟩ := y
  apply spec_LitMake_of
  refine ⟨_, _, _, h1, _, _, _, h2, _, h3, ?_⟩
  by_cases h : Tm.cmp (.mk f' v' ks') (.mk g' u' ls') < 0
  · rw [if_pos h]; exact ifB_t (decide_eq_true h) ⟨rfl, rfl⟩
  · rw [if_neg h]; exact ifB_f (decide_eq_false h) ⟨rfl, rfl⟩
theorem implLitMake_call (s : List Sy) (hs : s.length ≤ 10000000) (pos : Bool) (a b : Tm) (ha : a.cn ≤ 1200000000000) (hb : b.cn ≤ 1200000000000) : XC Try.prog 83 [L (s.map Sy.da), B pos, .dat a.da, .dat b.da] [] (.agg [.d (.bool (lmk s pos a b).p), .d (.int .i64 (lmk s pos a b).l.f), .d (.int .i64 (lmk s pos a b).l.v), .ol 0, .d (.int .i64 (lmk s pos a b).r.f), .d (.int .i64 (lmk s pos a b).r.v), .ol 1]) [(0, .tr 31 3 (Tm.das (lmk s pos a b).l.ks)), (1, .tr 31 3 (Tm.das (lmk s pos a b).r.ks))] := by
  have h1 := implNorm_call s hs a ha
  have h2 := implNorm_call s hs b hb
  have h3 := implBefore_call (nrm s a) (nrm s b)
  unfold lmk
  generalize nrm s a = x at *
  generalize nrm s b = y at *
  obtain ⟨f, v, ks⟩ := a
  obtain ⟨g, u, ls⟩ := b
  obtain ⟨f', v', ks'⟩ := x
  obtain ⟨g', u', ls'⟩ := y
  apply impl_LitMake_of
  refine ⟨_, _, _, h1, _, _, _, h2, _, h3, ?_⟩
  by_cases h : Tm.cmp (.mk f' v' ks') (.mk g' u' ls') < 0
  · rw [if_pos h]; exact ifB_t (decide_eq_true h) ⟨rfl, rfl⟩
  · rw [if_neg h]; exact ifB_f (decide_eq_false h) ⟨rfl, rfl⟩
theorem mkNSy_eq : ∀ l : List Sy, mkNSy l = 3 * l.length
  | [] => by simp [mkNSy]
  | ⟨a, b, c⟩ :: r => by
    have h := mkNSy_eq r
    rw [mkNSy_cons, h, List.length_cons]
    simp only [mknSy]
    omega
theorem cnL_cons {α : Type} (cn : α → Nat) (x : α) (r : List α) : cnL cn (x :: r) = 1 + cn x + cnL cn r := by simp [cnL]; omega
theorem mkNBd_le : ∀ l : List Bd, mkNBd l ≤ 3 * cnL Bd.cn l
  | [] => by simp [mkNBd]
  | ⟨v, .mk f u ks⟩ :: r => by
    have h := mkNBd_le r
    have e : Bd.cn ⟨v, .mk f u ks⟩ = Tm.cns ks := by simp [Bd.cn, Tm.cn]
    rw [mkNBd_cons, cnL_cons, e]
    simp only [mknBd]
    omega
theorem toBindO_call (x : Bd) (hc : x.cn ≤ 1048576) : XC Try.prog 82 [.dat x.da] [] (.agg [.d (.int .i64 x.v), .d (.int .i64 x.t.f), .d (.int .i64 x.t.v), .ol 0]) [(0, .tr 31 3 (Tm.das x.t.ks))] := by
  have h1 := toTermO_call x.t hc
  obtain ⟨v, ⟨f, u, ks⟩⟩ := x
  apply laws_toBind_of
  exact ⟨_, _, _, h1, rfl, rfl⟩
theorem toBindSO_call (l : List Bd) (hc : cnL Bd.cn l ≤ 1048576) : XC Try.prog 33 [L (l.map Bd.da)] [] (.one (.ol 0)) [(0, .tr 117 4 (l.map Bd.da))] := by
  have hl := cnL_len Bd.cn l
  apply laws_toBindS_of
  refine ⟨l.length, l.length, by simp, by simp, ⟨by omega, by omega, by omega⟩, ?_⟩
  have key := loopUp (p := fun i => laws_toBindS_L3 (.one (.ol 0)) [(0, .tr 117 4 (l.map Bd.da))] (l.map Bd.da) (i : Int) ((l.map Bd.da).take i ++ List.replicate ((l.map Bd.da).length - i) [.int .i64 0, .int .i64 0, .int .i64 0, .sl []])) l.length ?_ ?_ 0 (Nat.zero_le _)
  · rw [List.take_zero, List.nil_append, Nat.sub_zero, List.length_map] at key
    exact key
  · apply laws_toBindS_L3_of
    refine ifB_f (lt_decF (by simp)) ⟨rfl, ?_⟩
    rw [fill_all rfl (by simp)]
  · intro i hi ih
    obtain ⟨x, hx⟩ := get_ex hi
    have hx1 := get_map (g := Bd.da) hx
    have hm := cnL_mem (cn := Bd.cn) (List.mem_of_getElem? hx)
    have hxc := toBindO_call x (by omega)
    have hd := Bd.da_len x
    obtain ⟨v, ⟨f, u, ks⟩⟩ := x
    apply laws_toBindS_L3_of
    refine ifB_t (lt_dec (by simpa using hi)) ⟨i, rfl, _, _, _, _, hx1, _, _, _, _, hxc, i, rfl, ⟨by simp; omega⟩, i, by omega, _, _, _, _, fill_get rfl (by simpa using hi), ?_⟩
    rw [wr1 hi (by omega)]
    have he := fill_setE (z := [.int .i64 0, .int .i64 0, .int .i64 0, .sl []]) (n := (l.map Bd.da).length) rfl hx1 hd rfl
    exact he ▸ ih
/-- What a substitution says of a variable. -/
def lookT : List Bd → Int → Tm
  | [], v => .mk (-1) v []
  | b :: r, v => if b.v = v then b.t else lookT r v
def bndT : List Bd → Int → Tm × Bool
  | [], _ => (.mk 0 0 [], false)
  | b :: r, v => if b.v = v then (b.t, true) else bndT r v
theorem lookT_bnd : ∀ (u : List Bd) (v : Int), lookT u v = if (bndT u v).2 then (bndT u v).1 else .mk (-1) v []
  | [], v => rfl
  | b :: r, v => by
    unfold lookT bndT; split
    · rfl
    · exact lookT_bnd r v
theorem lookT_cn : ∀ (u : List Bd) (v : Int), (lookT u v).cn ≤ cnL Bd.cn u
  | [], v => by simp [lookT, Tm.cn, Tm.cns]
  | b :: r, v => by
    have h := lookT_cn r v
    have e : cnL Bd.cn (b :: r) = 1 + b.t.cn + cnL Bd.cn r := by simp [cnL, Bd.cn]; omega
    unfold lookT; split
    · omega
    · omega
mutual
def fil (u : List Bd) : Tm → Tm
  | .mk f v ks => if f = -1 ∧ ks.length = 0 then lookT u v else .mk f v (fils u ks)
def fils (u : List Bd) : List Tm → List Tm
  | [] => []
  | t :: r => fil u t :: fils u r
end
theorem fils_map (u : List Bd) (l : List Tm) : fils u l = l.map (fil u) := by induction l <;> simp_all [fils]
mutual
theorem fil_cn (u : List Bd) : ∀ t : Tm, (fil u t).cn + 1 ≤ (t.cn + 1) * (cnL Bd.cn u + 1)
  | .mk f v ks => by
    have h := fils_cns u ks
    have hl := lookT_cn u v
    simp only [fil, Tm.cn]
    rw [Nat.add_mul, Nat.one_mul]
    split
    · omega
    · simp only [Tm.cn]; omega
theorem fils_cns (u : List Bd) : ∀ l : List Tm, Tm.cns (fils u l) ≤ Tm.cns l * (cnL Bd.cn u + 1)
  | [] => by simp [fils, Tm.cns]
  | t :: r => by
    have h1 := fil_cn u t
    have h2 := fils_cns u r
    have e : Tm.cns (t :: r) = (t.cn + 1) + Tm.cns r := by simp [Tm.cns]; omega
    rw [e, Nat.add_mul]
    simp only [fils, Tm.cns]
    omega
end
theorem fil_big {u : List Bd} {t : Tm} (h1 : t.cn ≤ 1048576) (h2 : cnL Bd.cn u ≤ 1048576) : (fil u t).cn ≤ 1099513724928 := by
  have h := fil_cn u t
  have := Nat.mul_le_mul (show t.cn + 1 ≤ 1048577 by omega) (show cnL Bd.cn u + 1 ≤ 1048577 by omega)
  omega
theorem specLook_loop (u : List Bd) (hu : cnL Bd.cn u ≤ 1048576) (v : Int) : ∀ (q p : List Bd), u = p ++ q → spec_Look_L2 (.dat (lookT q v).da) [] (u.map Bd.da) v (p.length : Int) 0 0
  | [], p, e => by
    apply spec_Look_L2_of
    subst e
    exact ifB_f (lt_decF (by simp)) ⟨_, _, _, spec_l3Var_of ⟨rfl, rfl⟩, rfl, rfl⟩
  | b :: q, p, e => by
    have ih := specLook_loop u hu v q (p ++ [b]) (by simp [e])
    have hl := cnL_len Bd.cn u
    have hm := cnL_mem (cn := Bd.cn) (l := u) (x := b) (by simp [e])
    have hbc : b.cn = b.t.cn := rfl
    have hx : (u.map Bd.da)[p.length]? = some b.da := by rw [e]; exact map_app_get
    have hlt : p.length < u.length := by rw [e]; simp
    have hw : IntKind.wrap .i64 ((p.length : Int) + 1) = ((p.length + 1 : Nat) : Int) := wr1 hlt (by omega)
    have c := l3Copy_call b.t (by omega)
    rw [len_app1] at ih
    obtain ⟨w, ⟨f, x, ks⟩⟩ := b
    apply spec_Look_L2_of
    rw [hw]
    refine ifB_t (lt_dec (by simpa using hlt)) ⟨p.length, rfl, _, _, _, _, hx, ?_⟩
    by_cases h : w = v
    · refine ifB_t (decide_eq_true h) ⟨p.length, rfl, _, _, _, _, hx, _, _, _, c, ?_, rfl⟩
      simp [lookT, h, Tm.da]
    · refine ifB_f (decide_eq_false h) ?_
      have e2 : lookT (⟨w, .mk f x ks⟩ :: q) v = lookT q v := by simp [lookT, h]
      rw [e2]
      exact ih
theorem specLook_call (u : List Bd) (hu : cnL Bd.cn u ≤ 1048576) (v : Int) : XC Try.prog 122 [L (u.map Bd.da), Z v] [] (.dat (lookT u v).da) [] := by
  apply spec_Look_of
  exact specLook_loop u hu v u [] rfl
theorem bound_loop (u : List Bd) (hl : u.length ≤ 1048576) (v : Int) : ∀ (q p : List Bd), u = p ++ q → impl_bound_L2 (.tup [.dat (bndT q v).1.da, B (bndT q v).2]) [] v (u.map Bd.da) (u.length : Int) (p.length : Int) 0 0
  | [], p, e => by
    apply impl_bound_L2_of
    subst e
    exact ifB_f (lt_decF (by simp)) ⟨rfl, rfl⟩
  | b :: q, p, e => by
    have ih := bound_loop u hl v q (p ++ [b]) (by simp [e])
    have hx : (u.map Bd.da)[p.length]? = some b.da := by rw [e]; exact map_app_get
    have hlt : p.length < u.length := by rw [e]; simp
    have hw : IntKind.wrap .i64 ((p.length : Int) + 1) = ((p.length + 1 : Nat) : Int) := wr1 hlt (by omega)
    rw [len_app1] at ih
    obtain ⟨w, ⟨f, x, ks⟩⟩ := b
    apply impl_bound_L2_of
    rw [hw]
    refine ifB_t (lt_dec hlt) ⟨p.length, rfl, _, _, _, _, hx, ?_⟩
    by_cases h : w = v
    · refine ifB_t (decide_eq_true h) ⟨?_, rfl⟩
      simp [bndT, h, Tm.da]
    · refine ifB_f (decide_eq_false h) ?_
      have e2 : bndT (⟨w, .mk f x ks⟩ :: q) v = bndT q v := by simp [bndT, h]
      rw [e2]
      exact ih
theorem bound_call (u : List Bd) (hl : u.length ≤ 1048576) (v : Int) : XC Try.prog 138 [L (u.map Bd.da), Z v] [] (.tup [.dat (bndT u v).1.da, B (bndT u v).2]) [] := by
  apply impl_bound_of
  rw [List.length_map]
  exact bound_loop u hl v u [] rfl
theorem implLook_call (u : List Bd) (hu : cnL Bd.cn u ≤ 1048576) (v : Int) : XC Try.prog 124 [L (u.map Bd.da), Z v] [] (.agg [.d (.int .i64 (lookT u v).f), .d (.int .i64 (lookT u v).v), .ol 0]) [(0, .tr 31 3 (Tm.das (lookT u v).ks))] := by
  have hl := cnL_len Bd.cn u
  have h1 := bound_call u (by omega) v
  have hlc := lookT_cn u v
  rw [lookT_bnd] at hlc ⊢
  generalize bndT u v = tb at *
  obtain ⟨t, b⟩ := tb
  dsimp only at h1 hlc ⊢
  cases b with
  | false =>
    obtain ⟨f, x, ks⟩ := t
    apply impl_Look_of
    exact ⟨_, _, _, _, h1, ifB_t rfl ⟨_, _, _, impl_variable_of ⟨rfl, rfl⟩, rfl, rfl⟩⟩
  | true =>
    have c := copyTerm_call t (by simp at hlc; omega)
    obtain ⟨f, x, ks⟩ := t
    apply impl_Look_of
    exact ⟨_, _, _, _, h1, ifB_f rfl ⟨_, _, _, c, rfl, rfl⟩⟩
theorem l6Put_loop (u : List Bd) (f v : Int) (ks : List Tm) (hc : ks.length ≤ 1048576) : ∀ (q p : List Tm), ks = p ++ q → (∀ t ∈ q, XC Try.prog 111 [L (u.map Bd.da), .dat t.da] [] (.dat (fil u t).da) []) → spec_l6Put_L5 (.dat (Tm.mk f v (fils u ks)).da) [] (u.map Bd.da) (p.length : Int) f v (Tm.das ks) 0 0 f v (Tm.das (fils u p))
  | [], p, e, _ => by
    apply spec_l6Put_L5_of
    subst e
    exact ifB_f (lt_decF (by simp [das_len])) ⟨by simp [Tm.da], rfl⟩
  | y :: q, p, e, ht => by
    have ih := l6Put_loop u f v ks hc q (p ++ [y]) (by simp [e]) (fun t h => ht t (List.mem_cons_of_mem _ h))
    have c := ht y (by simp)
    have hx : (Tm.das ks)[p.length]? = some y.da := by rw [e]; exact das_app_get
    have hlt : p.length < ks.length := by rw [e]; simp
    have hw : IntKind.wrap .i64 ((p.length : Int) + 1) = ((p.length + 1 : Nat) : Int) := wr1 hlt (by omega)
    have hb : ((Tm.das (fils u p)).length + 1) * 40 ≤ 140737488355328 := by rw [das_len, fils_map, List.length_map]; omega
    have e2 : Tm.das (fils u (p ++ [y])) = Tm.das (fils u p) ++ [(fil u y).da] := by simp [fils_map, Tm.das_map]
    rw [len_app1, e2] at ih
    generalize fil u y = z at *
    obtain ⟨g, x, ms⟩ := y
    obtain ⟨g', x', ms'⟩ := z
    apply spec_l6Put_L5_of
    rw [hw]
    exact ifB_t (lt_dec (by rw [das_len]; exact hlt)) ⟨p.length, rfl, _, _, _, hx, _, _, _, c, ⟨hb⟩, ih⟩
theorem l6Put_call (u : List Bd) (hu : cnL Bd.cn u ≤ 1048576) (t : Tm) : t.cn ≤ 1048576 → XC Try.prog 111 [L (u.map Bd.da), .dat t.da] [] (.dat (fil u t).da) [] := by
  induction t using Tm.ind with
  | h f v ks ih =>
  intro hc
  have hcn : (Tm.mk f v ks).cn = Tm.cns ks := by simp [Tm.cn]
  rw [hcn] at hc
  have hkl := Tm.cns_cnL ks ▸ cnL_len Tm.cn ks
  have lp := l6Put_loop u f v ks (by omega) ks [] rfl (fun t ht => ih t ht (by have := Tm.cns_cnL ks ▸ cnL_mem (cn := Tm.cn) ht; omega))
  have lk := specLook_call u hu v
  apply spec_l6Put_of
  by_cases hf : f = -1
  · refine ifB_t (decide_eq_true hf) ?_
    by_cases hk : ks.length = 0
    · have e : fil u (.mk f v ks) = lookT u v := by rw [fil, if_pos ⟨hf, hk⟩]
      rw [e]
      refine ifB_t (by rw [das_len]; simp [hk]) ?_
      generalize lookT u v = z at *
      obtain ⟨g, x, ms⟩ := z
      exact ⟨_, _, _, lk, rfl, rfl⟩
    · have e : fil u (.mk f v ks) = .mk f v (fils u ks) := by rw [fil, if_neg (fun h => hk h.2)]
      rw [e]
      exact ifB_f (by rw [das_len]; simp [hk]) lp
  · have e : fil u (.mk f v ks) = .mk f v (fils u ks) := by rw [fil, if_neg (fun h => hf h.1)]
    rw [e]
    exact ifB_f (decide_eq_false hf) lp
theorem filled_loop (u : List Bd) (f v : Int) (ks : List Tm) (hc : ks.length ≤ 1048576) : ∀ (q p : List Tm), ks = p ++ q → (∀ t ∈ q, XC Try.prog 113 [L (u.map Bd.da), .dat t.da] [] (.agg [.d (.int .i64 (fil u t).f), .d (.int .i64 (fil u t).v), .ol 0]) [(0, .tr 31 3 (Tm.das (fil u t).ks))]) → impl_filled_L5 (.agg [.d (.int .i64 f), .d (.int .i64 v), .ol 0]) [(0, .tr 31 3 (Tm.das (fils u ks)))] (u.map Bd.da) (Tm.das ks) (ks.length : Int) (p.length : Int) f v (Tm.das ks) 0 0 (Tm.das (fils u p))
  | [], p, e, _ => by
    apply impl_filled_L5_of
    subst e
    exact ifB_f (lt_decF (by simp)) ⟨rfl, by simp⟩
  | y :: q, p, e, ht => by
    have ih := filled_loop u f v ks hc q (p ++ [y]) (by simp [e]) (fun t h => ht t (List.mem_cons_of_mem _ h))
    have c := ht y (by simp)
    have hx : (Tm.das ks)[p.length]? = some y.da := by rw [e]; exact das_app_get
    have hlt : p.length < ks.length := by rw [e]; simp
    have hw : IntKind.wrap .i64 ((p.length : Int) + 1) = ((p.length + 1 : Nat) : Int) := wr1 hlt (by omega)
    have hb : ((Tm.das (fils u p)).length + 1) * 40 ≤ 140737488355328 := by rw [das_len, fils_map, List.length_map]; omega
    have e2 : Tm.das (fils u (p ++ [y])) = Tm.das (fils u p) ++ [(fil u y).da] := by simp [fils_map, Tm.das_map]
    rw [len_app1, e2] at ih
    generalize fil u y = z at *
    obtain ⟨g, x, ms⟩ := y
    obtain ⟨g', x', ms'⟩ := z
    apply impl_filled_L5_of
    rw [hw]
    exact ifB_t (lt_dec hlt) ⟨p.length, rfl, _, _, _, hx, _, _, _, c, ⟨hb⟩, ih⟩
theorem filled_call (u : List Bd) (hu : cnL Bd.cn u ≤ 1048576) (t : Tm) : t.cn ≤ 1048576 → XC Try.prog 113 [L (u.map Bd.da), .dat t.da] [] (.agg [.d (.int .i64 (fil u t).f), .d (.int .i64 (fil u t).v), .ol 0]) [(0, .tr 31 3 (Tm.das (fil u t).ks))] := by
  induction t using Tm.ind with
  | h f v ks ih =>
  intro hc
  have hcn : (Tm.mk f v ks).cn = Tm.cns ks := by simp [Tm.cn]
  rw [hcn] at hc
  have hkl := Tm.cns_cnL ks ▸ cnL_len Tm.cn ks
  have lp := filled_loop u f v ks (by omega) ks [] rfl (fun t ht => ih t ht (by have := Tm.cns_cnL ks ▸ cnL_mem (cn := Tm.cn) ht; omega))
  have lk := implLook_call u hu v
  apply impl_filled_of
  rw [das_len]
  refine ⟨_, isVarK_call (.mk f v ks), ?_⟩
  by_cases hf : f = -1
  · refine ifB_t (decide_eq_true hf) ?_
    by_cases hk : ks.length = 0
    · have e : fil u (.mk f v ks) = lookT u v := by rw [fil, if_pos ⟨hf, hk⟩]
      rw [e]
      exact ifB_t (by simp [hk]) ⟨_, _, _, lk, rfl, rfl⟩
    · have e : fil u (.mk f v ks) = .mk f v (fils u ks) := by rw [fil, if_neg (fun h => hk h.2)]
      rw [e]
      exact ifB_f (by simp [hk]) lp
  · have e : fil u (.mk f v ks) = .mk f v (fils u ks) := by rw [fil, if_neg (fun h => hf h.1)]
    rw [e]
    exact ifB_f (decide_eq_false hf) lp
def appT (s : List Sy) (u : List Bd) (t : Tm) : Tm := nrm s (fil u t)
theorem appT_cn {s : List Sy} {u : List Bd} {t : Tm} (h1 : t.cn ≤ 1048576) (h2 : cnL Bd.cn u ≤ 1048576) : (appT s u t).cn ≤ 1099513724928 := Nat.le_trans (nrm_cn s _) (fil_big h1 h2)
def litA (s : List Sy) (u : List Bd) (x : Li) : Li := lmk s x.p (appT s u x.l) (appT s u x.r)
theorem litA_cn {s : List Sy} {u : List Bd} {x : Li} (h1 : x.cn ≤ 1048576) (h2 : cnL Bd.cn u ≤ 1048576) : (litA s u x).cn ≤ 2199027449856 := by
  have h0 : x.cn = x.l.cn + x.r.cn := rfl
  have h3 := lmk_cn s x.p (appT s u x.l) (appT s u x.r)
  have h4 := appT_cn (s := s) (u := u) (t := x.l) (by omega) h2
  have h5 := appT_cn (s := s) (u := u) (t := x.r) (by omega) h2
  unfold litA
  omega
theorem specApply_call (s : List Sy) (hs : s.length ≤ 10000000) (u : List Bd) (hu : cnL Bd.cn u ≤ 1048576) (t : Tm) (hc : t.cn ≤ 1048576) : XC Try.prog 81 [L (s.map Sy.da), L (u.map Bd.da), .dat t.da] [] (.dat (appT s u t).da) [] := by
  have h1 := l6Put_call u hu t hc
  have h2 := specNorm_call s hs (fil u t) (by have := fil_big hc hu; omega)
  unfold appT
  generalize nrm s (fil u t) = y at *
  generalize fil u t = x at *
  obtain ⟨f, v, ks⟩ := t
  obtain ⟨f', v', ks'⟩ := x
  obtain ⟨g, w, ms⟩ := y
  apply spec_Apply_of
  exact ⟨_, _, _, h1, _, _, _, h2, rfl, rfl⟩
theorem implApply_call (s : List Sy) (hs : s.length ≤ 10000000) (u : List Bd) (hu : cnL Bd.cn u ≤ 1048576) (t : Tm) (hc : t.cn ≤ 1048576) : XC Try.prog 84 [L (s.map Sy.da), L (u.map Bd.da), .dat t.da] [] (.agg [.d (.int .i64 (appT s u t).f), .d (.int .i64 (appT s u t).v), .ol 0]) [(0, .tr 31 3 (Tm.das (appT s u t).ks))] := by
  have h1 := filled_call u hu t hc
  have h2 := implNorm_call s hs (fil u t) (by have := fil_big hc hu; omega)
  unfold appT
  generalize nrm s (fil u t) = y at *
  generalize fil u t = x at *
  obtain ⟨f, v, ks⟩ := t
  obtain ⟨f', v', ks'⟩ := x
  obtain ⟨g, w, ms⟩ := y
  apply impl_Apply_of
  exact ⟨_, _, _, h1, _, _, _, h2, rfl, rfl⟩
theorem specLitApply_call (s : List Sy) (hs : s.length ≤ 10000000) (u : List Bd) (hu : cnL Bd.cn u ≤ 1048576) (x : Li) (hc : x.cn ≤ 1048576) : XC Try.prog 32 [L (s.map Sy.da), L (u.map Bd.da), .dat x.da] [] (.dat (litA s u x).da) [] := by
  have h0 : x.cn = x.l.cn + x.r.cn := rfl
  have h1 := specApply_call s hs u hu x.l (by omega)
  have h2 := specApply_call s hs u hu x.r (by omega)
  have h3 := specLitMake_call s hs x.p (appT s u x.l) (appT s u x.r) (by have := appT_cn (s := s) (u := u) (t := x.l) (by omega) hu; omega) (by have := appT_cn (s := s) (u := u) (t := x.r) (by omega) hu; omega)
  unfold litA
  generalize lmk s x.p (appT s u x.l) (appT s u x.r) = z at *
  generalize appT s u x.l = a at *
  generalize appT s u x.r = b at *
  obtain ⟨p, ⟨f, v, ks⟩, ⟨g, w, ms⟩⟩ := x
  obtain ⟨f1, v1, k1⟩ := a
  obtain ⟨f2, v2, k2⟩ := b
  obtain ⟨p3, ⟨f3, v3, k3⟩, ⟨f4, v4, k4⟩⟩ := z
  apply spec_LitApply_of
  exact ⟨_, _, _, h1, _, _, _, h2, _, _, _, _, _, _, _, h3, rfl, rfl⟩
theorem implLitApply_call (s : List Sy) (hs : s.length ≤ 10000000) (u : List Bd) (hu : cnL Bd.cn u ≤ 1048576) (x : Li) (hc : x.cn ≤ 1048576) : XC Try.prog 35 [L (s.map Sy.da), L (u.map Bd.da), .dat x.da] [] (.agg [.d (.bool (litA s u x).p), .d (.int .i64 (litA s u x).l.f), .d (.int .i64 (litA s u x).l.v), .ol 0, .d (.int .i64 (litA s u x).r.f), .d (.int .i64 (litA s u x).r.v), .ol 1]) [(0, .tr 31 3 (Tm.das (litA s u x).l.ks)), (1, .tr 31 3 (Tm.das (litA s u x).r.ks))] := by
  have h0 : x.cn = x.l.cn + x.r.cn := rfl
  have h1 := implApply_call s hs u hu x.l (by omega)
  have h2 := implApply_call s hs u hu x.r (by omega)
  have h3 := implLitMake_call s hs x.p (appT s u x.l) (appT s u x.r) (by have := appT_cn (s := s) (u := u) (t := x.l) (by omega) hu; omega) (by have := appT_cn (s := s) (u := u) (t := x.r) (by omega) hu; omega)
  unfold litA
  generalize lmk s x.p (appT s u x.l) (appT s u x.r) = z at *
  generalize appT s u x.l = a at *
  generalize appT s u x.r = b at *
  obtain ⟨p, ⟨f, v, ks⟩, ⟨g, w, ms⟩⟩ := x
  obtain ⟨f1, v1, k1⟩ := a
  obtain ⟨f2, v2, k2⟩ := b
  obtain ⟨p3, ⟨f3, v3, k3⟩, ⟨f4, v4, k4⟩⟩ := z
  apply impl_LitApply_of
  exact ⟨_, _, _, h1, _, _, _, h2, _, _, _, _, _, _, _, h3, rfl, rfl⟩
theorem laws_FnExactLitApply_law (ss : List Sy) (kss : ∀ y ∈ ss, Sy.ok y) (w : List Bd) (kw : ∀ y ∈ w, Bd.ok y) (x : Li) (kx : x.ok) : XC Try.prog 5 [L (ss.map Sy.da), L (w.map Bd.da), .dat x.da] [] (B true) [] := by
  have s0 := szSymS_call ss 1048576 (by omega) (by omega)
  rcases Int.lt_or_le (lft (cnL Sy.cn ss) 1048576) 0 with g0 | g0
  · obtain ⟨p_1, ⟨f_1, v_1, ks_1⟩, ⟨g_1, u_1, ms_1⟩⟩ := x
    apply laws_FnExactLitApply_of
    exact ⟨_, s0, ifB_t (decide_eq_true g0) ⟨rfl, rfl⟩⟩
  have q0 := lft_ok g0
  have s1 := szBindS_call w _ g0 (by omega)
  rcases Int.lt_or_le (lft (cnL Bd.cn w) (lft (cnL Sy.cn ss) 1048576)) 0 with g1 | g1
  · obtain ⟨p_1, ⟨f_1, v_1, ks_1⟩, ⟨g_1, u_1, ms_1⟩⟩ := x
    apply laws_FnExactLitApply_of
    exact ⟨_, s0, ifB_f (decide_eq_false (Int.not_lt.2 g0)) ⟨_, s1, ifB_t (decide_eq_true g1) ⟨rfl, rfl⟩⟩⟩
  have q1 := lft_ok g1
  have s2 := szLit_call x _ g1 (by omega)
  rcases Int.lt_or_le (lft (x.cn) (lft (cnL Bd.cn w) (lft (cnL Sy.cn ss) 1048576))) 0 with g2 | g2
  · obtain ⟨p_1, ⟨f_1, v_1, ks_1⟩, ⟨g_1, u_1, ms_1⟩⟩ := x
    apply laws_FnExactLitApply_of
    exact ⟨_, s0, ifB_f (decide_eq_false (Int.not_lt.2 g0)) ⟨_, s1, ifB_f (decide_eq_false (Int.not_lt.2 g1)) ⟨_, s2, ifB_t (decide_eq_true g2) ⟨rfl, rfl⟩⟩⟩⟩
  have q2 := lft_ok g2
  have hlenss := cnL_len Sy.cn ss
  have hsyss := mkNSy_eq ss
  have hblw := cnL_len Bd.cn w
  have hbmw := mkNBd_le w
  have hu := litA_cn (s := ss) (u := w) (x := x) (by omega) (by omega)
  have t0 := toSymSO_call ss (by omega)
  have e0 := eqSymS_call ss
  have m0 := markSymS_call ss (1) (by omega) (by omega) (by omega)
  have t1 := toBindSO_call w (by omega)
  have e1 := eqBindS_call w
  have m1 := markBindS_call w (1 + mkNSy ss) (by omega) (by omega)
  have t2 := toLitO_call x (by omega)
  have e2 := eqLit_call x
  have m2 := markLit_call x (1 + mkNSy ss + mkNBd w) (by omega)
  have c1 := specLitApply_call ss (by omega) w (by omega) x (by omega)
  have c2 := implLitApply_call ss (by omega) w (by omega) x (by omega)
  have hk : (((1 + mkNSy ss + mkNBd w + 2 * x.cn : Nat)) : Int) ≥ 0 := by omega
  generalize litA ss w x = u at *
  have eu := eqLit_call u
  have mu := markLit_call u 1 (by omega)
  have hd := heldLit_call u 1 (by omega)
  obtain ⟨p_1, ⟨f_1, v_1, ks_1⟩, ⟨g_1, u_1, ms_1⟩⟩ := x
  obtain ⟨p0, ⟨f0, v0, k0⟩, ⟨g0', u0, l0⟩⟩ := u
  apply laws_FnExactLitApply_of
  exact ⟨_, s0, ifB_f (decide_eq_false (Int.not_lt.2 g0)) ⟨_, s1, ifB_f (decide_eq_false (Int.not_lt.2 g1)) ⟨_, s2, ifB_f (decide_eq_false (Int.not_lt.2 g2)) ⟨_, t0, _, t1, _, _, _, _, _, _, _, t2, _, _, _, _, _, _, _, c1, _, t0, _, t1, _, _, _, _, _, _, _, t2, _, _, _, _, _, _, _, c2, _, eu, ifB_f rfl ⟨_, t0, _, e0, ifB_f rfl ⟨_, t1, _, e1, ifB_f rfl ⟨_, _, _, _, _, _, _, t2, _, e2, ifB_f rfl ⟨_, _, m0, _, _, m1, _, _, _, m2, ifB_f (decide_eq_false (by omega)) ⟨_, eu, ifB_f rfl ⟨_, _, _, mu, _, hd, ifB_f (decide_eq_false (by omega)) (ifB_f (by simp) ⟨_, t0, _, t1, _, _, _, _, _, _, _, t2, _, _, _, _, _, _, _, c2, _, eu, ifB_f rfl ⟨_, hd, ifB_f (decide_eq_false (by omega)) (ifB_f (by simp) ⟨rfl, rfl⟩)⟩⟩)⟩⟩⟩⟩⟩⟩⟩⟩⟩⟩

end AM
end Go.Proofs.Ytajcoogpmockiaa
