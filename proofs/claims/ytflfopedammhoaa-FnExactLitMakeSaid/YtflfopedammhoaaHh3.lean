/- Contracts of functions of the program, out of what their texts ask; no conditions. -/
import Derived.Test.YtflfopedammhoaaHh2
import Derived.Test.YtflfopedammhoaaDt
import Derived.Test.YtflfopedammhoaaHr
set_option linter.unusedVariables false
set_option linter.unusedSimpArgs false
set_option maxRecDepth 100000
namespace Go.Proofs.Ytflfopedammhoaa
namespace AM
open Go Go.ChangeShapes Go.WideShapes Go.RowKit

/-- Is a function blind to order and brackets? -/
def bl (s : List Sy) (f : Int) : Bool := inR f 0 ((s.length : Int) - 1) && ((s[f.toNat]?).map (·.ac)).getD false
mutual
def nrm (s : List Sy) : Tm → Tm
  | .mk f v ks => .mk f v (if bl s f then isort Tm.cmp (nrmK s (bl s f) f ks) else nrmK s (bl s f) f ks)
def nrmK (s : List Sy) (b : Bool) (f : Int) : List Tm → List Tm
  | [] => []
  | t :: r => (if b = true ∧ (nrm s t).f = f then (nrm s t).ks else [nrm s t]) ++ nrmK s b f r
end
theorem cns_app (a b : List Tm) : Tm.cns (a ++ b) = Tm.cns a + Tm.cns b := by
  induction a with
  | nil => simp [Tm.cns]
  | cons x r ih => simp only [List.cons_append, Tm.cns, ih]; omega
theorem cns_perm {a b : List Tm} (h : a.Perm b) : Tm.cns a = Tm.cns b := by
  rw [Tm.cns_cnL, Tm.cns_cnL, cnL, cnL, h.length_eq, (h.map _).sum_nat]
theorem Tm.cn_ks (t : Tm) : Tm.cns t.ks = t.cn := by cases t; simp [Tm.ks, Tm.cn]
mutual
theorem nrm_cn (s : List Sy) : ∀ t : Tm, (nrm s t).cn ≤ t.cn
  | .mk f v ks => by
    have h := nrmK_cns s (bl s f) f ks
    simp only [nrm, Tm.cn]
    split
    · rw [cns_perm (isort_perm _ _)]; exact h
    · exact h
theorem nrmK_cns (s : List Sy) (b : Bool) (f : Int) : ∀ l : List Tm, Tm.cns (nrmK s b f l) ≤ Tm.cns l
  | [] => by simp [nrmK, Tm.cns]
  | t :: r => by
    have h1 := nrm_cn s t
    have h2 := nrmK_cns s b f r
    simp only [nrmK, cns_app, Tm.cns]
    split
    · rw [Tm.cn_ks]; omega
    · simp only [Tm.cns]; omega
end
theorem nrm_f (s : List Sy) (t : Tm) : (nrm s t).f = t.f ∧ (nrm s t).v = t.v := by cases t; simp [nrm, Tm.f, Tm.v]
theorem inR_iff {x lo hi : Int} : inR x lo hi = true ↔ lo ≤ x ∧ x ≤ hi := by simp [inR]
theorem bl_get {s : List Sy} {f : Int} {m : Nat} {x : Sy} (hf : f = (m : Int)) (hm : s[m]? = some x) : bl s f = x.ac := by
  have h := (List.getElem?_eq_some_iff.1 hm).1
  subst hf
  have : inR (m : Int) 0 ((s.length : Int) - 1) = true := inR_iff.2 ⟨by omega, by omega⟩
  simp [bl, this, hm]
theorem specBlind_call (s : List Sy) (f : Int) (hs : s.length ≤ 10000000) : XC Try.prog 112 [L (s.map Sy.da), Z f] [] (B (bl s f)) [] := by
  have w : IntKind.wrap .i64 ((s.length : Int) - 1) = (s.length : Int) - 1 := wrI (by omega) (by omega)
  apply spec_Blind_of
  rw [List.length_map, w]
  refine ⟨_, l1In_call f 0 _, ?_⟩
  by_cases h : inR f 0 ((s.length : Int) - 1) = true
  · obtain ⟨h1, h2⟩ := inR_iff.1 h
    obtain ⟨m, rfl⟩ : ∃ m : Nat, f = (m : Int) := ⟨f.toNat, by omega⟩
    obtain ⟨x, hx⟩ := get_ex (l := s) (i := m) (by omega)
    have hx2 := get_map (g := Sy.da) hx
    refine ifB_t h ⟨m, rfl, _, _, _, hx2, ?_, rfl⟩
    rw [bl_get rfl hx]
  · exact ifB_f (Bool.eq_false_iff.2 h) ⟨by simp [bl, h], rfl⟩
theorem isSymB_call (s : List Sy) (f : Int) (hs : s.length ≤ 10000000) : XC Try.prog 168 [L (s.map Sy.da), Z f] [] (B (inR f 0 ((s.length : Int) - 1))) [] := by
  have w : IntKind.wrap .i64 ((s.length : Int) - 1) = (s.length : Int) - 1 := wrI (by omega) (by omega)
  apply impl_isSym_of
  rw [List.length_map, w]
  exact ⟨_, from_call f 0 _, rfl, rfl⟩
theorem implBlind_call (s : List Sy) (f : Int) (hs : s.length ≤ 10000000) : XC Try.prog 116 [L (s.map Sy.da), Z f] [] (B (bl s f)) [] := by
  apply impl_Blind_of
  refine ⟨_, isSymB_call s f hs, ?_⟩
  by_cases h : inR f 0 ((s.length : Int) - 1) = true
  · obtain ⟨h1, h2⟩ := inR_iff.1 h
    obtain ⟨m, rfl⟩ : ∃ m : Nat, f = (m : Int) := ⟨f.toNat, by omega⟩
    obtain ⟨x, hx⟩ := get_ex (l := s) (i := m) (by omega)
    have hx2 := get_map (g := Sy.da) hx
    refine ifB_t h ⟨m, rfl, _, _, _, hx2, ?_, rfl⟩
    rw [bl_get rfl hx]
  · exact ifB_f (Bool.eq_false_iff.2 h) ⟨by simp [bl, h], rfl⟩
theorem drop_map_len {α β : Type} (g : α → β) (p : List α) : List.drop p.length (p.map g) = [] := List.drop_eq_nil_of_le (by simp)
theorem isort_snoc {α : Type} (cmp : α → α → Int) (l : List α) (x : α) : isort cmp (l ++ [x]) = putC cmp x (isort cmp l) := by simp [isort, List.foldl_append]
theorem das_app (a b : List Tm) : Tm.das (a ++ b) = Tm.das a ++ Tm.das b := by simp [Tm.das_map]
theorem l4Put_loop (t : Tm) (l : List Tm) (hl : l.length ≤ 100000000) : ∀ (q p : List Tm), l = p ++ q → spec_l4Put_L2 (.one (.ol 0)) [(0, .lst 30 3 (Tm.das (p ++ putC Tm.cmp t q)))] (Tm.das l) (p.length : Int) t.f t.v (Tm.das t.ks)
  | [], p, e => by
    have e3 : [] ++ (Tm.das l).take p.length ++ [[.int .i64 t.f, .int .i64 t.v, .sl (Tm.das t.ks)]] ++ (Tm.das l).drop p.length = Tm.das (p ++ putC Tm.cmp t []) := by
      subst e
      obtain ⟨f, v, ks⟩ := t
      simp [Tm.das_map, putC, take_map_len, drop_map_len, Tm.da, Tm.f, Tm.v, Tm.ks]
    have hpl : l.length = p.length := by rw [e]; simp
    apply spec_l4Put_L2_of
    refine ifB_f (decide_eq_false (by rw [das_len]; omega)) ⟨p.length, rfl, ⟨by rw [das_len]; omega⟩, ⟨das3 _⟩, ⟨fun y hy => das3 _ y (List.mem_of_mem_take (List.mem_of_mem_drop hy))⟩, ⟨?_⟩, ⟨?_⟩, p.length, rfl, ⟨by rw [das_len]; omega⟩, ⟨das3 _⟩, ⟨fun y hy => das3 _ y (List.mem_of_mem_take (List.mem_of_mem_drop hy))⟩, ⟨?_⟩, rfl, ?_⟩
    · simp [das_len]; omega
    · simp [das_len]; omega
    · simp [das_len]; omega
    · rw [← e3]; simp
  | y :: q, p, e => by
    have ih := l4Put_loop t l hl q (p ++ [y]) (by simp [e])
    have hb := before_call t y
    have hn := Tm.cmp_neg t y
    have hx : (Tm.das l)[p.length]? = some y.da := by rw [e]; exact das_app_get
    have hpl : l.length = p.length + q.length + 1 := by rw [e]; simp; omega
    rw [len_app1] at ih
    have e3 : Tm.cmp t y < 0 → [] ++ (Tm.das l).take p.length ++ [[.int .i64 t.f, .int .i64 t.v, .sl (Tm.das t.ks)]] ++ (Tm.das l).drop p.length = Tm.das (p ++ putC Tm.cmp t (y :: q)) := fun h => by
      subst e
      have e4 : putC Tm.cmp t (y :: q) = t :: y :: q := by rw [putC, if_neg (by omega)]
      rw [e4]
      obtain ⟨f, v, ks⟩ := t
      simp [Tm.das_map, List.take_append, List.drop_append, take_map_len, drop_map_len, Tm.da, Tm.f, Tm.v, Tm.ks]
    have et : t.da = [.int .i64 t.f, .int .i64 t.v, .sl (Tm.das t.ks)] := by obtain ⟨f, v, ks⟩ := t; rfl
    rw [et] at hb
    have ih2 : ¬ Tm.cmp t y < 0 → p ++ putC Tm.cmp t (y :: q) = p ++ [y] ++ putC Tm.cmp t q := fun h => by
      rw [putC, if_pos (by omega)]; simp
    obtain ⟨g, u, ms⟩ := y
    apply spec_l4Put_L2_of
    refine ifB_t (decide_eq_true (by rw [das_len]; omega)) ⟨p.length, rfl, g, u, Tm.das ms, hx, _, hb, ?_⟩
    by_cases h : Tm.cmp t (.mk g u ms) < 0
    · refine ifB_f (by simp [h]) ⟨p.length, rfl, ⟨by rw [das_len]; omega⟩, ⟨das3 _⟩, ⟨fun y hy => das3 _ y (List.mem_of_mem_take (List.mem_of_mem_drop hy))⟩, ⟨?_⟩, ⟨?_⟩, p.length, rfl, ⟨by rw [das_len]; omega⟩, ⟨das3 _⟩, ⟨fun y hy => das3 _ y (List.mem_of_mem_take (List.mem_of_mem_drop hy))⟩, ⟨?_⟩, rfl, ?_⟩
      · simp [das_len]; omega
      · simp [das_len]; omega
      · simp [das_len]; omega
      · rw [← e3 h]; simp
    · rw [ih2 h, wr1 (n := p.length + 1) (by omega) (by omega)]
      exact ifB_t (by simp [h]) ih
theorem l4Put_call (t : Tm) (l : List Tm) (hl : l.length ≤ 100000000) : XC Try.prog 163 [L (Tm.das l), .dat t.da] [] (.one (.ol 0)) [(0, .lst 30 3 (Tm.das (putC Tm.cmp t l)))] := by
  have h := l4Put_loop t l hl l [] rfl
  obtain ⟨f, v, ks⟩ := t
  exact spec_l4Put_of h
theorem specNorm_in (r : AV) (O : List (Nat × Ob)) (s0 : List (List Da)) (s6 s3 s31 : Int) (s32 : List (List Da)) (s5 s51 n2 n3 : Int) (w : List Tm) : ∀ (q p acc : List Tm), w = p ++ q → acc.length + q.length ≤ 10000000 → p.length + q.length ≤ 10000000 → spec_Norm_L3 r O s0 (IntKind.wrap .i64 (s6 + 1)) s3 s31 s32 0 0 s5 s51 (Tm.das (isort Tm.cmp (acc ++ q))) → spec_Norm_L7 r O s0 s6 (p.length : Int) s3 s31 s32 0 0 s5 s51 n2 n3 (Tm.das w) (Tm.das (isort Tm.cmp acc))
  | [], p, acc, e, _, _, h => by
    apply spec_Norm_L7_of
    subst e
    exact ifB_f (lt_decF (by simp [das_len])) (by simpa using h)
  | y :: q, p, acc, e, h1, h2, h => by
    simp only [List.length_cons] at h1 h2
    have ih := specNorm_in r O s0 s6 s3 s31 s32 s5 s51 n2 n3 w q (p ++ [y]) (acc ++ [y]) (by simp [e]) (by simp; omega) (by simp; omega) (by simpa using h)
    have c := l4Put_call y (isort Tm.cmp acc) (by rw [(isort_perm _ _).length_eq]; omega)
    have hx : (Tm.das w)[p.length]? = some y.da := by rw [e]; exact das_app_get
    have hlt : p.length < w.length := by rw [e]; simp
    rw [len_app1, isort_snoc] at ih
    obtain ⟨g, u, ms⟩ := y
    apply spec_Norm_L7_of
    refine ifB_t (lt_dec (by rw [das_len]; exact hlt)) ⟨p.length, rfl, g, u, Tm.das ms, hx, _, c, ?_⟩
    rw [wr1 (n := p.length + 1) (by omega) (by omega)]
    exact ih
theorem specNorm_loop (s : List Sy) (hs : s.length ≤ 10000000) (f v : Int) (ks : List Tm) (hk : Tm.cns ks ≤ 1048576) : ∀ (q p acc : List Tm), ks = p ++ q → acc.length + Tm.cns q ≤ 2000000 → (∀ t ∈ q, t.cn ≤ 1048576 ∧ XC Try.prog 103 [L (s.map Sy.da), .dat t.da] [] (.dat (nrm s t).da) []) → spec_Norm_L3 (.dat (Tm.mk f v (if bl s f then isort Tm.cmp (acc ++ nrmK s (bl s f) f q) else acc ++ nrmK s (bl s f) f q)).da) [] (s.map Sy.da) (p.length : Int) f v (Tm.das ks) 0 0 f v (Tm.das (if bl s f then isort Tm.cmp acc else acc))
  | [], p, acc, e, _, _ => by
    apply spec_Norm_L3_of
    subst e
    refine ifB_f (lt_decF (by simp [das_len])) ⟨?_, rfl⟩
    simp only [nrmK, List.append_nil]
    rfl
  | y :: q, p, acc, e, ha, hc => by
    have hcn : Tm.cns (y :: q) = 1 + y.cn + Tm.cns q := by simp [Tm.cns]
    have hkl := Tm.cns_cnL ks ▸ cnL_len Tm.cn ks
    obtain ⟨hyc, cy⟩ := hc y (by simp)
    have hnc := nrm_cn s y
    have hnl := Tm.len_cns (nrm s y).ks
    rw [Tm.cn_ks] at hnl
    have hx : (Tm.das ks)[p.length]? = some y.da := by rw [e]; exact das_app_get
    have hlt : p.length < ks.length := by rw [e]; simp
    have hw : IntKind.wrap .i64 ((p.length : Int) + 1) = ((p.length + 1 : Nat) : Int) := wr1 hlt (by omega)
    have ih := fun acc' h => specNorm_loop s hs f v ks hk q (p ++ [y]) acc' (by simp [e]) h (fun t ht => hc t (List.mem_cons_of_mem _ ht))
    rw [len_app1] at ih
    have eb := specBlind_call s f hs
    have eK : nrmK s (bl s f) f (y :: q) = (if bl s f = true ∧ (nrm s y).f = f then (nrm s y).ks else [nrm s y]) ++ nrmK s (bl s f) f q := by rw [nrmK]
    rw [eK]
    have cP := l4Put_call (nrm s y) (isort Tm.cmp acc) (by rw [(isort_perm _ _).length_eq]; omega)
    generalize hny : nrm s y = ny at *
    generalize bl s f = b at *
    obtain ⟨g, u, ms⟩ := y
    obtain ⟨g', u', ms'⟩ := ny
    apply spec_Norm_L3_of
    rw [hw]
    refine ifB_t (lt_dec (by rw [das_len]; exact hlt)) ⟨p.length, rfl, g, u, Tm.das ms, hx, _, _, _, cy, _, eb, ?_⟩
    cases b with
    | false =>
      refine ifB_t rfl ⟨⟨by simp [das_len]; omega⟩, ?_⟩
      have := ih (acc ++ [.mk g' u' ms']) (by simp; omega)
      simpa [das_app, Tm.das, Tm.da] using this
    | true =>
      refine ifB_f rfl ?_
      by_cases hg : g' = f
      · refine ifB_f (decide_eq_false (by simp [hg])) ?_
        have := ih (acc ++ ms') (by simp [Tm.ks] at hnl ⊢; omega)
        have h7 := specNorm_in (.dat (Tm.mk f v (if true = true then isort Tm.cmp (acc ++ ((if true = true ∧ (Tm.mk g' u' ms').f = f then (Tm.mk g' u' ms').ks else [.mk g' u' ms']) ++ nrmK s true f q)) else acc ++ ((if true = true ∧ (Tm.mk g' u' ms').f = f then (Tm.mk g' u' ms').ks else [.mk g' u' ms']) ++ nrmK s true f q))).da) [] (s.map Sy.da) (p.length : Int) f v (Tm.das ks) f v g' u' ms' ms' [] acc rfl (by simp [Tm.ks] at hnl; omega) (by simp [Tm.ks] at hnl ⊢; omega)
        rw [hw] at h7
        refine h7 ?_
        simpa [Tm.f, Tm.ks, hg, List.append_assoc] using this
      · refine ifB_t (decide_eq_true (by simpa using hg)) ⟨_, cP, ?_⟩
        have := ih (acc ++ [.mk g' u' ms']) (by simp; omega)
        simp only [if_true, isort_snoc] at this
        simpa [Tm.f, hg, List.append_assoc] using this
theorem specNorm_call (s : List Sy) (hs : s.length ≤ 10000000) (t : Tm) : t.cn ≤ 1048576 → XC Try.prog 103 [L (s.map Sy.da), .dat t.da] [] (.dat (nrm s t).da) [] := by
  induction t using Tm.ind with
  | h f v ks ih =>
  intro hc
  have hcn : (Tm.mk f v ks).cn = Tm.cns ks := by simp [Tm.cn]
  rw [hcn] at hc
  apply spec_Norm_of
  have := specNorm_loop s hs f v ks hc ks [] [] rfl (by simp; omega) (fun t ht => by
    have hb : t.cn ≤ 1048576 := by have := Tm.cns_cnL ks ▸ cnL_mem (cn := Tm.cn) ht; omega
    exact ⟨hb, ih t ht hb⟩)
  simpa [nrm, isort, Tm.das] using this
theorem implNorm_loop (s : List Sy) (hs : s.length ≤ 10000000) (f v : Int) (ks : List Tm) (hk : Tm.cns ks ≤ 1048576) : ∀ (q p acc : List Tm), ks = p ++ q → acc.length + Tm.cns q ≤ 2000000 → (∀ t ∈ q, t.cn ≤ 1048576 ∧ XC Try.prog 105 [L (s.map Sy.da), .dat t.da] [] (.agg [.d (.int .i64 (nrm s t).f), .d (.int .i64 (nrm s t).v), .ol 0]) [(0, .tr 30 3 (Tm.das (nrm s t).ks))]) → impl_Norm_L3 (.agg [.d (.int .i64 f), .d (.int .i64 v), .ol 0]) [(0, .tr 30 3 (Tm.das (if bl s f then isort Tm.cmp (acc ++ nrmK s (bl s f) f q) else acc ++ nrmK s (bl s f) f q)))] (s.map Sy.da) (Tm.das ks) (ks.length : Int) (p.length : Int) f v (Tm.das ks) 0 0 (Tm.das acc)
  | [], p, acc, e, ha, _ => by
    have eb := implBlind_call s f hs
    have cs := sortTm_call acc (by omega)
    apply impl_Norm_L3_of
    subst e
    refine ifB_f (lt_decF (by simp)) ⟨_, eb, ?_⟩
    simp only [nrmK, List.append_nil]
    generalize bl s f = b at *
    cases b with
    | true => exact ifB_t rfl ⟨_, cs, by simp⟩
    | false => exact ifB_f rfl (by simp)
  | y :: q, p, acc, e, ha, hc => by
    have hcn : Tm.cns (y :: q) = 1 + y.cn + Tm.cns q := by simp [Tm.cns]
    have hkl := Tm.cns_cnL ks ▸ cnL_len Tm.cn ks
    obtain ⟨hyc, cy⟩ := hc y (by simp)
    have hnc := nrm_cn s y
    have hnl := Tm.len_cns (nrm s y).ks
    rw [Tm.cn_ks] at hnl
    have hx : (Tm.das ks)[p.length]? = some y.da := by rw [e]; exact das_app_get
    have hlt : p.length < ks.length := by rw [e]; simp
    have hw : IntKind.wrap .i64 ((p.length : Int) + 1) = ((p.length + 1 : Nat) : Int) := wr1 hlt (by omega)
    have ih := fun acc' h => implNorm_loop s hs f v ks hk q (p ++ [y]) acc' (by simp [e]) h (fun t ht => hc t (List.mem_cons_of_mem _ ht))
    rw [len_app1] at ih
    have eb := implBlind_call s f hs
    have eK : nrmK s (bl s f) f (y :: q) = (if bl s f = true ∧ (nrm s y).f = f then (nrm s y).ks else [nrm s y]) ++ nrmK s (bl s f) f q := by rw [nrmK]
    rw [eK]
    generalize hny : nrm s y = ny at *
    generalize bl s f = b at *
    obtain ⟨g, u, ms⟩ := y
    obtain ⟨g', u', ms'⟩ := ny
    apply impl_Norm_L3_of
    rw [hw]
    refine ifB_t (lt_dec hlt) ⟨p.length, rfl, g, u, Tm.das ms, hx, _, _, _, cy, _, eb, ?_⟩
    simp only [Tm.f, Tm.v, Tm.ks] at hnl ⊢
    cases b with
    | false =>
      refine ifB_f rfl ⟨⟨by simp [das_len]; omega⟩, ?_⟩
      have := ih (acc ++ [.mk g' u' ms']) (by simp; omega)
      simpa [das_app, Tm.das, Tm.da] using this
    | true =>
      refine ifB_t rfl ?_
      by_cases hg : g' = f
      · refine ifB_t (decide_eq_true hg) ⟨⟨by simp [das_len]; omega⟩, ?_⟩
        have := ih (acc ++ ms') (by simp; omega)
        simpa [das_app, hg, List.append_assoc] using this
      · refine ifB_f (decide_eq_false hg) ⟨⟨by simp [das_len]; omega⟩, ?_⟩
        have := ih (acc ++ [.mk g' u' ms']) (by simp; omega)
        simpa [das_app, Tm.das, Tm.da, hg, List.append_assoc] using this
theorem implNorm_call (s : List Sy) (hs : s.length ≤ 10000000) (t : Tm) : t.cn ≤ 1048576 → XC Try.prog 105 [L (s.map Sy.da), .dat t.da] [] (.agg [.d (.int .i64 (nrm s t).f), .d (.int .i64 (nrm s t).v), .ol 0]) [(0, .tr 30 3 (Tm.das (nrm s t).ks))] := by
  induction t using Tm.ind with
  | h f v ks ih =>
  intro hc
  have hcn : (Tm.mk f v ks).cn = Tm.cns ks := by simp [Tm.cn]
  rw [hcn] at hc
  apply impl_Norm_of
  have := implNorm_loop s hs f v ks hc ks [] [] rfl (by simp; omega) (fun t ht => by
    have hb : t.cn ≤ 1048576 := by have := Tm.cns_cnL ks ▸ cnL_mem (cn := Tm.cn) ht; omega
    exact ⟨hb, ih t ht hb⟩)
  rw [das_len]
  simpa [nrm, Tm.f, Tm.v, Tm.ks, Tm.das] using this
theorem markLit_call (x : Li) (k : Nat) (hk : k + 2 * x.cn ≤ 100000000) : XC Try.prog 43 [.agg [.d (.bool x.p), .d (.int .i64 x.l.f), .d (.int .i64 x.l.v), .ol 2000, .d (.int .i64 x.r.f), .d (.int .i64 x.r.v), .ol 2001], Z (k : Int)] [(2000, .mt 30 3 (Tm.das x.l.ks)), (2001, .mt 30 3 (Tm.das x.r.ks))] (Z ((k + 2 * x.cn : Nat) : Int)) [(2000, .mt 30 3 (Tm.das (Tm.mkL k x.l.ks))), (2001, .mt 30 3 (Tm.das (Tm.mkL (k + 2 * x.l.cn) x.r.ks)))] := by
  have h0 : x.cn = x.l.cn + x.r.cn := rfl
  have h1 := markTerm_call x.l k (by omega)
  have h2 := markTerm_call x.r (k + 2 * x.l.cn) (by omega)
  rw [show k + 2 * x.cn = k + 2 * x.l.cn + 2 * x.r.cn by omega]
  apply laws_markLit_of
  exact ⟨_, _, h1, _, _, h2, rfl, rfl⟩
theorem heldLit_call (x : Li) (k : Nat) (hk : k + 2 * x.cn ≤ 100000000) : XC Try.prog 44 [.dat [.bool x.p, .int .i64 x.l.f, .int .i64 x.l.v, .sl (Tm.das (Tm.mkL k x.l.ks)), .int .i64 x.r.f, .int .i64 x.r.v, .sl (Tm.das (Tm.mkL (k + 2 * x.l.cn) x.r.ks))], Z (k : Int)] [] (Z ((k + 2 * x.cn : Nat) : Int)) [] := by
  have h0 : x.cn = x.l.cn + x.r.cn := rfl
  have h1 := heldTerm_call x.l k (by omega)
  have h2 := heldTerm_call x.r (k + 2 * x.l.cn) (by omega)
  rw [show k + 2 * x.cn = k + 2 * x.l.cn + 2 * x.r.cn by omega]
  apply laws_heldLit_of
  exact ⟨_, h1, ifB_f (decide_eq_false (by omega)) ⟨_, h2, ifB_f (decide_eq_false (by omega)) ⟨rfl, rfl⟩⟩⟩
def lmk (s : List Sy) (pos : Bool) (a b : Tm) : Li := if Tm.cmp (nrm s a) (nrm s b) < 0 then ⟨pos, nrm s b, nrm s a⟩ else ⟨pos, nrm s a, nrm s b⟩
theorem lmk_cn (s : List Sy) (pos : Bool) (a b : Tm) : (lmk s pos a b).cn ≤ a.cn + b.cn := by
  have h1 := nrm_cn s a
  have h2 := nrm_cn s b
  unfold lmk Li.cn; split <;> dsimp only <;> omega
theorem specLitMake_call (s : List Sy) (hs : s.length ≤ 10000000) (pos : Bool) (a b : Tm) (ha : a.cn ≤ 1048576) (hb : b.cn ≤ 1048576) : XC Try.prog 40 [L (s.map Sy.da), B pos, .dat a.da, .dat b.da] [] (.dat (lmk s pos a b).da) [] := by
  have h1 := specNorm_call s hs a ha
  have h2 := specNorm_call s hs b hb
  have h3 := before_call (nrm s a) (nrm s b)
  unfold lmk
  generalize nrm s a = x at *
  generalize nrm s b = y at *
  obtain ⟨f, v, ks⟩ := a
  obtain ⟨g, u, ls⟩ := b
  obtain ⟨f', v', ks'⟩ := x
  obtain ⟨g', u', ls'⟩ := y
  apply spec_LitMake_of
  refine ⟨_, _, _, h1, _, _, _, h2, _, h3, ?_⟩
  by_cases h : Tm.cmp (.mk f' v' ks') (.mk g' u' ls') < 0
  · rw [if_pos h]; exact ifB_t (decide_eq_true h) ⟨rfl, rfl⟩
  · rw [if_neg h]; exact ifB_f (decide_eq_false h) ⟨rfl, rfl⟩
theorem implLitMake_call (s : List Sy) (hs : s.length ≤ 10000000) (pos : Bool) (a b : Tm) (ha : a.cn ≤ 1048576) (hb : b.cn ≤ 1048576) : XC Try.prog 41 [L (s.map Sy.da), B pos, .dat a.da, .dat b.da] [] (.agg [.d (.bool (lmk s pos a b).p), .d (.int .i64 (lmk s pos a b).l.f), .d (.int .i64 (lmk s pos a b).l.v), .ol 0, .d (.int .i64 (lmk s pos a b).r.f), .d (.int .i64 (lmk s pos a b).r.v), .ol 1]) [(0, .tr 30 3 (Tm.das (lmk s pos a b).l.ks)), (1, .tr 30 3 (Tm.das (lmk s pos a b).r.ks))] := by
  have h1 := implNorm_call s hs a ha
  have h2 := implNorm_call s hs b hb
  have h3 := implBefore_call (nrm s a) (nrm s b)
  unfold lmk
  generalize nrm s a = x at *
  generalize nrm s b = y at *
  obtain ⟨f, v, ks⟩ := a
  obtain ⟨g, u, ls⟩ := b
  obtain ⟨f', v', ks'⟩ := x
  obtain ⟨g', u', ls'⟩ := y
  apply impl_LitMake_of
  refine ⟨_, _, _, h1, _, _, _, h2, _, h3, ?_⟩
  by_cases h : Tm.cmp (.mk f' v' ks') (.mk g' u' ls') < 0
  · rw [if_pos h]; exact ifB_t (decide_eq_true h) ⟨rfl, rfl⟩
  · rw [if_neg h]; exact ifB_f (decide_eq_false h) ⟨rfl, rfl⟩
theorem mkNSy_eq : ∀ l : List Sy, mkNSy l = 3 * l.length
  | [] => by simp [mkNSy]
  | ⟨a, b, c⟩ :: r => by
    have h := mkNSy_eq r
    rw [mkNSy_cons, h, List.length_cons]
    simp only [mknSy]
    omega
theorem laws_FnExactLitMake_law (ss : List Sy) (kss : ∀ y ∈ ss, Sy.ok y) (pos : Bool) (kpos : True) (a : Tm) (ka : a.ok) (b : Tm) (kb : b.ok) : XC Try.prog 6 [L (ss.map Sy.da), B pos, .dat a.da, .dat b.da] [] (B true) [] := by
  have s0 := szSymS_call ss 1048576 (by omega) (by omega)
  rcases Int.lt_or_le (lft (cnL Sy.cn ss) 1048576) 0 with g0 | g0
  · obtain ⟨f_1, v_1, ks_1⟩ := a
    obtain ⟨f_2, v_2, ks_2⟩ := b
    apply laws_FnExactLitMake_of
    exact ⟨_, s0, ifB_t (decide_eq_true g0) ⟨rfl, rfl⟩⟩
  have q0 := lft_ok g0
  have s1 := szTerm_call a _ g0 (by omega)
  rcases Int.lt_or_le (lft (a.cn) (lft (cnL Sy.cn ss) 1048576)) 0 with g1 | g1
  · obtain ⟨f_1, v_1, ks_1⟩ := a
    obtain ⟨f_2, v_2, ks_2⟩ := b
    apply laws_FnExactLitMake_of
    exact ⟨_, s0, ifB_f (decide_eq_false (Int.not_lt.2 g0)) ⟨_, s1, ifB_t (decide_eq_true g1) ⟨rfl, rfl⟩⟩⟩
  have q1 := lft_ok g1
  have s2 := szTerm_call b _ g1 (by omega)
  rcases Int.lt_or_le (lft (b.cn) (lft (a.cn) (lft (cnL Sy.cn ss) 1048576))) 0 with g2 | g2
  · obtain ⟨f_1, v_1, ks_1⟩ := a
    obtain ⟨f_2, v_2, ks_2⟩ := b
    apply laws_FnExactLitMake_of
    exact ⟨_, s0, ifB_f (decide_eq_false (Int.not_lt.2 g0)) ⟨_, s1, ifB_f (decide_eq_false (Int.not_lt.2 g1)) ⟨_, s2, ifB_t (decide_eq_true g2) ⟨rfl, rfl⟩⟩⟩⟩
  have q2 := lft_ok g2
  have hlenss := cnL_len Sy.cn ss
  have hsyss := mkNSy_eq ss
  have hu := lmk_cn ss pos a b
  have t0 := toSymSO_call ss (by omega)
  have e0 := eqSymS_call ss
  have m0 := markSymS_call ss (1) (by omega) (by omega) (by omega)
  have t1 := toTermO_call a (by omega)
  have e1 := eqTerm_call a
  have m1 := markTerm_call a (1 + mkNSy ss) (by omega)
  have t2 := toTermO_call b (by omega)
  have e2 := eqTerm_call b
  have m2 := markTerm_call b (1 + mkNSy ss + 2 * a.cn) (by omega)
  have c1 := specLitMake_call ss (by omega) pos a b (by omega) (by omega)
  have c2 := implLitMake_call ss (by omega) pos a b (by omega) (by omega)
  have hk : (((1 + mkNSy ss + 2 * a.cn + 2 * b.cn : Nat)) : Int) ≥ 0 := by omega
  generalize lmk ss pos a b = u at *
  have eu := eqLit_call u
  have mu := markLit_call u 1 (by omega)
  have hd := heldLit_call u 1 (by omega)
  obtain ⟨f_1, v_1, ks_1⟩ := a
  obtain ⟨f_2, v_2, ks_2⟩ := b
  obtain ⟨p0, ⟨f0, v0, k0⟩, ⟨g0', u0, l0⟩⟩ := u
  apply laws_FnExactLitMake_of
  exact ⟨_, s0, ifB_f (decide_eq_false (Int.not_lt.2 g0)) ⟨_, s1, ifB_f (decide_eq_false (Int.not_lt.2 g1)) ⟨_, s2, ifB_f (decide_eq_false (Int.not_lt.2 g2)) ⟨_, t0, _, _, _, t1, _, _, _, t2, _, _, _, _, _, _, _, c1, _, t0, _, _, _, t1, _, _, _, t2, _, _, _, _, _, _, _, c2, _, eu, ifB_f rfl ⟨_, t0, _, e0, ifB_f rfl ⟨_, _, _, t1, _, e1, ifB_f rfl ⟨_, _, _, t2, _, e2, ifB_f rfl ⟨_, _, m0, _, _, m1, _, _, m2, ifB_f (decide_eq_false (by omega)) ⟨_, eu, ifB_f rfl ⟨_, _, _, mu, _, hd, ifB_f (decide_eq_false (by omega)) (ifB_f (by simp) ⟨_, t0, _, _, _, t1, _, _, _, t2, _, _, _, _, _, _, _, c2, _, eu, ifB_f rfl ⟨_, hd, ifB_f (decide_eq_false (by omega)) (ifB_f (by simp) ⟨rfl, rfl⟩)⟩⟩)⟩⟩⟩⟩⟩⟩⟩⟩⟩⟩

end AM
end Go.Proofs.Ytflfopedammhoaa
