/- Contracts of functions of the program, out of what their texts ask; no conditions. -/
import Derived.Test.YtflfopedammhoaaHj
import Derived.Test.YtflfopedammhoaaDt
import Derived.Test.YtflfopedammhoaaPfB
set_option linter.unusedVariables false
set_option linter.unusedSimpArgs false
set_option maxRecDepth 100000
namespace Go.Proofs.Ytflfopedammhoaa
namespace AM
open Go Go.ChangeShapes Go.WideShapes Go.RowKit

theorem l3Vars_loop (f v : Int) (ks : List Tm) (hk : ks.length ≤ 100000000) : ∀ (q p : List Tm) (out : List Int), ks = p ++ q → out.length + Tm.cns q ≤ 50000000 → (∀ t ∈ q, ∀ o : List Int, o.length + t.cn + 1 ≤ 50000000 → XC Try.prog 99 [.dat t.da, L (o.map In.da)] [] (L ((t.vs o).map In.da)) []) → spec_l3Vars_L4 (L ((Tm.vss q out).map In.da)) [] (out.map In.da) (p.length : Int) f v (Tm.das ks)
  | [], p, out, e, _, _ => by
    apply spec_l3Vars_L4_of
    subst e
    exact ifB_f (lt_decF (by simp [das_len])) ⟨rfl, rfl⟩
  | .mk g u ls :: q, p, out, e, ho, hc => by
    apply spec_l3Vars_L4_of
    have hcn : Tm.cns (.mk g u ls :: q) = 1 + (Tm.mk g u ls).cn + Tm.cns q := by simp [Tm.cns]
    have hl := Tm.vs_len (.mk g u ls) out
    have ih := l3Vars_loop f v ks hk q (p ++ [.mk g u ls]) (Tm.vs (.mk g u ls) out) (by simp [e]) (by omega) (fun t ht => hc t (List.mem_cons_of_mem _ ht))
    subst e
    rw [len_app1] at ih
    refine ifB_t (lt_dec (by simp [das_len])) ⟨p.length, rfl, g, u, Tm.das ls, das_app_get, _, hc (.mk g u ls) (by simp) out (by omega), ?_⟩
    rw [wr1 (n := p.length + 1) (by omega) (by simp at hk; omega)]
    exact ih
theorem l3Vars_call (t : Tm) : ∀ out : List Int, out.length + t.cn + 1 ≤ 50000000 → XC Try.prog 99 [.dat t.da, L (out.map In.da)] [] (L ((t.vs out).map In.da)) [] := by
  induction t using Tm.ind with
  | h f v ks ih =>
  intro out ho
  have hcn : (Tm.mk f v ks).cn = Tm.cns ks := by simp [Tm.cn]
  have hl := numAdd_len out v
  have hkl := Tm.cns_cnL ks ▸ cnL_len Tm.cn ks
  apply spec_l3Vars_of
  by_cases h : f = -1
  · refine ifB_t (by simpa using h) ⟨_, specNumAdd_call out v (by omega), ?_⟩
    have := l3Vars_loop f v ks (by omega) ks [] (numAdd out v) rfl (by omega) ih
    simpa [Tm.vs, h] using this
  · refine ifB_f (by simpa using h) ?_
    have := l3Vars_loop f v ks (by omega) ks [] out rfl (by omega) ih
    simpa [Tm.vs, h] using this
theorem specVarsOf_call (t : Tm) (hc : t.cn ≤ 1048576) : XC Try.prog 122 [.dat t.da] [] (L ((t.vs []).map In.da)) [] := by
  obtain ⟨f, v, ks⟩ := t
  apply spec_VarsOf_of
  exact ⟨_, l3Vars_call (.mk f v ks) [] (by simp; omega), rfl, rfl⟩
theorem isVarK_call (t : Tm) : XC Try.prog 85 [.dat t.da] [] (B (decide (t.f = -1))) [] := by
  obtain ⟨f, v, ks⟩ := t
  exact impl_isVar_of ⟨rfl, rfl⟩
theorem varsOf1_call (t : Tm) (o : List Int) (hl : o.length ≤ 50000000) : XC Try.prog 158 [.dat t.da, .one (.op 2000 0)] [(2000, .var [.ol 2001]), (2001, .tr 3 1 (o.map In.da))] (.tup []) [(2000, .var [.ol 0]), (0, .tr 3 1 ((if t.f = -1 then numAdd o t.v else o).map In.da))] := by
  obtain ⟨f, v, ks⟩ := t
  apply impl_VarsOf_1_of
  refine ⟨_, isVarK_call (.mk f v ks), ?_⟩
  by_cases h : f = -1
  · exact ifB_t (decide_eq_true h) ⟨_, implNumAdd_call o v (by omega), rfl, by simp [Tm.f, Tm.v, h]⟩
  · exact ifB_f (decide_eq_false h) ⟨rfl, by simp [Tm.f, h]⟩
theorem eachVars_loop (ks : List Tm) (hk : ks.length ≤ 100000000) : ∀ (q p : List Tm) (out : List Int), ks = p ++ q → out.length + Tm.cns q ≤ 50000000 → (∀ t ∈ q, ∀ o : List Int, o.length + t.cn + 1 ≤ 50000000 → XC Try.prog 157 [.dat t.da, .one (.clo 158 [(2000, 0)])] [(2000, .var [.ol 2001]), (2001, .tr 3 1 (o.map In.da))] (.tup []) [(2000, .var [.ol 0]), (0, .tr 3 1 ((t.vs o).map In.da))]) → impl_each_impl_VarsOf_1_L3 (.tup []) [(2000, .var [.ol 0]), (0, .tr 3 1 ((Tm.vss q out).map In.da))] (Tm.das ks) (ks.length : Int) (p.length : Int) (out.map In.da)
  | [], p, out, e, _, _ => by
    apply impl_each_impl_VarsOf_1_L3_of
    subst e
    exact ifB_f (lt_decF (by simp)) ⟨rfl, rfl⟩
  | .mk g u ls :: q, p, out, e, ho, hc => by
    apply impl_each_impl_VarsOf_1_L3_of
    have hcn : Tm.cns (.mk g u ls :: q) = 1 + (Tm.mk g u ls).cn + Tm.cns q := by simp [Tm.cns]
    have hl := Tm.vs_len (.mk g u ls) out
    have ih := eachVars_loop ks hk q (p ++ [.mk g u ls]) (Tm.vs (.mk g u ls) out) (by simp [e]) (by omega) (fun t ht => hc t (List.mem_cons_of_mem _ ht))
    subst e
    rw [len_app1] at ih
    refine ifB_t (lt_dec (by simp)) ⟨p.length, rfl, g, u, Tm.das ls, das_app_get, _, hc (.mk g u ls) (by simp) out (by omega), ?_⟩
    rw [wr1 (n := p.length + 1) (by omega) (by simp at hk; omega)]
    exact ih
theorem eachVars_call (t : Tm) : ∀ o : List Int, o.length + t.cn + 1 ≤ 50000000 → XC Try.prog 157 [.dat t.da, .one (.clo 158 [(2000, 0)])] [(2000, .var [.ol 2001]), (2001, .tr 3 1 (o.map In.da))] (.tup []) [(2000, .var [.ol 0]), (0, .tr 3 1 ((t.vs o).map In.da))] := by
  induction t using Tm.ind with
  | h f v ks ih =>
  intro o ho
  have hcn : (Tm.mk f v ks).cn = Tm.cns ks := by simp [Tm.cn]
  have hl := numAdd_len o v
  have hkl := Tm.cns_cnL ks ▸ cnL_len Tm.cn ks
  apply impl_each_impl_VarsOf_1_of
  refine ⟨_, varsOf1_call (.mk f v ks) o (by omega), ?_⟩
  have := eachVars_loop ks (by omega) ks [] (if f = -1 then numAdd o v else o) rfl (by split <;> omega) ih
  rw [das_len]
  exact this
theorem implVarsOf_call (t : Tm) (hc : t.cn ≤ 1048576) : XC Try.prog 101 [.dat t.da] [] (.one (.ol 0)) [(0, .tr 3 1 ((t.vs []).map In.da))] := by
  obtain ⟨f, v, ks⟩ := t
  apply impl_VarsOf_of
  exact ⟨_, eachVars_call (.mk f v ks) [] (by simp; omega), rfl, rfl⟩
theorem count_loop (f v x : Int) (ks : List Tm) (hk : Tm.cns ks ≤ 1048576) : ∀ (q p : List Tm) (n : Nat), ks = p ++ q → n + Tm.cns q ≤ 50000000 → (∀ t ∈ q, XC Try.prog 123 [.dat t.da, Z x] [] (Z (t.cnt x : Int)) []) → spec_Count_L3 (Z ((n + Tm.cnts q x : Nat) : Int)) [] x (n : Int) (p.length : Int) f v (Tm.das ks)
  | [], p, n, e, _, _ => by
    apply spec_Count_L3_of
    subst e
    exact ifB_f (lt_decF (by simp [das_len])) ⟨by simp [Tm.cnts], rfl⟩
  | .mk g u ls :: q, p, n, e, ho, hc => by
    apply spec_Count_L3_of
    have hcn : Tm.cns (.mk g u ls :: q) = 1 + (Tm.mk g u ls).cn + Tm.cns q := by simp [Tm.cns]
    have hl := Tm.cnt_le (.mk g u ls) x
    have hkl := Tm.cns_cnL ks ▸ cnL_len Tm.cn ks
    have ih := count_loop f v x ks hk q (p ++ [.mk g u ls]) (n + (Tm.mk g u ls).cnt x) (by simp [e]) (by omega) (fun t ht => hc t (List.mem_cons_of_mem _ ht))
    subst e
    rw [len_app1] at ih
    refine ifB_t (lt_dec (by simp [das_len])) ⟨p.length, rfl, g, u, Tm.das ls, das_app_get, _, hc (.mk g u ls) (by simp), ?_⟩
    have w : IntKind.wrap .i64 ((n : Int) + ((Tm.mk g u ls).cnt x : Int)) = ((n + (Tm.mk g u ls).cnt x : Nat) : Int) := by rw [wrI (by omega) (by omega)]; simp
    rw [wr1 (n := p.length + 1) (by omega) (by simp at hkl; omega), w]
    have e2 : n + Tm.cnts (.mk g u ls :: q) x = n + (Tm.mk g u ls).cnt x + Tm.cnts q x := by simp only [Tm.cnts]; omega
    rw [e2]
    exact ih
theorem count_call (t : Tm) (x : Int) : t.cn ≤ 1048576 → XC Try.prog 123 [.dat t.da, Z x] [] (Z (t.cnt x : Int)) [] := by
  induction t using Tm.ind with
  | h f v ks ih =>
  intro hc
  have hcn : (Tm.mk f v ks).cn = Tm.cns ks := by simp [Tm.cn]
  rw [hcn] at hc
  have ih' : ∀ t ∈ ks, XC Try.prog 123 [.dat t.da, Z x] [] (Z (t.cnt x : Int)) [] := fun t ht => ih t ht (by have := Tm.cns_cnL ks ▸ cnL_mem (cn := Tm.cn) ht; omega)
  apply spec_Count_of
  by_cases h : f = -1
  · refine ifB_t (by simpa using h) ?_
    by_cases hv : v = x
    · have := count_loop f v x ks hc ks [] 1 rfl (by omega) ih'
      exact ⟨1, spec_l1Bit_of (ifB_t (by simpa using hv) ⟨rfl, rfl⟩), by simpa [Tm.cnt, h, hv] using this⟩
    · have := count_loop f v x ks hc ks [] 0 rfl (by omega) ih'
      exact ⟨0, spec_l1Bit_of (ifB_f (by simpa using hv) ⟨rfl, rfl⟩), by simpa [Tm.cnt, h, hv] using this⟩
  · refine ifB_f (by simpa using h) ?_
    have := count_loop f v x ks hc ks [] 0 rfl (by omega) ih'
    exact ⟨0, spec_l1Bit_of (ifB_f rfl ⟨rfl, rfl⟩), by simpa [Tm.cnt, h] using this⟩

end AM
end Go.Proofs.Ytflfopedammhoaa
