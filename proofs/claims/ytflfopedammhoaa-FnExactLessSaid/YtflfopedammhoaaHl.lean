/- Contracts of functions of the program, out of what their texts ask; no conditions. -/
import Derived.Test.YtflfopedammhoaaHk
import Derived.Test.YtflfopedammhoaaDt
import Derived.Test.YtflfopedammhoaaHs
set_option linter.unusedVariables false
set_option linter.unusedSimpArgs false
set_option maxRecDepth 100000
namespace Go.Proofs.Ytflfopedammhoaa
namespace AM
open Go Go.ChangeShapes Go.WideShapes Go.RowKit

theorem heldIntS_loop (l0 : List Int) (hl : l0.length ≤ 100000000) : ∀ (l : List Int) (P : List (List Da)) (k : Nat), P.length + l.length ≤ 100000000 → k + l.length ≤ 281474976710656 → laws_heldIntS_L2 (Z ((k + l.length : Nat) : Int)) [] (P ++ (mkI k l).map In.da) (k : Int) (P.length : Int)
  | [], P, k, _, _ => by
    apply laws_heldIntS_L2_of
    exact ifB_f (decide_eq_false (by simp [mkI])) ⟨by simp, rfl⟩
  | n :: r, P, k, hp, hk => by
    simp only [List.length_cons] at hp hk
    apply laws_heldIntS_L2_of
    have e2 : (mkI k (n :: r)).map In.da = [.int .i64 (k : Int)] :: (mkI (k + 1) r).map In.da := rfl
    rw [e2]
    have w1 : IntKind.wrap .i64 ((k : Int) + 1) = ((k + 1 : Nat) : Int) := wrN (by omega) 1 (by omega)
    have w3 : IntKind.wrap .i64 ((P.length : Int) + 1) = ((P.length + 1 : Nat) : Int) := wrN (by omega) 1 (by omega)
    rw [w1, w3]
    refine ifB_t (decide_eq_true (by simp; omega)) ⟨P.length, rfl, _, get_mid, ifB_f (by simp) ?_⟩
    have ih := heldIntS_loop l0 hl r (P ++ [[.int .i64 (k : Int)]]) (k + 1) (by simp; omega) (by omega)
    rw [show k + (n :: r).length = k + 1 + r.length by simp; omega]
    simpa [List.append_assoc] using ih
theorem heldIntS_call (l : List Int) (k : Nat) (hl : l.length ≤ 100000000) (hk : k + l.length ≤ 281474976710656) : XC Try.prog 39 [L ((mkI k l).map In.da), Z (k : Int)] [] (Z ((k + l.length : Nat) : Int)) [] := by
  apply laws_heldIntS_of
  simpa using heldIntS_loop l hl l [] k (by simpa using hl) hk
theorem growInt_call (n : Nat) (hn : n ≤ 100000000) : XC Try.prog 156 [.one .e0, Z (n : Int)] [] (.one (.ol 0)) [(0, .tr 3 1 [])] := by
  have w0 : IntKind.wrap .i64 (0 - 0) = 0 := wrI (by omega) (by omega)
  have w1 : IntKind.wrap .i64 ((n : Int) - 0) = (n : Int) := wrI (by omega) (by omega)
  by_cases h : 0 < (n : Int)
  · refine XC.imp (I' := []) (O' := [(0, .lst 3 1 [])]) (slices_Grow_int_of ?_) .nil (.cons (obImp_flat (by simp [flatRows])) .nil)
    rw [w0, w1]
    refine ifB_f (by simp) (ifB_t (decide_eq_true h) ⟨0, rfl, ⟨rfl, rfl⟩, n, rfl, ⟨by simp; omega⟩, 0, rfl, ⟨by omega, by omega⟩, ⟨by omega⟩, rfl, by simp⟩)
  · apply slices_Grow_int_of
    rw [w0, w1]
    exact ifB_f (by simp) (ifB_f (decide_eq_false h) ⟨rfl, rfl⟩)
theorem concat2_call (a b : List Int) (ha : a.length ≤ 10000000) (hb : b.length ≤ 10000000) : XC Try.prog 100 [L [[.sl (a.map In.da)], [.sl (b.map In.da)]]] [] (.one (.ol 0)) [(0, .tr 3 1 ((a ++ b).map In.da))] := by
  have w1 : IntKind.wrap .i64 (0 + ((a.map In.da).length : Int)) = (a.length : Int) := by rw [List.length_map, wrI (by omega) (by omega)]; omega
  have w2 : IntKind.wrap .i64 ((a.length : Int) + ((b.map In.da).length : Int)) = ((a.length + b.length : Nat) : Int) := by rw [List.length_map, wrI (by omega) (by omega)]; omega
  have w3 : IntKind.wrap .i64 (0 + 1) = 1 := wrI (by omega) (by omega)
  have w4 : IntKind.wrap .i64 (1 + 1) = 2 := wrI (by omega) (by omega)
  apply slices_Concat_int_of
  apply slices_Concat_int_L3_of
  refine ifB_t rfl ⟨0, rfl, _, rfl, ifB_f ?_ ?_⟩
  · rw [w1]; simp
  rw [w1, w3]
  apply slices_Concat_int_L3_of
  refine ifB_t rfl ⟨1, rfl, _, rfl, ifB_f ?_ ?_⟩
  · rw [w2]; exact decide_eq_false (by omega)
  rw [w2, w4]
  apply slices_Concat_int_L3_of
  refine ifB_f rfl ⟨_, growInt_call _ (by omega), ?_⟩
  apply slices_Concat_int_L11_of
  refine ifB_t rfl ⟨0, rfl, _, rfl, ⟨ints_len _⟩, ⟨ints_flat _⟩, ⟨by simp; omega⟩, ?_⟩
  rw [w3]
  apply slices_Concat_int_L11_of
  refine ifB_t rfl ⟨1, rfl, _, rfl, ⟨ints_len _⟩, ⟨ints_flat _⟩, ⟨by simp; omega⟩, ?_⟩
  rw [w4]
  apply slices_Concat_int_L11_of
  exact ifB_f rfl ⟨rfl, by simp⟩
def cvs : List Li → List Int → List Int
  | [], out => out
  | x :: q, out => cvs q (x.r.vs (x.l.vs out))
theorem cvs_srt : ∀ (l : List Li) {out : List Int}, Srt out → Srt (cvs l out)
  | [], _, h => h
  | x :: q, _, h => cvs_srt q (x.r.srt_vs (x.l.srt_vs h))
theorem cvs_len : ∀ (l : List Li) (out : List Int), (cvs l out).length ≤ out.length + 2 * l.length + (l.map Li.cn).sum
  | [], out => by simp [cvs]
  | x :: q, out => by
    have h1 := x.l.vs_len out
    have h2 := x.r.vs_len (x.l.vs out)
    have h3 := cvs_len q (x.r.vs (x.l.vs out))
    have h4 : x.cn = x.l.cn + x.r.cn := rfl
    simp only [cvs, List.length_cons, List.map_cons, List.sum_cons]
    omega
theorem adds_vs (x : Li) {out : List Int} (h : Srt out) : adds out (x.l.vs [] ++ x.r.vs []) = x.r.vs (x.l.vs out) := by
  refine srt_ext (srt_adds h) (x.r.srt_vs (x.l.srt_vs h)) fun y => ?_
  rw [mem_adds, List.mem_append, Tm.mem_vs x.l [], Tm.mem_vs x.r [], Tm.mem_vs x.r, Tm.mem_vs x.l out]
  simp [or_assoc]
theorem specClauseVars_loop (ls : List Li) (hl : ls.length ≤ 1048576) : ∀ (q p : List Li) (out : List Int), ls = p ++ q → out.length + 2 * q.length + (q.map Li.cn).sum ≤ 10000000 → spec_ClauseVars_L3 (L ((cvs q out).map In.da)) [] (out.map In.da) (p.length : Int) (ls.map Li.da)
  | [], p, out, e, _ => by
    apply spec_ClauseVars_L3_of
    subst e
    exact ifB_f (lt_decF (by simp)) ⟨rfl, rfl⟩
  | x :: q, p, out, e, ho => by
    simp only [List.length_cons, List.map_cons, List.sum_cons] at ho
    have h4 : x.cn = x.l.cn + x.r.cn := rfl
    have h1 := x.l.vs_len out
    have h2 := x.r.vs_len (x.l.vs out)
    have ih := specClauseVars_loop ls hl q (p ++ [x]) (x.r.vs (x.l.vs out)) (by simp [e]) (by omega)
    have c1 := l3Vars_call x.l out (by omega)
    have c2 := l3Vars_call x.r (x.l.vs out) (by omega)
    subst e
    have hx : ((p ++ x :: q).map Li.da)[p.length]? = some x.da := map_app_get
    rw [len_app1] at ih
    rw [show cvs (x :: q) out = cvs q (x.r.vs (x.l.vs out)) from rfl]
    obtain ⟨b, ⟨f, v, ks⟩, ⟨g, u, ms⟩⟩ := x
    apply spec_ClauseVars_L3_of
    refine ifB_t (lt_dec (by simp)) ⟨p.length, rfl, _, _, _, _, _, _, _, hx, p.length, rfl, _, _, _, _, _, _, _, hx, _, c1, _, c2, ?_⟩
    rw [wr1 (n := p.length + 1) (by omega) (by simp at hl; omega)]
    exact ih
theorem specClauseVars_call (c : Cl) (hc : c.cn ≤ 1048576) : XC Try.prog 35 [.dat c.da] [] (L ((cvs c.ls []).map In.da)) [] := by
  obtain ⟨ls⟩ := c
  have h1 : ls.length + (ls.map Li.cn).sum ≤ 1048576 := hc
  apply spec_ClauseVars_of
  exact specClauseVars_loop ls (by omega) ls [] [] rfl (by simp; omega)
theorem implClauseVars_in (r : AV) (O : List (Nat × Ob)) (s10 : List (List Da)) (s11 s12 : Int) (w : List Int) (hw : w.length ≤ 20000000) : ∀ (q p out : List Int), w = p ++ q → out.length + q.length ≤ 50000000 → impl_ClauseVars_L3 r O s10 s11 (IntKind.wrap .i64 (s12 + 1)) ((adds out q).map In.da) → impl_ClauseVars_L6 r O s10 s11 s12 (w.length : Int) (p.length : Int) (out.map In.da) (w.map In.da)
  | [], p, out, e, _, h => by
    apply impl_ClauseVars_L6_of
    subst e
    exact ifB_f (lt_decF (by simp)) h
  | x :: q, p, out, e, ho, h => by
    simp only [List.length_cons] at ho
    have h1 := numAdd_len out x
    have ih := implClauseVars_in r O s10 s11 s12 w hw q (p ++ [x]) (numAdd out x) (by simp [e]) (by omega) h
    subst e
    rw [len_app1] at ih
    apply impl_ClauseVars_L6_of
    refine ifB_t (lt_dec (by simp)) ⟨p.length, rfl, ⟨by simp⟩, p.length, rfl, x, map_app_get, _, implNumAdd_call out x (by omega), ?_⟩
    rw [wr1 (n := p.length + 1) (by omega) (by simp at hw; omega)]
    exact ih
theorem implClauseVars_loop (ls : List Li) (hl : ls.length ≤ 1048576) : ∀ (q p : List Li) (out : List Int), ls = p ++ q → Srt out → out.length + 2 * q.length + (q.map Li.cn).sum ≤ 10000000 → (∀ x ∈ q, x.cn ≤ 1048576) → impl_ClauseVars_L3 (.one (.ol 0)) [(0, .tr 3 1 ((cvs q out).map In.da))] (ls.map Li.da) (ls.length : Int) (p.length : Int) (out.map In.da)
  | [], p, out, e, _, _, _ => by
    apply impl_ClauseVars_L3_of
    subst e
    exact ifB_f (lt_decF (by simp)) ⟨rfl, rfl⟩
  | x :: q, p, out, e, hs, ho, hq => by
    simp only [List.length_cons, List.map_cons, List.sum_cons] at ho
    have h4 : x.cn = x.l.cn + x.r.cn := rfl
    have h0 := hq x (by simp)
    have h1 := x.l.vs_len out
    have h2 := x.r.vs_len (x.l.vs out)
    have h5 := x.l.vs_len []
    have h6 := x.r.vs_len []
    simp only [List.length_nil] at h5 h6
    have ih := implClauseVars_loop ls hl q (p ++ [x]) (x.r.vs (x.l.vs out)) (by simp [e]) (x.r.srt_vs (x.l.srt_vs hs)) (by omega) (fun y hy => hq y (List.mem_cons_of_mem _ hy))
    have c1 := implVarsOf_call x.l (by omega)
    have c2 := implVarsOf_call x.r (by omega)
    have c3 := concat2_call (x.l.vs []) (x.r.vs []) (by omega) (by omega)
    have c4 := implClauseVars_in (.one (.ol 0)) [(0, .tr 3 1 ((cvs (x :: q) out).map In.da))] (ls.map Li.da) (ls.length : Int) (p.length : Int) (x.l.vs [] ++ x.r.vs []) (by simp; omega) (x.l.vs [] ++ x.r.vs []) [] out rfl (by simp; omega)
    rw [adds_vs x hs] at c4
    subst e
    have hx : ((p ++ x :: q).map Li.da)[p.length]? = some x.da := map_app_get
    rw [len_app1] at ih
    rw [wr1 (n := p.length + 1) (by omega) (by simp at hl; omega)] at c4
    have c5 := c4 ih
    obtain ⟨b, ⟨f, v, ks⟩, ⟨g, u, ms⟩⟩ := x
    apply impl_ClauseVars_L3_of
    refine ifB_t (lt_dec (by simp)) ⟨p.length, rfl, _, _, _, _, _, _, _, hx, _, c1, _, c2, _, c3, ?_⟩
    rw [List.length_map]
    exact c5
theorem implClauseVars_call (c : Cl) (hc : c.cn ≤ 1048576) : XC Try.prog 36 [.dat c.da] [] (.one (.ol 0)) [(0, .tr 3 1 ((cvs c.ls []).map In.da))] := by
  obtain ⟨ls⟩ := c
  have h1 : ls.length + (ls.map Li.cn).sum ≤ 1048576 := hc
  apply impl_ClauseVars_of
  have := implClauseVars_loop ls (by omega) ls [] [] rfl (by simp [Srt]) (by simp; omega) (fun x hx => by have := cnL_mem (cn := Li.cn) hx; have h3 : cnL Li.cn ls = ls.length + (ls.map Li.cn).sum := rfl; omega)
  rw [List.length_map]
  exact this
theorem laws_FnExactClauseVars_law (c : Cl) (kc : c.ok) : XC Try.prog 5 [.dat c.da] [] (B true) [] := by
  have s0 := szClause_call c 1048576 (by omega) (by omega)
  rcases Int.lt_or_le (lft c.cn 1048576) 0 with g0 | g0
  · obtain ⟨ls⟩ := c
    apply laws_FnExactClauseVars_of
    exact ⟨_, s0, ifB_t (decide_eq_true g0) ⟨rfl, rfl⟩⟩
  have q0 := lft_ok g0
  have hc : c.cn ≤ 1048576 := by omega
  have h2 : c.cn = c.ls.length + (c.ls.map Li.cn).sum := rfl
  have hmk : mkN c.ls ≤ 5242880 := by have := mkN_le c.ls; have h2 : c.cn = cnL Li.cn c.ls := rfl; omega
  have t0 := toClauseO_call c hc
  have c1 := specClauseVars_call c hc
  have c2 := implClauseVars_call c hc
  have e0 := eqClause_call c
  have ei := eqIntS_call (cvs c.ls [])
  have m0 := markClause_call c 1 (by omega) (by omega)
  have hl := cvs_len c.ls []
  simp only [List.length_nil] at hl
  have mi := markIntS_call (cvs c.ls []) 1 (by omega) (by omega)
  have hd := heldIntS_call (cvs c.ls []) 1 (by omega) (by omega)
  obtain ⟨ls⟩ := c
  apply laws_FnExactClauseVars_of
  exact ⟨_, s0, ifB_f (decide_eq_false (Int.not_lt.2 g0)) ⟨_, t0, _, c1, _, t0, _, c2, _, ei, ifB_f rfl ⟨_, t0, _, e0, ifB_f rfl ⟨_, _, m0, ifB_f (decide_eq_false (by omega)) ⟨_, ei, ifB_f rfl ⟨_, _, mi, _, hd, ifB_f (decide_eq_false (by omega)) (ifB_f (by simp) ⟨_, t0, _, c2, _, ei, ifB_f rfl ⟨_, hd, ifB_f (decide_eq_false (by omega)) (ifB_f (by simp) ⟨rfl, rfl⟩)⟩⟩)⟩⟩⟩⟩⟩⟩

end AM
end Go.Proofs.Ytflfopedammhoaa
