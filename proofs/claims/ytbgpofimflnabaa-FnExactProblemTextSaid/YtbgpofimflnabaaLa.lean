/- Contracts of functions of the program, out of what their texts ask; no conditions. -/
import Derived.Test.YtbgpofimflnabaaHu9
import Derived.Test.YtbgpofimflnabaaDt
import Derived.Test.YtbgpofimflnabaaHr
set_option linter.unusedVariables false
set_option linter.unusedSimpArgs false
set_option maxRecDepth 100000
namespace Go.Proofs.Ytbgpofimflnabaa
namespace AM
open Go Go.ChangeShapes Go.WideShapes Go.RowKit

theorem laws_FnExactLitOk_law (ss : List Sy) (kss : ∀ y ∈ ss, Sy.ok y) (x : Li) (kx : x.ok) : XC Try.prog 4 [L (ss.map Sy.da), .dat x.da] [] (B true) [] := by
  have s0 := szSymS_call ss 1048576 (by omega) (by omega)
  rcases Int.lt_or_le (lft (cnL Sy.cn ss) 1048576) 0 with g0 | g0
  · obtain ⟨p_1, ⟨f_1, v_1, ks_1⟩, ⟨g_1, u_1, ms_1⟩⟩ := x; apply laws_FnExactLitOk_of; exact ⟨_, s0, ifB_t (decide_eq_true g0) ⟨rfl, rfl⟩⟩
  have q0 := lft_ok g0
  have s1 := szLit_call x _ g0 (by omega)
  rcases Int.lt_or_le (lft (x.cn) (lft (cnL Sy.cn ss) 1048576)) 0 with g1 | g1
  · obtain ⟨p_1, ⟨f_1, v_1, ks_1⟩, ⟨g_1, u_1, ms_1⟩⟩ := x; apply laws_FnExactLitOk_of; exact ⟨_, s0, ifB_f (decide_eq_false (Int.not_lt.2 g0)) ⟨_, s1, ifB_t (decide_eq_true g1) ⟨rfl, rfl⟩⟩⟩
  have q1 := lft_ok g1
  have t0 := toSymS_call ss (by omega)
  have e0 := eqSymS_call ss
  have t1 := toLit_call x (by omega)
  have e1 := eqLit_call x
  have c1 := specLitOk_call ss x (by omega)
  have c2 := implLitOk_call ss x (by omega)
  obtain ⟨p_1, ⟨f_1, v_1, ks_1⟩, ⟨g_1, u_1, ms_1⟩⟩ := x
  apply laws_FnExactLitOk_of
  exact ⟨_, s0, ifB_f (decide_eq_false (Int.not_lt.2 g0)) ⟨_, s1, ifB_f (decide_eq_false (Int.not_lt.2 g1)) ⟨_, t0, _, _, _, _, _, _, _, t1, _, c1, _, t0, _, _, _, _, _, _, _, t1, _, c2, ifB_f ne_decB ⟨_, t0, _, e0, ifB_f rfl ⟨_, _, _, _, _, _, _, t1, _, e1, ifB_f rfl ⟨rfl, rfl⟩⟩⟩⟩⟩⟩
theorem laws_FnExactClauseOk_law (ss : List Sy) (kss : ∀ y ∈ ss, Sy.ok y) (c : Cl) (kc : c.ok) : XC Try.prog 8 [L (ss.map Sy.da), .dat c.da] [] (B true) [] := by
  have s0 := szSymS_call ss 1048576 (by omega) (by omega)
  rcases Int.lt_or_le (lft (cnL Sy.cn ss) 1048576) 0 with g0 | g0
  · obtain ⟨ls_1⟩ := c; apply laws_FnExactClauseOk_of; exact ⟨_, s0, ifB_t (decide_eq_true g0) ⟨rfl, rfl⟩⟩
  have q0 := lft_ok g0
  have s1 := szClause_call c _ g0 (by omega)
  rcases Int.lt_or_le (lft (c.cn) (lft (cnL Sy.cn ss) 1048576)) 0 with g1 | g1
  · obtain ⟨ls_1⟩ := c; apply laws_FnExactClauseOk_of; exact ⟨_, s0, ifB_f (decide_eq_false (Int.not_lt.2 g0)) ⟨_, s1, ifB_t (decide_eq_true g1) ⟨rfl, rfl⟩⟩⟩
  have q1 := lft_ok g1
  have t0 := toSymS_call ss (by omega)
  have e0 := eqSymS_call ss
  have t1 := toClause_call c (by omega)
  have e1 := eqClause_call c
  have c1 := specClauseOk_call ss c (by omega)
  have c2 := implClauseOk_call ss c (by omega)
  obtain ⟨ls_1⟩ := c
  apply laws_FnExactClauseOk_of
  exact ⟨_, s0, ifB_f (decide_eq_false (Int.not_lt.2 g0)) ⟨_, s1, ifB_f (decide_eq_false (Int.not_lt.2 g1)) ⟨_, t0, _, t1, _, c1, _, t0, _, t1, _, c2, ifB_f ne_decB ⟨_, t0, _, e0, ifB_f rfl ⟨_, t1, _, e1, ifB_f rfl ⟨rfl, rfl⟩⟩⟩⟩⟩⟩
theorem laws_FnExactRefuted_law (l : List Sp) (kl : ∀ y ∈ l, Sp.ok y) : XC Try.prog 6 [L (l.map Sp.da)] [] (B true) [] := by
  have s0 := szStepS_call l 1048576 (by omega) (by omega)
  rcases Int.lt_or_le (lft (cnL Sp.cn l) 1048576) 0 with g0 | g0
  · apply laws_FnExactRefuted_of; exact ⟨_, s0, ifB_t (decide_eq_true g0) ⟨rfl, rfl⟩⟩
  have q0 := lft_ok g0
  have t0 := toStepS_call l (by omega)
  have e0 := eqStepS_call l
  have c1 := specRefuted_call l (by omega)
  have c2 := implRefuted_call l (by omega)
  apply laws_FnExactRefuted_of
  exact ⟨_, s0, ifB_f (decide_eq_false (Int.not_lt.2 g0)) ⟨_, t0, _, c1, _, t0, _, c2, ifB_f ne_decF ⟨_, t0, _, e0, ifB_f rfl ⟨rfl, rfl⟩⟩⟩⟩
theorem laws_FnExactVerdict_law (w : Wk) (kw : w.ok) : XC Try.prog 10 [.dat w.da] [] (B true) [] := by
  have s0 := szWork_call w 1048576 (by omega) (by omega)
  rcases Int.lt_or_le (lft (w.cn) 1048576) 0 with g0 | g0
  · obtain ⟨a1_1, a2_1, a3_1, a4_1, a5_1, a6_1⟩ := w; apply laws_FnExactVerdict_of; exact ⟨_, s0, ifB_t (decide_eq_true g0) ⟨rfl, rfl⟩⟩
  have q0 := lft_ok g0
  have t0 := toWork_call w (by omega)
  have e0 := eqWork_call w
  have c1 := specVerdict_call w (by omega)
  have c2 := implVerdict_call w (by omega)
  obtain ⟨a1_1, a2_1, a3_1, a4_1, a5_1, a6_1⟩ := w
  apply laws_FnExactVerdict_of
  exact ⟨_, s0, ifB_f (decide_eq_false (Int.not_lt.2 g0)) ⟨_, _, _, _, _, _, t0, _, c1, _, _, _, _, _, _, t0, _, c2, ifB_f ne_decF ⟨_, _, _, _, _, _, t0, _, e0, ifB_f rfl ⟨rfl, rfl⟩⟩⟩⟩
theorem laws_FnExactStepText_law (p : Sp) (kp : p.ok) : XC Try.prog 5 [.dat p.da] [] (B true) [] := by
  have s0 := szStep_call p 1048576 (by omega) (by omega)
  rcases Int.lt_or_le (lft (p.cn) 1048576) 0 with g0 | g0
  · obtain ⟨a1_1, a2_1, a3_1, a4_1, a5_1, a6_1, a7_1, a8_1, a9_1, a10_1, ⟨a11_1⟩⟩ := p; apply laws_FnExactStepText_of; exact ⟨_, s0, ifB_t (decide_eq_true g0) ⟨rfl, rfl⟩⟩
  have q0 := lft_ok g0
  have t0 := toStep_call p (by omega)
  have e0 := eqStep_call p
  have c1 := specStepText_call p kp
  have c2 := implStepText_call p kp
  obtain ⟨a1_1, a2_1, a3_1, a4_1, a5_1, a6_1, a7_1, a8_1, a9_1, a10_1, ⟨a11_1⟩⟩ := p
  apply laws_FnExactStepText_of
  exact ⟨_, s0, ifB_f (decide_eq_false (Int.not_lt.2 g0)) ⟨_, _, _, _, _, _, _, _, _, _, _, t0, _, c1, _, _, _, _, _, _, _, _, _, _, _, t0, _, c2, ifB_f ne_decS ⟨_, _, _, _, _, _, _, _, _, _, _, t0, _, e0, ifB_f rfl ⟨rfl, rfl⟩⟩⟩⟩
theorem laws_FnExactWorkText_law (w : Wk) (kw : w.ok) : XC Try.prog 11 [.dat w.da] [] (B true) [] := by
  have s0 := szWork_call w 1048576 (by omega) (by omega)
  rcases Int.lt_or_le (lft (w.cn) 1048576) 0 with g0 | g0
  · obtain ⟨a1_1, a2_1, a3_1, a4_1, a5_1, a6_1⟩ := w; apply laws_FnExactWorkText_of; exact ⟨_, s0, ifB_t (decide_eq_true g0) ⟨rfl, rfl⟩⟩
  have q0 := lft_ok g0
  have t0 := toWork_call w (by omega)
  have e0 := eqWork_call w
  have c1 := specWorkText_call w (by omega)
  have c2 := implWorkText_call w (by omega)
  obtain ⟨a1_1, a2_1, a3_1, a4_1, a5_1, a6_1⟩ := w
  apply laws_FnExactWorkText_of
  exact ⟨_, s0, ifB_f (decide_eq_false (Int.not_lt.2 g0)) ⟨_, _, _, _, _, _, t0, _, c1, _, _, _, _, _, _, t0, _, c2, ifB_f ne_decS ⟨_, _, _, _, _, _, t0, _, e0, ifB_f rfl ⟨rfl, rfl⟩⟩⟩⟩
theorem laws_FnExactLitText_law (ss : List Sy) (kss : ∀ y ∈ ss, Sy.ok y) (x : Li) (kx : x.ok) : XC Try.prog 3 [L (ss.map Sy.da), .dat x.da] [] (B true) [] := by
  have s0 := szSymS_call ss 1048576 (by omega) (by omega)
  rcases Int.lt_or_le (lft (cnL Sy.cn ss) 1048576) 0 with g0 | g0
  · obtain ⟨p_1, ⟨f_1, v_1, ks_1⟩, ⟨g_1, u_1, ms_1⟩⟩ := x; apply laws_FnExactLitText_of; exact ⟨_, s0, ifB_t (decide_eq_true g0) ⟨rfl, rfl⟩⟩
  have q0 := lft_ok g0
  have s1 := szLit_call x _ g0 (by omega)
  rcases Int.lt_or_le (lft (x.cn) (lft (cnL Sy.cn ss) 1048576)) 0 with g1 | g1
  · obtain ⟨p_1, ⟨f_1, v_1, ks_1⟩, ⟨g_1, u_1, ms_1⟩⟩ := x; apply laws_FnExactLitText_of; exact ⟨_, s0, ifB_f (decide_eq_false (Int.not_lt.2 g0)) ⟨_, s1, ifB_t (decide_eq_true g1) ⟨rfl, rfl⟩⟩⟩
  have q1 := lft_ok g1
  have t0 := toSymS_call ss (by omega)
  have e0 := eqSymS_call ss
  have t1 := toLit_call x (by omega)
  have e1 := eqLit_call x
  have c1 := specLitText_call ss x kx (by omega) (by omega)
  have c2 := implLitText_call ss x kx (by omega) (by omega)
  obtain ⟨p_1, ⟨f_1, v_1, ks_1⟩, ⟨g_1, u_1, ms_1⟩⟩ := x
  apply laws_FnExactLitText_of
  exact ⟨_, s0, ifB_f (decide_eq_false (Int.not_lt.2 g0)) ⟨_, s1, ifB_f (decide_eq_false (Int.not_lt.2 g1)) ⟨_, t0, _, _, _, _, _, _, _, t1, _, c1, _, t0, _, _, _, _, _, _, _, t1, _, c2, ifB_f ne_decS ⟨_, t0, _, e0, ifB_f rfl ⟨_, _, _, _, _, _, _, t1, _, e1, ifB_f rfl ⟨rfl, rfl⟩⟩⟩⟩⟩⟩
theorem laws_FnExactClauseText_law (ss : List Sy) (kss : ∀ y ∈ ss, Sy.ok y) (c : Cl) (kc : c.ok) : XC Try.prog 7 [L (ss.map Sy.da), .dat c.da] [] (B true) [] := by
  have s0 := szSymS_call ss 1048576 (by omega) (by omega)
  rcases Int.lt_or_le (lft (cnL Sy.cn ss) 1048576) 0 with g0 | g0
  · obtain ⟨ls_1⟩ := c; apply laws_FnExactClauseText_of; exact ⟨_, s0, ifB_t (decide_eq_true g0) ⟨rfl, rfl⟩⟩
  have q0 := lft_ok g0
  have s1 := szClause_call c _ g0 (by omega)
  rcases Int.lt_or_le (lft (c.cn) (lft (cnL Sy.cn ss) 1048576)) 0 with g1 | g1
  · obtain ⟨ls_1⟩ := c; apply laws_FnExactClauseText_of; exact ⟨_, s0, ifB_f (decide_eq_false (Int.not_lt.2 g0)) ⟨_, s1, ifB_t (decide_eq_true g1) ⟨rfl, rfl⟩⟩⟩
  have q1 := lft_ok g1
  have t0 := toSymS_call ss (by omega)
  have e0 := eqSymS_call ss
  have t1 := toClause_call c (by omega)
  have e1 := eqClause_call c
  have c1 := specClauseText_call ss c kc (by omega) (by omega)
  have c2 := implClauseText_call ss c kc (by omega) (by omega)
  obtain ⟨ls_1⟩ := c
  apply laws_FnExactClauseText_of
  exact ⟨_, s0, ifB_f (decide_eq_false (Int.not_lt.2 g0)) ⟨_, s1, ifB_f (decide_eq_false (Int.not_lt.2 g1)) ⟨_, t0, _, t1, _, c1, _, t0, _, t1, _, c2, ifB_f ne_decS ⟨_, t0, _, e0, ifB_f rfl ⟨_, t1, _, e1, ifB_f rfl ⟨rfl, rfl⟩⟩⟩⟩⟩⟩
theorem laws_FnExactProblemText_law (ss : List Sy) (kss : ∀ y ∈ ss, Sy.ok y) (l : List Cl) (kl : ∀ y ∈ l, Cl.ok y) : XC Try.prog 9 [L (ss.map Sy.da), L (l.map Cl.da)] [] (B true) [] := by
  have s0 := szSymS_call ss 1048576 (by omega) (by omega)
  rcases Int.lt_or_le (lft (cnL Sy.cn ss) 1048576) 0 with g0 | g0
  · apply laws_FnExactProblemText_of; exact ⟨_, s0, ifB_t (decide_eq_true g0) ⟨rfl, rfl⟩⟩
  have q0 := lft_ok g0
  have s1 := szClauseS_call l _ g0 (by omega)
  rcases Int.lt_or_le (lft (cnL Cl.cn l) (lft (cnL Sy.cn ss) 1048576)) 0 with g1 | g1
  · apply laws_FnExactProblemText_of; exact ⟨_, s0, ifB_f (decide_eq_false (Int.not_lt.2 g0)) ⟨_, s1, ifB_t (decide_eq_true g1) ⟨rfl, rfl⟩⟩⟩
  have q1 := lft_ok g1
  have t0 := toSymS_call ss (by omega)
  have e0 := eqSymS_call ss
  have t1 := toClauseS_call l (by omega)
  have e1 := eqClauseS_call l
  have c1 := specProblemText_call ss l kl (by omega) (by omega)
  have c2 := implProblemText_call ss l kl (by omega) (by omega)
  apply laws_FnExactProblemText_of
  exact ⟨_, s0, ifB_f (decide_eq_false (Int.not_lt.2 g0)) ⟨_, s1, ifB_f (decide_eq_false (Int.not_lt.2 g1)) ⟨_, t0, _, t1, _, c1, _, t0, _, t1, _, c2, ifB_f ne_decS ⟨_, t0, _, e0, ifB_f rfl ⟨_, t1, _, e1, ifB_f rfl ⟨rfl, rfl⟩⟩⟩⟩⟩⟩

end AM
end Go.Proofs.Ytbgpofimflnabaa
