/- Contracts of functions of the program, out of what their texts ask; no conditions. -/
import Derived.Test.YtflfopedammhoaaHm
import Derived.Test.YtflfopedammhoaaDt
import Derived.Test.YtflfopedammhoaaHr
set_option linter.unusedVariables false
set_option linter.unusedSimpArgs false
set_option maxRecDepth 100000
namespace Go.Proofs.Ytflfopedammhoaa
namespace AM
open Go Go.ChangeShapes Go.WideShapes Go.RowKit

theorem toSymO_call (x : Sy) : XC Try.prog 91 [.dat x.da] [] (.dat x.da) [] := by
  obtain ⟨a, b, c⟩ := x
  exact laws_toSym_of ⟨rfl, rfl⟩
theorem toSymSO_call (l : List Sy) (hc : cnL Sy.cn l ≤ 1048576) : XC Try.prog 27 [L (l.map Sy.da)] [] (.one (.ol 0)) [(0, .tr 119 3 (l.map Sy.da))] := by
  have hl := cnL_len Sy.cn l
  apply laws_toSymS_of
  refine ⟨l.length, l.length, by simp, by simp, ⟨by omega, by omega, by omega⟩, ?_⟩
  have key := loopUp (p := fun i => laws_toSymS_L3 (.one (.ol 0)) [(0, .tr 119 3 (l.map Sy.da))] (l.map Sy.da) (i : Int) ((l.map Sy.da).take i ++ List.replicate ((l.map Sy.da).length - i) [.str ⟨#[]⟩, .int .i64 0, .bool false])) l.length ?_ ?_ 0 (Nat.zero_le _)
  · rw [List.take_zero, List.nil_append, Nat.sub_zero, List.length_map] at key
    exact key
  · apply laws_toSymS_L3_of
    refine ifB_f (lt_decF (by simp)) ⟨rfl, ?_⟩
    rw [fill_all rfl (by simp)]
  · intro i hi ih
    obtain ⟨x, hx⟩ := get_ex hi
    have hx1 := get_map (g := Sy.da) hx
    have hxc := toSymO_call x
    have hd := Sy.da_len x
    obtain ⟨a, b, c⟩ := x
    apply laws_toSymS_L3_of
    refine ifB_t (lt_dec (by simpa using hi)) ⟨i, rfl, _, _, _, hx1, _, _, _, hxc, i, rfl, ⟨by simp; omega⟩, i, by omega, _, _, _, fill_get rfl (by simpa using hi), ?_⟩
    rw [wr1 hi (by omega)]
    have he := fill_setE (z := [.str ⟨#[]⟩, .int .i64 0, .bool false]) (n := (l.map Sy.da).length) rfl hx1 hd rfl
    exact he ▸ ih
theorem toRuleO_call (x : Ru) (hc : x.cn ≤ 1048576) : XC Try.prog 51 [.dat x.da] [] (.agg [.d (.int .i64 x.l.f), .d (.int .i64 x.l.v), .ol 0, .d (.int .i64 x.r.f), .d (.int .i64 x.r.v), .ol 1]) [(0, .tr 30 3 (Tm.das x.l.ks)), (1, .tr 30 3 (Tm.das x.r.ks))] := by
  have h0 : x.cn = x.l.cn + x.r.cn := rfl
  have h1 := toTermO_call x.l (by omega)
  have h2 := toTermO_call x.r (by omega)
  obtain ⟨⟨f, v, ks⟩, ⟨g, u, ms⟩⟩ := x
  apply laws_toRule_of
  exact ⟨_, _, _, h1, _, _, _, h2, rfl, rfl⟩
theorem srt_last {l : List Int} (h : Srt l) (n : Int) (hne : l ≠ []) : (∀ x ∈ l, x < n) ↔ ∃ x, l[l.length - 1]? = some x ∧ x < n := by
  obtain ⟨r, x, rfl⟩ := List.eq_nil_or_concat l |>.resolve_left hne
  rw [List.concat_eq_append] at h ⊢
  have hx : (r ++ [x])[(r ++ [x]).length - 1]? = some x := by simp
  constructor
  · intro h1; exact ⟨x, hx, h1 x (by simp)⟩
  · rintro ⟨y, hy, h2⟩ z hz
    rw [hx] at hy
    cases hy
    rcases List.mem_append.1 hz with hz | hz
    · have := (List.pairwise_append.1 h).2.2 z hz x (by simp); omega
    · rw [List.mem_singleton.1 hz]; exact h2
theorem mem_vars {t : Tm} {x : Int} : x ∈ t.vs [] ↔ t.occ x := by rw [Tm.mem_vs]; simp
def bel (t : Tm) (n : Int) : Prop := ∀ x, t.occ x → x < n
/-- When a rule is one. -/
def RuOk (ss : List Sy) (x : Ru) : Prop := TmOk ss x.l ∧ TmOk ss x.r ∧ x.l.f ≠ -1 ∧ bel x.l 60 ∧ ∀ y, x.r.occ y → x.l.occ y
theorem below_call (t : Tm) (n : Int) (hc : t.cn ≤ 1048576) : XC Try.prog 121 [.dat t.da, Z n] [] (B (dB (bel t n))) [] := by
  have h1 := specVarsOf_call t hc
  have hlen := t.vs_len []
  have hs := t.srt_vs (out := []) (by simp [Srt])
  have hb : bel t n ↔ ∀ x ∈ t.vs [], x < n := by simp only [mem_vars]; rfl
  generalize t.vs [] = l at *
  simp only [List.length_nil] at hlen
  obtain ⟨f, v, ks⟩ := t
  apply spec_l14Below_of
  refine ⟨_, h1, ?_⟩
  by_cases h0 : l = []
  · subst h0
    exact ifB_t (by simp) (dB_t (hb.2 (by simp)))
  · have hp : 0 < l.length := List.length_pos_iff.2 h0
    obtain ⟨x, hx⟩ := get_ex (l := l) (i := l.length - 1) (by omega)
    refine ifB_f (by simpa using h0) ⟨l.length - 1, ?_, x, get_map (g := In.da) hx, dB_e ?_⟩
    · rw [List.length_map, wrI (by omega) (by omega)]; omega
    · rw [hb, srt_last hs n h0, hx]; simp
theorem specRuleOk_loop (ss : List Sy) (x : Ru) (hc : x.l.cn ≤ 1048576) (l : List Int) (hl : l.length ≤ 10000000) (G : Prop) (hG : G ↔ ∀ y ∈ l, x.l.occ y) : ∀ (q p : List Int), l = p ++ q → (∀ y ∈ p, x.l.occ y) → spec_RuleOk_L5 (B (dB G)) [] (l.map In.da) (p.length : Int) x.l.f x.l.v (Tm.das x.l.ks) x.r.f x.r.v (Tm.das x.r.ks)
  | [], p, e, hp => by
    apply spec_RuleOk_L5_of
    subst e
    exact ifB_f (lt_decF (by simp)) (dB_t (hG.2 (by simpa using hp)))
  | y :: q, p, e, hp => by
    have hcc := count_call x.l y hc
    have ih := specRuleOk_loop ss x hc l hl G hG q (p ++ [y]) (by simp [e])
    have hz := x.l.cnt_zero y
    subst e
    rw [len_app1] at ih
    have ed : x.l.da = [.int .i64 x.l.f, .int .i64 x.l.v, .sl (Tm.das x.l.ks)] := by obtain ⟨⟨f, v, ks⟩, r⟩ := x; rfl
    rw [ed] at hcc
    apply spec_RuleOk_L5_of
    refine ifB_t (lt_dec (by simp)) ⟨p.length, rfl, y, map_app_get, _, hcc, ?_⟩
    by_cases h : x.l.cnt y = 0
    · refine ifB_t (by simpa using h) (dB_f fun hg => ?_)
      exact (hz.1 h) (hG.1 hg y (by simp))
    · refine ifB_f (by simpa using h) ?_
      rw [wr1 (n := p.length + 1) (by omega) (by simp at hl; omega)]
      refine ih fun z hz' => ?_
      rcases List.mem_append.1 hz' with h1 | h1
      · exact hp z h1
      · rw [List.mem_singleton.1 h1]
        exact Classical.not_not.1 fun hn => h (hz.2 hn)
theorem specRuleOk_call (ss : List Sy) (x : Ru) (hc : x.cn ≤ 1048576) : XC Try.prog 56 [L (ss.map Sy.da), .dat x.da] [] (B (dB (RuOk ss x))) [] := by
  have h0 : x.cn = x.l.cn + x.r.cn := rfl
  have t1 := specTermOk_call ss x.l (by omega)
  have t2 := specTermOk_call ss x.r (by omega)
  have b1 := below_call x.l 60 (by omega)
  have b2 := below_call x.r 60 (by omega)
  have v2 := specVarsOf_call x.r (by omega)
  have hlen := x.r.vs_len []
  simp only [List.length_nil] at hlen
  have lp := fun (G : Prop) hG => specRuleOk_loop ss x (by omega) (x.r.vs []) (by omega) G hG (x.r.vs []) [] rfl (by simp)
  obtain ⟨⟨f, v, ks⟩, ⟨g, u, ms⟩⟩ := x
  apply spec_RuleOk_of
  refine ⟨_, t1, ifB_of (fun h => dB_f fun hr => ?_) fun h1 => ⟨_, t2, ifB_of (fun h => dB_f fun hr => ?_) fun h2 => ifB_of (fun h => dB_f fun hr => ?_) fun h3 => ⟨_, b1, ifB_of (fun h => dB_f fun hr => ?_) fun h4 => ⟨_, b2, ifB_of (fun h => dB_f fun hr => ?_) fun h5 => ⟨_, v2, lp _ ?_⟩⟩⟩⟩⟩
  · exact dB_false.1 (not_t h) hr.1
  · exact dB_false.1 (not_t h) hr.2.1
  · exact hr.2.2.1 (by simpa [Tm.f] using h)
  · exact dB_false.1 (not_t h) hr.2.2.2.1
  · exact dB_false.1 (not_t h) fun y hy => hr.2.2.2.1 y (hr.2.2.2.2 y hy)
  · simp only [mem_vars]
    exact ⟨fun hr => hr.2.2.2.2, fun hv => ⟨dB_true.1 (not_f h1), dB_true.1 (not_f h2), by simpa [Tm.f] using h3, dB_true.1 (not_f h4), hv⟩⟩
theorem idxR1_loop (l : List Int) (hl : l.length ≤ 100000000) : ∀ (q p : List Int), l = p ++ q → slices_IndexFunc_int_impl_RuleOk_1_L2 (Z (idxP (fun x => decide (60 ≤ x)) q p.length)) [] (l.map In.da) (l.length : Int) (p.length : Int)
  | [], p, e => by
    apply slices_IndexFunc_int_impl_RuleOk_1_L2_of
    subst e
    exact ifB_f (lt_decF (by simp)) ⟨rfl, rfl⟩
  | x :: q, p, e => by
    apply slices_IndexFunc_int_impl_RuleOk_1_L2_of
    have ih := idxR1_loop l hl q (p ++ [x]) (by simp [e])
    subst e
    rw [len_app1] at ih
    refine ifB_t (lt_dec (by simp)) ⟨p.length, rfl, x, map_app_get, _, impl_RuleOk_1_of ⟨rfl, rfl⟩, ?_⟩
    by_cases h : 60 ≤ x
    · exact ifB_t (by simpa using h) ⟨by simp [idxP, h], rfl⟩
    · refine ifB_f (by simpa using h) ?_
      rw [wr1 (n := p.length + 1) (by omega) (by simp at hl; omega)]
      simpa [idxP, h] using ih
theorem containsR1_call (l : List Int) (hl : l.length ≤ 100000000) : XC Try.prog 125 [L (l.map In.da), .one (.d (.fn 126))] [] (B (dB (∃ x ∈ l, 60 ≤ x))) [] := by
  apply slices_ContainsFunc_int_impl_RuleOk_1_of
  refine ⟨_, slices_IndexFunc_int_impl_RuleOk_1_of (by simpa using idxR1_loop l hl l [] rfl), dB_e ?_⟩
  rw [decide_eq_true_iff, idxP_neg]; simp
theorem idxR2_loop (o : List Int) (ho : o.length ≤ 100000000) (l : List Int) (hl : l.length ≤ 100000000) : ∀ (q p : List Int), l = p ++ q → slices_IndexFunc_int_impl_RuleOk_2_L2 (Z (idxP (fun x => !decide (x ∈ o)) q p.length)) [(2000, .var [.ol 0]), (0, .tr 3 1 (o.map In.da))] (l.map In.da) (l.length : Int) (p.length : Int) (o.map In.da)
  | [], p, e => by
    apply slices_IndexFunc_int_impl_RuleOk_2_L2_of
    subst e
    exact ifB_f (lt_decF (by simp)) ⟨rfl, rfl⟩
  | x :: q, p, e => by
    apply slices_IndexFunc_int_impl_RuleOk_2_L2_of
    have ih := idxR2_loop o ho l hl q (p ++ [x]) (by simp [e])
    subst e
    rw [len_app1] at ih
    refine ifB_t (lt_dec (by simp)) ⟨p.length, rfl, x, map_app_get, _, _, impl_RuleOk_2_of ⟨_, implNumIn_call o x ho, rfl, rfl⟩, ?_⟩
    by_cases h : x ∈ o
    · refine ifB_f (by simpa using h) ?_
      rw [wr1 (n := p.length + 1) (by omega) (by simp at hl; omega)]
      simpa [idxP, h] using ih
    · exact ifB_t (by simpa using h) ⟨by simp [idxP, h], rfl⟩
theorem containsR2_call (o : List Int) (ho : o.length ≤ 100000000) (l : List Int) (hl : l.length ≤ 100000000) : XC Try.prog 125 [L (l.map In.da), .one (.clo 127 [(2000, 0)])] [(2000, .var [.ol 2001]), (2001, .tr 3 1 (o.map In.da))] (B (dB (∃ x ∈ l, x ∉ o))) [(2000, .var [.ol 0]), (0, .tr 3 1 (o.map In.da))] := by
  apply slices_ContainsFunc_int_impl_RuleOk_2_of
  refine ⟨_, _, slices_IndexFunc_int_impl_RuleOk_2_of (by simpa using idxR2_loop o ho l hl l [] rfl), ?_, rfl⟩
  congr 1
  rw [Bool.eq_iff_iff, dB_true, decide_eq_true_iff, idxP_neg]; simp
theorem isVarR_call (t : Tm) : XC Try.prog 85 [.dat t.da] [] (B (decide (t.f = -1))) [] := isVarK_call t
theorem implRuleOk_call (ss : List Sy) (x : Ru) (hc : x.cn ≤ 1048576) : XC Try.prog 57 [L (ss.map Sy.da), .dat x.da] [] (B (dB (RuOk ss x))) [] := by
  have h0 : x.cn = x.l.cn + x.r.cn := rfl
  have t1 := implTermOk_call ss x.l (by omega)
  have t2 := implTermOk_call ss x.r (by omega)
  have v1 := implVarsOf_call x.l (by omega)
  have v2 := implVarsOf_call x.r (by omega)
  have i1 := isVarR_call x.l
  have l1 := x.l.vs_len []
  have l2 := x.r.vs_len []
  simp only [List.length_nil] at l1 l2
  have k1 := containsR1_call (x.l.vs []) (by omega)
  have k2 := containsR2_call (x.l.vs []) (by omega) (x.r.vs []) (by omega)
  simp only [mem_vars] at k1 k2
  obtain ⟨⟨f, v, ks⟩, ⟨g, u, ms⟩⟩ := x
  apply impl_RuleOk_of
  refine ⟨_, v1, _, t1, ifB_of (fun h => dB_f fun hr => ?_) fun h1 => ⟨_, t2, ifB_of (fun h => dB_f fun hr => ?_) fun h2 => ⟨_, i1, ifB_of (fun h => dB_f fun hr => ?_) fun h3 => ⟨_, k1, ifB_of (fun h => dB_f fun hr => ?_) fun h4 => ⟨_, v2, _, _, k2, dB_e ?_⟩⟩⟩⟩⟩
  · exact dB_false.1 (not_t h) hr.1
  · exact dB_false.1 (not_t h) hr.2.1
  · exact hr.2.2.1 (of_decide_eq_true h)
  · obtain ⟨y, hy, h60⟩ := dB_true.1 h
    have := hr.2.2.2.1 y hy
    omega
  · have h4' := dB_false.1 h4
    simp only [Bool.not_eq_true', dB_false, not_exists, not_and, Classical.not_not]
    constructor
    · exact fun hv => ⟨dB_true.1 (not_f h1), dB_true.1 (not_f h2), of_decide_eq_false h3, fun y hy => Int.not_le.1 fun h60 => h4' ⟨y, hy, h60⟩, hv⟩
    · exact fun hr => hr.2.2.2.2
theorem laws_FnExactRuleOk_law (ss : List Sy) (kss : ∀ y ∈ ss, Sy.ok y) (x : Ru) (kx : x.ok) : XC Try.prog 9 [L (ss.map Sy.da), .dat x.da] [] (B true) [] := by
  have s0 := szSymS_call ss 1048576 (by omega) (by omega)
  rcases Int.lt_or_le (lft (cnL Sy.cn ss) 1048576) 0 with g0 | g0
  · obtain ⟨⟨f, v, ks⟩, ⟨g, u, ms⟩⟩ := x
    apply laws_FnExactRuleOk_of
    exact ⟨_, s0, ifB_t (decide_eq_true g0) ⟨rfl, rfl⟩⟩
  have q0 := lft_ok g0
  have s1 := szRule_call x _ g0 (by omega)
  rcases Int.lt_or_le (lft x.cn (lft (cnL Sy.cn ss) 1048576)) 0 with g1 | g1
  · obtain ⟨⟨f, v, ks⟩, ⟨g, u, ms⟩⟩ := x
    apply laws_FnExactRuleOk_of
    exact ⟨_, s0, ifB_f (decide_eq_false (Int.not_lt.2 g0)) ⟨_, s1, ifB_t (decide_eq_true g1) ⟨rfl, rfl⟩⟩⟩
  have q1 := lft_ok g1
  have t0 := toSymSO_call ss (by omega)
  have t1 := toRuleO_call x (by omega)
  have e0 := eqSymS_call ss
  have e1 := eqRule_call x
  have c1 := specRuleOk_call ss x (by omega)
  have c2 := implRuleOk_call ss x (by omega)
  obtain ⟨⟨f, v, ks⟩, ⟨g, u, ms⟩⟩ := x
  apply laws_FnExactRuleOk_of
  exact ⟨_, s0, ifB_f (decide_eq_false (Int.not_lt.2 g0)) ⟨_, s1, ifB_f (decide_eq_false (Int.not_lt.2 g1)) ⟨_, t0, _, _, _, _, _, _, t1, _, c1, _, t0, _, _, _, _, _, _, t1, _, c2, ifB_f ne_decB ⟨_, t0, _, e0, ifB_f rfl ⟨_, _, _, _, _, _, t1, _, e1, ifB_f rfl ⟨rfl, rfl⟩⟩⟩⟩⟩⟩

end AM
end Go.Proofs.Ytflfopedammhoaa
