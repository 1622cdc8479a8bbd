/- Contracts of functions of the program, out of what their texts ask; no conditions. -/
import Derived.Test.YtflfopedammhoaaHq
import Derived.Test.YtflfopedammhoaaDt
import Derived.Test.YtflfopedammhoaaHr
set_option linter.unusedVariables false
set_option linter.unusedSimpArgs false
set_option maxRecDepth 100000
namespace Go.Proofs.Ytflfopedammhoaa
namespace AM
open Go Go.ChangeShapes Go.WideShapes Go.RowKit

theorem cnL_cons {α : Type} (cn : α → Nat) (x : α) (r : List α) : cnL cn (x :: r) = 1 + cn x + cnL cn r := by simp [cnL]; omega
theorem mkNBd_le : ∀ l : List Bd, mkNBd l ≤ 3 * cnL Bd.cn l
  | [] => by simp [mkNBd]
  | ⟨v, .mk f u ks⟩ :: r => by
    have h := mkNBd_le r
    have e : Bd.cn ⟨v, .mk f u ks⟩ = Tm.cns ks := by simp [Bd.cn, Tm.cn]
    rw [mkNBd_cons, cnL_cons, e]
    simp only [mknBd]
    omega
theorem mkNSp_le : ∀ l : List Sp, mkNSp l ≤ 8 * cnL Sp.cn l
  | [] => by simp [mkNSp]
  | ⟨c1, c2, c3, c4, c5, b1, b2, way, b3, sub, ⟨ls⟩⟩ :: r => by
    have h := mkNSp_le r
    have h1 := mkNBd_le sub
    have h2 := mkN_le ls
    have e : Sp.cn ⟨c1, c2, c3, c4, c5, b1, b2, way, b3, sub, ⟨ls⟩⟩ = way.length + cnL Bd.cn sub + cnL Li.cn ls := rfl
    rw [mkNSp_cons, cnL_cons, e]
    simp only [mknSp]
    omega
theorem toBindO_call (x : Bd) (hc : x.cn ≤ 1048576) : XC Try.prog 131 [.dat x.da] [] (.agg [.d (.int .i64 x.v), .d (.int .i64 x.t.f), .d (.int .i64 x.t.v), .ol 0]) [(0, .tr 30 3 (Tm.das x.t.ks))] := by
  have h1 := toTermO_call x.t hc
  obtain ⟨v, ⟨f, u, ks⟩⟩ := x
  apply laws_toBind_of
  exact ⟨_, _, _, h1, rfl, rfl⟩
theorem toBindSO_call (l : List Bd) (hc : cnL Bd.cn l ≤ 1048576) : XC Try.prog 61 [L (l.map Bd.da)] [] (.one (.ol 0)) [(0, .tr 149 4 (l.map Bd.da))] := by
  have hl := cnL_len Bd.cn l
  apply laws_toBindS_of
  refine ⟨l.length, l.length, by simp, by simp, ⟨by omega, by omega, by omega⟩, ?_⟩
  have key := loopUp (p := fun i => laws_toBindS_L3 (.one (.ol 0)) [(0, .tr 149 4 (l.map Bd.da))] (l.map Bd.da) (i : Int) ((l.map Bd.da).take i ++ List.replicate ((l.map Bd.da).length - i) [.int .i64 0, .int .i64 0, .int .i64 0, .sl []])) l.length ?_ ?_ 0 (Nat.zero_le _)
  · rw [List.take_zero, List.nil_append, Nat.sub_zero, List.length_map] at key
    exact key
  · apply laws_toBindS_L3_of
    refine ifB_f (lt_decF (by simp)) ⟨rfl, ?_⟩
    rw [fill_all rfl (by simp)]
  · intro i hi ih
    obtain ⟨x, hx⟩ := get_ex hi
    have hx1 := get_map (g := Bd.da) hx
    have hm := cnL_mem (cn := Bd.cn) (List.mem_of_getElem? hx)
    have hxc := toBindO_call x (by omega)
    have hd := Bd.da_len x
    obtain ⟨v, ⟨f, u, ks⟩⟩ := x
    apply laws_toBindS_L3_of
    refine ifB_t (lt_dec (by simpa using hi)) ⟨i, rfl, _, _, _, _, hx1, _, _, _, _, hxc, i, rfl, ⟨by simp; omega⟩, i, by omega, _, _, _, _, fill_get rfl (by simpa using hi), ?_⟩
    rw [wr1 hi (by omega)]
    have he := fill_setE (z := [.int .i64 0, .int .i64 0, .int .i64 0, .sl []]) (n := (l.map Bd.da).length) rfl hx1 hd rfl
    exact he ▸ ih
theorem toStepO_call (x : Sp) (hc : x.cn ≤ 1048576) : XC Try.prog 144 [.dat x.da] [] (.agg [.d (.int .i64 x.kind), .d (.int .i64 x.a), .d (.int .i64 x.b), .d (.int .i64 x.i), .d (.int .i64 x.k), .d (.bool x.left), .d (.bool x.side), .ol 0, .d (.bool x.ext), .ol 1, .ol 2]) [(0, .tr 3 1 (x.way.map In.da)), (1, .tr 149 4 (x.sub.map Bd.da)), (2, .tr 61 7 (x.cl.ls.map Li.da))] := by
  unfold Sp.cn at hc
  have h1 := toIntSO_call x.way (by omega)
  have h2 := toBindSO_call x.sub (by omega)
  have h3 := toClauseO_call x.cl (by omega)
  apply laws_toStep_of
  exact ⟨_, h1, _, h2, _, h3, rfl, rfl⟩
theorem toStepSO_call (l : List Sp) (hc : cnL Sp.cn l ≤ 1048576) : XC Try.prog 74 [L (l.map Sp.da)] [] (.one (.ol 0)) [(0, .tr 160 11 (l.map Sp.da))] := by
  have hl := cnL_len Sp.cn l
  apply laws_toStepS_of
  refine ⟨l.length, l.length, by simp, by simp, ⟨by omega, by omega, by omega⟩, ?_⟩
  have key := loopUp (p := fun i => laws_toStepS_L3 (.one (.ol 0)) [(0, .tr 160 11 (l.map Sp.da))] (l.map Sp.da) (i : Int) ((l.map Sp.da).take i ++ List.replicate ((l.map Sp.da).length - i) [.int .i64 0, .int .i64 0, .int .i64 0, .int .i64 0, .int .i64 0, .bool false, .bool false, .sl [], .bool false, .sl [], .sl []])) l.length ?_ ?_ 0 (Nat.zero_le _)
  · rw [List.take_zero, List.nil_append, Nat.sub_zero, List.length_map] at key
    exact key
  · apply laws_toStepS_L3_of
    refine ifB_f (lt_decF (by simp)) ⟨rfl, ?_⟩
    rw [fill_all rfl (by simp)]
  · intro i hi ih
    obtain ⟨x, hx⟩ := get_ex hi
    have hx1 := get_map (g := Sp.da) hx
    have hm := cnL_mem (cn := Sp.cn) (List.mem_of_getElem? hx)
    have hxc := toStepO_call x (by omega)
    have hd := Sp.da_len x
    apply laws_toStepS_L3_of
    refine ifB_t (lt_dec (by simpa using hi)) ⟨i, rfl, _, _, _, _, _, _, _, _, _, _, _, hx1, _, _, _, _, _, _, _, _, _, _, _, hxc, i, rfl, ⟨by simp; omega⟩, i, by omega, _, _, _, _, _, _, _, _, _, _, _, fill_get rfl (by simpa using hi), ?_⟩
    rw [wr1 hi (by omega)]
    have he := fill_setE (z := [.int .i64 0, .int .i64 0, .int .i64 0, .int .i64 0, .int .i64 0, .bool false, .bool false, .sl [], .bool false, .sl [], .sl []]) (n := (l.map Sp.da).length) rfl hx1 hd rfl
    exact he ▸ ih
def opA (c : Bool) (out : List Int) (n : Int) : List Int := if c then numAdd out n else out
theorem mem_opA {c : Bool} {out : List Int} {n x : Int} : x ∈ opA c out n ↔ x ∈ out ∨ (c = true ∧ x = n) := by
  unfold opA; split
  · rename_i h; rw [mem_numAdd]; simp [h, or_comm]
  · rename_i h; simp [h]
theorem srt_opA {c : Bool} {out : List Int} {n : Int} (h : Srt out) : Srt (opA c out n) := by
  unfold opA; split
  · exact srt_numAdd h
  · exact h
theorem opA_len (c : Bool) (out : List Int) (n : Int) : (opA c out n).length ≤ out.length + 1 := by
  unfold opA; split
  · exact numAdd_len _ _
  · omega
/-- What a step stands on, put in. -/
def stp (k : Nat) (s : Sp) (out : List Int) : List Int := opA (decide (s.kind = 4 ∨ s.kind = 5) && inR s.b 0 ((k : Int) - 1)) (opA (decide (s.kind ≠ 1) && inR s.a 0 ((k : Int) - 1)) out s.a) s.b
theorem stp_len (k : Nat) (s : Sp) (out : List Int) : (stp k s out).length ≤ out.length + 2 := by
  unfold stp
  exact Nat.le_trans (opA_len _ _ _) (Nat.succ_le_succ (opA_len _ _ _))
theorem srt_stp {k : Nat} {s : Sp} {out : List Int} (h : Srt out) : Srt (stp k s out) := srt_opA (srt_opA h)
theorem adds_stp {k : Nat} {s : Sp} {out : List Int} (h : Srt out) : adds out (stp k s []) = stp k s out := by
  refine srt_ext (srt_adds h) (srt_stp h) fun x => ?_
  rw [mem_adds]
  unfold stp
  rw [mem_opA, mem_opA, mem_opA, mem_opA]
  simp [or_assoc]
def nds (l : List Sp) : Nat → List Int → List Int
  | 0, out => out
  | k + 1, out => nds l k (if (k : Int) ∈ out then (match l[k]? with | some s => stp k s out | none => out) else out)
def ndsA (l : List Sp) (n : Int) : List Int := if inR n 0 ((l.length : Int) - 1) then nds l (n.toNat + 1) [n] else []
theorem nds_no {l : List Sp} {k : Nat} {out : List Int} (h : (k : Int) ∉ out) : nds l (k + 1) out = nds l k out := by rw [nds, if_neg h]
theorem nds_yes {l : List Sp} {k : Nat} {out : List Int} {s : Sp} (h : (k : Int) ∈ out) (hs : l[k]? = some s) : nds l (k + 1) out = nds l k (stp k s out) := by rw [nds, if_pos h, hs]
theorem nds_len (l : List Sp) : ∀ (k : Nat) (out : List Int), (nds l k out).length ≤ out.length + 2 * k
  | 0, out => by simp [nds]
  | k + 1, out => by
    rw [nds]
    refine Nat.le_trans (nds_len l k _) ?_
    split
    · split
      · have := stp_len k (by assumption) out; omega
      · omega
    · omega
theorem specNeeds_loop (l : List Sp) (hl : l.length ≤ 1048576) : ∀ (k : Nat) (out : List Int), k ≤ l.length → out.length + 2 * k ≤ 10000000 → spec_Needs_L6 (L ((nds l k out).map In.da)) [] (l.map Sp.da) (out.map In.da) ((k : Int) - 1)
  | 0, out, _, _ => by
    apply spec_Needs_L6_of
    exact ifB_f (by simp) ⟨rfl, rfl⟩
  | k + 1, out, hk, ho => by
    have es : ((k + 1 : Nat) : Int) - 1 = (k : Int) := by omega
    have hw : IntKind.wrap .i64 ((k : Int) - 1) = (k : Int) - 1 := wrI (by omega) (by omega)
    have ih := fun o ho => specNeeds_loop l hl k o (by omega) ho
    obtain ⟨s, hs⟩ := get_ex (l := l) (i := k) (by omega)
    have hx : (l.map Sp.da)[k]? = some s.da := get_map hs
    have hn := specNumIn_call out (k : Int) (by omega)
    have ia := l1In_call s.a 0 ((k : Int) - 1)
    have ib := l1In_call s.b 0 ((k : Int) - 1)
    have na := specNumAdd_call out s.a (by omega)
    have hal := numAdd_len out s.a
    have nb := specNumAdd_call out s.b (by omega)
    have nab := specNumAdd_call (numAdd out s.a) s.b (by omega)
    have hbl := numAdd_len out s.b
    have habl := numAdd_len (numAdd out s.a) s.b
    rw [es]
    apply spec_Needs_L6_of
    rw [hw]
    refine ifB_t (decide_eq_true (by omega)) ⟨_, hn, ?_⟩
    by_cases hin : (k : Int) ∈ out
    · rw [nds_yes hin hs]
      refine ifB_f (by simpa using hin) ⟨k, rfl, _, _, _, _, _, _, _, _, _, _, _, hx, ?_⟩
      by_cases h1 : s.kind = 1
      · have e : stp k s out = out := by simp [stp, opA, h1]
        rw [e]
        exact ifB_t (decide_eq_true h1) (ih out (by omega))
      · refine ifB_f (decide_eq_false h1) ⟨k, rfl, _, _, _, _, _, _, _, _, _, _, _, hx, _, ia, ?_⟩
        by_cases ha : inR s.a 0 ((k : Int) - 1) = true
        · refine ifB_t ha ⟨k, rfl, _, _, _, _, _, _, _, _, _, _, _, hx, _, na, ?_⟩
          refine ⟨k, rfl, _, _, _, _, _, _, _, _, _, _, _, hx, ?_⟩
          by_cases h4 : s.kind = 4
          · refine ifB_t (decide_eq_true h4) ⟨k, rfl, _, _, _, _, _, _, _, _, _, _, _, hx, _, ib, ?_⟩
            by_cases hb : inR s.b 0 ((k : Int) - 1) = true
            · refine ifB_t hb ⟨k, rfl, _, _, _, _, _, _, _, _, _, _, _, hx, _, nab, ?_⟩
              have e : stp k s out = numAdd (numAdd out s.a) s.b := by simp [stp, opA, h4, ha, hb]
              rw [e]
              exact ih _ (by omega)
            · refine ifB_f (Bool.eq_false_iff.2 hb) ?_
              have e : stp k s out = (numAdd out s.a) := by simp [stp, opA, h4, ha, hb]
              rw [e]
              exact ih _ (by omega)
          · refine ifB_f (decide_eq_false h4) ⟨k, rfl, _, _, _, _, _, _, _, _, _, _, _, hx, ?_⟩
            by_cases h5 : s.kind = 5
            · refine ifB_t (decide_eq_true h5) ⟨k, rfl, _, _, _, _, _, _, _, _, _, _, _, hx, _, ib, ?_⟩
              by_cases hb : inR s.b 0 ((k : Int) - 1) = true
              · refine ifB_t hb ⟨k, rfl, _, _, _, _, _, _, _, _, _, _, _, hx, _, nab, ?_⟩
                have e : stp k s out = numAdd (numAdd out s.a) s.b := by simp [stp, opA, h5, ha, hb]
                rw [e]
                exact ih _ (by omega)
              · refine ifB_f (Bool.eq_false_iff.2 hb) ?_
                have e : stp k s out = (numAdd out s.a) := by simp [stp, opA, h5, ha, hb]
                rw [e]
                exact ih _ (by omega)
            · refine ifB_f (decide_eq_false h5) ?_
              have e : stp k s out = (numAdd out s.a) := by simp [stp, opA, h1, h4, h5, ha]
              rw [e]
              exact ih _ (by omega)
        · refine ifB_f (Bool.eq_false_iff.2 ha) ?_
          refine ⟨k, rfl, _, _, _, _, _, _, _, _, _, _, _, hx, ?_⟩
          by_cases h4 : s.kind = 4
          · refine ifB_t (decide_eq_true h4) ⟨k, rfl, _, _, _, _, _, _, _, _, _, _, _, hx, _, ib, ?_⟩
            by_cases hb : inR s.b 0 ((k : Int) - 1) = true
            · refine ifB_t hb ⟨k, rfl, _, _, _, _, _, _, _, _, _, _, _, hx, _, nb, ?_⟩
              have e : stp k s out = numAdd out s.b := by simp [stp, opA, h4, ha, hb]
              rw [e]
              exact ih _ (by omega)
            · refine ifB_f (Bool.eq_false_iff.2 hb) ?_
              have e : stp k s out = out := by simp [stp, opA, h4, ha, hb]
              rw [e]
              exact ih _ (by omega)
          · refine ifB_f (decide_eq_false h4) ⟨k, rfl, _, _, _, _, _, _, _, _, _, _, _, hx, ?_⟩
            by_cases h5 : s.kind = 5
            · refine ifB_t (decide_eq_true h5) ⟨k, rfl, _, _, _, _, _, _, _, _, _, _, _, hx, _, ib, ?_⟩
              by_cases hb : inR s.b 0 ((k : Int) - 1) = true
              · refine ifB_t hb ⟨k, rfl, _, _, _, _, _, _, _, _, _, _, _, hx, _, nb, ?_⟩
                have e : stp k s out = numAdd out s.b := by simp [stp, opA, h5, ha, hb]
                rw [e]
                exact ih _ (by omega)
              · refine ifB_f (Bool.eq_false_iff.2 hb) ?_
                have e : stp k s out = out := by simp [stp, opA, h5, ha, hb]
                rw [e]
                exact ih _ (by omega)
            · refine ifB_f (decide_eq_false h5) ?_
              have e : stp k s out = out := by simp [stp, opA, h1, h4, h5, ha]
              rw [e]
              exact ih _ (by omega)
    · rw [nds_no hin]
      exact ifB_t (by simpa using hin) (ih out (by omega))
theorem specNeeds_call (l : List Sp) (n : Int) (hl : l.length ≤ 1048576) : XC Try.prog 73 [L (l.map Sp.da), Z n] [] (L ((ndsA l n).map In.da)) [] := by
  have hw : IntKind.wrap .i64 ((l.length : Int) - 1) = (l.length : Int) - 1 := wrI (by omega) (by omega)
  apply spec_Needs_of
  rw [List.length_map, hw]
  refine ⟨_, l1In_call n 0 _, ?_⟩
  by_cases h : inR n 0 ((l.length : Int) - 1) = true
  · have h2 := inR_t.1 h
    refine ifB_f (by simp [h]) ⟨⟨by simp⟩, ?_⟩
    have := specNeeds_loop l hl (n.toNat + 1) [n] (by omega) (by simp; omega)
    have e : ((n.toNat + 1 : Nat) : Int) - 1 = n := by omega
    rw [e] at this
    simpa [ndsA, h, In.da] using this
  · exact ifB_t (by simpa using h) ⟨by simp [ndsA, h], rfl⟩
theorem usesB_call (s : Sp) : XC Try.prog 182 [.dat s.da] [] (B (decide (s.kind = 4 ∨ s.kind = 5))) [] := by
  apply impl_usesB_of
  by_cases h : s.kind = 4
  · exact ifB_t (decide_eq_true h) ⟨by simp [h], rfl⟩
  · exact ifB_f (decide_eq_false h) ⟨by simp [h], rfl⟩
theorem standsOn_call (l : List Sp) (k : Nat) (hk : k ≤ 1048576) (s : Sp) (hs : l[k]? = some s) : XC Try.prog 146 [L (l.map Sp.da), Z (k : Int)] [] (.one (.ol 0)) [(0, .tr 3 1 ((stp k s []).map In.da))] := by
  have hx : (l.map Sp.da)[k]? = some s.da := get_map hs
  have hw : IntKind.wrap .i64 ((k : Int) - 1) = (k : Int) - 1 := wrI (by omega) (by omega)
  have ia := from_call s.a 0 ((k : Int) - 1)
  have ib := from_call s.b 0 ((k : Int) - 1)
  have ub := usesB_call s
  have n1 := implNumAdd_call [s.a] s.b (by simp)
  have n0 := implNumAdd_call [] s.b (by simp)
  have na : numAdd [] s.a = [s.a] := by simp [numAdd, insN]
  apply impl_standsOn_of
  rw [hw]
  refine ⟨k, rfl, _, _, _, _, _, _, _, _, _, _, _, hx, ?_⟩
  have tail0 : ∀ (P : Prop), (stp k s [] = opA (decide (s.kind = 4 ∨ s.kind = 5) && inR s.b 0 ((k : Int) - 1)) [] s.b) → True := fun _ _ => trivial
  by_cases h1 : s.kind = 1
  · refine ifB_f (by simp [h1]) ⟨_, ub, ifB_f (by simp [h1]) ⟨rfl, by simp [stp, opA, h1]⟩⟩
  · refine ifB_t (by simp [h1]) ⟨_, ia, ?_⟩
    by_cases ha : inR s.a 0 ((k : Int) - 1) = true
    · refine ifB_t ha ⟨⟨by simp⟩, _, ub, ?_⟩
      by_cases hu : s.kind = 4 ∨ s.kind = 5
      · refine ifB_t (decide_eq_true hu) ⟨_, ib, ?_⟩
        by_cases hb : inR s.b 0 ((k : Int) - 1) = true
        · exact ifB_t hb ⟨_, n1, rfl, by simp [stp, opA, h1, ha, hu, hb, na]⟩
        · exact ifB_f (Bool.eq_false_iff.2 hb) ⟨rfl, by simp [stp, opA, h1, ha, hu, hb, na, In.da]⟩
      · exact ifB_f (decide_eq_false hu) ⟨rfl, by simp [stp, opA, h1, ha, hu, na, In.da]⟩
    · refine ifB_f (Bool.eq_false_iff.2 ha) ⟨_, ub, ?_⟩
      by_cases hu : s.kind = 4 ∨ s.kind = 5
      · refine ifB_t (decide_eq_true hu) ⟨_, ib, ?_⟩
        by_cases hb : inR s.b 0 ((k : Int) - 1) = true
        · exact ifB_t hb ⟨_, n0, rfl, by simp [stp, opA, h1, ha, hu, hb]⟩
        · exact ifB_f (Bool.eq_false_iff.2 hb) ⟨rfl, by simp [stp, opA, h1, ha, hu, hb]⟩
      · exact ifB_f (decide_eq_false hu) ⟨rfl, by simp [stp, opA, h1, ha, hu]⟩
theorem implNeeds_in (r : AV) (O : List (Nat × Ob)) (log : List (List Da)) (i : Int) (w : List Int) (hw : w.length ≤ 10000000) : ∀ (q p out : List Int), w = p ++ q → out.length + q.length ≤ 50000000 → impl_Needs_L5 r O log (IntKind.wrap .i64 (i - 1)) ((adds out q).map In.da) → impl_Needs_L9 r O log i (w.length : Int) (p.length : Int) (out.map In.da) (w.map In.da)
  | [], p, out, e, _, h => by
    apply impl_Needs_L9_of
    subst e
    exact ifB_f (lt_decF (by simp)) h
  | x :: q, p, out, e, ho, h => by
    simp only [List.length_cons] at ho
    have h1 := numAdd_len out x
    have ih := implNeeds_in r O log i w hw q (p ++ [x]) (numAdd out x) (by simp [e]) (by omega) h
    subst e
    rw [len_app1] at ih
    apply impl_Needs_L9_of
    refine ifB_t (lt_dec (by simp)) ⟨p.length, rfl, ⟨by simp⟩, p.length, rfl, x, map_app_get, _, implNumAdd_call out x (by omega), ?_⟩
    rw [wr1 (n := p.length + 1) (by omega) (by simp at hw; omega)]
    exact ih
theorem implNeeds_loop (l : List Sp) (hl : l.length ≤ 1048576) : ∀ (k : Nat) (out : List Int), k ≤ l.length → Srt out → out.length + 2 * k ≤ 10000000 → impl_Needs_L5 (.one (.ol 0)) [(0, .tr 3 1 ((nds l k out).map In.da))] (l.map Sp.da) ((k : Int) - 1) (out.map In.da)
  | 0, out, _, _, _ => by
    apply impl_Needs_L5_of
    exact ifB_f (by simp) ⟨rfl, rfl⟩
  | k + 1, out, hk, hsr, ho => by
    have es : ((k + 1 : Nat) : Int) - 1 = (k : Int) := by omega
    have hw : IntKind.wrap .i64 ((k : Int) - 1) = (k : Int) - 1 := wrI (by omega) (by omega)
    obtain ⟨s, hs⟩ := get_ex (l := l) (i := k) (by omega)
    have hn := implNumIn_call out (k : Int) (by omega)
    have sc := standsOn_call l k (by omega) s hs
    have hsl := stp_len k s []
    have hol := stp_len k s out
    simp only [List.length_nil] at hsl
    rw [es]
    apply impl_Needs_L5_of
    refine ifB_t (decide_eq_true (by omega)) ⟨_, hn, ?_⟩
    by_cases hin : (k : Int) ∈ out
    · rw [nds_yes hin hs]
      refine ifB_t (by simpa using hin) ⟨_, sc, ?_⟩
      rw [List.length_map]
      refine implNeeds_in _ _ _ _ (stp k s []) (by omega) (stp k s []) [] out rfl (by omega) ?_
      rw [adds_stp hsr, hw]
      exact implNeeds_loop l hl k _ (by omega) (srt_stp hsr) (by omega)
    · rw [nds_no hin, hw]
      exact ifB_f (by simpa using hin) (implNeeds_loop l hl k out (by omega) hsr (by omega))
theorem implNeeds_call (l : List Sp) (n : Int) (hl : l.length ≤ 1048576) : XC Try.prog 75 [L (l.map Sp.da), Z n] [] (.one (.ol 0)) [(0, .tr 3 1 ((ndsA l n).map In.da))] := by
  have hw : IntKind.wrap .i64 ((l.length : Int) - 1) = (l.length : Int) - 1 := wrI (by omega) (by omega)
  apply impl_Needs_of
  rw [List.length_map, hw]
  refine ⟨_, from_call n 0 _, ?_⟩
  by_cases h : inR n 0 ((l.length : Int) - 1) = true
  · have h2 := inR_t.1 h
    refine ifB_f (by simp [h]) ?_
    have := implNeeds_loop l hl (n.toNat + 1) [n] (by omega) (by simp [Srt]) (by simp; omega)
    have e : ((n.toNat + 1 : Nat) : Int) - 1 = n := by omega
    rw [e] at this
    simpa [ndsA, h, In.da] using this
  · exact ifB_t (by simpa using h) ⟨rfl, by simp [ndsA, h]⟩
theorem laws_FnExactNeeds_law (l : List Sp) (kl : ∀ y ∈ l, Sp.ok y) (n : Int) (kn : i64 n) : XC Try.prog 12 [L (l.map Sp.da), Z n] [] (B true) [] := by
  have s0 := szStepS_call l 1048576 (by omega) (by omega)
  rcases Int.lt_or_le (lft (cnL Sp.cn l) 1048576) 0 with g0 | g0
  · apply laws_FnExactNeeds_of
    exact ⟨_, s0, ifB_t (decide_eq_true g0) ⟨rfl, rfl⟩⟩
  have q0 := lft_ok g0
  have hc : cnL Sp.cn l ≤ 1048576 := by omega
  have hl := cnL_len Sp.cn l
  have hN := mkNSp_le l
  have t0 := toStepSO_call l hc
  have c1 := specNeeds_call l n (by omega)
  have c2 := implNeeds_call l n (by omega)
  have hnl : (ndsA l n).length ≤ 3000000 := by
    unfold ndsA; split
    · rename_i h
      have h2 := inR_t.1 h
      have := nds_len l (n.toNat + 1) [n]
      simp only [List.length_singleton] at this
      omega
    · simp
  have e0 := eqStepS_call l
  have ei := eqIntS_call (ndsA l n)
  have m0 := markStepS_call l 1 (by omega) (by omega)
  have mi := markIntS_call (ndsA l n) 1 (by omega) (by omega)
  have hd := heldIntS_call (ndsA l n) 1 (by omega) (by omega)
  apply laws_FnExactNeeds_of
  exact ⟨_, s0, ifB_f (decide_eq_false (Int.not_lt.2 g0)) ⟨_, t0, _, c1, _, t0, _, c2, _, ei, ifB_f rfl ⟨_, t0, _, e0, ifB_f rfl ⟨_, _, m0, ifB_f (decide_eq_false (by omega)) ⟨_, ei, ifB_f rfl ⟨_, _, mi, _, hd, ifB_f (decide_eq_false (by omega)) (ifB_f (by simp) ⟨_, t0, _, c2, _, ei, ifB_f rfl ⟨_, hd, ifB_f (decide_eq_false (by omega)) (ifB_f (by simp) ⟨rfl, rfl⟩)⟩⟩)⟩⟩⟩⟩⟩⟩

end AM
end Go.Proofs.Ytflfopedammhoaa
