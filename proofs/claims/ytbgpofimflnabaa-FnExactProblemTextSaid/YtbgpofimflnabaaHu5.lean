/- Contracts of functions of the program, out of what their texts ask; no conditions. -/
import Derived.Test.YtbgpofimflnabaaHu4
import Derived.Test.YtbgpofimflnabaaDt
set_option linter.unusedVariables false
set_option linter.unusedSimpArgs false
set_option maxRecDepth 100000
namespace Go.Proofs.Ytbgpofimflnabaa
namespace AM
open Go

theorem szWork_call (x : Wk) (m : Int) (h0 : 0 ≤ m) (h1 : m ≤ 1048576) : XC Try.prog 47 [.dat x.da, Z m] [] (Z (lft x.cn m)) [] := by
  have l1 := lft_le (n := cnL Sy.cn x.sig) (l := m) (by omega)
  have e : x.cn = cnL Sy.cn x.sig + (cnL Cl.cn x.input + (cnL Sp.cn x.log + (x.active.length + x.passive.length))) := by unfold Wk.cn; omega
  rw [e]
  apply laws_szWork_of
  refine ⟨_, szSymS_call x.sig m h0 h1, ifB_d (fun h => zw (lft_lt h h0)) fun h => ?_⟩
  rw [← lft_lft (by omega)]
  generalize lft (cnL Sy.cn x.sig) m = m1 at *
  have l2 := lft_le (n := cnL Cl.cn x.input) (l := m1) (by omega)
  refine ⟨_, szClauseS_call x.input m1 (by omega) (by omega), ifB_d (fun h => zw (lft_lt h (by omega))) fun h => ?_⟩
  rw [← lft_lft (by omega)]
  generalize lft (cnL Cl.cn x.input) m1 = m2 at *
  have l3 := lft_le (n := cnL Sp.cn x.log) (l := m2) (by omega)
  refine ⟨_, szStepS_call x.log m2 (by omega) (by omega), ifB_d (fun h => zw (lft_lt h (by omega))) fun h => ?_⟩
  rw [← lft_lft (by omega)]
  generalize lft (cnL Sp.cn x.log) m2 = m3 at *
  have l4 := lft_le (n := x.active.length) (l := m3) (by omega)
  refine ⟨_, szIntS_call x.active m3 (by omega) (by omega), ifB_d (fun h => zw (lft_lt h (by omega))) fun h => ?_⟩
  rw [← lft_lft (by omega)]
  generalize lft x.active.length m3 = m4 at *
  exact ⟨_, szIntS_call x.passive m4 (by omega) (by omega), ifB_d (fun h => zw (lft_lt0 h (by omega))) fun h => ⟨rfl, rfl⟩⟩
theorem toWork_call (x : Wk) (hc : x.cn ≤ 1048576) : XC Try.prog 49 [.dat x.da] [] (.dat x.da) [] := by
  unfold Wk.cn at hc
  apply laws_toWork_of
  exact ⟨_, toSymS_call x.sig (by omega), _, toClauseS_call x.input (by omega), _, toStepS_call x.log (by omega), _, toIntS_call x.active (by omega), _, toIntS_call x.passive (by omega), rfl, rfl⟩
theorem eqWork_call (x : Wk) : XC Try.prog 51 [.dat x.da, .dat x.da] [] (B true) [] := by
  apply laws_eqWork_of
  exact ⟨_, eqSymS_call x.sig, ifB_f rfl ⟨_, eqClauseS_call x.input, ifB_f rfl ⟨_, eqStepS_call x.log, ifB_f rfl ⟨_, eqIntS_call x.active, ifB_f rfl ⟨_, eqIntS_call x.passive, ifB_f rfl (ifB_f ne_decB ⟨rfl, rfl⟩)⟩⟩⟩⟩⟩
/-- The place of the first step that leaves an empty clause. -/
def refAt : List Sp → Nat → Int
  | [], _ => -1
  | x :: r, i => if x.cl.ls.length = 0 then i else refAt r (i + 1)
theorem specRefuted_call (l : List Sp) (hc : cnL Sp.cn l ≤ 1048576) : XC Try.prog 31 [L (l.map Sp.da)] [] (Z (refAt l 0)) [] := by
  have hlen : l.length ≤ 281474976710656 := by have := cnL_len Sp.cn l; omega
  apply spec_Refuted_of
  have key := loopUp (p := fun i => spec_Refuted_L2 (Z (refAt (l.drop i) i)) [] (l.map Sp.da) (i : Int)) l.length ?_ (fun i hi ihl => ?_) 0 (Nat.zero_le _)
  · exact key
  · apply spec_Refuted_L2_of
    rw [List.length_map]
    exact ifB_f (lt_decF (Nat.le_refl _)) ⟨by rw [drop_end]; rfl, rfl⟩
  · obtain ⟨x, hx⟩ := get_ex hi
    have hx1 := get_map (g := Sp.da) hx
    rw [drop_cons hx]
    apply spec_Refuted_L2_of
    rw [List.length_map]
    refine ifB_t (lt_dec hi) ⟨i, rfl, _, _, _, _, _, _, _, _, _, _, _, hx1, ifB_d (fun h => ⟨?_, rfl⟩) fun h => ?_⟩
    · rw [refAt, if_pos (by simpa using h)]
    · rw [wr1 hi hlen, refAt, if_neg (by simpa using h)]
      exact ihl
theorem implRefuted_call (l : List Sp) (hc : cnL Sp.cn l ≤ 1048576) : XC Try.prog 33 [L (l.map Sp.da)] [] (Z (refAt l 0)) [] := by
  have hlen : l.length ≤ 281474976710656 := by have := cnL_len Sp.cn l; omega
  apply impl_Refuted_of
  refine ⟨_, slices_IndexFunc_Step_impl_Refuted_1_of ?_, rfl, rfl⟩
  rw [List.length_map]
  have key := loopUp (p := fun i => slices_IndexFunc_Step_impl_Refuted_1_L2 (Z (refAt (l.drop i) i)) [] (l.map Sp.da) (l.length : Int) (i : Int)) l.length ?_ (fun i hi ihl => ?_) 0 (Nat.zero_le _)
  · exact key
  · apply slices_IndexFunc_Step_impl_Refuted_1_L2_of
    exact ifB_f (lt_decF (Nat.le_refl _)) ⟨by rw [drop_end]; rfl, rfl⟩
  · obtain ⟨x, hx⟩ := get_ex hi
    have hx1 := get_map (g := Sp.da) hx
    rw [drop_cons hx]
    apply slices_IndexFunc_Step_impl_Refuted_1_L2_of
    refine ifB_t (lt_dec hi) ⟨i, rfl, _, _, _, _, _, _, _, _, _, _, _, hx1, _, impl_Refuted_1_of ⟨rfl, rfl⟩, ifB_d (fun h => ⟨?_, rfl⟩) fun h => ?_⟩
    · rw [refAt, if_pos (by simpa using h)]
    · rw [wr1 hi hlen, refAt, if_neg (by simpa using h)]
      exact ihl
def vdOf (w : Wk) : Int := if 0 ≤ refAt w.log 0 then 1 else if 0 < w.passive.length then 0 else if w.lost = true then 3 else 2
theorem specVerdict_call (w : Wk) (hc : w.cn ≤ 1048576) : XC Try.prog 48 [.dat w.da] [] (Z (vdOf w)) [] := by
  unfold Wk.cn at hc
  apply spec_Verdict_of
  unfold vdOf
  refine ⟨_, specRefuted_call w.log (by omega), ifB_d (fun h => ⟨by rw [if_pos h], rfl⟩) fun h => ?_⟩
  rw [if_neg h, List.length_map]
  refine ifB_d (fun h => ⟨by rw [if_pos (by omega)], rfl⟩) fun h => ?_
  rw [if_neg (by omega)]
  exact ifB_of (fun h => ⟨by rw [if_pos h], rfl⟩) fun h => ⟨by rw [if_neg (by simp [h])], rfl⟩
theorem implVerdict_call (w : Wk) (hc : w.cn ≤ 1048576) : XC Try.prog 50 [.dat w.da] [] (Z (vdOf w)) [] := by
  unfold Wk.cn at hc
  apply impl_Verdict_of
  unfold vdOf
  refine ⟨_, implRefuted_call w.log (by omega), ifB_d (fun h => ⟨by rw [if_pos h], rfl⟩) fun h => ?_⟩
  rw [if_neg h, List.length_map]
  refine ifB_d (fun h => ⟨by rw [if_pos (by omega)], rfl⟩) fun h => ?_
  rw [if_neg (by omega)]
  exact ifB_of (fun h => ⟨by rw [if_pos h], rfl⟩) fun h => ⟨by rw [if_neg (by simp [h])], rfl⟩

end AM
end Go.Proofs.Ytbgpofimflnabaa
