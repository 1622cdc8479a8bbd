/- Contracts of functions of the program, out of what their texts ask; no conditions. -/
import Derived.Test.YtbgpofimflnabaaHu6
import Derived.Test.YtbgpofimflnabaaDt
set_option linter.unusedVariables false
set_option linter.unusedSimpArgs false
set_option maxRecDepth 100000
namespace Go.Proofs.Ytbgpofimflnabaa
namespace AM
open Go

macro "SZ" : tactic => `(tactic| (simp only [ByteArray.size_append]; simp only [ByteArray.size, List.size_toArray, List.length_cons, List.length_nil]; omega))
def kdTx (k : Int) : ByteArray :=
  if k = 1 then ⟨#[105, 110, 112, 117, 116]⟩ else if k = 2 then ⟨#[114, 101, 115, 111, 108, 118, 101]⟩ else if k = 3 then ⟨#[102, 97, 99, 116, 111, 114]⟩
  else if k = 4 then ⟨#[112, 117, 116]⟩ else if k = 5 then ⟨#[114, 101, 119, 114, 105, 116, 101]⟩ else if k = 6 then ⟨#[108, 101, 115, 115]⟩ else ⟨#[110, 111, 110, 101]⟩
theorem kdTx_none {k : Int} (h : k < 1 ∨ 6 < k) : kdTx k = ⟨#[110, 111, 110, 101]⟩ := by
  unfold kdTx
  rw [if_neg (by omega), if_neg (by omega), if_neg (by omega), if_neg (by omega), if_neg (by omega), if_neg (by omega)]
def stTx (p : Sp) : ByteArray := kdTx p.kind ++ ⟨#[32]⟩ ++ dg p.a ++ ⟨#[32]⟩ ++ dg p.b ++ ⟨#[32]⟩ ++ dg p.i ++ ⟨#[32]⟩ ++ dg p.k
theorem specStepText_call (p : Sp) (hp : p.ok) : XC Try.prog 26 [.dat p.da] [] (T (stTx p)) [] := by
  obtain ⟨⟨h0, h1, h2, h3, h4⟩, _⟩ := hp
  have d1 := specDigits_call h1; have d2 := specDigits_call h2; have d3 := specDigits_call h3; have d4 := specDigits_call h4
  have z1 : (dg p.a).data.size ≤ 20 := dg_size h1
  have z2 : (dg p.b).data.size ≤ 20 := dg_size h2
  have z3 : (dg p.i).data.size ≤ 20 := dg_size h3
  have z4 : (dg p.k).data.size ≤ 20 := dg_size h4
  obtain ⟨k, a, b, i, j, l, s, w, e, u, ⟨c⟩⟩ := p
  dsimp only at d1 d2 d3 d4 z1 z2 z3 z4
  have hw : IntKind.wrap .i64 (((7 : Nat) : Int) - 1) = 6 := by rw [wrI (by omega) (by omega)]; rfl
  apply spec_StepText_of
  refine ⟨_, l1In_call _ _ _, ifB_of (fun h => ?_) fun h => ?_⟩
  · have h : (!inR k 0 (IntKind.wrap .i64 (((7 : Nat) : Int) - 1))) = true := h
    rw [hw] at h
    have h := not_t h
    have h : k < 1 ∨ 6 < k := by
      have : ¬ (0 ≤ k ∧ k ≤ 6) := fun hh => by rw [inR_t.2 hh] at h; cases h
      omega
    have e1 : stTx ⟨k, a, b, i, j, l, s, w, e, u, ⟨c⟩⟩ = ⟨#[110, 111, 110, 101]⟩ ++ ⟨#[32]⟩ ++ dg a ++ ⟨#[32]⟩ ++ dg b ++ ⟨#[32]⟩ ++ dg i ++ ⟨#[32]⟩ ++ dg j := by
      show kdTx k ++ ⟨#[32]⟩ ++ dg a ++ ⟨#[32]⟩ ++ dg b ++ ⟨#[32]⟩ ++ dg i ++ ⟨#[32]⟩ ++ dg j = _
      rw [kdTx_none h]
    rw [e1]
    refine ⟨0, rfl, ⟨by decide⟩, 0, rfl, _, rfl, ⟨?_⟩, _, d1, ⟨?_⟩, ⟨?_⟩, _, d2, ⟨?_⟩, ⟨?_⟩, _, d3, ⟨?_⟩, ⟨?_⟩, _, d4, ⟨?_⟩, rfl, rfl⟩ <;> SZ
  · have h : (!inR k 0 (IntKind.wrap .i64 (((7 : Nat) : Int) - 1))) = false := h
    rw [hw] at h
    have h : 0 ≤ k ∧ k ≤ 6 := inR_t.1 (not_f h)
    have hk : k = 0 ∨ k = 1 ∨ k = 2 ∨ k = 3 ∨ k = 4 ∨ k = 5 ∨ k = 6 := by omega
    rcases hk with rfl | rfl | rfl | rfl | rfl | rfl | rfl
    · refine ⟨0, rfl, ⟨by decide⟩, 0, rfl, _, rfl, ⟨?_⟩, _, d1, ⟨?_⟩, ⟨?_⟩, _, d2, ⟨?_⟩, ⟨?_⟩, _, d3, ⟨?_⟩, ⟨?_⟩, _, d4, ⟨?_⟩, rfl, rfl⟩ <;> SZ
    · refine ⟨1, rfl, ⟨by decide⟩, 1, rfl, _, rfl, ⟨?_⟩, _, d1, ⟨?_⟩, ⟨?_⟩, _, d2, ⟨?_⟩, ⟨?_⟩, _, d3, ⟨?_⟩, ⟨?_⟩, _, d4, ⟨?_⟩, rfl, rfl⟩ <;> SZ
    · refine ⟨2, rfl, ⟨by decide⟩, 2, rfl, _, rfl, ⟨?_⟩, _, d1, ⟨?_⟩, ⟨?_⟩, _, d2, ⟨?_⟩, ⟨?_⟩, _, d3, ⟨?_⟩, ⟨?_⟩, _, d4, ⟨?_⟩, rfl, rfl⟩ <;> SZ
    · refine ⟨3, rfl, ⟨by decide⟩, 3, rfl, _, rfl, ⟨?_⟩, _, d1, ⟨?_⟩, ⟨?_⟩, _, d2, ⟨?_⟩, ⟨?_⟩, _, d3, ⟨?_⟩, ⟨?_⟩, _, d4, ⟨?_⟩, rfl, rfl⟩ <;> SZ
    · refine ⟨4, rfl, ⟨by decide⟩, 4, rfl, _, rfl, ⟨?_⟩, _, d1, ⟨?_⟩, ⟨?_⟩, _, d2, ⟨?_⟩, ⟨?_⟩, _, d3, ⟨?_⟩, ⟨?_⟩, _, d4, ⟨?_⟩, rfl, rfl⟩ <;> SZ
    · refine ⟨5, rfl, ⟨by decide⟩, 5, rfl, _, rfl, ⟨?_⟩, _, d1, ⟨?_⟩, ⟨?_⟩, _, d2, ⟨?_⟩, ⟨?_⟩, _, d3, ⟨?_⟩, ⟨?_⟩, _, d4, ⟨?_⟩, rfl, rfl⟩ <;> SZ
    · refine ⟨6, rfl, ⟨by decide⟩, 6, rfl, _, rfl, ⟨?_⟩, _, d1, ⟨?_⟩, ⟨?_⟩, _, d2, ⟨?_⟩, ⟨?_⟩, _, d3, ⟨?_⟩, ⟨?_⟩, _, d4, ⟨?_⟩, rfl, rfl⟩ <;> SZ
theorem implStepText_call (p : Sp) (hp : p.ok) : XC Try.prog 28 [.dat p.da] [] (T (stTx p)) [] := by
  obtain ⟨⟨h0, h1, h2, h3, h4⟩, _⟩ := hp
  have d1 := implDigits_call h1; have d2 := implDigits_call h2; have d3 := implDigits_call h3; have d4 := implDigits_call h4
  have z1 : (dg p.a).data.size ≤ 20 := dg_size h1
  have z2 : (dg p.b).data.size ≤ 20 := dg_size h2
  have z3 : (dg p.i).data.size ≤ 20 := dg_size h3
  have z4 : (dg p.k).data.size ≤ 20 := dg_size h4
  obtain ⟨k, a, b, i, j, l, s, w, e, u, ⟨c⟩⟩ := p
  dsimp only at d1 d2 d3 d4 z1 z2 z3 z4
  apply impl_StepText_of
  refine ⟨_, from_call _ _ _, ifB_of (fun h => ?_) fun h => ?_⟩
  · have h : 1 ≤ k ∧ k ≤ 6 := inR_t.1 h
    have hk : k = 1 ∨ k = 2 ∨ k = 3 ∨ k = 4 ∨ k = 5 ∨ k = 6 := by omega
    rcases hk with rfl | rfl | rfl | rfl | rfl | rfl
    · refine ⟨0, wrI (x := 0) (by decide) (by decide), ⟨by decide⟩, 0, rfl, _, rfl, ⟨?_⟩, _, d1, ⟨?_⟩, ⟨?_⟩, _, d2, ⟨?_⟩, ⟨?_⟩, _, d3, ⟨?_⟩, ⟨?_⟩, _, d4, ⟨?_⟩, rfl, rfl⟩ <;> SZ
    · refine ⟨1, wrI (x := 1) (by decide) (by decide), ⟨by decide⟩, 1, rfl, _, rfl, ⟨?_⟩, _, d1, ⟨?_⟩, ⟨?_⟩, _, d2, ⟨?_⟩, ⟨?_⟩, _, d3, ⟨?_⟩, ⟨?_⟩, _, d4, ⟨?_⟩, rfl, rfl⟩ <;> SZ
    · refine ⟨2, wrI (x := 2) (by decide) (by decide), ⟨by decide⟩, 2, rfl, _, rfl, ⟨?_⟩, _, d1, ⟨?_⟩, ⟨?_⟩, _, d2, ⟨?_⟩, ⟨?_⟩, _, d3, ⟨?_⟩, ⟨?_⟩, _, d4, ⟨?_⟩, rfl, rfl⟩ <;> SZ
    · refine ⟨3, wrI (x := 3) (by decide) (by decide), ⟨by decide⟩, 3, rfl, _, rfl, ⟨?_⟩, _, d1, ⟨?_⟩, ⟨?_⟩, _, d2, ⟨?_⟩, ⟨?_⟩, _, d3, ⟨?_⟩, ⟨?_⟩, _, d4, ⟨?_⟩, rfl, rfl⟩ <;> SZ
    · refine ⟨4, wrI (x := 4) (by decide) (by decide), ⟨by decide⟩, 4, rfl, _, rfl, ⟨?_⟩, _, d1, ⟨?_⟩, ⟨?_⟩, _, d2, ⟨?_⟩, ⟨?_⟩, _, d3, ⟨?_⟩, ⟨?_⟩, _, d4, ⟨?_⟩, rfl, rfl⟩ <;> SZ
    · refine ⟨5, wrI (x := 5) (by decide) (by decide), ⟨by decide⟩, 5, rfl, _, rfl, ⟨?_⟩, _, d1, ⟨?_⟩, ⟨?_⟩, _, d2, ⟨?_⟩, ⟨?_⟩, _, d3, ⟨?_⟩, ⟨?_⟩, _, d4, ⟨?_⟩, rfl, rfl⟩ <;> SZ
  · have h : k < 1 ∨ 6 < k := by
      have : ¬ (1 ≤ k ∧ k ≤ 6) := fun hh => by rw [inR_t.2 hh] at h; cases h
      omega
    have e1 : stTx ⟨k, a, b, i, j, l, s, w, e, u, ⟨c⟩⟩ = ⟨#[110, 111, 110, 101]⟩ ++ ⟨#[32]⟩ ++ dg a ++ ⟨#[32]⟩ ++ dg b ++ ⟨#[32]⟩ ++ dg i ++ ⟨#[32]⟩ ++ dg j := by
      show kdTx k ++ ⟨#[32]⟩ ++ dg a ++ ⟨#[32]⟩ ++ dg b ++ ⟨#[32]⟩ ++ dg i ++ ⟨#[32]⟩ ++ dg j = _
      rw [kdTx_none h]
    rw [e1]
    refine ⟨⟨?_⟩, _, d1, ⟨?_⟩, ⟨?_⟩, _, d2, ⟨?_⟩, ⟨?_⟩, _, d3, ⟨?_⟩, ⟨?_⟩, _, d4, ⟨?_⟩, rfl, rfl⟩ <;> SZ
def wkTx (w : Wk) : ByteArray :=
  let b := (⟨#[108, 111, 103, 32]⟩ : ByteArray) ++ dg (w.log.length : Int) ++ ⟨#[32, 97, 99, 116, 105, 118, 101, 32]⟩ ++ dg (w.active.length : Int) ++ ⟨#[32, 112, 97, 115, 115, 105, 118, 101, 32]⟩ ++ dg (w.passive.length : Int)
  if w.lost = true then b ++ ⟨#[32, 108, 111, 115, 116]⟩ ++ ⟨#[10]⟩ else b ++ ⟨#[10]⟩
theorem specWorkText_call (w : Wk) (hc : w.cn ≤ 1048576) : XC Try.prog 52 [.dat w.da] [] (T (wkTx w)) [] := by
  unfold Wk.cn at hc
  have hl := cnL_len Sp.cn w.log
  have h1 : i64 (w.log.length : Int) := ⟨by omega, by omega⟩
  have h2 : i64 (w.active.length : Int) := ⟨by omega, by omega⟩
  have h3 : i64 (w.passive.length : Int) := ⟨by omega, by omega⟩
  have d1 := specDigits_call h1; have d2 := specDigits_call h2; have d3 := specDigits_call h3
  have z1 : (dg w.log.length).data.size ≤ 20 := dg_size h1
  have z2 : (dg w.active.length).data.size ≤ 20 := dg_size h2
  have z3 : (dg w.passive.length).data.size ≤ 20 := dg_size h3
  apply spec_WorkText_of
  rw [List.length_map, List.length_map, List.length_map]
  obtain ⟨s, i, l, a, p, b⟩ := w
  dsimp only at d1 d2 d3 z1 z2 z3
  cases b
  · refine ⟨_, d1, ⟨?_⟩, ⟨?_⟩, _, d2, ⟨?_⟩, ⟨?_⟩, _, d3, ⟨?_⟩, ifB_f rfl ⟨⟨?_⟩, rfl, rfl⟩⟩ <;> SZ
  · refine ⟨_, d1, ⟨?_⟩, ⟨?_⟩, _, d2, ⟨?_⟩, ⟨?_⟩, _, d3, ⟨?_⟩, ifB_t rfl ⟨⟨?_⟩, ⟨?_⟩, rfl, rfl⟩⟩ <;> SZ
theorem implWorkText_call (w : Wk) (hc : w.cn ≤ 1048576) : XC Try.prog 53 [.dat w.da] [] (T (wkTx w)) [] := by
  unfold Wk.cn at hc
  have hl := cnL_len Sp.cn w.log
  have h1 : i64 (w.log.length : Int) := ⟨by omega, by omega⟩
  have h2 : i64 (w.active.length : Int) := ⟨by omega, by omega⟩
  have h3 : i64 (w.passive.length : Int) := ⟨by omega, by omega⟩
  have d1 := implDigits_call h1; have d2 := implDigits_call h2; have d3 := implDigits_call h3
  have z1 : (dg w.log.length).data.size ≤ 20 := dg_size h1
  have z2 : (dg w.active.length).data.size ≤ 20 := dg_size h2
  have z3 : (dg w.passive.length).data.size ≤ 20 := dg_size h3
  apply impl_WorkText_of
  rw [List.length_map, List.length_map, List.length_map]
  obtain ⟨s, i, l, a, p, b⟩ := w
  dsimp only at d1 d2 d3 z1 z2 z3
  cases b
  · refine ⟨_, d1, ⟨?_⟩, ⟨?_⟩, _, d2, ⟨?_⟩, ⟨?_⟩, _, d3, ⟨?_⟩, ifB_f rfl ⟨⟨?_⟩, rfl, rfl⟩⟩ <;> SZ
  · refine ⟨_, d1, ⟨?_⟩, ⟨?_⟩, _, d2, ⟨?_⟩, ⟨?_⟩, _, d3, ⟨?_⟩, ifB_t rfl ⟨⟨?_⟩, ⟨?_⟩, rfl, rfl⟩⟩ <;> SZ

end AM
end Go.Proofs.Ytbgpofimflnabaa
