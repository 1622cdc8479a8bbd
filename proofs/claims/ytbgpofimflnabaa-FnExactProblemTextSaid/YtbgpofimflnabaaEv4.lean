/- Operations that write, lists that are lent, results; no conditions. -/
import Derived.Test.YtbgpofimflnabaaEv3
set_option linter.unusedSimpArgs false
set_option linter.unusedVariables false
namespace Go.Proofs.Ytbgpofimflnabaa
namespace AM
open Go

/-- The walk stops here. -/
structure Stop (rg ix : Nat) : Prop where
  h : False
theorem no_stop {a b : Nat} : ¬ Stop a b := fun h => h.h

def orQ (K : Nat → Prop) : Nat → Nat → Prop
  | 0, _ => False
  | 1, q => K q
  | n + 1, q => K q ∨ orQ K n (q + 1)
theorem orQ_ex {K : Nat → Prop} : ∀ {n q : Nat}, orQ K n q → ∃ q, K q
  | 0, _, h => h.elim
  | 1, q, h => ⟨q, h⟩
  | n + 2, q, h => by
    rcases h with h | h
    · exact ⟨q, h⟩
    · exact orQ_ex h

/-- Stores and appends. -/
def vA (z : Prop) (E : Env) (n : Nat) (o : Oper) (s : St) (k : St → Prop) : Prop := match o.op with
  | .store t x y => opt z (look E.tab t) fun i => opt z (s.ev x) fun X => opt z ((s.ev y).bind AV.cells) fun zs => chk z o.dst.isNone <| match X with
    | .one (.op kk off) => opt z (s.gob kk) fun Y => match Y with
      | .var cs => chk z (decide (i.n = zs.length) && decide (off + zs.length ≤ cs.length) && noJunk zs) (k (s.setOb kk (.var (cs.take off ++ zs ++ cs.drop (off + zs.length)))))
      | .lst Ee es xs => opt z (toDs zs) fun ds => opt z (look E.cks Ee) fun ck => chk z (decide (i.n = ds.length ∧ 0 < ds.length ∧ ds.length ≤ es)) <|
          orQ (fun q => ∃ m : Nat, off = m * es + q ∧ shp ck fun c => xs[m]? = some c ∧ chk z (decide (q + ds.length ≤ c.length)) (k (s.setOb kk (.lst Ee es (xs.set m (c.take q ++ ds ++ c.drop (q + ds.length))))))) (es + 1 - ds.length) 0
    | _ => z
  | .call c => match c.callee, c.args.toList, c.argTypes.toList with
    | .builtin .append, [x, y], [t, t'] => chk z (decide (t = t') && o.dst.all (· < n)) <| opt z (look E.tab t) fun i => opt z i.el fun e => opt z (look E.zer e) fun zz => chk z (decide (i.pr = 4 ∧ 0 < zz.1 ∧ 0 < zz.2.1)) <| opt z (s.ev x) fun X => opt z (s.ev y) fun Y => match X with
      | .one (.ol kk) => opt z (s.gob kk) fun A => match A with
        | .lst Ee es xs => chk z (decide (Ee = e ∧ es = zz.1 ∧ kk < 2000)) <| match Y with
          | .one (.d (.sl ys)) => Do (∀ y ∈ ys, y.length = zz.1) ∧ Do ((xs.length + ys.length) * zz.2.1 ≤ 140737488355328) ∧ k (s.appd o.dst kk (.lst e zz.1 (xs ++ ys)))
          | .one (.ol k2) => opt z (s.gob k2) fun B => match B with
            | .lst E2 es2 ys => chk z (decide (es2 = zz.1)) (Do ((xs.length + ys.length) * zz.2.1 ≤ 140737488355328) ∧ k (s.appd o.dst kk (.lst e zz.1 (xs ++ ys))))
            | _ => z
          | _ => z
        | _ => z
      | .one .e0 => opt z o.dst fun d => chk z (decide (d < 2000) && s.fresh [(d, .lst e zz.1 [])]) <| match Y with
        | .one (.d (.sl ys)) => Do (∀ y ∈ ys, y.length = zz.1) ∧ Do (ys.length * zz.2.1 ≤ 140737488355328) ∧ k (s.appd o.dst d (.lst e zz.1 ys))
        | .one (.ol k2) => opt z (s.gob k2) fun B => match B with
          | .lst E2 es2 ys => chk z (decide (es2 = zz.1)) (Do (ys.length * zz.2.1 ≤ 140737488355328) ∧ k (s.appd o.dst d (.lst e zz.1 ys)))
          | _ => z
        | _ => z
      | _ => z
    | _, _, _ => z
  | _ => z

theorem arr2 {α : Type} {xs : Array α} {a b : α} (h : xs.toList = [a, b]) : xs = #[a, b] := by
  rw [← Array.toArray_toList (xs := xs), h]
theorem mul_le_of {a b c : Nat} (hb : 0 < b) (h : a * b ≤ c) : a ≤ c := Nat.le_trans (Nat.le_mul_of_pos_right a hb) h

section
variable {Γ : Cx} {P : Program} {E : Env} {z : Prop} {ops : Array Oper} {rest : List Oper} {o : Oper} {s : St} {k K : St → Prop}
theorem vA_sound (hE : EnvOk P E) (hz : ¬ z) (hg : o.guard = none) (hk : ∀ s', k s' → aOps Γ P ops rest K s') (h : vA z E Γ.n o s k) : aOps Γ P ops (o :: rest) K s := by
  unfold vA at h
  split at h
  · rename_i t x y ho
    obtain ⟨i, hi, h⟩ := opt_inv hz h
    obtain ⟨X, hX, h⟩ := opt_inv hz h
    obtain ⟨zs, hzs, h⟩ := opt_inv hz h
    obtain ⟨hd, h⟩ := chk_inv hz h
    have hd : o.dst = none := by simpa using hd
    obtain ⟨Z, hZ, hc⟩ : ∃ Z, s.ev y = some Z ∧ Z.cells = some zs := by
      cases hy : s.ev y with
      | none => rw [hy] at hzs; simp at hzs
      | some Z => rw [hy] at hzs; exact ⟨Z, rfl, hzs⟩
    split at h
    · obtain ⟨Y, hY, h⟩ := opt_inv hz h
      split at h
      · obtain ⟨hl, h⟩ := chk_inv hz h
        simp only [Bool.and_eq_true, decide_eq_true_eq] at hl
        exact st_store hE.tab ho hg hd hX hZ hc hY hi hl.1.1 hl.1.2 hl.2 (hk _ h)
      · obtain ⟨ds, hds, h⟩ := opt_inv hz h
        obtain ⟨ck, hck, h⟩ := opt_inv hz h
        obtain ⟨hl, h⟩ := chk_inv hz h
        obtain ⟨h1, h2, h3⟩ := of_decide_eq_true hl
        obtain ⟨q, m, hoff, h⟩ := orQ_ex h
        obtain ⟨c, _, hm, h⟩ := shp_ex h
        obtain ⟨hq, h⟩ := chk_inv hz h
        have hq := of_decide_eq_true hq
        exact st_storeL hE.tab ho hg hd hX hZ hc hds hY hi h1 hm hoff hq h2 (hk _ h)
    · exact absurd h hz
  · rename_i c ho
    obtain ⟨callee, args, ats⟩ := c
    simp only at h
    split at h
    · rename_i x y t t' ha1 ha2
      have ha1 := arr2 ha1
      have ha2 := arr2 ha2
      subst ha1; subst ha2
      obtain ⟨hl, h⟩ := chk_inv hz h
      simp only [Bool.and_eq_true, decide_eq_true_eq] at hl
      obtain ⟨htt, hd⟩ := hl
      rw [← htt] at ho
      obtain ⟨i, hi, h⟩ := opt_inv hz h
      obtain ⟨e, he, h⟩ := opt_inv hz h
      obtain ⟨⟨zn, zb, zc⟩, hzz, h⟩ := opt_inv hz h
      obtain ⟨hl, h⟩ := chk_inv hz h
      obtain ⟨h1, h2, h3⟩ := of_decide_eq_true hl
      obtain ⟨X, hX, h⟩ := opt_inv hz h
      obtain ⟨Y, hY, h⟩ := opt_inv hz h
      have hzer := hE.zer e _ hzz
      dsimp only at h h2 h3 hzer
      split at h
      · obtain ⟨A, hA, h⟩ := opt_inv hz h
        split at h
        · obtain ⟨hl, h⟩ := chk_inv hz h
          obtain ⟨e1, e2, h4⟩ := of_decide_eq_true hl
          rw [e1, e2] at hA
          split at h
          · exact st_appD hE.tab hzer ho hg hd hi h1 he h2 hX hA hY h.1.h h.2.1.h (Nat.le_trans (mul_le_of h3 h.2.1.h) (by decide)) (hk _ h.2.2) h4
          · obtain ⟨B, hB, h⟩ := opt_inv hz h
            split at h
            · obtain ⟨hl, h⟩ := chk_inv hz h
              have := of_decide_eq_true hl
              rw [this] at hB
              refine aOps_len hB fun _ hyes => ?_
              exact st_appO hE.tab hzer ho hg hd hi h1 he h2 hX hA hY hB hyes h.1.h (Nat.le_trans (mul_le_of h3 h.1.h) (by decide)) (hk _ h.2) h4
            · exact absurd h hz
          · exact absurd h hz
        · exact absurd h hz
      · obtain ⟨d, hdd, h⟩ := opt_inv hz h
        obtain ⟨hl, h⟩ := chk_inv hz h
        simp only [Bool.and_eq_true, decide_eq_true_eq] at hl
        obtain ⟨h4, hf⟩ := hl
        split at h
        · exact st_appD0 d hE.tab hzer ho hg hd hi h1 he h2 hX hf hY h.1.h h.2.1.h (Nat.le_trans (mul_le_of h3 h.2.1.h) (by decide)) (hk _ h.2.2) h4
        · obtain ⟨B, hB, h⟩ := opt_inv hz h
          split at h
          · obtain ⟨hl, h⟩ := chk_inv hz h
            have := of_decide_eq_true hl
            rw [this] at hB
            refine aOps_len hB fun _ hyes => ?_
            exact st_appO0 d hE.tab hzer ho hg hd hi h1 he h2 hX hf hY hB hyes h.1.h (Nat.le_trans (mul_le_of h3 h.1.h) (by decide)) (hk _ h.2) h4
          · exact absurd h hz
        · exact absurd h hz
      · exact absurd h hz
    · exact absurd h hz
  · exact absurd h hz
end

end AM
end Go.Proofs.Ytbgpofimflnabaa
