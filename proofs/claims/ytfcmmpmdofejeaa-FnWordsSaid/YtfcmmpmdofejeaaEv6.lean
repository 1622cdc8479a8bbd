/- What a function's text asks, as one proposition that is computed; no conditions. -/
import Derived.Test.YtfcmmpmdofejeaaEvd
set_option linter.unusedSimpArgs false
set_option linter.unusedVariables false
namespace Go.Proofs.Ytfcmmpmdofejeaa
namespace AM
open Go

def vSu (z : Prop) (P : Program) (E : Env) (n : Nat) (o : Oper) (s : St) (k : St → Prop) : Prop :=
  vS z P E o s s fun y nob => chk z (o.dst.all (· < n) && s.fresh nob) (k (s.upd o.dst y nob))
def isExt (E : Env) : Operand → Bool
  | .func f => E.ext.contains f
  | _ => false
/-- Is a list written out of lists of the call's own and of others'? -/
def litSl (s : St) (o : Oper) : Bool := match o.op with
  | .buildSlice _ _ ps => match partsA s.ev ps.toList with
    | some ps' => (ps'.map (·.2)).flatten.any fun x => match x with
      | .d (.sl _) => true
      | _ => false
    | none => false
  | _ => false
def vOp (z : Prop) (P : Program) (E : Env) (n : Nat) (o : Oper) (s : St) (k : St → Prop) : Prop := match o.op with
  | .store _ x _ => match isMt s x with
    | true => vStoreM z E o s k
    | false => vA z E n o s k
  | .binOp .eql _ x y _ => match isNilQ s x y with
    | true => vNil z E n o s k
    | false => vSu z P E n o s k
  | .load _ x => match isMt s x with
    | true => vLoadM z E n o s k
    | false => vSu z P E n o s k
  | .buildSlice _ _ _ => match (litIds s o).isEmpty || litSl s o with
    | true => vSu z P E n o (frzAll s (litIds s o)) k
    | false => vA z E n o s k
  | .call c => match c.callee with
    | .value v => match isExt E v with
      | true => vSu z P E n o s k
      | false => match isOvl E v with
        | true => vOvl z E n o s k
        | false => match rawArg s c with
          | true => vCallM z P E n o s k
          | false => vY z P E n o s k
    | .builtin .append => vA z E n o s k
    | .builtin .copy => vA z E n o s k
    | .builtin .clear => vA z E n o s k
    | _ => vSu z P E n o s k
  | _ => vSu z P E n o s k
def vOpG (z : Prop) (P : Program) (E : Env) (n : Nat) (o : Oper) (s : St) (k : St → Prop) : Prop := match o.op with
  | .call c => match c.callee with
    | .value v => match isExt E v with
      | true => vSu z P E n o s k
      | false => vY z P E n o s k
    | _ => vSu z P E n o s k
  | _ => vSu z P E n o s k

/-- A region in the order of the text. -/
def vOps (P : Program) (E : Env) (n rg : Nat) (ops : Array Oper) : List Oper → Nat → St → (St → Prop) → Prop
  | [], _, s, k => k s
  | o :: r, ix, s, k => match o.guard with
    | none => vOp (Stop rg ix) P E n o s fun s' => vOps P E n rg ops r (ix + 1) s' k
    | some jw => opt (Stop rg ix) ((ops[jw.1]?).bind (·.dst)) fun d => opt (Stop rg ix) (s.get d) fun g => match g with
      | .one (.d (.bool b)) =>
        let gd := fun (bb : Bool) => let s1 := s.upd (some d) (B bb) []; match bb == jw.2 with
          | true => vOpG (Stop rg ix) P E n o s1 fun s' => vOps P E n rg ops r (ix + 1) s' k
          | false => chk (Stop rg ix) (o.dst.all (· < n)) (vOps P E n rg ops r (ix + 1) (s1.upd o.dst (.tup []) []) k)
        ifB b (gd true) (gd false)
      | .tup ys => chk (Stop rg ix) (ys.isEmpty && o.dst.all (· < n)) (vOps P E n rg ops r (ix + 1) (s.upd o.dst (.tup []) []) k)
      | _ => Stop rg ix

/-- A region whose order is open. -/
def vDraw (P : Program) (E : Env) (n rg : Nat) (s0 : St) (ops : Array Oper) : List Oper → Nat → St → (St → Prop) → Prop
  | [], _, s, k => k s
  | o :: r, ix, s, k =>
    let go := fun (s : St) => vS (Stop rg ix) P E o s s0 fun y nob => chk (Stop rg ix) (o.dst.all (· < n) && s.fresh nob && s0.fresh nob && idsOk s0 y nob) (vDraw P E n rg s0 ops r (ix + 1) (s.upd o.dst y nob) k)
    match o.guard with
    | none => go s
    | some jw => opt (Stop rg ix) ((ops[jw.1]?).bind (·.dst)) fun d => opt (Stop rg ix) (s.get d) fun g => match g with
      | .one (.d (.bool b)) =>
        let gd := fun (bb : Bool) => let s1 := s.upd (some d) (B bb) []; match bb == jw.2 with
          | true => go s1
          | false => chk (Stop rg ix) (o.dst.all (· < n)) (vDraw P E n rg s0 ops r (ix + 1) (s1.upd o.dst (.tup []) []) k)
        ifB b (gd true) (gd false)
      | .tup ys => chk (Stop rg ix) (ys.isEmpty && o.dst.all (· < n)) (vDraw P E n rg s0 ops r (ix + 1) (s.upd o.dst (.tup []) []) k)
      | _ => Stop rg ix

section
variable {Γ : Cx} {P : Program} {E : Env} {z : Prop} {o : Oper} {s s0 : St} {k K : St → Prop} {ops : Array Oper} {rest : List Oper} {rg : Nat}
theorem vSu_sound (hE : EnvOk P E) (hz : ¬ z) (h : vSu z P E Γ.n o s k) : ∃ y nob, OpS P o s s y nob ∧ o.dst.all (· < Γ.n) = true ∧ s.fresh nob = true ∧ k (s.upd o.dst y nob) := by
  obtain ⟨y, nob, h1, h⟩ := vS_sound hE hz h
  obtain ⟨h2, h⟩ := chk_inv hz h
  simp only [Bool.and_eq_true] at h2
  exact ⟨y, nob, h1, h2.1, h2.2, h⟩
theorem vOp_sound (hE : EnvOk P E) (hz : ¬ z) (hg : o.guard = none) (hk : ∀ s', k s' → aOps Γ P ops rest K s') (h : vOp z P E Γ.n o s k) : aOps Γ P ops (o :: rest) K s := by
  have su : vSu z P E Γ.n o s k → aOps Γ P ops (o :: rest) K s := fun h => by
    obtain ⟨y, nob, h1, h2, h3, h⟩ := vSu_sound hE hz h
    exact st_op h1 hg h2 h3 (hk _ h)
  unfold vOp at h
  split at h
  · split at h
    · exact vStoreM_sound hE hz hg hk h
    · exact vA_sound hE hz hg hk h
  · rename_i ho
    split at h
    · rename_i hq
      exact vNil_sound hE hz hg hk ho hq h
    · exact su h
  · split at h
    · exact vLoadM_sound hE hz hg hk h
    · exact su h
  · split at h
    · obtain ⟨y, nob, h1, h2, h3, h⟩ := vSu_sound hE hz h
      exact aOps_to To.frzAll (st_op h1 hg h2 h3 (hk _ h))
    · exact vA_sound hE hz hg hk h
  · split at h
    · split at h
      · exact su h
      · split at h
        · obtain ⟨s', h1, h⟩ := vOvl_sound hE hz h
          exact st_x h1 hg (hk _ h)
        · split at h
          · exact vCallM_sound hE hz hg hk h
          · obtain ⟨s', h1, h⟩ := vY_sound hE hz h
            exact st_x h1 hg (hk _ h)
    · exact vA_sound hE hz hg hk h
    · exact vA_sound hE hz hg hk h
    · exact vA_sound hE hz hg hk h
    · exact su h
  · exact su h
theorem vOpG_sound (hE : EnvOk P E) (hz : ¬ z) {j d : Nat} {want : Bool} (hg : o.guard = some (j, want)) (hj : (ops[j]?).bind (·.dst) = some d) (hb : s.get d = some (B want)) (hk : ∀ s', k s' → aOps Γ P ops rest K s') (h : vOpG z P E Γ.n o s k) : aOps Γ P ops (o :: rest) K s := by
  have su : vSu z P E Γ.n o s k → aOps Γ P ops (o :: rest) K s := fun h => by
    obtain ⟨y, nob, h1, h2, h3, h⟩ := vSu_sound hE hz h
    exact st_run h1 hg hj hb h2 h3 (hk _ h)
  unfold vOpG at h
  split at h
  · split at h
    · split at h
      · exact su h
      · obtain ⟨s', h1, h⟩ := vY_sound hE hz h
        exact st_xg h1 hg hj hb rfl (hk _ h)
    · exact su h
  · exact su h
theorem vOps_sound (hE : EnvOk P E) (hk : ∀ s, k s → K s) : ∀ {l : List Oper} {ix : Nat} {s : St}, vOps P E Γ.n rg ops l ix s k → aOps Γ P ops l K s
  | [], _, _, h => aOps_nil (hk _ h)
  | o :: r, ix, s, h => by
    simp only [vOps] at h
    split at h
    · rename_i hg
      exact vOp_sound hE no_stop hg (fun s' h => vOps_sound hE hk h) h
    · rename_i jw hg
      obtain ⟨j, want⟩ := jw
      obtain ⟨d, hd, h⟩ := opt_inv no_stop h
      obtain ⟨g, hgd, h⟩ := opt_inv no_stop h
      split at h
      · rename_i b
        have gd : ∀ bb : Bool, (match bb == want with
          | true => vOpG (Stop rg ix) P E Γ.n o (s.upd (some d) (B bb) []) fun s' => vOps P E Γ.n rg ops r (ix + 1) s' k
          | false => chk (Stop rg ix) (o.dst.all (· < Γ.n)) (vOps P E Γ.n rg ops r (ix + 1) ((s.upd (some d) (B bb) []).upd o.dst (.tup []) []) k)) → aOps Γ P ops (o :: r) K (s.upd (some d) (B bb) []) := by
          intro bb hh
          have hget : (s.upd (some d) (B bb) []).get d = some (B bb) := by rw [get_upd]; simp
          by_cases e : bb = want
          · subst e
            simp only [beq_self_eq_true] at hh
            exact vOpG_sound hE no_stop hg hd hget (fun s' h => vOps_sound hE hk h) hh
          · have e2 : bb = !want := by cases bb <;> cases want <;> simp_all
            subst e2
            have e3 : ((!want) == want) = false := by cases want <;> rfl
            rw [e3] at hh
            obtain ⟨h1, hh⟩ := chk_inv no_stop hh
            exact st_skipV hg hd hget h1 (vOps_sound hE hk hh)
        refine st_gsplit hg hd hgd (fun e => ?_) fun e => ?_
        · subst e; exact gd true h
        · subst e; exact gd false h
      · rename_i ys
        obtain ⟨h1, h⟩ := chk_inv no_stop h
        simp only [Bool.and_eq_true, List.isEmpty_iff] at h1
        obtain ⟨h2, h3⟩ := h1
        rw [h2] at hgd
        exact st_skipU hg hd hgd h3 (vOps_sound hE hk h)
      · exact absurd h no_stop
theorem vDraw_sound (hE : EnvOk P E) (hk : ∀ s, k s → K s) : ∀ {l : List Oper} {ix : Nat} {s : St}, vDraw P E Γ.n rg s0 ops l ix s k → PR Γ P ops s0 l s K
  | [], _, _, h => pq_nil (hk _ h)
  | o :: r, ix, s, h => by
    have go : ∀ (s : St) (h : vS (Stop rg ix) P E o s s0 fun y nob => chk (Stop rg ix) (o.dst.all (· < Γ.n) && s.fresh nob && s0.fresh nob && idsOk s0 y nob) (vDraw P E Γ.n rg s0 ops r (ix + 1) (s.upd o.dst y nob) k)),
      ∃ y nob, OpS P o s s0 y nob ∧ o.dst.all (· < Γ.n) = true ∧ s.fresh nob = true ∧ s0.fresh nob = true ∧ idsOk s0 y nob = true ∧ PR Γ P ops s0 r (s.upd o.dst y nob) K := by
      intro s h
      obtain ⟨y, nob, h1, h⟩ := vS_sound hE no_stop h
      obtain ⟨h2, h⟩ := chk_inv no_stop h
      simp only [Bool.and_eq_true] at h2
      exact ⟨y, nob, h1, h2.1.1.1, h2.1.1.2, h2.1.2, h2.2, vDraw_sound hE hk h⟩
    simp only [vDraw] at h
    split at h
    · rename_i hg
      obtain ⟨y, nob, h1, h2, h3, h4, h5, h⟩ := go s h
      exact pq_op h1 hg h2 h3 h4 h5 h
    · rename_i jw hg
      obtain ⟨j, want⟩ := jw
      obtain ⟨d, hd, h⟩ := opt_inv no_stop h
      obtain ⟨g, hgd, h⟩ := opt_inv no_stop h
      split at h
      · rename_i b
        have gd : ∀ bb : Bool, (match bb == want with
          | true => vS (Stop rg ix) P E o (s.upd (some d) (B bb) []) s0 fun y nob => chk (Stop rg ix) (o.dst.all (· < Γ.n) && (s.upd (some d) (B bb) []).fresh nob && s0.fresh nob && idsOk s0 y nob) (vDraw P E Γ.n rg s0 ops r (ix + 1) ((s.upd (some d) (B bb) []).upd o.dst y nob) k)
          | false => chk (Stop rg ix) (o.dst.all (· < Γ.n)) (vDraw P E Γ.n rg s0 ops r (ix + 1) ((s.upd (some d) (B bb) []).upd o.dst (.tup []) []) k)) → PR Γ P ops s0 (o :: r) (s.upd (some d) (B bb) []) K := by
          intro bb hh
          have hget : (s.upd (some d) (B bb) []).get d = some (B bb) := by rw [get_upd]; simp
          by_cases e : bb = want
          · subst e
            simp only [beq_self_eq_true] at hh
            obtain ⟨y, nob, h1, h2, h3, h4, h5, hh⟩ := go _ hh
            exact pq_run h1 hg hd hget rfl h2 h3 h4 h5 hh
          · have e2 : bb = !want := by cases bb <;> cases want <;> simp_all
            subst e2
            have e3 : ((!want) == want) = false := by cases want <;> rfl
            rw [e3] at hh
            obtain ⟨h1, hh⟩ := chk_inv no_stop hh
            exact pq_skip hg hd (.inl hget) h1 (vDraw_sound hE hk hh)
        refine pq_lit hgd (fun e => ?_) fun e => ?_
        · subst e; exact gd true h
        · subst e; exact gd false h
      · rename_i ys
        obtain ⟨h1, h⟩ := chk_inv no_stop h
        simp only [Bool.and_eq_true, List.isEmpty_iff] at h1
        obtain ⟨h2, h3⟩ := h1
        rw [h2] at hgd
        exact pq_skip hg hd (.inr hgd) h3 (vDraw_sound hE hk h)
      · exact absurd h no_stop
end

/-- What is kept of a state where ways meet. -/
structure Hint where
  ts : List Nat
  fz : List Nat
  nl : List (Nat × Nat × Nat)
  nc : List (Nat × Nat × Nat × Nat)
  na : List (Nat × Nat × Nat × Nat) := []
  dg : List Nat := []
  sl : List Nat := []
structure Hints where
  loops : List (Nat × Hint)
  joins : List (Nat × Hint)

def lstIds (s : St) : List Nat → List Nat
  | [] => []
  | t :: r => match s.get t with
    | some x => x.ids ++ lstIds s r
    | none => lstIds s r
def slotIds (s : St) : List Nat → List Nat
  | [] => []
  | t :: r => match s.get t with
    | some (.one (.op k _)) => (match s.gob k with
      | some (.var cs) => olIds [.agg cs]
      | _ => []) ++ slotIds s r
    | some x => olIds [x] ++ slotIds s r
    | none => slotIds s r
def nilAll (s : St) : List (Nat × Nat × Nat) → St
  | [] => s
  | (t, e, es) :: r => match s.get t with
    | some (.one .e0) => match s.fresh [(1400 + t, .lst e es [])] with
      | true => nilAll (s.nilOb t (1400 + t) e es) r
      | false => nilAll s r
    | _ => nilAll s r
theorem To.nilAll : ∀ {l : List (Nat × Nat × Nat)} {s : St}, To s (nilAll s l)
  | [], s => To.refl s
  | (t, e, es) :: r, s => by
    simp only [AM.nilAll]
    split
    · rename_i ht
      split
      · rename_i hf
        exact (To.nilOb ht hf).trans To.nilAll
      · exact To.nilAll
    · exact To.nilAll
/-- Lists that variables name. -/
def inVars : List (Nat × Ob) → List Nat
  | [] => []
  | (_, .var cs) :: r => olIds [.agg cs] ++ inVars r
  | _ :: r => inVars r
def isList (s : St) (k : Nat) : Bool := match s.gob k with
  | some (.lst _ _ _) => true
  | some (.tr _ _ _) => true
  | _ => false
def numLow (keep : Nat → Bool) : Nat → List Nat → List (Nat × Nat)
  | _, [] => []
  | n, k :: r => match decide (2000 ≤ k) && keep k with
    | true => (k, k) :: numLow keep n r
    | false => (k, n) :: numLow keep (n + 1) r
def canonR (s : St) (ts : List Nat) (l : List (Nat × Nat)) : St := match renGood l with
  | true => s.ren l ts
  | false => s
def nilCells (s : St) : List (Nat × Nat × Nat × Nat) → St
  | [] => s
  | (t, q, e, es) :: r => match s.get t with
    | some (.one (.op k _)) => match s.gob k with
      | some (.var cs) => match cs[q]? with
        | some .e0 => match s.fresh [(1600 + t + 29 * q, .lst e es [])] with
          | true => nilCells (s.nilCell k q (1600 + t + 29 * q) e es cs) r
          | false => nilCells s r
        | _ => nilCells s r
      | _ => nilCells s r
    | _ => nilCells s r
theorem To.nilCells : ∀ {l : List (Nat × Nat × Nat × Nat)} {s : St}, To s (nilCells s l)
  | [], s => To.refl s
  | (t, q, e, es) :: r, s => by
    simp only [AM.nilCells]
    split
    · split
      · rename_i cs hk
        split
        · rename_i hc
          split
          · rename_i hf
            exact (To.nilCell hk hc hf).trans To.nilCells
          · exact To.nilCells
        · exact To.nilCells
      · exact To.nilCells
    · exact To.nilCells
def nilDats (s : St) : List Nat → St
  | [] => s
  | t :: r => match s.get t with
    | some (.one .e0) => nilDats (s.nilDat t) r
    | some (.agg cs) => nilDats (s.nilAgD t cs) r
    | _ => nilDats s r
theorem To.nilDats : ∀ {l : List Nat} {s : St}, To s (nilDats s l)
  | [], s => To.refl s
  | t :: r, s => by
    simp only [AM.nilDats]
    split
    · rename_i ht
      exact (To.nilDat ht).trans To.nilDats
    · rename_i ht
      exact (To.nilAgD ht).trans To.nilDats
    · exact To.nilDats
def nilAggs (s : St) : List (Nat × Nat × Nat × Nat) → St
  | [] => s
  | (t, q, e, es) :: r => match s.get t with
    | some (.agg cs) => match cs[q]? with
      | some .e0 => match s.fresh [(1100 + t + 61 * q, .lst e es [])] with
        | true => nilAggs (s.nilAgg t q (1100 + t + 61 * q) e es cs) r
        | false => nilAggs s r
      | _ => nilAggs s r
    | _ => nilAggs s r
theorem To.nilAggs : ∀ {l : List (Nat × Nat × Nat × Nat)} {s : St}, To s (nilAggs s l)
  | [], s => To.refl s
  | (t, q, e, es) :: r, s => by
    simp only [AM.nilAggs]
    split
    · rename_i ht
      split
      · rename_i hc
        split
        · rename_i hf
          exact (To.nilAgg ht hc hf).trans To.nilAggs
        · exact To.nilAggs
      · exact To.nilAggs
    · exact To.nilAggs
def canon (h : Hint) (s : St) : St :=
  let s0 := nilAggs (nilCells (nilAll s h.nl) h.nc) h.na
  let s1 := nilDats (frzAll s0 (slotIds s0 h.fz)) h.fz
  let s2 := degrAll s1 (slotIds s1 h.dg)
  let s3 := sealAll s2 (slotIds s2 h.sl)
  canonR s3 h.ts (numLow (fun k => !((inVars s3.ob).contains k && isList s3 k)) 1900 (reachOb s3 8 (addAll [] (lstIds s3 h.ts))))
theorem To.canonR {s : St} {ts : List Nat} {l : List (Nat × Nat)} : To s (canonR s ts l) := by
  unfold AM.canonR
  split
  · rename_i h; exact To.ren h
  · exact To.refl s
theorem To.canon {h : Hint} {s : St} : To s (canon h s) := To.nilAll.trans (To.nilCells.trans (To.nilAggs.trans (To.frzAll.trans (To.nilDats.trans (To.degrAll.trans (To.sealAll.trans To.canonR))))))
def canonO (h : Option Hint) (s : St) : St := match h with
  | some h => canon h s
  | none => s
theorem To.canonO {h : Option Hint} {s : St} : To s (canonO h s) := by
  cases h with
  | some h => exact To.canon
  | none => exact To.refl s

def firstReg : Code → Nat
  | .region id _ _ => id
  | .seq a _ => firstReg a
  | .block _ c => firstReg c
  | .loop c => firstReg c
  | _ => 100000

/-- A loop's rounds ahead, whatever the call began in. -/
structure CL (n : Nat) (P : Program) (c : Code) (N : St → Prop) (E : Exit → St → Prop) (s : St) : Prop where
  h : ∀ Γ : Cx, Γ.n = n → WL Γ P c N E s
/-- What stands behind a meeting of ways. -/
structure CW (n : Nat) (P : Program) (c : Code) (N : St → Prop) (E : Exit → St → Prop) (s : St) : Prop where
  h : ∀ Γ : Cx, Γ.n = n → W Γ P c N E s

/-- Does a region call, write or append? -/
def needX : List Oper → Bool
  | [] => false
  | o :: r => (match o.op with
    | .store _ _ _ => true
    | .call c => (match c.callee with
      | .value _ => true
      | .builtin .append => true
      | .builtin .copy => true
      | .builtin .clear => true
      | _ => false)
    | _ => false) || needX r
def vC (P : Program) (E : Env) (hs : Hints) (n : Nat) : Code → St → (St → Prop) → (Exit → St → Prop) → Prop
  | .skip, s, kn, _ => kn s
  | .region id ops draw, s, kn, _ => frcP (colsOf E ops.toList []) fun cols => match draw with
    | false => vOps P { E with cols := cols } n id ops ops.toList 0 s kn
    | true => chk (Stop id 1000) (drawOkM ops) (match needX ops.toList with
      | true => frcL (masks ops.toList []) fun ms => vDX P { E with cols := cols } n id ops ms ops.toList 0 s [] kn
      | false => vDraw P { E with cols := cols } n id s ops ops.toList 0 s kn)
  | .seq a b, s, kn, ke => vC P E hs n a s (fun s' => match look hs.joins (firstReg b) with
    | some h => CW n P b kn ke (canon h s')
    | none => vC P E hs n b s' kn ke) ke
  | .cond c a b, s, kn, ke => opt (Stop 0 0) ((s.ev c).bind asB) fun bb => ifB bb (vC P E hs n a s kn ke) (vC P E hs n b s kn ke)
  | .block id c, s, kn, ke => vC P E hs n c s kn (blockE id kn ke)
  | .loop c, s, kn, ke => CL n P c kn ke (canonO (look hs.loops (firstReg c)) s)
  | .exit id, s, _, ke => ke (.exit id) s
  | .ret, s, _, ke => ke .ret s
  | _, _, _, _ => Stop 0 1

theorem vC_sound {P : Program} {E : Env} {hs : Hints} (hE : EnvOk P E) (hm : P.follows .mixedOrders = true) {n : Nat} : ∀ (c : Code) {s : St} {kn : St → Prop} {ke : Exit → St → Prop}, vC P E hs n c s kn ke → ∀ Γ : Cx, Γ.n = n → W Γ P c kn ke s
  | .skip, s, kn, ke, h, Γ, hn => W_skip h
  | .region id ops draw, s, kn, ke, h, Γ, hn => by
    subst hn
    simp only [vC, frcP_eq] at h
    have hE := hE.cols (colsOf E ops.toList [])
    cases draw with
    | false =>
      have := vOps_sound (Γ := Γ) (K := kn) hE (fun _ h => h) h
      have h2 := W_region (E := ke) (id := id) (l := ops.toList) (by simpa using this)
      simpa using h2
    | true =>
      obtain ⟨h1, h⟩ := chk_inv no_stop h
      cases hX : needX ops.toList with
      | true =>
        rw [hX] at h
        simp only [frcL_eq] at h
        have h2 := W_drawX (Γ := Γ) (Ex := ke) (N := kn) (id := id) (l := ops.toList) hE hm (by simpa using drawOk_of h1) (fun _ h => h) (by simpa using h)
        simpa using h2
      | false =>
        rw [hX] at h
        have := vDraw_sound (Γ := Γ) (K := kn) hE (fun _ h => h) h
        have h2 := W_drawK (E := ke) (id := id) (l := ops.toList) hm (by simpa using drawOk_of h1) (by simpa using this)
        simpa using h2
  | .seq a b, s, kn, ke, h, Γ, hn => by
    refine W_seq (W_mono (vC_sound hE hm a h Γ hn) (fun s' h => ?_) fun _ _ h => h)
    split at h
    · exact W_to To.canon (h.h Γ hn)
    · exact vC_sound hE hm b h Γ hn
  | .cond c a b, s, kn, ke, h, Γ, hn => by
    obtain ⟨bb, hb, h⟩ := opt_inv no_stop h
    have hb : s.ev c = some (B bb) := by
      cases hx : s.ev c with
      | none => rw [hx] at hb; simp at hb
      | some X => rw [hx] at hb; exact congrArg some (asB_inv hb)
    refine W_cond hb (fun e => ?_) fun e => ?_
    · subst e; exact vC_sound hE hm a h Γ hn
    · subst e; exact vC_sound hE hm b h Γ hn
  | .block id c, s, kn, ke, h, Γ, hn => W_block (vC_sound hE hm c h Γ hn)
  | .loop c, s, kn, ke, h, Γ, hn => W_loop' h.h hn
  | .exit id, s, kn, ke, h, Γ, hn => W_exit h
  | .ret, s, kn, ke, h, Γ, hn => W_ret h
  | .rangeFunc .., s, kn, ke, h, Γ, hn => absurd h no_stop
  | .scope _, s, kn, ke, h, Γ, hn => absurd h no_stop
  | .label _, s, kn, ke, h, Γ, hn => absurd h no_stop
  | .goto _, s, kn, ke, h, Γ, hn => absurd h no_stop
  | .refuse _, s, kn, ke, h, Γ, hn => absurd h no_stop
where W_loop' {Γ : Cx} {P : Program} {c : Code} {kn : St → Prop} {ke : Exit → St → Prop} {s : St} {n : Nat} {h : Option Hint} (h1 : ∀ Γ : Cx, Γ.n = n → WL Γ P c kn ke (canonO h s)) (hn : Γ.n = n) : W Γ P (.loop c) kn ke s := W_to To.canonO (WL_loop (h1 Γ hn))

/-- One round of a loop. -/
theorem cl_of {P : Program} {E : Env} {hs : Hints} (hE : EnvOk P E) (hm : P.follows .mixedOrders = true) {n : Nat} {c : Code} {s : St} {kn : St → Prop} {ke : Exit → St → Prop} (h : vC P E hs n c s (fun s' => CL n P c kn ke (canonO (look hs.loops (firstReg c)) s')) ke) : CL n P c kn ke s :=
  ⟨fun Γ hn => WL_round (W_mono (vC_sound hE hm c h Γ hn) (fun s' h => WL_to To.canonO (h.h Γ hn)) fun _ _ h => h)⟩
theorem cw_of {P : Program} {E : Env} {hs : Hints} (hE : EnvOk P E) (hm : P.follows .mixedOrders = true) {n : Nat} {c : Code} {s : St} {kn : St → Prop} {ke : Exit → St → Prop} (h : vC P E hs n c s kn ke) : CW n P c kn ke s :=
  ⟨fun Γ hn => vC_sound hE hm c h Γ hn⟩

end AM
end Go.Proofs.Ytfcmmpmdofejeaa
