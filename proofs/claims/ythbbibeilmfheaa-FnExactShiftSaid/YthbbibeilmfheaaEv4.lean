/- Operations that write, lists that are lent, results; no conditions. -/
import Derived.Test.YthbbibeilmfheaaEv3
set_option linter.unusedSimpArgs false
set_option linter.unusedVariables false
namespace Go.Proofs.Ythbbibeilmfheaa
namespace AM
open Go

/-- The walk stops here. -/
structure Stop (rg ix : Nat) : Prop where
  h : False
theorem no_stop {a b : Nat} : ¬ Stop a b := fun h => h.h

/-- Lists named in cells are sealed. -/
def sealL (s : St) : List Nat → St
  | [] => s
  | k :: r => match s.gob k with
    | some (.tr _ _ xs) => match decide (k < 2000) with
      | true => sealL (s.seal k xs) r
      | false => sealL s r
    | _ => sealL s r
theorem To.sealL : ∀ {ks : List Nat} {s : St}, To s (sealL s ks)
  | [], s => To.refl s
  | k :: r, s => by
    simp only [AM.sealL]
    split
    · rename_i hk
      split
      · rename_i hl
        exact To.trans (fun Γ a w S β hs => hs.seal hk (of_decide_eq_true hl)) To.sealL
      · exact To.sealL
    · exact To.sealL
def ndB : List Nat → Bool
  | [] => true
  | k :: r => !r.contains k && ndB r
theorem ndB_spec : ∀ {l : List Nat}, ndB l = true → l.Nodup
  | [], _ => List.nodup_nil
  | k :: r, h => by
    simp only [ndB, Bool.and_eq_true, Bool.not_eq_true', List.contains_eq_mem, decide_eq_false_iff_not] at h
    exact List.nodup_cons.2 ⟨h.1, ndB_spec h.2⟩
def ckFlat : Option (List CK) → Bool
  | some ks => ks.all fun c => decide (c ≠ .l ∧ c ≠ .f)
  | none => false

/-- What is appended, and what becomes of the list. -/
def apSrc (z : Prop) (E : Env) (s : St) (e kk n : Nat) (tr : Bool) (Y : AV) (K : Bool → List Nat → List (List Da) → Prop) : Prop := match Y with
  | .one (.d (.sl ys)) => Do (∀ y ∈ ys, y.length = n) ∧ match tr && ckFlat (look E.cks e) with
    | true => Do (flatRows ys) ∧ K true [] ys
    | false => K false [] ys
  | .one (.ol k2) => opt z (s.gob k2) fun B => opt z (asL B) fun p => chk z (decide (p.2.2.1 = n)) <| match tr && p.1 with
    | true => chk z (decide (k2 ≠ kk)) (K true [k2] p.2.2.2)
    | false => K false [] p.2.2.2
  | _ => z
theorem apSrc_inv {z : Prop} (hz : ¬ z) {E : Env} {s : St} {e kk n : Nat} {tr : Bool} {y : Operand} {Y : AV} {K : Bool → List Nat → List (List Da) → Prop} (hY : s.ev y = some Y) (h : apSrc z E s e kk n tr Y K) :
    ∃ tr' ks ys, K tr' ks ys ∧ SrcA s y tr' kk n ys ks ∧ (tr' = true → tr = true) ∧ ((∀ y ∈ ys, y.length = n) ∨ ∃ k2 tr2 E2, s.gob k2 = some (mkL tr2 E2 n ys)) := by
  unfold apSrc at h
  split at h
  · obtain ⟨h1, h⟩ := h
    split at h
    · rename_i hb
      simp only [Bool.and_eq_true] at hb
      exact ⟨true, [], _, h.2, .d hY (.inr h.1.h), fun _ => hb.1, .inl h1.h⟩
    · exact ⟨false, [], _, h, .d hY (.inl rfl), by simp, .inl h1.h⟩
  · rename_i k2
    obtain ⟨B, hB, h⟩ := opt_inv hz h
    obtain ⟨⟨tr2, E2, es2, ys⟩, hp, h⟩ := opt_inv hz h
    have hp := asL_inv hp
    rw [hp] at hB
    dsimp only at h hB
    obtain ⟨hn, h⟩ := chk_inv hz h
    have hn := of_decide_eq_true hn
    rw [hn] at hB
    split at h
    · rename_i hb
      simp only [Bool.and_eq_true] at hb
      obtain ⟨hne, h⟩ := chk_inv hz h
      rw [hb.2] at hB
      exact ⟨true, _, _, h, .t hY hB (of_decide_eq_true hne), fun _ => hb.1, .inr ⟨k2, true, E2, hB⟩⟩
    · exact ⟨false, _, _, h, .o hY hB (.inl rfl), by simp, .inr ⟨k2, tr2, E2, hB⟩⟩
  · exact absurd h hz

/-- Where a row is stored into a list whose rows own their blocks, what is stored is sealed first. -/
def sealStore (s : St) (x y : Operand) : St := match s.ev x with
  | some (.one (.op kk _)) => match s.gob kk with
    | some (.tr _ _ _) => match (s.ev y).bind AV.cells with
      | some zs => sealL s (AV.idsL zs)
      | none => s
    | _ => s
  | _ => s
theorem To.sealStore {s : St} {x y : Operand} : To s (sealStore s x y) := by
  unfold AM.sealStore
  split
  · split
    · split
      · exact To.sealL
      · exact To.refl s
    · exact To.refl s
  · exact To.refl s

def vStore (z : Prop) (E : Env) (o : Oper) (s : St) (k : St → Prop) : Prop := match o.op with
  | .store t x y => opt z (look E.tab t) fun i => opt z (s.ev x) fun X => opt z ((s.ev y).bind AV.cells) fun zs => chk z o.dst.isNone <| match X with
    | .one (.op kk off) => opt z (s.gob kk) fun Y => match Y with
      | .var cs => chk z (decide (i.n = zs.length) && decide (off + zs.length ≤ cs.length) && noJunk zs) (k (s.setOb kk (.var (cs.take off ++ zs ++ cs.drop (off + zs.length)))))
      | Y => opt z (asL Y) fun p => opt z (look E.cks p.2.1) fun ck => match p.1, toDsT s zs with
        | true, some q => chk z (decide (i.n = q.1.length ∧ 0 < q.1.length ∧ q.1.length ≤ p.2.2.1) && ndB q.2 && !q.2.contains kk && (q.2.isEmpty || decide (kk < 2000))) <|
          orH (colOf E x) (fun c0 => ∃ m : Nat, off = m * p.2.2.1 + c0 ∧ shp ck fun c => p.2.2.2[m]? = some c ∧ chk z (decide (c0 + q.1.length ≤ c.length)) (k (s.mv (killL q.2) kk q.2 (.tr p.2.1 p.2.2.1 (p.2.2.2.set m (c.take c0 ++ q.1 ++ c.drop (c0 + q.1.length))))))) (p.2.2.1 + 1 - q.1.length) 0
        | _, _ => opt z (toDs zs) fun ds => chk z (decide (i.n = ds.length ∧ 0 < ds.length ∧ ds.length ≤ p.2.2.1)) <|
          orH (colOf E x) (fun c0 => ∃ m : Nat, off = m * p.2.2.1 + c0 ∧ shp ck fun c => p.2.2.2[m]? = some c ∧ chk z (decide (c0 + ds.length ≤ c.length)) (k ((s.setOb kk (.lst p.2.1 p.2.2.1 p.2.2.2)).setOb kk (.lst p.2.1 p.2.2.1 (p.2.2.2.set m (c.take c0 ++ ds ++ c.drop (c0 + ds.length))))))) (p.2.2.1 + 1 - ds.length) 0
    | _ => z
  | _ => z

/-- A store of single cells into memory that is the caller's alone. -/
def vStoreM (z : Prop) (E : Env) (o : Oper) (s : St) (k : St → Prop) : Prop := match o.op with
  | .store t x y => opt z (look E.tab t) fun i => opt z (s.ev x) fun X => opt z ((s.ev y).bind AV.cells) fun zs => opt z (toDs zs) fun ds => chk z (o.dst.isNone && ds.all Da.flat) <| match X with
    | .one (.op kk off) => opt z (s.gob kk) fun Y => match Y with
      | .mt Ee es xs => opt z (look E.cks Ee) fun ck => chk z (decide (i.n = ds.length ∧ 0 < ds.length ∧ ds.length ≤ es)) <|
          orH (colOf E x) (fun c0 => ∃ m : Nat, off = m * es + c0 ∧ shp ck fun c => xs[m]? = some c ∧ chk z (decide (c0 + ds.length ≤ c.length) && ((c.drop c0).take ds.length).all Da.flat) (k (s.mv (killL []) kk [] (.mt Ee es (xs.set m (c.take c0 ++ ds ++ c.drop (c0 + ds.length))))))) (es + 1 - ds.length) 0
      | _ => z
    | _ => z
  | _ => z
/-- A slice that stands in memory that is the caller's alone, read. -/
def vLoadM (z : Prop) (E : Env) (n : Nat) (o : Oper) (s : St) (k : St → Prop) : Prop := match o.op with
  | .load t x => opt z (look E.tab t) fun i => opt z o.dst fun d => opt z (s.ev x) fun X => chk z (!i.agg && decide (d < n)) <| match X with
    | .one (.op kk off) => opt z (s.gob kk) fun Y => match Y with
      | .mt Ee es xs => opt z (look E.cks Ee) fun ck =>
          orH (colOf E x) (fun c0 => ∃ m : Nat, off = m * es + c0 ∧ shp ck fun c => xs[m]? = some c ∧ match c[c0]? with
            | some (.sl ys) => ∀ (a : Option Addr) (l r : Nat), k ((s.setOb kk (.mu Ee es xs m c0 a l r)).upd (some d) (.one (.raw a l r)) [])
            | _ => False) es 0
      | _ => z
    | _ => z
  | _ => z
/-- A slice of data is asked whether it is nil. -/
def vNil (z : Prop) (E : Env) (n : Nat) (o : Oper) (s : St) (k : St → Prop) : Prop := match o.op with
  | .binOp .eql t x y _ => opt z (look E.tab t) fun i => opt z o.dst fun d => opt z (s.ev x) fun X => chk z (decide (i.pr = 4) && i.el.isSome && decide (d < n)) <| match X with
    | .one (.d (.sl xs)) => (xs.flatten = [] → k (s.upd (some d) (B true) [])) ∧ k (s.upd (some d) (B false) [])
    | _ => z
  | _ => z
def isNilQ (s : St) (x y : Operand) : Bool := match s.ev x, s.ev y with
  | some (.one (.d (.sl _))), some (.one .e0) => true
  | _, _ => false
def isMt (s : St) (x : Operand) : Bool := match s.ev x with
  | some (.one (.op kk _)) => match s.gob kk with
    | some (.mt _ _ _) => true
    | _ => false
  | _ => false
def hasOl : List At → Bool
  | [] => false
  | .ol _ :: _ => true
  | _ :: r => hasOl r
/-- A list written out, some of whose cells are lists of the call's own. -/
def vLit (z : Prop) (E : Env) (n : Nat) (o : Oper) (s : St) (k : St → Prop) : Prop := match o.op with
  | .buildSlice t m ps => opt z o.dst fun d => opt z (look E.tab t) fun i => opt z i.el fun e => opt z (look E.zer e) fun zz => chk z (decide (i.pr = 4 ∧ 0 < zz.1 ∧ m * zz.1 ≤ 16777216 ∧ d < n)) <| opt z (partsA s.ev ps.toList) fun ps' =>
      opt z (fillA (fun q => some (q * zz.1, zz.1)) (List.replicate m zz.2.2).flatten ps') fun out => opt z (toDsT s out) fun p => chk z (ndB p.2 && s.fresh [(d, .lst e zz.1 [])]) (k (s.appd (some d) d p.2 (.tr e zz.1 (chunk zz.1 m p.1))))
  | _ => z
/-- The lists named in what is written out. -/
def litIds (s : St) (o : Oper) : List Nat := match o.op with
  | .buildSlice _ _ ps => match partsA s.ev ps.toList with
    | some ps' => AV.idsL (ps'.map (·.2)).flatten
    | none => []
  | _ => []

/-- Stores and appends. -/
def vA (z : Prop) (E : Env) (n : Nat) (o : Oper) (s : St) (k : St → Prop) : Prop := match o.op with
  | .store _ x y => vStore z E o (sealStore s x y) k
  | .buildSlice _ _ _ => vLit z E n o (sealL s (litIds s o)) k
  | .call c => match c.callee, c.args.toList, c.argTypes.toList with
    | .builtin .append, [x, y], [t, t'] => chk z (decide (t = t') && o.dst.all (· < n)) <| opt z (look E.tab t) fun i => opt z i.el fun e => opt z (look E.zer e) fun zz => chk z (decide (i.pr = 4 ∧ 0 < zz.1 ∧ 0 < zz.2.1)) <| opt z (s.ev x) fun X => opt z (s.ev y) fun Y => match X with
      | .one (.ol kk) => opt z (s.gob kk) fun A => opt z (asL A) fun p => chk z (decide (p.2.1 = e ∧ p.2.2.1 = zz.1 ∧ kk < 2000)) <| apSrc z E s e kk zz.1 p.1 Y fun tr' ks ys =>
          Do ((p.2.2.2.length + ys.length) * zz.2.1 ≤ 140737488355328) ∧ k (s.appd o.dst kk ks (mkL tr' e zz.1 (p.2.2.2 ++ ys)))
      | .one .e0 => opt z o.dst fun d => chk z (decide (d < 2000) && s.fresh [(d, .lst e zz.1 [])]) <| apSrc z E s e d zz.1 true Y fun tr' ks ys =>
          Do (ys.length * zz.2.1 ≤ 140737488355328) ∧ k (s.appd o.dst d ks (mkL tr' e zz.1 ys))
      | _ => z
    | _, _, _ => z
  | _ => z

/-- An operation that takes one state into another, whatever the call began in. -/
def Step (n : Nat) (P : Program) (o : Oper) (s s' : St) : Prop := ∀ Γ : Cx, Γ.n = n → ∀ (ops : Array Oper) (rest : List Oper) (K : St → Prop), o.guard = none → aOps Γ P ops rest K s' → aOps Γ P ops (o :: rest) K s

theorem arr2 {α : Type} {xs : Array α} {a b : α} (h : xs.toList = [a, b]) : xs = #[a, b] := by
  rw [← Array.toArray_toList (xs := xs), h]
theorem mul_le_of {a b c : Nat} (hb : 0 < b) (h : a * b ≤ c) : a ≤ c := Nat.le_trans (Nat.le_mul_of_pos_right a hb) h

section
variable {Γ : Cx} {P : Program} {E : Env} {z : Prop} {ops : Array Oper} {rest : List Oper} {o : Oper} {s : St} {k K : St → Prop}
theorem Step.sound {s' : St} (h : Step Γ.n P o s s') (hg : o.guard = none) (hr : aOps Γ P ops rest K s') : aOps Γ P ops (o :: rest) K s := h Γ rfl ops rest K hg hr
theorem vStore_step {n : Nat} (hE : EnvOk P E) (hz : ¬ z) (h : vStore z E o s k) : ∃ s', Step n P o s s' ∧ k s' := by
  unfold vStore at h
  split at h
  · rename_i t x y ho
    obtain ⟨i, hi, h⟩ := opt_inv hz h
    obtain ⟨X, hX, h⟩ := opt_inv hz h
    obtain ⟨zs, hzs, h⟩ := opt_inv hz h
    obtain ⟨hd, h⟩ := chk_inv hz h
    have hd : o.dst = none := by simpa using hd
    obtain ⟨Z, hZ, hc⟩ : ∃ Z, s.ev y = some Z ∧ Z.cells = some zs := by
      cases hy : s.ev y with
      | none => rw [hy] at hzs; simp at hzs
      | some Z => rw [hy] at hzs; exact ⟨Z, rfl, hzs⟩
    obtain ⟨d1, j1, hdd, hj, g1, g2, g3, g4, g5, g6, g7⟩ := tiOf_some (hE.tab t i hi)
    obtain ⟨kk, off, rfl⟩ : ∃ kk off, X = .one (.op kk off) := by
      split at h
      · exact ⟨_, _, rfl⟩
      · exact absurd h hz
    dsimp only at h
    obtain ⟨Y, hY, h⟩ := opt_inv hz h
    by_cases hv : ∃ cs, Y = .var cs
    · obtain ⟨cs, rfl⟩ := hv
      dsimp only at h
      obtain ⟨hl, h⟩ := chk_inv hz h
      simp only [Bool.and_eq_true, decide_eq_true_eq] at hl
      exact ⟨_, fun Γ hn ops rest K hg h => st_store hE.tab ho hg hd hX hZ hc hY hi hl.1.1 hl.1.2 hl.2 h, h⟩
    · have hlst : ∀ (tr : Bool) (Ee es : Nat) (xs : List (List Da)) (ck : List CK), Y = mkL tr Ee es xs → (opt z (toDs zs) fun ds => chk z (decide (i.n = ds.length ∧ 0 < ds.length ∧ ds.length ≤ es)) <|
          orH (colOf E x) (fun c0 => ∃ m : Nat, off = m * es + c0 ∧ shp ck fun c => xs[m]? = some c ∧ chk z (decide (c0 + ds.length ≤ c.length)) (k ((s.setOb kk (.lst Ee es xs)).setOb kk (.lst Ee es (xs.set m (c.take c0 ++ ds ++ c.drop (c0 + ds.length))))))) (es + 1 - ds.length) 0) → ∃ s', Step n P o s s' ∧ k s' := by
        intro tr Ee es xs ck hp h
        rw [hp] at hY
        obtain ⟨ds, hds, h⟩ := opt_inv hz h
        obtain ⟨hl, h⟩ := chk_inv hz h
        obtain ⟨h1, h2, h3⟩ := of_decide_eq_true hl
        obtain ⟨q, m, hoff, h⟩ := orH_ex h
        obtain ⟨c, _, hm, h⟩ := shp_ex h
        obtain ⟨hq, h⟩ := chk_inv hz h
        have hq := of_decide_eq_true hq
        have hT : To s (s.setOb kk (.lst Ee es xs)) := fun Γ a w S β hs => ⟨S, β, hs.setX hY fun hX => by
          cases tr with
          | true => exact ObRep.lst_of_tr hX
          | false => exact hX⟩
        have hX' : (s.setOb kk (.lst Ee es xs)).ev x = some (.one (.op kk off)) := by cases x <;> exact hX
        have hZ' : (s.setOb kk (.lst Ee es xs)).ev y = some Z := by cases y <;> exact hZ
        exact ⟨_, fun Γ hn ops rest K hg h => aOps_to hT (st_storeL hE.tab ho hg hd hX' hZ' hc hds (by rw [gob_setOb, if_pos rfl]) hi h1 hm hoff hq h2 h), h⟩
      have h' : opt z (asL Y) fun p => opt z (look E.cks p.2.1) fun ck => match p.1, toDsT s zs with
        | true, some q => chk z (decide (i.n = q.1.length ∧ 0 < q.1.length ∧ q.1.length ≤ p.2.2.1) && ndB q.2 && !q.2.contains kk && (q.2.isEmpty || decide (kk < 2000))) <|
          orH (colOf E x) (fun c0 => ∃ m : Nat, off = m * p.2.2.1 + c0 ∧ shp ck fun c => p.2.2.2[m]? = some c ∧ chk z (decide (c0 + q.1.length ≤ c.length)) (k (s.mv (killL q.2) kk q.2 (.tr p.2.1 p.2.2.1 (p.2.2.2.set m (c.take c0 ++ q.1 ++ c.drop (c0 + q.1.length))))))) (p.2.2.1 + 1 - q.1.length) 0
        | _, _ => opt z (toDs zs) fun ds => chk z (decide (i.n = ds.length ∧ 0 < ds.length ∧ ds.length ≤ p.2.2.1)) <|
          orH (colOf E x) (fun c0 => ∃ m : Nat, off = m * p.2.2.1 + c0 ∧ shp ck fun c => p.2.2.2[m]? = some c ∧ chk z (decide (c0 + ds.length ≤ c.length)) (k ((s.setOb kk (.lst p.2.1 p.2.2.1 p.2.2.2)).setOb kk (.lst p.2.1 p.2.2.1 (p.2.2.2.set m (c.take c0 ++ ds ++ c.drop (c0 + ds.length))))))) (p.2.2.1 + 1 - ds.length) 0 := by
        cases Y with
        | var cs => exact absurd ⟨cs, rfl⟩ hv
        | _ => exact h
      clear h
      obtain ⟨⟨tr, Ee, es, xs⟩, hp, h⟩ := opt_inv hz h'
      have hp := asL_inv hp
      dsimp only at h hp
      obtain ⟨ck, hck, h⟩ := opt_inv hz h
      cases tr with
      | false => exact hlst false Ee es xs ck hp h
      | true =>
        cases hqq : toDsT s zs with
        | none => rw [hqq] at h; exact hlst true Ee es xs ck hp h
        | some q =>
          rw [hqq] at h
          rw [hp] at hY
          obtain ⟨hl, h⟩ := chk_inv hz h
          simp only [Bool.and_eq_true, decide_eq_true_eq, Bool.not_eq_true', List.contains_eq_mem, decide_eq_false_iff_not, Bool.or_eq_true, List.isEmpty_iff] at hl
          obtain ⟨⟨⟨⟨h1, h2, h3⟩, h4⟩, h5⟩, h6⟩ := hl
          obtain ⟨c0, m, hoff, h⟩ := orH_ex h
          obtain ⟨c, _, hm, h⟩ := shp_ex h
          obtain ⟨hq, h⟩ := chk_inv hz h
          exact ⟨_, fun Γ hn ops rest K hg h => aOps_storeT ho hg hd hX hZ hc hqq (ndB_spec h4) h5 h6 hY hj (g2.trans h1) hm hoff (of_decide_eq_true hq) h2 h, h⟩
  · exact absurd h hz
theorem vStoreM_sound (hE : EnvOk P E) (hz : ¬ z) (hg : o.guard = none) (hk : ∀ s', k s' → aOps Γ P ops rest K s') (h : vStoreM z E o s k) : aOps Γ P ops (o :: rest) K s := by
  unfold vStoreM at h
  split at h
  · rename_i t x y ho
    obtain ⟨i, hi, h⟩ := opt_inv hz h
    obtain ⟨X, hX, h⟩ := opt_inv hz h
    obtain ⟨zs, hzs, h⟩ := opt_inv hz h
    obtain ⟨ds, hds, h⟩ := opt_inv hz h
    obtain ⟨hd, h⟩ := chk_inv hz h
    simp only [Bool.and_eq_true, Option.isNone_iff_eq_none] at hd
    obtain ⟨Zv, hZ, hc⟩ : ∃ Z, s.ev y = some Z ∧ Z.cells = some zs := by
      cases hy : s.ev y with
      | none => rw [hy] at hzs; simp at hzs
      | some Z => rw [hy] at hzs; exact ⟨Z, rfl, hzs⟩
    obtain ⟨d1, j1, hdd, hj, g1, g2, g3, g4, g5, g6, g7⟩ := tiOf_some (hE.tab t i hi)
    split at h
    · obtain ⟨Y, hY, h⟩ := opt_inv hz h
      split at h
      · obtain ⟨ck, hck, h⟩ := opt_inv hz h
        obtain ⟨hl, h⟩ := chk_inv hz h
        obtain ⟨h1, h2, h3⟩ := of_decide_eq_true hl
        obtain ⟨c0, m, hoff, h⟩ := orH_ex h
        obtain ⟨c, _, hm, h⟩ := shp_ex h
        obtain ⟨hq, h⟩ := chk_inv hz h
        simp only [Bool.and_eq_true] at hq
        exact aOps_storeM ho hg hd.1 hX hZ hc hds hd.2 hY hj (g2.trans h1) hm hoff (of_decide_eq_true hq.1) hq.2 h2 (hk _ h)
      · exact absurd h hz
    · exact absurd h hz
  · exact absurd h hz
theorem vLoadM_sound (hE : EnvOk P E) (hz : ¬ z) (hg : o.guard = none) (hk : ∀ s', k s' → aOps Γ P ops rest K s') (h : vLoadM z E Γ.n o s k) : aOps Γ P ops (o :: rest) K s := by
  unfold vLoadM at h
  split at h
  · rename_i t x ho
    obtain ⟨i, hi, h⟩ := opt_inv hz h
    obtain ⟨d, hd, h⟩ := opt_inv hz h
    obtain ⟨X, hX, h⟩ := opt_inv hz h
    obtain ⟨hl, h⟩ := chk_inv hz h
    simp only [Bool.and_eq_true, Bool.not_eq_true', decide_eq_true_eq] at hl
    obtain ⟨d1, j1, hdd, hj, g1, g2, g3, g4, g5, g6, g7⟩ := tiOf_some (hE.tab t i hi)
    split at h
    · obtain ⟨Y, hY, h⟩ := opt_inv hz h
      split at h
      · obtain ⟨ck, hck, h⟩ := opt_inv hz h
        obtain ⟨c0, m, hoff, h⟩ := orH_ex h
        obtain ⟨c, _, hm, h⟩ := shp_ex h
        cases hcc : c[c0]? with
        | none => rw [hcc] at h; exact h.elim
        | some x0 =>
          rw [hcc] at h
          cases x0 with
          | sl ys => exact aOps_loadM ho hg hd hl.2 hdd (g1.trans hl.1) hX hY hm hcc hoff fun a l r => hk _ (h a l r)
          | _ => exact h.elim
      · exact absurd h hz
    · exact absurd h hz
  · exact absurd h hz
theorem vNil_sound (hE : EnvOk P E) (hz : ¬ z) (hg : o.guard = none) (hk : ∀ s', k s' → aOps Γ P ops rest K s') {t t' : TypeId} {x y : Operand} (ho : o.op = .binOp .eql t x y t') (hy : isNilQ s x y = true) (h : vNil z E Γ.n o s k) : aOps Γ P ops (o :: rest) K s := by
  unfold vNil at h
  rw [ho] at h
  dsimp only at h
  obtain ⟨i, hi, h⟩ := opt_inv hz h
  obtain ⟨d, hd, h⟩ := opt_inv hz h
  obtain ⟨X, hX, h⟩ := opt_inv hz h
  obtain ⟨hl, h⟩ := chk_inv hz h
  simp only [Bool.and_eq_true, decide_eq_true_eq, Option.isSome_iff_exists] at hl
  obtain ⟨⟨h1, e, he⟩, h2⟩ := hl
  obtain ⟨d1, j1, hdd, hj, g1, g2, g3, g4, g5, g6, g7⟩ := tiOf_some (hE.tab t i hi)
  have := slice_of (g4.trans he) (g6.trans h1); subst this
  unfold isNilQ at hy
  split at hy
  · rename_i xs hx hz0
    rw [hx] at hX
    cases hX
    exact aOps_nilD ho hg hd h2 hdd hx hz0 (fun hn => hk _ (h.1 hn)) (hk _ h.2)
  · cases hy
theorem vLit_step {n : Nat} (hE : EnvOk P E) (hz : ¬ z) (h : vLit z E n o s k) : ∃ s', Step n P o s s' ∧ k s' := by
  unfold vLit at h
  split at h
  · rename_i t m ps ho
    obtain ⟨d, hd, h⟩ := opt_inv hz h
    obtain ⟨i, hi, h⟩ := opt_inv hz h
    obtain ⟨e, he, h⟩ := opt_inv hz h
    obtain ⟨⟨zn, zb, zc⟩, hzz, h⟩ := opt_inv hz h
    obtain ⟨hl, h⟩ := chk_inv hz h
    obtain ⟨h1, h2, h3, h4⟩ := of_decide_eq_true hl
    obtain ⟨ps', has, h⟩ := opt_inv hz h
    obtain ⟨out, hout, h⟩ := opt_inv hz h
    obtain ⟨p, hp, h⟩ := opt_inv hz h
    obtain ⟨hl, h⟩ := chk_inv hz h
    simp only [Bool.and_eq_true] at hl
    obtain ⟨j, zv, z1, z2, z3, z4, z5, z6⟩ := hE.zer e _ hzz
    obtain ⟨d1, j1, hdd, hj, g1, g2, g3, g4, g5, g6, g7⟩ := tiOf_some (hE.tab t i hi)
    have := slice_of (g4.trans he) (g6.trans h1); subst this
    dsimp only at z2 h2 h3 hout hl h
    subst z2
    exact ⟨_, fun Γ hn ops rest K hg h => aOps_lit (by simpa using ho) hg hd (by rw [hn]; exact h4) hdd z1 z4 z5 h2 z6 h3 has hout hp (ndB_spec hl.1) hl.2 h, h⟩
  · exact absurd h hz
theorem vA_step {n : Nat} (hE : EnvOk P E) (hz : ¬ z) (h : vA z E n o s k) : ∃ s', Step n P o s s' ∧ k s' := by
  unfold vA at h
  split at h
  · obtain ⟨s', h1, h⟩ := vStore_step (n := n) hE hz h
    exact ⟨s', fun Γ hn ops rest K hg h => aOps_to To.sealStore (h1 Γ hn ops rest K hg h), h⟩
  · obtain ⟨s', h1, h⟩ := vLit_step hE hz h
    exact ⟨s', fun Γ hn ops rest K hg h => aOps_to To.sealL (h1 Γ hn ops rest K hg h), h⟩
  · rename_i c ho
    obtain ⟨callee, args, ats⟩ := c
    simp only at h
    split at h
    · rename_i x y t t' ha1 ha2
      have ha1 := arr2 ha1
      have ha2 := arr2 ha2
      subst ha1; subst ha2
      obtain ⟨hl, h⟩ := chk_inv hz h
      simp only [Bool.and_eq_true, decide_eq_true_eq] at hl
      obtain ⟨htt, hd⟩ := hl
      rw [← htt] at ho
      obtain ⟨i, hi, h⟩ := opt_inv hz h
      obtain ⟨e, he, h⟩ := opt_inv hz h
      obtain ⟨⟨zn, zb, zc⟩, hzz, h⟩ := opt_inv hz h
      obtain ⟨hl, h⟩ := chk_inv hz h
      obtain ⟨h1, h2, h3⟩ := of_decide_eq_true hl
      obtain ⟨X, hX, h⟩ := opt_inv hz h
      obtain ⟨Y, hY, h⟩ := opt_inv hz h
      have hzer := hE.zer e _ hzz
      dsimp only at h h2 h3 hzer
      split at h
      · rename_i kk
        obtain ⟨A, hA, h⟩ := opt_inv hz h
        obtain ⟨⟨tr0, Ee, es, xs⟩, hp, h⟩ := opt_inv hz h
        have hp := asL_inv hp
        rw [hp] at hA
        dsimp only at h hA
        obtain ⟨hl, h⟩ := chk_inv hz h
        obtain ⟨e1, e2, h4⟩ := of_decide_eq_true hl
        rw [e1, e2] at hA
        obtain ⟨tr', ks, ys, h, hsrc, htr, hle⟩ := apSrc_inv hz hY h
        refine ⟨_, fun Γ hn ops rest K hg hr => ?_, h.2⟩
        have fin : (∀ y ∈ ys, y.length = zn) → aOps Γ P ops (o :: rest) K s := fun hyes =>
          st_app hE.tab hzer ho hg (by rw [hn]; exact hd) hi h1 he h2 (.inl ⟨tr0, hA, htr, hX⟩) hsrc hyes h.1.h (Nat.le_trans (mul_le_of h3 h.1.h) (by decide)) hr h4
        rcases hle with hle | ⟨k2, tr2, E2, hB⟩
        · exact fin hle
        · exact aOps_len hB fun _ hyes => fin hyes
      · obtain ⟨d, hdd, h⟩ := opt_inv hz h
        obtain ⟨hl, h⟩ := chk_inv hz h
        simp only [Bool.and_eq_true, decide_eq_true_eq] at hl
        obtain ⟨h4, hf⟩ := hl
        obtain ⟨tr', ks, ys, h, hsrc, htr, hle⟩ := apSrc_inv hz hY h
        refine ⟨_, fun Γ hn ops rest K hg hr => ?_, h.2⟩
        have fin : (∀ y ∈ ys, y.length = zn) → aOps Γ P ops (o :: rest) K s := fun hyes =>
          st_app (xs := []) hE.tab hzer ho hg (by rw [hn]; exact hd) hi h1 he h2 (.inr ⟨hX, rfl, hf⟩) hsrc hyes (by simpa using h.1.h) (by simpa using Nat.le_trans (mul_le_of h3 h.1.h) (by decide)) hr h4
        rcases hle with hle | ⟨k2, tr2, E2, hB⟩
        · exact fin hle
        · exact aOps_len hB fun _ hyes => fin hyes
      · exact absurd h hz
    · exact absurd h hz
  · exact absurd h hz
theorem vA_sound (hE : EnvOk P E) (hz : ¬ z) (hg : o.guard = none) (hk : ∀ s', k s' → aOps Γ P ops rest K s') (h : vA z E Γ.n o s k) : aOps Γ P ops (o :: rest) K s := by
  obtain ⟨s', h1, h⟩ := vA_step hE hz h
  exact h1.sound hg (hk _ h)
end

end AM
end Go.Proofs.Ythbbibeilmfheaa
