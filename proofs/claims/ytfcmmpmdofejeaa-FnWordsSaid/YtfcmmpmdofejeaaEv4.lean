/- Operations that write, lists that are lent, results; no conditions. -/
import Derived.Test.YtfcmmpmdofejeaaEv3
set_option linter.unusedSimpArgs false
set_option linter.unusedVariables false
namespace Go.Proofs.Ytfcmmpmdofejeaa
namespace AM
open Go

/-- The walk stops here. -/
structure Stop (rg ix : Nat) : Prop where
  h : False
theorem no_stop {a b : Nat} : ¬ Stop a b := fun h => h.h

/-- Lists named in cells are sealed. -/
def sealL (s : St) : List Nat → St
  | [] => s
  | k :: r => match s.gob k with
    | some (.tr _ _ xs) => match decide (k < 2000) with
      | true => sealL (s.seal k xs) r
      | false => sealL s r
    | _ => sealL s r
theorem To.sealL : ∀ {ks : List Nat} {s : St}, To s (sealL s ks)
  | [], s => To.refl s
  | k :: r, s => by
    simp only [AM.sealL]
    split
    · rename_i hk
      split
      · rename_i hl
        exact To.trans (fun Γ a w S β hs => hs.seal hk (of_decide_eq_true hl)) To.sealL
      · exact To.sealL
    · exact To.sealL
def ndB : List Nat → Bool
  | [] => true
  | k :: r => !r.contains k && ndB r
theorem ndB_spec : ∀ {l : List Nat}, ndB l = true → l.Nodup
  | [], _ => List.nodup_nil
  | k :: r, h => by
    simp only [ndB, Bool.and_eq_true, Bool.not_eq_true', List.contains_eq_mem, decide_eq_false_iff_not] at h
    exact List.nodup_cons.2 ⟨h.1, ndB_spec h.2⟩
def ckFlat : Option (List CK) → Bool
  | some ks => ks.all fun c => decide (c ≠ .l ∧ c ≠ .f)
  | none => false

/-- What is appended, and what becomes of the list. -/
def apSrc (z : Prop) (E : Env) (s : St) (e kk n : Nat) (tr : Bool) (Y : AV) (K : Bool → List Nat → List (List Da) → Prop) : Prop := match Y with
  | .one (.d (.sl ys)) => Do (∀ y ∈ ys, y.length = n) ∧ match tr && ckFlat (look E.cks e) with
    | true => Do (flatRows ys) ∧ K true [] ys
    | false => K false [] ys
  | .one (.ol k2) => opt z (s.gob k2) fun B => opt z (asL B) fun p => chk z (decide (p.2.2.1 = n)) <| match tr && p.1 with
    | true => chk z (decide (k2 ≠ kk)) (K true [k2] p.2.2.2)
    | false => K false [] p.2.2.2
  | .one .e0 => K tr [] []
  | .one (.ps k2 es2 lo2 n2) => opt z (s.gob k2) fun B => match B with
    | .lst Ee es xs => chk z (decide (es = n) && decide (es2 = n)) (Do (lo2 + n2 ≤ xs.length) ∧ Do (∀ y ∈ xs, y.length = n) ∧ K false [] ((xs.drop lo2).take n2))
    | .tr Ee es xs => chk z (decide (es = n) && decide (es2 = n)) (Do (lo2 + n2 ≤ xs.length) ∧ Do (∀ y ∈ xs, y.length = n) ∧ K false [] ((xs.drop lo2).take n2))
    | _ => z
  | _ => z
theorem apSrc_inv {z : Prop} (hz : ¬ z) {E : Env} {s : St} {e kk n : Nat} {tr : Bool} {y : Operand} {Y : AV} {K : Bool → List Nat → List (List Da) → Prop} (hY : s.ev y = some Y) (h : apSrc z E s e kk n tr Y K) :
    ∃ tr' ks ys, K tr' ks ys ∧ SrcA s y tr' kk n ys ks ∧ (tr' = true → tr = true) ∧ ((∀ y ∈ ys, y.length = n) ∨ ∃ k2 tr2 E2, s.gob k2 = some (mkL tr2 E2 n ys)) := by
  unfold apSrc at h
  split at h
  · obtain ⟨h1, h⟩ := h
    split at h
    · rename_i hb
      simp only [Bool.and_eq_true] at hb
      exact ⟨true, [], _, h.2, .d hY (.inr h.1.h), fun _ => hb.1, .inl h1.h⟩
    · exact ⟨false, [], _, h, .d hY (.inl rfl), by simp, .inl h1.h⟩
  · rename_i k2
    obtain ⟨B, hB, h⟩ := opt_inv hz h
    obtain ⟨⟨tr2, E2, es2, ys⟩, hp, h⟩ := opt_inv hz h
    have hp := asL_inv hp
    rw [hp] at hB
    dsimp only at h hB
    obtain ⟨hn, h⟩ := chk_inv hz h
    have hn := of_decide_eq_true hn
    rw [hn] at hB
    split at h
    · rename_i hb
      simp only [Bool.and_eq_true] at hb
      obtain ⟨hne, h⟩ := chk_inv hz h
      rw [hb.2] at hB
      exact ⟨true, _, _, h, .t hY hB (of_decide_eq_true hne), fun _ => hb.1, .inr ⟨k2, true, E2, hB⟩⟩
    · exact ⟨false, _, _, h, .o hY hB (.inl rfl), by simp, .inr ⟨k2, tr2, E2, hB⟩⟩
  · refine ⟨_, _, _, h, .s fun Γ a w S β hs => ?_, fun e => e, .inl (by simp)⟩
    have h1 := (hs.eval hY).one_inv
    generalize hv : a.eval y = v at h1
    cases h1
    exact ⟨by simp, .inl ⟨none, 0, rfl, rfl, RowR.nil⟩⟩
  · obtain ⟨B, hB, h⟩ := opt_inv hz h
    split at h
    · rename_i Ee es xs
      obtain ⟨hl, ⟨h1⟩, ⟨h2⟩, h⟩ := chk_inv hz h
      simp only [Bool.and_eq_true, decide_eq_true_eq] at hl
      obtain ⟨e1, e2⟩ := hl
      rw [e2] at hY
      rw [e1] at hB
      refine ⟨false, _, _, h, .s fun Γ a w S β hs => ?_, by simp, .inl fun r hr => h2 r (List.mem_of_mem_drop (List.mem_of_mem_take hr))⟩
      exact Src.of_part (c := none) (hs.mem.ob _ _ hB) (hs.eval hY).one_inv h1
    · rename_i Ee es xs
      obtain ⟨hl, ⟨h1⟩, ⟨h2⟩, h⟩ := chk_inv hz h
      simp only [Bool.and_eq_true, decide_eq_true_eq] at hl
      obtain ⟨e1, e2⟩ := hl
      rw [e2] at hY
      rw [e1] at hB
      refine ⟨false, _, _, h, .s fun Γ a w S β hs => ?_, by simp, .inl fun r hr => h2 r (List.mem_of_mem_drop (List.mem_of_mem_take hr))⟩
      exact Src.of_part (c := none) (hs.mem.ob _ _ hB).lst_of_tr (hs.eval hY).one_inv h1
    · exact absurd h hz
  · exact absurd h hz

/-- Where a row is stored into a list whose rows own their blocks, what is stored is sealed first. -/
def sealStore (s : St) (x y : Operand) : St := match s.ev x with
  | some (.one (.op kk _)) => match s.gob kk with
    | some (.tr _ _ _) => match (s.ev y).bind AV.cells with
      | some zs => sealL s (AV.idsL zs)
      | none => s
    | _ => s
  | _ => s
theorem To.sealStore {s : St} {x y : Operand} : To s (sealStore s x y) := by
  unfold AM.sealStore
  split
  · split
    · split
      · exact To.sealL
      · exact To.refl s
    · exact To.refl s
  · exact To.refl s

def vStore (z : Prop) (E : Env) (o : Oper) (s : St) (k : St → Prop) : Prop := match o.op with
  | .store t x y => opt z (look E.tab t) fun i => opt z (s.ev x) fun X => opt z ((s.ev y).bind AV.cells) fun zs => chk z o.dst.isNone <| match X with
    | .one (.op kk off) => opt z (s.gob kk) fun Y => match Y with
      | .var cs => chk z (decide (i.n = zs.length) && decide (off + zs.length ≤ cs.length) && noJunk zs) (k (s.setOb kk (.var (cs.take off ++ zs ++ cs.drop (off + zs.length)))))
      | Y => opt z (asL Y) fun p => opt z (look E.cks p.2.1) fun ck => match p.1, toDsT s zs with
        | true, some q => chk z (decide (i.n = q.1.length ∧ 0 < q.1.length ∧ q.1.length ≤ p.2.2.1) && ndB q.2 && !q.2.contains kk && (q.2.isEmpty || decide (kk < 2000))) <|
          orH (colOf E x) (fun c0 => ∃ m : Nat, off = m * p.2.2.1 + c0 ∧ shp ck fun c => p.2.2.2[m]? = some c ∧ chk z (decide (c0 + q.1.length ≤ c.length)) (k (s.mv (killL q.2) kk q.2 (.tr p.2.1 p.2.2.1 (p.2.2.2.set m (c.take c0 ++ q.1 ++ c.drop (c0 + q.1.length))))))) (p.2.2.1 + 1 - q.1.length) 0
        | _, _ => opt z (toDs zs) fun ds => chk z (decide (i.n = ds.length ∧ 0 < ds.length ∧ ds.length ≤ p.2.2.1)) <|
          orH (colOf E x) (fun c0 => ∃ m : Nat, off = m * p.2.2.1 + c0 ∧ shp ck fun c => p.2.2.2[m]? = some c ∧ chk z (decide (c0 + ds.length ≤ c.length)) (k ((s.setOb kk (.lst p.2.1 p.2.2.1 p.2.2.2)).setOb kk (.lst p.2.1 p.2.2.1 (p.2.2.2.set m (c.take c0 ++ ds ++ c.drop (c0 + ds.length))))))) (p.2.2.1 + 1 - ds.length) 0
    | _ => z
  | _ => z

/-- A store of single cells into memory that is the caller's alone. -/
def vStoreM (z : Prop) (E : Env) (o : Oper) (s : St) (k : St → Prop) : Prop := match o.op with
  | .store t x y => opt z (look E.tab t) fun i => opt z (s.ev x) fun X => opt z ((s.ev y).bind AV.cells) fun zs => opt z (toDs zs) fun ds => chk z (o.dst.isNone && ds.all Da.flat) <| match X with
    | .one (.op kk off) => opt z (s.gob kk) fun Y => match Y with
      | .mt Ee es xs => opt z (look E.cks Ee) fun ck => chk z (decide (i.n = ds.length ∧ 0 < ds.length ∧ ds.length ≤ es)) <|
          orH (colOf E x) (fun c0 => ∃ m : Nat, off = m * es + c0 ∧ shp ck fun c => xs[m]? = some c ∧ chk z (decide (c0 + ds.length ≤ c.length) && ((c.drop c0).take ds.length).all Da.flat) (k (s.mv (killL []) kk [] (.mt Ee es (xs.set m (c.take c0 ++ ds ++ c.drop (c0 + ds.length))))))) (es + 1 - ds.length) 0
      | _ => z
    | _ => z
  | _ => z
/-- A slice that stands in memory that is the caller's alone, read. -/
def vLoadM (z : Prop) (E : Env) (n : Nat) (o : Oper) (s : St) (k : St → Prop) : Prop := match o.op with
  | .load t x => opt z (look E.tab t) fun i => opt z o.dst fun d => opt z (s.ev x) fun X => chk z (!i.agg && decide (d < n)) <| match X with
    | .one (.op kk off) => opt z (s.gob kk) fun Y => match Y with
      | .mt Ee es xs => opt z (look E.cks Ee) fun ck =>
          orH (colOf E x) (fun c0 => ∃ m : Nat, off = m * es + c0 ∧ shp ck fun c => xs[m]? = some c ∧ match c[c0]? with
            | some (.sl ys) => ∀ (a : Option Addr) (l r : Nat), k ((s.setOb kk (.mu Ee es xs m c0 a l r)).upd (some d) (.one (.raw a l r)) [])
            | _ => False) es 0
      | _ => z
    | _ => z
  | _ => z
/-- A slice of data is asked whether it is nil. -/
def vNil (z : Prop) (E : Env) (n : Nat) (o : Oper) (s : St) (k : St → Prop) : Prop := match o.op with
  | .binOp .eql t x y _ => opt z (look E.tab t) fun i => opt z o.dst fun d => opt z (s.ev x) fun X => chk z (decide (i.pr = 4) && i.el.isSome && decide (d < n)) <| match X with
    | .one (.d (.sl xs)) => (xs.flatten = [] → k (s.upd (some d) (B true) [])) ∧ k (s.upd (some d) (B false) [])
    | _ => z
  | _ => z
def isNilQ (s : St) (x y : Operand) : Bool := match s.ev x, s.ev y with
  | some (.one (.d (.sl _))), some (.one .e0) => true
  | _, _ => false
def isMt (s : St) (x : Operand) : Bool := match s.ev x with
  | some (.one (.op kk _)) => match s.gob kk with
    | some (.mt _ _ _) => true
    | _ => false
  | _ => false
def hasOl : List At → Bool
  | [] => false
  | .ol _ :: _ => true
  | _ :: r => hasOl r
/-- A list written out, some of whose cells are lists of the call's own. -/
def vLit (z : Prop) (E : Env) (n : Nat) (o : Oper) (s : St) (k : St → Prop) : Prop := match o.op with
  | .buildSlice t m ps => opt z o.dst fun d => opt z (look E.tab t) fun i => opt z i.el fun e => opt z (look E.zer e) fun zz => chk z (decide (i.pr = 4 ∧ 0 < zz.1 ∧ m * zz.1 ≤ 16777216 ∧ d < n)) <| opt z (partsA s.ev ps.toList) fun ps' =>
      opt z (fillA (fun q => some (q * zz.1, zz.1)) (List.replicate m zz.2.2).flatten ps') fun out => opt z (toDsT s out) fun p => chk z (ndB p.2 && s.fresh [(d, .lst e zz.1 [])]) (k (s.appd (some d) d p.2 (.tr e zz.1 (chunk zz.1 m p.1))))
  | _ => z
/-- The lists named in what is written out. -/
def litIds (s : St) (o : Oper) : List Nat := match o.op with
  | .buildSlice _ _ ps => match partsA s.ev ps.toList with
    | some ps' => AV.idsL (ps'.map (·.2)).flatten
    | none => []
  | _ => []

/-- Rows that are read: of a list, of a part of one, of data; or so many zeros. -/
def srcP (z : Prop) (s : St) (n : Nat) (zd : Option (List Da)) (Y : AV) (K : List (List Da) → Prop) : Prop := match Y with
  | .one (.d (.sl ys)) => chk z zd.isNone (Do (∀ y ∈ ys, y.length = n) ∧ K ys)
  | .one (.d (.int _ m)) => opt z zd fun zd => ∃ q : Nat, m = (q : Int) ∧ K (List.replicate q zd)
  | .one (.ol k2) => opt z (s.gob k2) fun B => opt z (asL B) fun p => chk z (zd.isNone && decide (p.2.2.1 = n)) (K p.2.2.2)
  | .one (.ps k2 es2 lo2 n2) => opt z (s.gob k2) fun B => match B with
    | .lst Ee es xs => chk z (zd.isNone && decide (es = n) && decide (es2 = n)) (Do (lo2 + n2 ≤ xs.length) ∧ K ((xs.drop lo2).take n2))
    | .fu Ee es xs c => chk z (zd.isNone && decide (es = n) && decide (es2 = n)) (Do (lo2 + n2 ≤ xs.length) ∧ K ((xs.drop lo2).take n2))
    | _ => z
  | _ => z
/-- What is read, in a state. -/
structure RowsIn (s : St) (z : Operand) (es : Nat) (ys : List (List Da)) : Prop where
  h : ∀ (Γ : Cx) (a : Act) (w : World) (S : Nat → Prop) (β : Nat → OLoc), Sim Γ s a w S β → (∀ y ∈ ys, y.length = es) ∧ Src w (RepDs w S ys.flatten) es ys.length (a.eval z)
theorem rowsIn_part {s : St} {y : Operand} {k E es lo n : Nat} {c : Option Nat} {xs : List (List Da)} (hy : s.ev y = some (.one (.ps k es lo n))) (hk : s.gob k = some (mkP c E es xs)) (hl : lo + n ≤ xs.length) : RowsIn s y es ((xs.drop lo).take n) := ⟨fun Γ a w S β hs => by
  have hX := hs.mem.ob k _ hk
  obtain ⟨hp, _⟩ := mkP_rep.1 hX
  exact ⟨fun r hr => hp.2.2.1 r (List.mem_of_mem_drop (List.mem_of_mem_take hr)), Src.of_part hX (hs.eval hy).one_inv hl⟩⟩
theorem srcP_inv {z : Prop} (hz : ¬ z) {s : St} {n : Nat} {zd : Option (List Da)} {y : Operand} {Y : AV} {K : List (List Da) → Prop} (hpos : 0 < n) (hY : s.ev y = some Y) (h : srcP z s n zd Y K) :
    ∃ ys, K ys ∧ ((zd = none ∧ RowsIn s y n ys) ∨ ∃ d kq q, zd = some d ∧ s.ev y = some (I kq ((q : Nat) : Int)) ∧ ys = List.replicate q d) := by
  unfold srcP at h
  split at h
  · obtain ⟨h0, h1, h⟩ := chk_inv hz h
    refine ⟨_, h, .inl ⟨by simpa using h0, ⟨fun Γ a w S β hs => ⟨h1.h, ?_⟩⟩⟩⟩
    have h2 := (hs.eval hY).one_inv
    generalize hv : a.eval y = v at h2
    cases h2 with | d h2 => exact Src.of_data hpos h2 h1.h
  · rename_i kq m
    obtain ⟨d, hd, q, hq, h2⟩ := opt_inv hz h
    subst hq
    exact ⟨_, h2, .inr ⟨d, kq, q, hd, hY, rfl⟩⟩
  · rename_i k2
    obtain ⟨B, hB, h⟩ := opt_inv hz h
    obtain ⟨⟨tr2, E2, es2, ys⟩, hp, h⟩ := opt_inv hz h
    have hp := asL_inv hp
    rw [hp] at hB
    dsimp only at h hB
    obtain ⟨hn, h3⟩ := chk_inv hz h
    simp only [Bool.and_eq_true, decide_eq_true_eq] at hn
    obtain ⟨h0, rfl⟩ := hn
    refine ⟨_, h3, .inl ⟨by simpa using h0, ⟨fun Γ a w S β hs => ⟨(mkL_len (hs.mem.ob k2 _ hB)).2, ?_⟩⟩⟩⟩
    have h2 := (hs.eval hY).one_inv
    generalize hv : a.eval y = v at h2
    cases h2
    exact (Src.of_own (hs.mem.ob k2 _ hB)).mono fun us hr => hr.ds
  · rename_i k2 es2 lo2 n2
    obtain ⟨B, hB, h⟩ := opt_inv hz h
    split at h
    · rename_i Ee es xs
      obtain ⟨hn, h1, h3⟩ := chk_inv hz h
      simp only [Bool.and_eq_true, decide_eq_true_eq] at hn
      obtain ⟨⟨h0, rfl⟩, e2⟩ := hn
      rw [e2] at hY
      exact ⟨_, h3, .inl ⟨by simpa using h0, rowsIn_part (c := none) hY hB h1.h⟩⟩
    · rename_i Ee es xs c
      obtain ⟨hn, h1, h3⟩ := chk_inv hz h
      simp only [Bool.and_eq_true, decide_eq_true_eq] at hn
      obtain ⟨⟨h0, rfl⟩, e2⟩ := hn
      rw [e2] at hY
      exact ⟨_, h3, .inl ⟨by simpa using h0, rowsIn_part (c := some c) hY hB h1.h⟩⟩
    · exact absurd h hz
  · exact absurd h hz
/-- A list, as it is or with its room. -/
def asP : Ob → Option (Option Nat × Nat × Nat × List (List Da))
  | .lst E es xs => some (none, E, es, xs)
  | .fu E es xs c => some (some c, E, es, xs)
  | _ => none
theorem asP_inv {X : Ob} {p : Option Nat × Nat × Nat × List (List Da)} (h : asP X = some p) : X = mkP p.1 p.2.1 p.2.2.1 p.2.2.2 := by
  cases X <;> simp [asP] at h <;> subst h <;> rfl
def zdOf (E : Env) (t' : TypeId) (zc : List At) : Option (Option (List Da)) := match look E.tab t' with
  | some i => match i.ik with
    | some _ => (toDs zc).map some
    | none => if i.pr = 4 ∧ i.el.isSome then some none else none
  | none => none
/-- Rows that are copied: those that fit. -/
def srcC (z : Prop) (s : St) (n m : Nat) (Y : AV) (K : Nat → List (List Da) → Prop) : Prop :=
  let other := srcP z s n none Y fun ys => K ys.length (ys.take (min ys.length m))
  match Y with
  | .one (.ps k2 es2 lo2 n2) => opt z (s.gob k2) fun B => match B with
    | .fu Ee es xs c => chk z (decide (es = n) && decide (es2 = n)) (Do (lo2 + min n2 m ≤ xs.length) ∧ K n2 ((xs.drop lo2).take (min n2 m)))
    | _ => other
  | _ => other
structure RowsC (s : St) (z : Operand) (es m nn : Nat) (ys : List (List Da)) : Prop where
  len : ys.length = min nn m
  h : ∀ (Γ : Cx) (a : Act) (w : World) (S : Nat → Prop) (β : Nat → OLoc), Sim Γ s a w S β → (∀ y ∈ ys, y.length = es) ∧ ∃ us, us.length = min nn m * es ∧ RepDs w S ys.flatten us ∧ ∀ P : Program, (Builtin.lenOf (a.eval z)).run P w = .ok nn w ∧ (Builtin.firstCells es (min nn m) (a.eval z)).run P w = .ok us.toArray w
theorem srcC_inv {z : Prop} (hz : ¬ z) {s : St} {n m : Nat} {y : Operand} {Y : AV} {K : Nat → List (List Da) → Prop} (hpos : 0 < n) (hY : s.ev y = some Y) (h : srcC z s n m Y K) : ∃ nn ys, K nn ys ∧ RowsC s y n m nn ys := by
  have other : srcP z s n none Y (fun ys => K ys.length (ys.take (min ys.length m))) → ∃ nn ys, K nn ys ∧ RowsC s y n m nn ys := fun h => by
    obtain ⟨ys, h, hsrc⟩ := srcP_inv hz hpos hY h
    obtain ⟨_, hsrc⟩ := hsrc.resolve_right (by rintro ⟨_, _, _, h, _⟩; cases h)
    refine ⟨_, _, h, by rw [List.length_take]; omega, fun Γ a w S β hs => ?_⟩
    obtain ⟨h1, h2⟩ := hsrc.h Γ a w S β hs
    obtain ⟨us, g1, g2, g3⟩ := h2.first h1 (Nat.min_le_left ys.length m)
    exact ⟨fun y hy => h1 y (List.mem_of_mem_take hy), us, g1, g2, g3⟩
  unfold srcC at h
  dsimp only at h
  split at h
  · obtain ⟨B, hB, h⟩ := opt_inv hz h
    split at h
    · rename_i Ee es xs c
      obtain ⟨hl, ⟨h1⟩, h'⟩ := chk_inv hz h
      clear h
      simp only [Bool.and_eq_true, decide_eq_true_eq] at hl
      obtain ⟨rfl, rfl⟩ := hl
      refine ⟨_, _, h', by rw [List.length_take, List.length_drop]; omega, fun Γ a w S β hs => ?_⟩
      have hX := hs.mem.ob _ _ hB
      obtain ⟨hp, _⟩ := (mkP_rep (c := some c)).1 hX
      obtain ⟨us, g1, g2, g3⟩ := part_first (c := some c) hX (hs.eval hY).one_inv h1
      exact ⟨fun r hr => hp.2.2.1 r (List.mem_of_mem_drop (List.mem_of_mem_take hr)), us, g1, g2, fun P => ⟨(g3 P).1, (g3 P).2 (Nat.min_le_left _ _)⟩⟩
    · exact other h
  · exact other h
/-- copy, clear, and appends to parts of lists. -/
def vPt (z : Prop) (E : Env) (n : Nat) (o : Oper) (s : St) (k : St → Prop) : Prop := match o.op with
  | .call c => match c.callee, c.args.toList, c.argTypes.toList with
    | .builtin .copy, [x, y], [t, t'] => chk z (o.dst.all (· < n)) <| opt z (look E.tab t) fun i => opt z i.el fun e => opt z (look E.tab e) fun i2 => opt z (s.ev x) fun X => opt z (s.ev y) fun Y => match X with
      | .one (.ps kk es lo m) => opt z (s.gob kk) fun A => opt z (asP A) fun p => chk z (decide (i.pr = 4 ∧ p.2.1 = e ∧ p.2.2.1 = es ∧ i2.n = es ∧ 0 < es)) <| srcC z s es m Y fun nn ys =>
          let K := k ((s.setOb kk (mkP p.1 e es (p.2.2.2.take lo ++ ys ++ p.2.2.2.drop (lo + min nn m)))).upd o.dst (Z ((min nn m : Nat) : Int)) [])
          match p.1 with
          | none => Do (lo + min nn m ≤ p.2.2.2.length) ∧ K
          | some _ => Do (lo ≤ p.2.2.2.length ∧ lo + min nn m ≤ 281474976710656) ∧ K
      | _ => z
    | .builtin .clear, [x], [t] => chk z (o.dst.all (· < n)) <| opt z (look E.tab t) fun i => opt z i.el fun e => opt z (look E.zer e) fun zz => opt z (toDs zz.2.2) fun zd => opt z (s.ev x) fun X => match X with
      | .one (.ps kk es lo m) => opt z (s.gob kk) fun A => opt z (asP A) fun p => chk z (decide (i.pr = 4 ∧ p.2.1 = e ∧ p.2.2.1 = es ∧ zz.1 = es ∧ 0 < es)) <|
          Do (lo + m ≤ p.2.2.2.length) ∧ k ((s.setOb kk (mkP p.1 e es (p.2.2.2.take lo ++ List.replicate m zd ++ p.2.2.2.drop (lo + m)))).upd o.dst (.tup []) [])
      | _ => z
    | .builtin .append, [x, y], [t, t'] => chk z (o.dst.all (· < n)) <| opt z o.dst fun d => opt z (look E.tab t) fun i => opt z i.el fun e => opt z (look E.zer e) fun zz => opt z (zdOf E t' zz.2.2) fun zd => opt z (s.ev x) fun X => opt z (s.ev y) fun Y => chk z (decide (i.pr = 4 ∧ 0 < zz.1 ∧ 0 < zz.2.1)) <| match X with
      | .one .e0 => chk z (s.fresh [(d, .lst e zz.1 [])]) <| srcP z s zz.1 zd Y fun ys => Do (ys.length * zz.2.1 ≤ 140737488355328) ∧ k (s.upd (some d) (.one (.ol d)) [(d, .lst e zz.1 ys)])
      | .one (.ps kk es lo m) => opt z (s.gob kk) fun A => match A with
        | .lst Ee es' xs => chk z (decide (Ee = e ∧ es' = es ∧ zz.1 = es)) <| srcP z s es zd Y fun ys =>
            Do (lo + m + ys.length ≤ xs.length ∧ ys.length * zz.2.1 ≤ 140737488355328) ∧ k ((s.setOb kk (.lst e es (xs.take (lo + m) ++ ys ++ xs.drop (lo + m + ys.length)))).upd (some d) (.one (.ps kk es lo (m + ys.length))) [])
        | .fu Ee es' xs c => chk z (decide (Ee = e ∧ es' = es ∧ zz.1 = es) && s.fresh [(d, .lst e es [])]) <| srcP z s es zd Y fun ys =>
            Do (lo + m ≤ xs.length ∧ (lo + m + ys.length) * zz.2.1 ≤ 140737488355328) ∧ ifB (decide (lo + m + ys.length ≤ c))
              (k ((s.setOb kk (.fu e es (xs.take (lo + m) ++ ys ++ xs.drop (lo + m + ys.length)) c)).upd (some d) (.one (.ps kk es lo (m + ys.length))) []))
              (k (s.upd (some d) (.one (.ol d)) [(d, .lst e es ((xs.drop lo).take m ++ ys))]))
        | _ => z
      | _ => z
    | _, _, _ => z
  | _ => z
/-- Is a list appended to in part, or are zeros appended? -/
def isPt (E : Env) (s : St) (c : Call) : Bool := match c.args.toList, c.argTypes.toList with
  | [x, _], [t, t'] => decide (t ≠ t') || (match s.ev x with
    | some (.one (.ps _ _ _ _)) => true
    | _ => false)
  | _, _ => false
/-- Stores and appends. -/
def vA (z : Prop) (E : Env) (n : Nat) (o : Oper) (s : St) (k : St → Prop) : Prop := match o.op with
  | .store _ x y => vStore z E o (sealStore s x y) k
  | .buildSlice _ _ _ => vLit z E n o (sealL s (litIds s o)) k
  | .call c => match isPt E s c || (match c.callee with | .builtin .append => false | _ => true) with
   | true => vPt z E n o s k
   | false => match c.callee, c.args.toList, c.argTypes.toList with
    | .builtin .append, [x, y], [t, t'] => chk z (decide (t = t') && o.dst.all (· < n)) <| opt z (look E.tab t) fun i => opt z i.el fun e => opt z (look E.zer e) fun zz => chk z (decide (i.pr = 4 ∧ 0 < zz.1 ∧ 0 < zz.2.1)) <| opt z (s.ev x) fun X => opt z (s.ev y) fun Y => match X with
      | .one (.ol kk) => opt z (s.gob kk) fun A => opt z (asL A) fun p => chk z (decide (p.2.1 = e ∧ p.2.2.1 = zz.1 ∧ kk < 2000)) <| apSrc z E s e kk zz.1 p.1 Y fun tr' ks ys =>
          Do ((p.2.2.2.length + ys.length) * zz.2.1 ≤ 140737488355328) ∧ k (s.appd o.dst kk ks (mkL tr' e zz.1 (p.2.2.2 ++ ys)))
      | .one .e0 => opt z o.dst fun d => chk z (decide (d < 2000) && s.fresh [(d, .lst e zz.1 [])]) <| apSrc z E s e d zz.1 true Y fun tr' ks ys =>
          Do (ys.length * zz.2.1 ≤ 140737488355328) ∧ k (s.appd o.dst d ks (mkL tr' e zz.1 ys))
      | _ => z
    | _, _, _ => z
  | _ => z

/-- An operation that takes one state into another, whatever the call began in. -/
def Step (n : Nat) (P : Program) (o : Oper) (s s' : St) : Prop := ∀ Γ : Cx, Γ.n = n → ∀ (ops : Array Oper) (rest : List Oper) (K : St → Prop), o.guard = none → aOps Γ P ops rest K s' → aOps Γ P ops (o :: rest) K s

theorem arr2 {α : Type} {xs : Array α} {a b : α} (h : xs.toList = [a, b]) : xs = #[a, b] := by
  rw [← Array.toArray_toList (xs := xs), h]
theorem mul_le_of {a b c : Nat} (hb : 0 < b) (h : a * b ≤ c) : a ≤ c := Nat.le_trans (Nat.le_mul_of_pos_right a hb) h

section
variable {Γ : Cx} {P : Program} {E : Env} {z : Prop} {ops : Array Oper} {rest : List Oper} {o : Oper} {s : St} {k K : St → Prop}
theorem Step.sound {s' : St} (h : Step Γ.n P o s s') (hg : o.guard = none) (hr : aOps Γ P ops rest K s') : aOps Γ P ops (o :: rest) K s := h Γ rfl ops rest K hg hr
theorem vStore_step {n : Nat} (hE : EnvOk P E) (hz : ¬ z) (h : vStore z E o s k) : ∃ s', Step n P o s s' ∧ k s' := by
  unfold vStore at h
  split at h
  · rename_i t x y ho
    obtain ⟨i, hi, h⟩ := opt_inv hz h
    obtain ⟨X, hX, h⟩ := opt_inv hz h
    obtain ⟨zs, hzs, h⟩ := opt_inv hz h
    obtain ⟨hd, h⟩ := chk_inv hz h
    have hd : o.dst = none := by simpa using hd
    obtain ⟨Z, hZ, hc⟩ : ∃ Z, s.ev y = some Z ∧ Z.cells = some zs := by
      cases hy : s.ev y with
      | none => rw [hy] at hzs; simp at hzs
      | some Z => rw [hy] at hzs; exact ⟨Z, rfl, hzs⟩
    obtain ⟨d1, j1, hdd, hj, g1, g2, g3, g4, g5, g6, g7⟩ := tiOf_some (hE.tab t i hi)
    obtain ⟨kk, off, rfl⟩ : ∃ kk off, X = .one (.op kk off) := by
      split at h
      · exact ⟨_, _, rfl⟩
      · exact absurd h hz
    dsimp only at h
    obtain ⟨Y, hY, h⟩ := opt_inv hz h
    by_cases hv : ∃ cs, Y = .var cs
    · obtain ⟨cs, rfl⟩ := hv
      dsimp only at h
      obtain ⟨hl, h⟩ := chk_inv hz h
      simp only [Bool.and_eq_true, decide_eq_true_eq] at hl
      exact ⟨_, fun Γ hn ops rest K hg h => st_store hE.tab ho hg hd hX hZ hc hY hi hl.1.1 hl.1.2 hl.2 h, h⟩
    · have hlst : ∀ (tr : Bool) (Ee es : Nat) (xs : List (List Da)) (ck : List CK), Y = mkL tr Ee es xs → (opt z (toDs zs) fun ds => chk z (decide (i.n = ds.length ∧ 0 < ds.length ∧ ds.length ≤ es)) <|
          orH (colOf E x) (fun c0 => ∃ m : Nat, off = m * es + c0 ∧ shp ck fun c => xs[m]? = some c ∧ chk z (decide (c0 + ds.length ≤ c.length)) (k ((s.setOb kk (.lst Ee es xs)).setOb kk (.lst Ee es (xs.set m (c.take c0 ++ ds ++ c.drop (c0 + ds.length))))))) (es + 1 - ds.length) 0) → ∃ s', Step n P o s s' ∧ k s' := by
        intro tr Ee es xs ck hp h
        rw [hp] at hY
        obtain ⟨ds, hds, h⟩ := opt_inv hz h
        obtain ⟨hl, h⟩ := chk_inv hz h
        obtain ⟨h1, h2, h3⟩ := of_decide_eq_true hl
        obtain ⟨q, m, hoff, h⟩ := orH_ex h
        obtain ⟨c, _, hm, h⟩ := shp_ex h
        obtain ⟨hq, h⟩ := chk_inv hz h
        have hq := of_decide_eq_true hq
        have hT : To s (s.setOb kk (.lst Ee es xs)) := fun Γ a w S β hs => ⟨S, β, hs.setX hY fun hX => by
          cases tr with
          | true => exact ObRep.lst_of_tr hX
          | false => exact hX⟩
        have hX' : (s.setOb kk (.lst Ee es xs)).ev x = some (.one (.op kk off)) := by cases x <;> exact hX
        have hZ' : (s.setOb kk (.lst Ee es xs)).ev y = some Z := by cases y <;> exact hZ
        exact ⟨_, fun Γ hn ops rest K hg h => aOps_to hT (st_storeL hE.tab ho hg hd hX' hZ' hc hds (by rw [gob_setOb, if_pos rfl]) hi h1 hm hoff hq h2 h), h⟩
      have h' : opt z (asL Y) fun p => opt z (look E.cks p.2.1) fun ck => match p.1, toDsT s zs with
        | true, some q => chk z (decide (i.n = q.1.length ∧ 0 < q.1.length ∧ q.1.length ≤ p.2.2.1) && ndB q.2 && !q.2.contains kk && (q.2.isEmpty || decide (kk < 2000))) <|
          orH (colOf E x) (fun c0 => ∃ m : Nat, off = m * p.2.2.1 + c0 ∧ shp ck fun c => p.2.2.2[m]? = some c ∧ chk z (decide (c0 + q.1.length ≤ c.length)) (k (s.mv (killL q.2) kk q.2 (.tr p.2.1 p.2.2.1 (p.2.2.2.set m (c.take c0 ++ q.1 ++ c.drop (c0 + q.1.length))))))) (p.2.2.1 + 1 - q.1.length) 0
        | _, _ => opt z (toDs zs) fun ds => chk z (decide (i.n = ds.length ∧ 0 < ds.length ∧ ds.length ≤ p.2.2.1)) <|
          orH (colOf E x) (fun c0 => ∃ m : Nat, off = m * p.2.2.1 + c0 ∧ shp ck fun c => p.2.2.2[m]? = some c ∧ chk z (decide (c0 + ds.length ≤ c.length)) (k ((s.setOb kk (.lst p.2.1 p.2.2.1 p.2.2.2)).setOb kk (.lst p.2.1 p.2.2.1 (p.2.2.2.set m (c.take c0 ++ ds ++ c.drop (c0 + ds.length))))))) (p.2.2.1 + 1 - ds.length) 0 := by
        cases Y with
        | var cs => exact absurd ⟨cs, rfl⟩ hv
        | _ => exact h
      clear h
      obtain ⟨⟨tr, Ee, es, xs⟩, hp, h⟩ := opt_inv hz h'
      have hp := asL_inv hp
      dsimp only at h hp
      obtain ⟨ck, hck, h⟩ := opt_inv hz h
      cases tr with
      | false => exact hlst false Ee es xs ck hp h
      | true =>
        cases hqq : toDsT s zs with
        | none => rw [hqq] at h; exact hlst true Ee es xs ck hp h
        | some q =>
          rw [hqq] at h
          rw [hp] at hY
          obtain ⟨hl, h⟩ := chk_inv hz h
          simp only [Bool.and_eq_true, decide_eq_true_eq, Bool.not_eq_true', List.contains_eq_mem, decide_eq_false_iff_not, Bool.or_eq_true, List.isEmpty_iff] at hl
          obtain ⟨⟨⟨⟨h1, h2, h3⟩, h4⟩, h5⟩, h6⟩ := hl
          obtain ⟨c0, m, hoff, h⟩ := orH_ex h
          obtain ⟨c, _, hm, h⟩ := shp_ex h
          obtain ⟨hq, h⟩ := chk_inv hz h
          exact ⟨_, fun Γ hn ops rest K hg h => aOps_storeT ho hg hd hX hZ hc hqq (ndB_spec h4) h5 h6 hY hj (g2.trans h1) hm hoff (of_decide_eq_true hq) h2 h, h⟩
  · exact absurd h hz
theorem vStoreM_sound (hE : EnvOk P E) (hz : ¬ z) (hg : o.guard = none) (hk : ∀ s', k s' → aOps Γ P ops rest K s') (h : vStoreM z E o s k) : aOps Γ P ops (o :: rest) K s := by
  unfold vStoreM at h
  split at h
  · rename_i t x y ho
    obtain ⟨i, hi, h⟩ := opt_inv hz h
    obtain ⟨X, hX, h⟩ := opt_inv hz h
    obtain ⟨zs, hzs, h⟩ := opt_inv hz h
    obtain ⟨ds, hds, h⟩ := opt_inv hz h
    obtain ⟨hd, h⟩ := chk_inv hz h
    simp only [Bool.and_eq_true, Option.isNone_iff_eq_none] at hd
    obtain ⟨Zv, hZ, hc⟩ : ∃ Z, s.ev y = some Z ∧ Z.cells = some zs := by
      cases hy : s.ev y with
      | none => rw [hy] at hzs; simp at hzs
      | some Z => rw [hy] at hzs; exact ⟨Z, rfl, hzs⟩
    obtain ⟨d1, j1, hdd, hj, g1, g2, g3, g4, g5, g6, g7⟩ := tiOf_some (hE.tab t i hi)
    split at h
    · obtain ⟨Y, hY, h⟩ := opt_inv hz h
      split at h
      · obtain ⟨ck, hck, h⟩ := opt_inv hz h
        obtain ⟨hl, h⟩ := chk_inv hz h
        obtain ⟨h1, h2, h3⟩ := of_decide_eq_true hl
        obtain ⟨c0, m, hoff, h⟩ := orH_ex h
        obtain ⟨c, _, hm, h⟩ := shp_ex h
        obtain ⟨hq, h⟩ := chk_inv hz h
        simp only [Bool.and_eq_true] at hq
        exact aOps_storeM ho hg hd.1 hX hZ hc hds hd.2 hY hj (g2.trans h1) hm hoff (of_decide_eq_true hq.1) hq.2 h2 (hk _ h)
      · exact absurd h hz
    · exact absurd h hz
  · exact absurd h hz
theorem vLoadM_sound (hE : EnvOk P E) (hz : ¬ z) (hg : o.guard = none) (hk : ∀ s', k s' → aOps Γ P ops rest K s') (h : vLoadM z E Γ.n o s k) : aOps Γ P ops (o :: rest) K s := by
  unfold vLoadM at h
  split at h
  · rename_i t x ho
    obtain ⟨i, hi, h⟩ := opt_inv hz h
    obtain ⟨d, hd, h⟩ := opt_inv hz h
    obtain ⟨X, hX, h⟩ := opt_inv hz h
    obtain ⟨hl, h⟩ := chk_inv hz h
    simp only [Bool.and_eq_true, Bool.not_eq_true', decide_eq_true_eq] at hl
    obtain ⟨d1, j1, hdd, hj, g1, g2, g3, g4, g5, g6, g7⟩ := tiOf_some (hE.tab t i hi)
    split at h
    · obtain ⟨Y, hY, h⟩ := opt_inv hz h
      split at h
      · obtain ⟨ck, hck, h⟩ := opt_inv hz h
        obtain ⟨c0, m, hoff, h⟩ := orH_ex h
        obtain ⟨c, _, hm, h⟩ := shp_ex h
        cases hcc : c[c0]? with
        | none => rw [hcc] at h; exact h.elim
        | some x0 =>
          rw [hcc] at h
          cases x0 with
          | sl ys => exact aOps_loadM ho hg hd hl.2 hdd (g1.trans hl.1) hX hY hm hcc hoff fun a l r => hk _ (h a l r)
          | _ => exact h.elim
      · exact absurd h hz
    · exact absurd h hz
  · exact absurd h hz
theorem vNil_sound (hE : EnvOk P E) (hz : ¬ z) (hg : o.guard = none) (hk : ∀ s', k s' → aOps Γ P ops rest K s') {t t' : TypeId} {x y : Operand} (ho : o.op = .binOp .eql t x y t') (hy : isNilQ s x y = true) (h : vNil z E Γ.n o s k) : aOps Γ P ops (o :: rest) K s := by
  unfold vNil at h
  rw [ho] at h
  dsimp only at h
  obtain ⟨i, hi, h⟩ := opt_inv hz h
  obtain ⟨d, hd, h⟩ := opt_inv hz h
  obtain ⟨X, hX, h⟩ := opt_inv hz h
  obtain ⟨hl, h⟩ := chk_inv hz h
  simp only [Bool.and_eq_true, decide_eq_true_eq, Option.isSome_iff_exists] at hl
  obtain ⟨⟨h1, e, he⟩, h2⟩ := hl
  obtain ⟨d1, j1, hdd, hj, g1, g2, g3, g4, g5, g6, g7⟩ := tiOf_some (hE.tab t i hi)
  have := slice_of (g4.trans he) (g6.trans h1); subst this
  unfold isNilQ at hy
  split at hy
  · rename_i xs hx hz0
    rw [hx] at hX
    cases hX
    exact aOps_nilD ho hg hd h2 hdd hx hz0 (fun hn => hk _ (h.1 hn)) (hk _ h.2)
  · cases hy
theorem vLit_step {n : Nat} (hE : EnvOk P E) (hz : ¬ z) (h : vLit z E n o s k) : ∃ s', Step n P o s s' ∧ k s' := by
  unfold vLit at h
  split at h
  · rename_i t m ps ho
    obtain ⟨d, hd, h⟩ := opt_inv hz h
    obtain ⟨i, hi, h⟩ := opt_inv hz h
    obtain ⟨e, he, h⟩ := opt_inv hz h
    obtain ⟨⟨zn, zb, zc⟩, hzz, h⟩ := opt_inv hz h
    obtain ⟨hl, h⟩ := chk_inv hz h
    obtain ⟨h1, h2, h3, h4⟩ := of_decide_eq_true hl
    obtain ⟨ps', has, h⟩ := opt_inv hz h
    obtain ⟨out, hout, h⟩ := opt_inv hz h
    obtain ⟨p, hp, h⟩ := opt_inv hz h
    obtain ⟨hl, h⟩ := chk_inv hz h
    simp only [Bool.and_eq_true] at hl
    obtain ⟨j, zv, z1, z2, z3, z4, z5, z6⟩ := hE.zer e _ hzz
    obtain ⟨d1, j1, hdd, hj, g1, g2, g3, g4, g5, g6, g7⟩ := tiOf_some (hE.tab t i hi)
    have := slice_of (g4.trans he) (g6.trans h1); subst this
    dsimp only at z2 h2 h3 hout hl h
    subst z2
    exact ⟨_, fun Γ hn ops rest K hg h => aOps_lit (by simpa using ho) hg hd (by rw [hn]; exact h4) hdd z1 z4 z5 h2 z6 h3 has hout hp (ndB_spec hl.1) hl.2 h, h⟩
  · exact absurd h hz
theorem step_x {n : Nat} {s' : St} (h : ∀ Γ : Cx, Γ.n = n → XOp Γ P o s s') : Step n P o s s' := fun Γ hn ops rest K hg hr => st_x (h Γ hn) hg hr
theorem zdOf_src {t' : TypeId} {e es b : Nat} {zc : List At} {zd : Option (List Da)} {zv : Value} {y : Operand} {ys : List (List Da)} (hE : EnvOk P E) (hpos : 0 < es) (hzd : zdOf E t' zc = some zd) (z5 : zv.cells.size = es) (z6 : constAts zv.cells.toList = some zc)
    (hs : (zd = none ∧ RowsIn s y es ys) ∨ ∃ d kq q, zd = some d ∧ s.ev y = some (I kq ((q : Nat) : Int)) ∧ ys = List.replicate q d) : AppSrc P s t' e es zv y ys := by
  unfold zdOf at hzd
  split at hzd
  · rename_i i hi
    obtain ⟨d1, j1, hd, hj, a1, a2, a3, a4, a5, a6, a7⟩ := tiOf_some (hE.tab t' i hi)
    split at hzd
    · rename_i kk hk
      have := int_of (a7.trans hk); subst this
      cases hq : toDs zc with
      | none => rw [hq] at hzd; simp at hzd
      | some d0 =>
        rw [hq] at hzd
        simp at hzd
        rcases hs with ⟨h1, _⟩ | ⟨d, kq, q, h1, h2, rfl⟩
        · rw [h1] at hzd; cases hzd
        · rw [h1] at hzd
          cases hzd
          exact appSrc_zeros (b := b) hd z5 hpos z6 hq h2
    · split at hzd
      · rename_i hc
        simp at hzd
        obtain ⟨h1, h2⟩ := hc
        obtain ⟨e', he'⟩ := Option.isSome_iff_exists.1 h2
        have := slice_of (a4.trans he') (a6.trans h1); subst this
        rcases hs with ⟨_, h⟩ | ⟨d, kq, q, h3, _⟩
        · exact appSrc_of hd h.h
        · rw [h3] at hzd; cases hzd
      · cases hzd
  · cases hzd
theorem ifB_dec {c : Prop} [Decidable c] {p q : Prop} (h : ifB (decide c) p q) : (c ∧ p) ∨ (¬ c ∧ q) := by
  by_cases hc : c
  · rw [decide_eq_true hc] at h; exact .inl ⟨hc, h⟩
  · rw [decide_eq_false hc] at h; exact .inr ⟨hc, h⟩
theorem vPt_step {n : Nat} (hE : EnvOk P E) (hz : ¬ z) (h : vPt z E n o s k) : ∃ s', Step n P o s s' ∧ k s' := by
  unfold vPt at h
  split at h
  · rename_i c ho
    obtain ⟨callee, args, ats⟩ := c
    simp only at h
    split at h
    · rename_i x y t t' ha1 ha2
      have ha1 := arr2 ha1
      have ha2 := arr2 ha2
      subst ha1; subst ha2
      obtain ⟨hd, h⟩ := chk_inv hz h
      obtain ⟨i, hi, h⟩ := opt_inv hz h
      obtain ⟨e, he, h⟩ := opt_inv hz h
      obtain ⟨i2, hi2, h⟩ := opt_inv hz h
      obtain ⟨X, hX, h⟩ := opt_inv hz h
      obtain ⟨Y, hY, h⟩ := opt_inv hz h
      split at h
      · rename_i kk es lo m
        obtain ⟨A, hA, h⟩ := opt_inv hz h
        obtain ⟨⟨cc, Ee, es', xs⟩, hp, h⟩ := opt_inv hz h
        have hp := asP_inv hp
        rw [hp] at hA
        dsimp only at h hA
        obtain ⟨hl, h⟩ := chk_inv hz h
        obtain ⟨p1, rfl, rfl, p4, p5⟩ := of_decide_eq_true hl
        obtain ⟨nn, ys, h, hsrc⟩ := srcC_inv hz p5 hY h
        obtain ⟨d1, j1, hdd, hj, a1, a2, a3, a4, a5, a6, a7⟩ := tiOf_some (hE.tab t i hi)
        obtain ⟨d2, j2, hdd2, hj2, b1, b2, b3, _⟩ := tiOf_some (hE.tab _ i2 hi2)
        have := slice_of (a4.trans he) (a6.trans p1); subst this
        cases cc with
        | none =>
          obtain ⟨⟨q1⟩, h⟩ := h
          refine ⟨_, step_x fun Γ hn => ?_, h⟩
          intro a w S β K' R hs hK
          have hlen := ((mkP_rep (c := none)).1 (hs.mem.ob _ _ hA)).1.2.1.1
          exact xop_copyQ (c := none) ho (by rw [hn]; exact hd) hdd hj2 (b2.trans p4) hX hA (hsrc.h Γ) hsrc.len (by omega) (fun _ => q1) (by omega) a w S β K' R hs hK
        | some c =>
          obtain ⟨⟨q1, q2⟩, h⟩ := h
          exact ⟨_, step_x fun Γ hn => xop_copyQ (c := some _) ho (by rw [hn]; exact hd) hdd hj2 (b2.trans p4) hX hA (hsrc.h Γ) hsrc.len q1 (by simp) q2, h⟩
      · exact absurd h hz
    · rename_i x t ha1 ha2
      have ha1 := arr1 ha1
      have ha2 := arr1 ha2
      subst ha1; subst ha2
      obtain ⟨hd, h⟩ := chk_inv hz h
      obtain ⟨i, hi, h⟩ := opt_inv hz h
      obtain ⟨e, he, h⟩ := opt_inv hz h
      obtain ⟨⟨zn, zb, zc⟩, hzz, h⟩ := opt_inv hz h
      obtain ⟨zd, hzd, h⟩ := opt_inv hz h
      obtain ⟨X, hX, h⟩ := opt_inv hz h
      split at h
      · rename_i kk es lo m
        obtain ⟨A, hA, h⟩ := opt_inv hz h
        obtain ⟨⟨cc, Ee, es', xs⟩, hp, h⟩ := opt_inv hz h
        have hp := asP_inv hp
        rw [hp] at hA
        dsimp only at h hA
        obtain ⟨hl, ⟨q1⟩, h⟩ := chk_inv hz h
        obtain ⟨p1, rfl, rfl, rfl, p5⟩ := of_decide_eq_true hl
        obtain ⟨d1, j1, hdd, hj, a1, a2, a3, a4, a5, a6, a7⟩ := tiOf_some (hE.tab t i hi)
        have := slice_of (a4.trans he) (a6.trans p1); subst this
        exact ⟨_, step_x fun Γ hn => xop_clearP (hE.zer _ _ hzz) hzd p5 ho (by rw [hn]; exact hd) hdd hX hA q1, h⟩
      · exact absurd h hz
    · rename_i x y t t' ha1 ha2
      have ha1 := arr2 ha1
      have ha2 := arr2 ha2
      subst ha1; subst ha2
      obtain ⟨hd, h⟩ := chk_inv hz h
      obtain ⟨d, hdst, h⟩ := opt_inv hz h
      obtain ⟨i, hi, h⟩ := opt_inv hz h
      obtain ⟨e, he, h⟩ := opt_inv hz h
      obtain ⟨⟨zn, zb, zc⟩, hzz, h⟩ := opt_inv hz h
      obtain ⟨zd, hzd, h⟩ := opt_inv hz h
      obtain ⟨X, hX, h⟩ := opt_inv hz h
      obtain ⟨Y, hY, h⟩ := opt_inv hz h
      obtain ⟨hl, h⟩ := chk_inv hz h
      obtain ⟨p1, p2, p3⟩ := of_decide_eq_true hl
      obtain ⟨j, zv, z1, z2, z3, z4, z5, z6⟩ := hE.zer e _ hzz
      obtain ⟨d1, j1, hdd, hj, a1, a2, a3, a4, a5, a6, a7⟩ := tiOf_some (hE.tab t i hi)
      have := slice_of (a4.trans he) (a6.trans p1); subst this
      dsimp only at z2 z3 z5 z6 p2 p3 hzd h
      split at h
      · obtain ⟨hf, h⟩ := chk_inv hz h
        obtain ⟨ys, ⟨⟨q1⟩, h⟩, hsrc⟩ := srcP_inv hz p2 hY h
        rw [← hdst] at h
        have hsm : ys.length ≤ 281474976710656 := Nat.le_trans (mul_le_of p3 q1) (by decide)
        exact ⟨_, step_x fun Γ hn => (opL_app0 ho hdd z1 z2 z4 z5 hX (zdOf_src (b := zb) hE p2 hzd z5 z6 hsrc) p2 hsm (by rw [z3]; exact q1)).xop (by rw [hn]; exact hd) hf, h⟩
      · rename_i kk es lo m
        obtain ⟨A, hA, h⟩ := opt_inv hz h
        split at h
        · rename_i Ee es' xs
          obtain ⟨hl, h⟩ := chk_inv hz h
          obtain ⟨rfl, rfl, rfl⟩ := of_decide_eq_true hl
          obtain ⟨ys, ⟨⟨q1, q2⟩, h⟩, hsrc⟩ := srcP_inv hz p2 hY h
          rw [← hdst] at h
          refine ⟨_, step_x fun Γ hn => ?_, h⟩
          intro a w S β K' R hs hK
          have hlen := ((mkP_rep (c := none)).1 (hs.mem.ob _ _ hA)).1.2.1.1
          exact xop_appIn (b := zb) (c := none) ho (by rw [hn]; exact hd) hdd z1 z2 z4 hX hA (zdOf_src (b := zb) hE p2 hzd z5 z6 hsrc) (by omega) p2 q1 (by omega) (by rw [z3]; omega) a w S β K' R hs hK
        · rename_i Ee es' xs c
          obtain ⟨hl, h⟩ := chk_inv hz h
          simp only [Bool.and_eq_true, decide_eq_true_eq] at hl
          obtain ⟨⟨rfl, rfl, rfl⟩, hf⟩ := hl
          obtain ⟨ys, ⟨⟨q1, q2⟩, h⟩, hsrc⟩ := srcP_inv hz p2 hY h
          rw [← hdst] at h
          have hs1 := mul_le_of p3 q2
          have hs2 : ys.length * zb ≤ 140737488355328 := by refine Nat.le_trans ?_ q2; exact Nat.mul_le_mul_right _ (Nat.le_add_left _ _)
          obtain ⟨hc, h⟩ | ⟨hc, h⟩ := ifB_dec h
          · exact ⟨_, step_x fun Γ hn => xop_appIn (b := zb) (c := some _) ho (by rw [hn]; exact hd) hdd z1 z2 z4 hX hA (zdOf_src (b := zb) hE p2 hzd z5 z6 hsrc) q1 p2 hc (by omega) (by rw [z3]; omega), h⟩
          · exact ⟨_, step_x fun Γ hn => (opL_appNew ho hdd z1 z2 z4 z5 hX hA (zdOf_src (b := zb) hE p2 hzd z5 z6 hsrc) q1 p2 (by omega) (by omega) (by rw [z3]; refine Nat.le_trans (Nat.mul_le_mul_right _ ?_) q2; omega)).xop (by rw [hn]; exact hd) hf, h⟩
        · exact absurd h hz
      · exact absurd h hz
    · exact absurd h hz
  · exact absurd h hz
theorem vA_step {n : Nat} (hE : EnvOk P E) (hz : ¬ z) (h : vA z E n o s k) : ∃ s', Step n P o s s' ∧ k s' := by
  unfold vA at h
  split at h
  · obtain ⟨s', h1, h⟩ := vStore_step (n := n) hE hz h
    exact ⟨s', fun Γ hn ops rest K hg h => aOps_to To.sealStore (h1 Γ hn ops rest K hg h), h⟩
  · obtain ⟨s', h1, h⟩ := vLit_step hE hz h
    exact ⟨s', fun Γ hn ops rest K hg h => aOps_to To.sealL (h1 Γ hn ops rest K hg h), h⟩
  · rename_i c ho
    obtain ⟨callee, args, ats⟩ := c
    simp only at h
    split at h
    · exact vPt_step hE hz h
    split at h
    · rename_i x y t t' ha1 ha2 _
      have ha1 := arr2 ha1
      have ha2 := arr2 ha2
      subst ha1; subst ha2
      obtain ⟨hl, h⟩ := chk_inv hz h
      simp only [Bool.and_eq_true, decide_eq_true_eq] at hl
      obtain ⟨htt, hd⟩ := hl
      rw [← htt] at ho
      obtain ⟨i, hi, h⟩ := opt_inv hz h
      obtain ⟨e, he, h⟩ := opt_inv hz h
      obtain ⟨⟨zn, zb, zc⟩, hzz, h⟩ := opt_inv hz h
      obtain ⟨hl, h⟩ := chk_inv hz h
      obtain ⟨h1, h2, h3⟩ := of_decide_eq_true hl
      obtain ⟨X, hX, h⟩ := opt_inv hz h
      obtain ⟨Y, hY, h⟩ := opt_inv hz h
      have hzer := hE.zer e _ hzz
      dsimp only at h h2 h3 hzer
      split at h
      · rename_i kk
        obtain ⟨A, hA, h⟩ := opt_inv hz h
        obtain ⟨⟨tr0, Ee, es, xs⟩, hp, h⟩ := opt_inv hz h
        have hp := asL_inv hp
        rw [hp] at hA
        dsimp only at h hA
        obtain ⟨hl, h⟩ := chk_inv hz h
        obtain ⟨e1, e2, h4⟩ := of_decide_eq_true hl
        rw [e1, e2] at hA
        obtain ⟨tr', ks, ys, h, hsrc, htr, hle⟩ := apSrc_inv hz hY h
        refine ⟨_, fun Γ hn ops rest K hg hr => ?_, h.2⟩
        have fin : (∀ y ∈ ys, y.length = zn) → aOps Γ P ops (o :: rest) K s := fun hyes =>
          st_app hE.tab hzer ho hg (by rw [hn]; exact hd) hi h1 he h2 (.inl ⟨tr0, hA, htr, hX⟩) hsrc hyes h.1.h (Nat.le_trans (mul_le_of h3 h.1.h) (by decide)) hr h4
        rcases hle with hle | ⟨k2, tr2, E2, hB⟩
        · exact fin hle
        · exact aOps_len hB fun _ hyes => fin hyes
      · obtain ⟨d, hdd, h⟩ := opt_inv hz h
        obtain ⟨hl, h⟩ := chk_inv hz h
        simp only [Bool.and_eq_true, decide_eq_true_eq] at hl
        obtain ⟨h4, hf⟩ := hl
        obtain ⟨tr', ks, ys, h, hsrc, htr, hle⟩ := apSrc_inv hz hY h
        refine ⟨_, fun Γ hn ops rest K hg hr => ?_, h.2⟩
        have fin : (∀ y ∈ ys, y.length = zn) → aOps Γ P ops (o :: rest) K s := fun hyes =>
          st_app (xs := []) hE.tab hzer ho hg (by rw [hn]; exact hd) hi h1 he h2 (.inr ⟨hX, rfl, hf⟩) hsrc hyes (by simpa using h.1.h) (by simpa using Nat.le_trans (mul_le_of h3 h.1.h) (by decide)) hr h4
        rcases hle with hle | ⟨k2, tr2, E2, hB⟩
        · exact fin hle
        · exact aOps_len hB fun _ hyes => fin hyes
      · exact absurd h hz
    · exact absurd h hz
  · exact absurd h hz
theorem vA_sound (hE : EnvOk P E) (hz : ¬ z) (hg : o.guard = none) (hk : ∀ s', k s' → aOps Γ P ops rest K s') (h : vA z E Γ.n o s k) : aOps Γ P ops (o :: rest) K s := by
  obtain ⟨s', h1, h⟩ := vA_step hE hz h
  exact h1.sound hg (hk _ h)
end

end AM
end Go.Proofs.Ytfcmmpmdofejeaa
