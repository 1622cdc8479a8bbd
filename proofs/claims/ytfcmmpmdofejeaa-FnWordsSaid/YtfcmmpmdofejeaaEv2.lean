/- What one operation asks, told by what its operands read as; no conditions. -/
import Derived.Test.YtfcmmpmdofejeaaEv1
set_option linter.unusedSimpArgs false
set_option linter.unusedVariables false
namespace Go.Proofs.Ytfcmmpmdofejeaa
namespace AM
open Go

/-- The kinds of single cells. -/
inductive CK where
  | i (k : IntKind)
  | b
  | s
  | l
  | f
  | a
  deriving DecidableEq

/-- Cells of a kind. -/
def shC : CK → (Da → Prop) → Prop
  | .i k, K => ∃ n : Int, K (.int k n)
  | .b, K => ∃ b : Bool, K (.bool b)
  | .s, K => ∃ q : ByteArray, K (.str q)
  | .l, K => ∃ xs : List (List Da), K (.sl xs)
  | .f, K => ∃ f : FuncId, K (.fn f)
  | .a, K => ∃ d : Da, K d
def shp : List CK → (List Da → Prop) → Prop
  | [], K => K []
  | c :: r, K => shC c fun d => shp r fun ds => K (d :: ds)
theorem shC_ex {c : CK} {K : Da → Prop} (h : shC c K) : ∃ d, K d := by
  cases c <;> exact h.elim fun _ h => ⟨_, h⟩
theorem shp_ex : ∀ {l : List CK} {K : List Da → Prop}, shp l K → ∃ ds, ds.length = l.length ∧ K ds
  | [], _, h => ⟨[], rfl, h⟩
  | c :: r, K, h => by
    obtain ⟨d, h⟩ := shC_ex h
    obtain ⟨ds, hl, h⟩ := shp_ex h
    exact ⟨d :: ds, by simp [hl], h⟩

/-- What a call gives: a cell of data, a struct of data, a list of its own, several. -/
inductive RK where
  | k (c : CK)
  | o (E es : Nat)
  | e
inductive RS where
  | c (k : CK)
  | d (ks : List CK)
  | o (E es : Nat)
  | b (E es : Nat)
  | s (ks : List RK)
  | p (ks : List RK)
  | t (rs : List RS)

/-- What is known of the types, and of the functions that are called. -/
structure Env where
  tab : List (Nat × TI)
  zer : List (Nat × (Nat × Nat × List At))
  cks : List (Nat × List CK)
  sig : List (Nat × RS)
  fns : List Nat
  obj : List Nat
  ext : List Nat
  eqt : List (Nat × List CK)
  lw : Bool := false
  prm : List Nat := []
  cols : List (Nat × Nat) := []
  tkn : List (Nat × Nat) := []
  ovl : List Nat := []

/-- A function without a text that looks for a byte. -/
def ExtOk (P : Program) (f : FuncId) : Prop := ∃ fn, P.funcs[f]? = some fn ∧ (fn.name == "runtime.NumGoroutine") = false ∧ fn.body.isNone = true ∧ Extern.findNext fn = none ∧ Extern.find fn = some Extern.BytealgIndexByte.indexByte
def ckFits (P : Program) : List Field → List CK → Bool
  | [], [] => true
  | f :: r, c :: ks => (match P.underlying f.type, c with
    | some (.int _), .i _ => true
    | some .bool, .b => true
    | some .string, .s => true
    | _, _ => false) && ckFits P r ks
  | _, _ => false
def ckDa : List CK → List Da → Bool
  | [], [] => true
  | .i _ :: ks, .int _ _ :: xs => ckDa ks xs
  | .b :: ks, .bool _ :: xs => ckDa ks xs
  | .s :: ks, .str _ :: xs => ckDa ks xs
  | _, _ => false
def eqtOk (P : Program) (t : TypeId) (ks : List CK) : Bool := match P.underlying t with
  | some (.struct fs) => eqOk P t && ckFits P fs.toList ks
  | _ => false
theorem ckFits_da {P : Program} : ∀ {fs : List Field} {ks : List CK} {xs : List Da}, ckFits P fs ks = true → ckDa ks xs = true → fitsD P fs xs = true
  | [], [], xs, _, h => by cases xs <;> simp_all [ckDa, fitsD]
  | [], _ :: _, _, h, _ => by simp [ckFits] at h
  | _ :: _, [], _, h, _ => by simp [ckFits] at h
  | f :: r, c :: ks, xs, h, k => by
    simp only [ckFits, Bool.and_eq_true] at h
    obtain ⟨h1, h2⟩ := h
    cases xs with
    | nil => cases c <;> simp [ckDa] at k
    | cons x xs =>
      cases c <;> cases x <;> simp only [ckDa, Bool.false_eq_true] at k <;> simp only [fitsD, Bool.and_eq_true] <;> refine ⟨?_, ckFits_da h2 k⟩ <;> (split at h1 <;> simp_all)
def fnOk (P : Program) (f : FuncId) : Bool := match P.funcs[f]? with
  | some fn => !fn.body.isNone && !(fn.name == "runtime.NumGoroutine")
  | none => false
structure EnvOk (P : Program) (E : Env) : Prop where
  tab : TabOk P E.tab
  zer : ∀ t z, look E.zer t = some z → ZeroOk P t z.1 z.2.1 z.2.2
  fns : (E.fns.all fun f => fnOk P f) = true
  ext : ∀ f ∈ E.ext, ExtOk P f
  eqt : (E.eqt.all fun p => eqtOk P p.1 p.2) = true
  ovl : ∀ f ∈ E.ovl, OvlOk P f
theorem fnOk_spec {P : Program} {f : FuncId} (h : fnOk P f = true) : ∃ fn, P.funcs[f]? = some fn ∧ fn.body.isNone = false ∧ (fn.name == "runtime.NumGoroutine") = false := by
  unfold fnOk at h
  split at h
  · rename_i fn hf
    simp only [Bool.and_eq_true, Bool.not_eq_true'] at h
    exact ⟨fn, hf, h.1, h.2⟩
  · simp at h

def opt {α : Type} (z : Prop) (o : Option α) (K : α → Prop) : Prop := match o with
  | some a => K a
  | none => z
def chk (z : Prop) (b : Bool) (K : Prop) : Prop := match b with
  | true => K
  | false => z
def ifB (b : Bool) (p q : Prop) : Prop := match b with
  | true => p
  | false => q
theorem opt_inv {α : Type} {z : Prop} {o : Option α} {K : α → Prop} (hz : ¬ z) (h : opt z o K) : ∃ a, o = some a ∧ K a := by
  cases o with
  | some a => exact ⟨a, rfl, h⟩
  | none => exact absurd h hz
theorem chk_inv {z : Prop} {b : Bool} {K : Prop} (hz : ¬ z) (h : chk z b K) : b = true ∧ K := by
  cases b with
  | true => exact ⟨rfl, h⟩
  | false => exact absurd h hz
theorem ifB_of {b : Bool} {p q : Prop} (h1 : b = true → p) (h2 : b = false → q) : ifB b p q := by
  cases b with
  | true => exact h1 rfl
  | false => exact h2 rfl
theorem ifB_t {b : Bool} {p q : Prop} (hb : b = true) (h : p) : ifB b p q := by subst hb; exact h
theorem ifB_f {b : Bool} {p q : Prop} (hb : b = false) (h : q) : ifB b p q := by subst hb; exact h
theorem ifB_d {c : Prop} [Decidable c] {p q : Prop} (h1 : c → p) (h2 : ¬ c → q) : ifB (decide c) p q := ifB_of (fun h => h1 (of_decide_eq_true h)) fun h => h2 (of_decide_eq_false h)

/-- A list of the call's own, its rows' blocks its own or not. -/
def asL : Ob → Option (Bool × Nat × Nat × List (List Da))
  | .lst E es xs => some (false, E, es, xs)
  | .tr E es xs => some (true, E, es, xs)
  | _ => none
theorem asL_inv {X : Ob} {p : Bool × Nat × Nat × List (List Da)} (h : asL X = some p) : X = mkL p.1 p.2.1 p.2.2.1 p.2.2.2 := by
  cases X <;> simp [asL] at h <;> subst h <;> rfl
def asI : AV → Option (IntKind × Int)
  | .one (.d (.int k n)) => some (k, n)
  | _ => none
def asB : AV → Option Bool
  | .one (.d (.bool b)) => some b
  | _ => none
theorem asI_inv {X : AV} {k : IntKind} {n : Int} (h : asI X = some (k, n)) : X = I k n := by
  unfold asI at h
  split at h <;> simp at h
  obtain ⟨rfl, rfl⟩ := h
  rfl
theorem asB_inv {X : AV} {b : Bool} (h : asB X = some b) : X = B b := by
  unfold asB at h
  split at h <;> simp at h
  subst h
  rfl
theorem evI {s : St} {x : Operand} {p : IntKind × Int} (h : (s.ev x).bind asI = some p) : s.ev x = some (I p.1 p.2) := by
  cases hx : s.ev x with
  | none => rw [hx] at h; simp at h
  | some X => rw [hx] at h; exact congrArg some (asI_inv h)

/-- Two operands together. -/
def vBin (z : Prop) (pr : Nat) (op : BinOp) (X Y : AV) (k : AV → Prop) : Prop := match X, Y with
  | .one (.d (.int k1 m)), .one (.d (.int k2 n)) => match op with
    | .shl => Do (0 ≤ n ∧ n ≤ k1.bits) ∧ k (I k1 (k1.wrap (m * 2 ^ n.toNat)))
    | .shr => Do (0 ≤ n ∧ n ≤ k1.bits) ∧ k (I k1 (m / 2 ^ n.toNat))
    | .add => chk z (decide (k1 = k2)) (k (I k1 (k1.wrap (m + n))))
    | .sub => chk z (decide (k1 = k2)) (k (I k1 (k1.wrap (m - n))))
    | .mul => chk z (decide (k1 = k2)) (k (I k1 (k1.wrap (m * n))))
    | .quo => chk z (decide (k1 = k2)) (Do (n ≠ 0) ∧ k (I k1 (k1.wrap (m.tdiv n))))
    | .rem => chk z (decide (k1 = k2)) (Do (n ≠ 0) ∧ k (I k1 (m.tmod n)))
    | .lss => chk z (decide (k1 = k2)) (k (B (decide (m < n))))
    | .leq => chk z (decide (k1 = k2)) (k (B (decide (m ≤ n))))
    | .gtr => chk z (decide (k1 = k2)) (k (B (decide (n < m))))
    | .geq => chk z (decide (k1 = k2)) (k (B (decide (n ≤ m))))
    | .eql => chk z (decide (k1 = k2)) (k (B (decide (m = n))))
    | .neq => chk z (decide (k1 = k2)) (k (B (decide (m ≠ n))))
    | .and => chk z (decide (k1 = k2)) (k (I k1 (bits .and k1 m n)))
    | .or => chk z (decide (k1 = k2)) (k (I k1 (bits .or k1 m n)))
    | .xor => chk z (decide (k1 = k2)) (k (I k1 (bits .xor k1 m n)))
    | _ => z
  | .one (.d (.str p)), .one (.d (.str q)) => match op with
    | .eql => k (B (decide (p = q)))
    | .neq => k (B (decide (p ≠ q)))
    | .add => Do ((p ++ q).size ≤ 281474976710656) ∧ k (T (p ++ q))
    | _ => z
  | .one (.d (.bool b)), .one (.d (.bool c)) => match op with
    | .eql => chk z (decide (pr = 1)) (k (B (decide (b = c))))
    | .neq => chk z (decide (pr = 1)) (k (B (decide (b ≠ c))))
    | _ => z
  | _, _ => z

section
variable {P : Program} {E : Env} {z : Prop} {o : Oper} {s s0 : St}
theorem vBin_sound (hT : TabOk P E.tab) (hz : ¬ z) {op : BinOp} {t t' : TypeId} {x y : Operand} {X Y : AV} {i : TI} {k : AV → Prop} (ho : o.op = .binOp op t x y t') (ht : look E.tab t = some i) (hx : s.ev x = some X) (hy : s.ev y = some Y) (h : vBin z i.pr op X Y k) : ∃ r, OpS P o s s0 r [] ∧ k r := by
  unfold vBin at h
  split at h
  · rename_i k1 m k2 n
    split at h
    · exact ⟨_, opS_of (opP_shl ho hx hy h.1.h.1 h.1.h.2), h.2⟩
    · exact ⟨_, opS_of (opP_shr ho hx hy h.1.h.1 h.1.h.2), h.2⟩
    all_goals first
      | exact absurd h hz
      | (replace h := chk_inv hz h
         obtain ⟨hk, h⟩ := h
         obtain rfl := of_decide_eq_true hk
         first
           | exact ⟨_, opS_of (opP_add ho hx hy), h⟩
           | exact ⟨_, opS_of (opP_sub ho hx hy), h⟩
           | exact ⟨_, opS_of (opP_mul ho hx hy), h⟩
           | exact ⟨_, opS_of (opP_quo ho hx hy h.1.h), h.2⟩
           | exact ⟨_, opS_of (opP_rem ho hx hy h.1.h), h.2⟩
           | exact ⟨_, opS_of (opP_lss ho hx hy), h⟩
           | exact ⟨_, opS_of (opP_leq ho hx hy), h⟩
           | exact ⟨_, opS_of (opP_gtr ho hx hy), h⟩
           | exact ⟨_, opS_of (opP_geq ho hx hy), h⟩
           | exact ⟨_, opS_of (opP_eql ho hx hy), h⟩
           | exact ⟨_, opS_of (opP_neq ho hx hy), h⟩
           | exact ⟨_, opS_of (opP_and ho hx hy), h⟩
           | exact ⟨_, opS_of (opP_or ho hx hy), h⟩
           | exact ⟨_, opS_of (opP_xor ho hx hy), h⟩)
  · split at h
    · exact ⟨_, opS_of (opP_strEq ho hx hy), h⟩
    · exact ⟨_, opS_of (opP_strNe ho hx hy), h⟩
    · exact ⟨_, opS_of (opP_strAdd ho hx hy h.1.h), h.2⟩
    · exact absurd h hz
  · split at h
    · obtain ⟨hk, h⟩ := chk_inv hz h
      exact ⟨_, os_boolEq hT ho hx hy ht (of_decide_eq_true hk), h⟩
    · obtain ⟨hk, h⟩ := chk_inv hz h
      exact ⟨_, os_boolNe hT ho hx hy ht (of_decide_eq_true hk), h⟩
    · exact absurd h hz
  · exact absurd h hz
end

/-- Two structs of single cells. -/
def vBinS (z : Prop) (E : Env) (op : BinOp) (t : TypeId) (pr : Nat) (X Y : AV) (k : AV → Prop) : Prop := match X, Y with
  | .dat xs, .dat ys => match op with
    | .eql => opt z (look E.eqt t) fun ks => chk z (ckDa ks xs) <| opt z (eqDas xs ys) fun b => k (B b)
    | _ => z
  | X, Y => vBin z pr op X Y k
theorem look_mem' {α : Type} {l : List (Nat × α)} {i : Nat} {x : α} (h : look l i = some x) : (i, x) ∈ l := look_mem h
theorem vBinS_sound {P : Program} {E : Env} {z : Prop} {o : Oper} {s s0 : St} (hE : EnvOk P E) (hz : ¬ z) {op : BinOp} {t t' : TypeId} {x y : Operand} {X Y : AV} {i : TI} {k : AV → Prop} (ho : o.op = .binOp op t x y t') (ht : look E.tab t = some i) (hx : s.ev x = some X) (hy : s.ev y = some Y) (h : vBinS z E op t i.pr X Y k) : ∃ r, OpS P o s s0 r [] ∧ k r := by
  unfold vBinS at h
  split at h
  · split at h
    · obtain ⟨ks, hks, h⟩ := opt_inv hz h
      obtain ⟨hc, h⟩ := chk_inv hz h
      obtain ⟨b, hb, h⟩ := opt_inv hz h
      have := List.all_eq_true.1 hE.eqt _ (look_mem hks)
      simp only [eqtOk] at this
      split at this
      · rename_i fs hfs
        simp only [Bool.and_eq_true] at this
        exact ⟨_, opS_of (opP_structEq ho this.1 hfs (ckFits_da this.2 hc) hx hy hb), h⟩
      · simp at this
    · exact absurd h hz
  · exact vBin_sound hE.tab hz ho ht hx hy h

def orQ (K : Nat → Prop) : Nat → Nat → Prop
  | 0, _ => False
  | 1, q => K q
  | n + 1, q => K q ∨ orQ K n (q + 1)
theorem orQ_ex {K : Nat → Prop} : ∀ {n q : Nat}, orQ K n q → ∃ q, K q
  | 0, _, h => h.elim
  | 1, q, h => ⟨q, h⟩
  | n + 2, q, h => by
    rcases h with h | h
    · exact ⟨q, h⟩
    · exact orQ_ex h

/-- The column that an address names, where the text tells it. -/
def orH (h : Option Nat) (K : Nat → Prop) (n q : Nat) : Prop := match h with
  | some c => K c
  | none => orQ K n q
theorem orH_ex {h : Option Nat} {K : Nat → Prop} {n q : Nat} (hh : orH h K n q) : ∃ q, K q := by
  cases h with
  | some c => exact ⟨c, hh⟩
  | none => exact orQ_ex hh
def colOf (E : Env) : Operand → Option Nat
  | .tmp t => look E.cols t
  | _ => none
def colsOf (E : Env) : List Oper → List (Nat × Nat) → List (Nat × Nat)
  | [], M => M
  | o :: r, M => match o.dst, o.op with
    | some d, .indexAddr _ _ _ => colsOf E r ((d, 0) :: M)
    | some d, .fieldAddr t (.tmp y) q => match look M y, (look E.tab t).bind (fun i => i.fs[q]?) with
      | some c, some (some f) => colsOf E r ((d, c + f.1) :: M)
      | _, _ => colsOf E r M
    | some d, .move (.tmp y) => match look M y with
      | some c => colsOf E r ((d, c) :: M)
      | none => colsOf E r M
    | _, _ => colsOf E r M
theorem EnvOk.cols {P : Program} {E : Env} (h : EnvOk P E) (c : List (Nat × Nat)) : EnvOk P { E with cols := c } := ⟨h.tab, h.zer, h.fns, h.ext, h.eqt, h.ovl⟩

/-- A field of a struct. -/
def vField (z : Prop) (i : TI) (q : Nat) (X : AV) (k : AV → Prop) : Prop := opt z (i.fs[q]?) fun f => opt z f fun f => match f.2.2 with
  | false => opt z X.sc fun cs => opt z (cs[f.1]?) fun c => k (.one c)
  | true => match X with
    | .dat ds => k (.dat ((ds.drop f.1).take f.2.1))
    | _ => opt z X.sc fun cs => k (mkAgg ((cs.drop f.1).take f.2.1))
def vFieldAddr (z : Prop) (i : TI) (q : Nat) (X : AV) (k : AV → Prop) : Prop := opt z (i.fs[q]?) fun f => opt z f fun f => chk z (decide (0 < f.2.1)) <| match X with
  | .one (.op o off) => k (.one (.op o (off + f.1)))
  | .one (.ep cs) => k (.one (.ep (cs.drop f.1)))
  | _ => z
def vLoad (z : Prop) (E : Env) (hc : Option Nat) (i : TI) (s0 : St) (X : AV) (k : AV → Prop) : Prop := match X with
  | .one (.ep cs) => match i.agg with
    | false => opt z (cs[0]?) fun c => k (.one (.d c))
    | true => chk z (decide (i.n ≤ cs.length)) (k (.dat (cs.take i.n)))
  | .one (.op o off) => opt z (s0.gob o) fun X => match X with
    | .var cs => match i.agg with
      | false => opt z (cs[off]?) fun c => k (.one c)
      | true => chk z (decide (off + i.n ≤ cs.length)) (k (mkAgg ((cs.drop off).take i.n)))
    | .fu Ee es xs c => opt z (look E.cks Ee) fun ck => chk z (decide (ck.length = es) && decide (i.n = es)) <| ∃ n : Nat, off = n * es ∧ shp ck fun ds => xs[n]? = some ds ∧ match i.agg with
        | false => opt z (ds[0]?) fun c => chk z (decide (es = 1)) (k (.one (.d c)))
        | true => k (.dat ds)
    | X => opt z (asL X) fun p => opt z (look E.cks p.2.1) fun ck => chk z (decide (ck.length = p.2.2.1)) <| match decide (i.n = p.2.2.1) with
      | true => ∃ n : Nat, off = n * p.2.2.1 ∧ shp ck fun ds => p.2.2.2[n]? = some ds ∧ match i.agg with
        | false => opt z (ds[0]?) fun c => chk z (decide (p.2.2.1 = 1)) (k (.one (.d c)))
        | true => k (.dat ds)
      | false => chk z (!i.agg && decide (i.n = 1)) <| orH hc (fun q => ∃ n : Nat, off = n * p.2.2.1 + q ∧ shp ck fun ds => p.2.2.2[n]? = some ds ∧ opt z (ds[q]?) fun c => k (.one (.d c))) p.2.2.1 0
  | _ => z
def vIndexAddr (z : Prop) (E : Env) (i : TI) (s0 : St) (X : AV) (n : Int) (k : AV → Prop) : Prop := opt z i.el fun e => opt z (look E.tab e) fun i2 => match X with
  | .one (.d (.sl xs)) => opt z (look E.cks e) fun ck => chk z (decide (i.pr = 4 ∧ 0 < i2.n ∧ ck.length = i2.n)) <| ∃ m : Nat, n = (m : Int) ∧ shp ck fun ds => xs[m]? = some ds ∧ k (.one (.ep ds))
  | .one (.ol o) => opt z (s0.gob o) fun X => match X with
    | .mt Ee es xs => chk z (decide (i.pr = 4 ∧ i2.n = es)) <| ∃ m : Nat, n = (m : Int) ∧ Do (m < xs.length) ∧ k (.one (.op o (m * es)))
    | X => opt z (asL X) fun p => chk z (decide (i.pr = 4 ∧ i2.n = p.2.2.1 ∧ 0 < p.2.2.1)) <| ∃ m : Nat, n = (m : Int) ∧ Do (m < p.2.2.2.length) ∧ k (.one (.op o (m * p.2.2.1)))
  | .one (.op o off) => chk z (decide (10 ≤ i.pr ∧ 0 ≤ n ∧ n < (i.pr - 10 : Nat))) (k (.one (.op o (off + n.toNat * i2.n))))
  | .one (.ps o es lo l) => chk z (decide (i.pr = 4 ∧ i2.n = es)) <| ∃ m : Nat, n = (m : Int) ∧ Do (m < l) ∧ k (.one (.op o ((lo + m) * es)))
  | _ => z
def vLen (z : Prop) (i : TI) (s0 : St) (X : AV) (k : AV → Prop) : Prop := match X with
  | .one (.d (.str q)) => chk z (decide (i.pr = 2)) (k (Z q.size))
  | .one (.d (.sl xs)) => chk z (decide (i.pr = 4) && i.el.isSome) (k (Z xs.length))
  | .one .e0 => chk z (decide (i.pr = 4) && i.el.isSome) (k (Z 0))
  | .one (.ps _ _ _ n) => chk z (decide (i.pr = 4) && i.el.isSome) (k (Z n))
  | .one (.ol o) => opt z (s0.gob o) fun X => match X with
    | .mt Ee es xs => chk z (decide (i.pr = 4) && i.el.isSome) (k (Z xs.length))
    | X => opt z (asL X) fun p => chk z (decide (i.pr = 4) && i.el.isSome) (k (Z p.2.2.2.length))
  | _ => z
def cutAt (z : Prop) (s : St) (u : Option Operand) (n0 : Nat) (K : Nat → Prop) : Prop := match u with
  | none => K n0
  | some x => opt z ((s.ev x).bind asI) fun p => ∃ n : Nat, p.2 = (n : Int) ∧ K n
def vCut (z : Prop) (E : Env) (i : TI) (s s0 : St) (X : AV) (lo hi : Option Operand) (k : AV → Prop) : Prop := match X with
  | .one (.d (.str q)) => chk z (decide (i.pr = 2)) <| cutAt z s lo 0 fun l => cutAt z s hi q.size fun h => Do (l ≤ h ∧ h ≤ q.size) ∧ k (T (q.extract l h))
  | .one (.d (.sl xs)) => opt z i.el fun e => opt z (look E.tab e) fun i2 => chk z (decide (i.pr = 4)) <| cutAt z s lo 0 fun l => cutAt z s hi xs.length fun h => Do (l ≤ h ∧ h ≤ xs.length) ∧ Do (∀ c ∈ xs, c.length = i2.n) ∧ k (L ((xs.take h).drop l))
  | .one (.ps o es l0 n) => opt z i.el fun e => opt z (look E.tab e) fun i2 => chk z (decide (i.pr = 4 ∧ i2.n = es)) <| cutAt z s lo 0 fun l => cutAt z s hi n fun h => match s0.gob o with
    | some (.fu _ _ _ c) => Do (l ≤ h ∧ (h ≤ n ∨ l0 + h ≤ c)) ∧ k (.one (.ps o es (l0 + l) (h - l)))
    | some (.lst _ _ _) => Do (l ≤ h ∧ h ≤ n) ∧ k (.one (.ps o es (l0 + l) (h - l)))
    | some (.tr _ _ _) => Do (l ≤ h ∧ h ≤ n) ∧ k (.one (.ps o es (l0 + l) (h - l)))
    | _ => z
  | .one (.ol o) => opt z i.el fun e => opt z (look E.tab e) fun i2 => match s0.gob o with
    | some (.lst Ee es xs) => chk z (decide (i.pr = 4 ∧ i2.n = es)) <| cutAt z s lo 0 fun l => cutAt z s hi xs.length fun h => Do (l ≤ h ∧ h ≤ xs.length) ∧ k (.one (.ps o es (0 + l) (h - l)))
    | some (.tr Ee es xs) => chk z (decide (i.pr = 4 ∧ i2.n = es)) <| cutAt z s lo 0 fun l => cutAt z s hi xs.length fun h => Do (l ≤ h ∧ h ≤ xs.length) ∧ k (.one (.ps o es (0 + l) (h - l)))
    | _ => z
  | .one .e0 => opt z i.el fun e => opt z (look E.tab e) fun i2 => chk z (decide (i.pr = 4)) <| cutAt z s lo 0 fun l => cutAt z s hi 0 fun h => Do (l = 0 ∧ h = 0) ∧ k (.one .e0)
  | _ => z
/-- A part with its room told, of which nothing is made. -/
def vCut3 (z : Prop) (E : Env) (i : TI) (s : St) (X : AV) (lo hi : Option Operand) (mx : Operand) (k : AV → Prop) : Prop := match X, lo, hi with
  | .one (.ps _ _ _ n), some lo, some hi => opt z i.el fun e => opt z (look E.tab e) fun _ => chk z (decide (i.pr = 4)) <| cutAt z s (some lo) 0 fun l => cutAt z s (some hi) n fun h => cutAt z s (some mx) n fun m => Do (l ≤ h ∧ h ≤ m ∧ m ≤ n) ∧ k (.one .junk)
  | _, _, _ => z
/-- The room of a slice. -/
def vCap (z : Prop) (i : TI) (s0 : St) (X : AV) (k : AV → Prop) : Prop := match X with
  | .one .e0 => chk z (decide (i.pr = 4) && i.el.isSome) (k (Z 0))
  | .one (.ps o es lo n) => chk z (decide (i.pr = 4) && i.el.isSome) <| match s0.gob o with
    | some (.fu _ _ _ c) => k (Z ((c - lo : Nat) : Int))
    | _ => z
  | _ => z
def vConvert (z : Prop) (E : Env) (i i2 : TI) (s0 : St) (X : AV) (k : AV → Prop) : Prop := match X with
  | .one (.d (.int kk n)) => match i2.ik with
    | some k' => k (I k' (k'.wrap n))
    | none => chk z (decide (i2.pr = 2)) (Do ((Utf8.encode n).size ≤ 281474976710656) ∧ k (T (Utf8.encode n)))
  | .one (.d (.str q)) => chk z (decide (i.pr = 2 ∧ i2.pr = 2)) (k (T q))
  | .one (.ol o) => opt z (s0.gob o) fun X => match X with
    | X => opt z (asL X) fun p => opt z i.el fun e => opt z (look E.tab e) fun ie => chk z (decide (i.pr = 4 ∧ i2.pr = 2 ∧ p.2.2.1 = 1 ∧ ie.ik = some .u8)) (∃ ns : List Int, p.2.2.2 = ns.map (fun n => [Da.int .u8 n]) ∧ k (T (strOfNums ns)))
  | _ => z

section
variable {P : Program} {E : Env} {z : Prop} {o : Oper} {s s0 : St} {t : TypeId} {x y : Operand} {X : AV} {i : TI} {k : AV → Prop}
theorem vField_sound (hT : TabOk P E.tab) (hz : ¬ z) {q : Nat} (ho : o.op = .field t x q) (ht : look E.tab t = some i) (hx : s.ev x = some X) (h : vField z i q X k) : ∃ r, OpS P o s s0 r [] ∧ k r := by
  replace h := opt_inv hz h
  obtain ⟨f, hf, h⟩ := h
  replace h := opt_inv hz h
  obtain ⟨⟨off, n, a⟩, rfl, h⟩ := h
  cases a with
  | false =>
    obtain ⟨cs, hcs, h⟩ := opt_inv hz h
    obtain ⟨c, hc, h⟩ := opt_inv hz h
    exact ⟨_, os_field1 hT ho ht hf hx hcs hc, h⟩
  | true =>
    simp only at h
    split at h
    · exact ⟨_, os_fieldD hT ho ht hf hx, h⟩
    · obtain ⟨cs, hcs, h⟩ := opt_inv hz h
      exact ⟨_, os_fieldS hT ho ht hf hx hcs, h⟩
theorem vFieldAddr_sound (hT : TabOk P E.tab) (hz : ¬ z) {q : Nat} (ho : o.op = .fieldAddr t x q) (ht : look E.tab t = some i) (hx : s.ev x = some X) (h : vFieldAddr z i q X k) : ∃ r, OpS P o s s0 r [] ∧ k r := by
  replace h := opt_inv hz h
  obtain ⟨f, hf, h⟩ := h
  replace h := opt_inv hz h
  obtain ⟨⟨off, n, a⟩, rfl, h⟩ := h
  obtain ⟨hn, h⟩ := chk_inv hz h
  have hn := of_decide_eq_true hn
  split at h
  · exact ⟨_, os_fieldAddrO hT ho ht hf hn hx, h⟩
  · exact ⟨_, os_fieldAddrE hT ho ht hf hn hx, h⟩
  · exact absurd h hz
theorem vLoad_sound {hq : Option Nat} (hT : TabOk P E.tab) (hz : ¬ z) (ho : o.op = .load t x) (ht : look E.tab t = some i) (hx : s.ev x = some X) (h : vLoad z E hq i s0 X k) : ∃ r, OpS P o s s0 r [] ∧ k r := by
  unfold vLoad at h
  split at h
  · split at h
    · rename_i ha
      obtain ⟨c, hc, h⟩ := opt_inv hz h
      exact ⟨_, os_loadE1 hT ho ht ha hx hc, h⟩
    · rename_i ha
      obtain ⟨hl, h⟩ := chk_inv hz h
      exact ⟨_, os_loadES2 hT ho ht ha hx (of_decide_eq_true hl), h⟩
  · obtain ⟨Y, hY, h⟩ := opt_inv hz h
    split at h
    · split at h
      · rename_i ha
        obtain ⟨c, hc, h⟩ := opt_inv hz h
        exact ⟨_, os_loadO1 hT ho ht ha hx hY hc, h⟩
      · rename_i ha
        obtain ⟨hl, h⟩ := chk_inv hz h
        exact ⟨_, os_loadOS hT ho ht ha hx hY (of_decide_eq_true hl), h⟩
    · rename_i Ee es xs c
      obtain ⟨ck, _, h⟩ := opt_inv hz h
      obtain ⟨hl, n, hoff, h⟩ := chk_inv hz h
      simp only [Bool.and_eq_true, decide_eq_true_eq] at hl
      obtain ⟨ds, hds, hn, h⟩ := shp_ex h
      obtain ⟨d1, j1, hd, hj, g1, g2, g3, _⟩ := tiOf_some (hT t i ht)
      split at h
      · rename_i ha
        obtain ⟨c0, hc0, h⟩ := opt_inv hz h
        obtain ⟨he, h⟩ := chk_inv hz h
        have he := of_decide_eq_true he
        subst he
        obtain ⟨c1, rfl⟩ : ∃ c1, ds = [c1] := by
          match ds, (hds.trans hl.1) with
          | [c1], _ => exact ⟨c1, rfl⟩
        simp at hc0
        subst hc0
        exact ⟨_, ⟨_, opP_loadP1 ho hd (g1.trans ha) hx hn (by omega), hY, trivial⟩, h⟩
      · rename_i ha
        exact ⟨_, ⟨_, opP_loadP ho hd (g1.trans ha) hj hx hn hoff (g2.trans hl.2), hY, trivial⟩, h⟩
    · obtain ⟨⟨tr, Ee, es, xs⟩, hp, h⟩ := opt_inv hz h
      have hp := asL_inv hp
      rw [hp] at hY
      dsimp only at h hY
      obtain ⟨ck, hck, h⟩ := opt_inv hz h
      obtain ⟨hl, h⟩ := chk_inv hz h
      have hl1 := of_decide_eq_true hl
      split at h
      · rename_i hl2
        have hl2 := of_decide_eq_true hl2
        obtain ⟨n, hoff, h⟩ := h
        obtain ⟨ds, hds, hn, h⟩ := shp_ex h
        split at h
        · rename_i ha
          obtain ⟨c, hc, h⟩ := opt_inv hz h
          obtain ⟨_, h⟩ := chk_inv hz h
          exact ⟨_, os_loadL1 (q := 0) hT ho ht ha hx hY hn hc (by omega), h⟩
        · rename_i ha
          exact ⟨_, os_loadLS hT ho ht ha hx hY hn hoff (by omega), h⟩
      · obtain ⟨ha, h⟩ := chk_inv hz h
        simp only [Bool.and_eq_true, Bool.not_eq_true', decide_eq_true_eq] at ha
        obtain ⟨q, n, hoff, h⟩ := orH_ex h
        obtain ⟨ds, hds, hn, h⟩ := shp_ex h
        obtain ⟨c, hc, h⟩ := opt_inv hz h
        exact ⟨_, os_loadL1 (q := q) hT ho ht ha.1 hx hY hn hc hoff, h⟩
  · exact absurd h hz
theorem vIndexAddr_sound (hT : TabOk P E.tab) (hz : ¬ z) {kk : IntKind} {n : Int} (ho : o.op = .indexAddr t x y) (ht : look E.tab t = some i) (hx : s.ev x = some X) (hy : s.ev y = some (I kk n)) (h : vIndexAddr z E i s0 X n k) : ∃ r, OpS P o s s0 r [] ∧ k r := by
  obtain ⟨e, he, h⟩ := opt_inv hz h
  obtain ⟨i2, ht2, h⟩ := opt_inv hz h
  split at h
  · obtain ⟨ck, hck, h⟩ := opt_inv hz h
    obtain ⟨hl, m, hnm, h⟩ := chk_inv hz h
    rw [hnm] at hy
    obtain ⟨h1, h2, h3⟩ := of_decide_eq_true hl
    obtain ⟨ds, hds, hm, h⟩ := shp_ex h
    exact ⟨_, os_indexD hT ho ht h1 he ht2 h2 hx hy hm (by omega), h⟩
  · obtain ⟨Y, hY, h⟩ := opt_inv hz h
    split at h
    · obtain ⟨hl, m, rfl, hm, h⟩ := chk_inv hz h
      obtain ⟨h1, h2⟩ := of_decide_eq_true hl
      exact ⟨_, os_indexM hT ho ht h1 he ht2 hx hY h2 hy hm.h, h⟩
    obtain ⟨⟨tr, Ee, es, xs⟩, hp, h⟩ := opt_inv hz h
    have hp := asL_inv hp
    rw [hp] at hY
    dsimp only at h hY
    obtain ⟨hl, m, rfl, hm, h⟩ := chk_inv hz h
    obtain ⟨h1, h2, h3⟩ := of_decide_eq_true hl
    exact ⟨_, os_indexO hT ho ht h1 he ht2 hx hY h2 h3 hy hm.h, h⟩
  · obtain ⟨hl, h⟩ := chk_inv hz h
    obtain ⟨h1, h2, h3⟩ := of_decide_eq_true hl
    obtain ⟨m, rfl⟩ := Int.eq_ofNat_of_zero_le h2
    exact ⟨_, os_indexA (m := i.pr - 10) hT ho ht he (by omega) ht2 hx hy (by omega), h⟩
  · obtain ⟨hl, m, rfl, hm, h⟩ := chk_inv hz h
    obtain ⟨h1, h2⟩ := of_decide_eq_true hl
    obtain ⟨d, j, hd, hj, a1, a2, a3, a4, a5, a6, a7⟩ := tiOf_some (hT t i ht)
    obtain ⟨d2, j2, hd2, hj2, g1, g2, g3, _⟩ := tiOf_some (hT e i2 ht2)
    have := slice_of (a4.trans he) (a6.trans h1); subst this
    exact ⟨_, opS_of (opP_indexP ho hd hj2 (g2.trans h2) hx hy hm.h), h⟩
  · exact absurd h hz
theorem vLen_sound (hT : TabOk P E.tab) (hz : ¬ z) (ho : o.op = .call { callee := .builtin .len, args := #[x], argTypes := #[t] }) (ht : look E.tab t = some i) (hx : s.ev x = some X) (h : vLen z i s0 X k) : ∃ r, OpS P o s s0 r [] ∧ k r := by
  unfold vLen at h
  split at h
  · obtain ⟨hl, h⟩ := chk_inv hz h
    exact ⟨_, os_lenS hT ho hx ht (of_decide_eq_true hl), h⟩
  · obtain ⟨hl, h⟩ := chk_inv hz h
    simp only [Bool.and_eq_true, decide_eq_true_eq, Option.isSome_iff_exists] at hl
    obtain ⟨h1, e, he⟩ := hl
    exact ⟨_, os_lenD hT ho hx ht h1 he, h⟩
  · obtain ⟨hl, h⟩ := chk_inv hz h
    simp only [Bool.and_eq_true, decide_eq_true_eq, Option.isSome_iff_exists] at hl
    obtain ⟨h1, e, he⟩ := hl
    exact ⟨_, os_len0 hT ho hx ht h1 he, h⟩
  · obtain ⟨hl, h⟩ := chk_inv hz h
    simp only [Bool.and_eq_true, decide_eq_true_eq, Option.isSome_iff_exists] at hl
    obtain ⟨h1, e, he⟩ := hl
    obtain ⟨d, j, hd, hj, a1, a2, a3, a4, a5, a6, a7⟩ := tiOf_some (hT t i ht)
    have := slice_of (a4.trans he) (a6.trans h1); subst this
    exact ⟨_, opS_of (opP_lenP ho hd hx), h⟩
  · obtain ⟨Y, hY, h⟩ := opt_inv hz h
    split at h
    · obtain ⟨hl, h⟩ := chk_inv hz h
      simp only [Bool.and_eq_true, decide_eq_true_eq, Option.isSome_iff_exists] at hl
      obtain ⟨h1, e, he⟩ := hl
      exact ⟨_, os_lenM hT ho hx hY ht h1 he, h⟩
    obtain ⟨⟨tr, Ee, es, xs⟩, hp, h⟩ := opt_inv hz h
    have hp := asL_inv hp
    rw [hp] at hY
    dsimp only at h hY
    obtain ⟨hl, h⟩ := chk_inv hz h
    simp only [Bool.and_eq_true, decide_eq_true_eq, Option.isSome_iff_exists] at hl
    obtain ⟨h1, e, he⟩ := hl
    exact ⟨_, os_lenO hT ho hx hY ht h1 he, h⟩
  · exact absurd h hz
theorem cutAt_inv (hz : ¬ z) {u : Option Operand} {n0 : Nat} {K : Nat → Prop} (h : cutAt z s u n0 K) : ∃ (n : Nat) (kk : IntKind), ((u = none ∧ n = n0) ∨ ∃ v, u = some v ∧ s.ev v = some (I kk (n : Int))) ∧ K n := by
  unfold cutAt at h
  split at h
  · exact ⟨n0, .i64, .inl ⟨rfl, rfl⟩, h⟩
  · obtain ⟨p, hp, n, hn, h⟩ := opt_inv hz h
    exact ⟨n, p.1, .inr ⟨_, rfl, by rw [← hn]; exact evI hp⟩, h⟩
theorem opP_nil {k0 off : Nat} {av : Operand → Option AV} (ho : o.op = .nilCheck x) (hx : av x = some (.one (.op k0 off))) : OpP P o av [] (.one (.op k0 off)) [] := by
  refine opP_val fun a w S β _ hr _ => ?_
  have h0 := (hr x _ hx (by simp [ho, Op.operands])).one_inv
  generalize hv0 : a.eval x = v at h0
  cases h0
  refine ⟨_, ?_, RepV.one .op⟩
  simp [execOp, ho, hv0]
theorem vCut3_sound (hT : TabOk P E.tab) (hz : ¬ z) {lo hi : Option Operand} {mx : Operand} (ho : o.op = .slice t x lo hi (some mx)) (ht : look E.tab t = some i) (hx : s.ev x = some X) (h : vCut3 z E i s X lo hi mx k) : ∃ r, OpS P o s s0 r [] ∧ k r := by
  unfold vCut3 at h
  split at h
  · rename_i k0 es l0 n lo hi
    obtain ⟨e, he, h⟩ := opt_inv hz h
    obtain ⟨i2, ht2, h⟩ := opt_inv hz h
    obtain ⟨hl, h⟩ := chk_inv hz h
    have p1 := of_decide_eq_true hl
    obtain ⟨l, k1, h1, h⟩ := cutAt_inv hz h
    obtain ⟨u, k2, h2, h⟩ := cutAt_inv hz h
    obtain ⟨m, k3, h3, ⟨g1, g2, g3⟩, h⟩ := cutAt_inv hz h
    obtain ⟨d, j, hd, hj, a1, a2, a3, a4, a5, a6, a7⟩ := tiOf_some (hT t i ht)
    obtain ⟨d2, j2, hd2, hj2, _⟩ := tiOf_some (hT e i2 ht2)
    have := slice_of (a4.trans he) (a6.trans p1); subst this
    obtain ⟨x1, q1, h1⟩ : ∃ x1, some lo = some x1 ∧ s.ev x1 = some (I k1 (l : Int)) := by
      rcases h1 with ⟨q, _⟩ | ⟨x1, q, h⟩
      · cases q
      · exact ⟨x1, q, h⟩
    obtain ⟨x2, q2, h2⟩ : ∃ x1, some hi = some x1 ∧ s.ev x1 = some (I k2 (u : Int)) := by
      rcases h2 with ⟨q, _⟩ | ⟨x1, q, h⟩
      · cases q
      · exact ⟨x1, q, h⟩
    obtain ⟨x3, q3, h3⟩ : ∃ x1, some mx = some x1 ∧ s.ev x1 = some (I k3 (m : Int)) := by
      rcases h3 with ⟨q, _⟩ | ⟨x1, q, h⟩
      · cases q
      · exact ⟨x1, q, h⟩
    cases q1; cases q2; cases q3
    exact ⟨_, ⟨_, opP_slice3 ho hd hj2 hx h1 h2 h3 g1 g2 g3, trivial⟩, h⟩
  · exact absurd h hz
theorem vCut_sound (hT : TabOk P E.tab) (hz : ¬ z) {lo hi : Option Operand} (ho : o.op = .slice t x lo hi none) (ht : look E.tab t = some i) (hx : s.ev x = some X) (h : vCut z E i s s0 X lo hi k) : ∃ r, OpS P o s s0 r [] ∧ k r := by
  unfold vCut at h
  split at h
  · obtain ⟨hl, h⟩ := chk_inv hz h
    obtain ⟨l, k1, h1, h⟩ := cutAt_inv hz h
    obtain ⟨u, k2, h2, ⟨h3, h4⟩, h⟩ := cutAt_inv hz h
    exact ⟨_, os_cutS hT ho ht (of_decide_eq_true hl) hx h1 h2 h3 h4, h⟩
  · obtain ⟨e, he, h⟩ := opt_inv hz h
    obtain ⟨i2, ht2, h⟩ := opt_inv hz h
    obtain ⟨hl, h⟩ := chk_inv hz h
    obtain ⟨l, k1, h1, h⟩ := cutAt_inv hz h
    obtain ⟨u, k2, h2, ⟨h3, h4⟩, ⟨h5⟩, h⟩ := cutAt_inv hz h
    exact ⟨_, os_cutD hT ho ht (of_decide_eq_true hl) he ht2 h5 hx h1 h2 h3 h4, h⟩
  · obtain ⟨e, he, h⟩ := opt_inv hz h
    obtain ⟨i2, ht2, h⟩ := opt_inv hz h
    obtain ⟨hl, h⟩ := chk_inv hz h
    obtain ⟨p1, p2⟩ := of_decide_eq_true hl
    obtain ⟨l, k1, h1, h⟩ := cutAt_inv hz h
    obtain ⟨u, k2, h2, h⟩ := cutAt_inv hz h
    obtain ⟨d, j, hd, hj, a1, a2, a3, a4, a5, a6, a7⟩ := tiOf_some (hT t i ht)
    obtain ⟨d2, j2, hd2, hj2, g1, g2, g3, _⟩ := tiOf_some (hT e i2 ht2)
    have := slice_of (a4.trans he) (a6.trans p1); subst this
    split at h
    · rename_i Ee es' xs c hY
      obtain ⟨⟨h3, h4⟩, h⟩ := h
      exact ⟨_, ⟨_, opP_sliceP (c := c) (fun w S β hX => by have : _ = c := hX.1; omega) ho hd hj2 (g2.trans p2) hx (fun w S β v _ hv => hv.one_inv) h1 h2 h3 h4, hY, trivial⟩, h⟩
    · rename_i Ee es' xs hY
      obtain ⟨⟨h3, h4⟩, h⟩ := h
      exact ⟨_, ⟨_, opP_sliceP (c := 0) (fun w S β hX => Nat.zero_le _) ho hd hj2 (g2.trans p2) hx (fun w S β v _ hv => hv.one_inv) h1 h2 h3 (.inl h4), hY, trivial⟩, h⟩
    · rename_i Ee es' xs hY
      obtain ⟨⟨h3, h4⟩, h⟩ := h
      exact ⟨_, ⟨_, opP_sliceP (c := 0) (fun w S β hX => Nat.zero_le _) ho hd hj2 (g2.trans p2) hx (fun w S β v _ hv => hv.one_inv) h1 h2 h3 (.inl h4), hY, trivial⟩, h⟩
    · exact absurd h hz
  · obtain ⟨e, he, h⟩ := opt_inv hz h
    obtain ⟨i2, ht2, h⟩ := opt_inv hz h
    split at h
    · rename_i Ee es xs hY
      obtain ⟨hl, h⟩ := chk_inv hz h
      obtain ⟨p1, p2⟩ := of_decide_eq_true hl
      obtain ⟨l, k1, h1, h⟩ := cutAt_inv hz h
      obtain ⟨u, k2, h2, ⟨h3, h4⟩, h⟩ := cutAt_inv hz h
      obtain ⟨d, j, hd, hj, a1, a2, a3, a4, a5, a6, a7⟩ := tiOf_some (hT t i ht)
      obtain ⟨d2, j2, hd2, hj2, g1, g2, g3, _⟩ := tiOf_some (hT e i2 ht2)
      have := slice_of (a4.trans he) (a6.trans p1); subst this
      exact ⟨_, ⟨_, opP_sliceP (c := 0) (fun w S β hX => Nat.zero_le _) ho hd hj2 (g2.trans p2) hx (fun w S β v hX hv => RepA.ps_of_ol hX hv.one_inv) h1 h2 h3 (.inl h4), hY, trivial⟩, h⟩
    · rename_i Ee es xs hY
      obtain ⟨hl, h⟩ := chk_inv hz h
      obtain ⟨p1, p2⟩ := of_decide_eq_true hl
      obtain ⟨l, k1, h1, h⟩ := cutAt_inv hz h
      obtain ⟨u, k2, h2, ⟨h3, h4⟩, h⟩ := cutAt_inv hz h
      obtain ⟨d, j, hd, hj, a1, a2, a3, a4, a5, a6, a7⟩ := tiOf_some (hT t i ht)
      obtain ⟨d2, j2, hd2, hj2, g1, g2, g3, _⟩ := tiOf_some (hT e i2 ht2)
      have := slice_of (a4.trans he) (a6.trans p1); subst this
      exact ⟨_, ⟨_, opP_sliceP (c := 0) (fun w S β hX => Nat.zero_le _) ho hd hj2 (g2.trans p2) hx (fun w S β v hX hv => RepA.ps_of_ol hX.lst_of_tr hv.one_inv) h1 h2 h3 (.inl h4), hY, trivial⟩, h⟩
    · exact absurd h hz
  · obtain ⟨e, he, h⟩ := opt_inv hz h
    obtain ⟨i2, ht2, h⟩ := opt_inv hz h
    obtain ⟨hl, h⟩ := chk_inv hz h
    have p1 := of_decide_eq_true hl
    obtain ⟨l, k1, h1, hA⟩ := cutAt_inv hz h
    obtain ⟨u, k2, h2, ⟨h3, h4⟩, hB⟩ := cutAt_inv hz hA
    subst h3; subst h4
    obtain ⟨d, j, hd, hj, a1, a2, a3, a4, a5, a6, a7⟩ := tiOf_some (hT t i ht)
    obtain ⟨d2, j2, hd2, hj2, g1, g2, g3, _⟩ := tiOf_some (hT e i2 ht2)
    have := slice_of (a4.trans he) (a6.trans p1); subst this
    exact ⟨_, opS_of (opP_slice0 (k := k1) (k' := k2) ho hd hj2 hx (h1.imp (fun h => h.1) id) (h2.imp (fun h => h.1) id)), hB⟩
  · exact absurd h hz
theorem vCap_sound (hT : TabOk P E.tab) (hz : ¬ z) (ho : o.op = .call { callee := .builtin .cap, args := #[x], argTypes := #[t] }) (ht : look E.tab t = some i) (hx : s.ev x = some X) (h : vCap z i s0 X k) : ∃ r, OpS P o s s0 r [] ∧ k r := by
  unfold vCap at h
  split at h
  · obtain ⟨hl, h⟩ := chk_inv hz h
    simp only [Bool.and_eq_true, decide_eq_true_eq, Option.isSome_iff_exists] at hl
    obtain ⟨h1, e, he⟩ := hl
    obtain ⟨d, j, hd, hj, a1, a2, a3, a4, a5, a6, a7⟩ := tiOf_some (hT t i ht)
    have := slice_of (a4.trans he) (a6.trans h1); subst this
    exact ⟨_, opS_of (opP_cap0 ho hd hx), h⟩
  · obtain ⟨hl, h⟩ := chk_inv hz h
    simp only [Bool.and_eq_true, decide_eq_true_eq, Option.isSome_iff_exists] at hl
    obtain ⟨h1, e, he⟩ := hl
    obtain ⟨d, j, hd, hj, a1, a2, a3, a4, a5, a6, a7⟩ := tiOf_some (hT t i ht)
    have := slice_of (a4.trans he) (a6.trans h1); subst this
    split at h
    · rename_i Ee es' xs c hY
      exact ⟨_, ⟨_, opP_capP ho hd hx, hY, trivial⟩, h⟩
    · exact absurd h hz
  · exact absurd h hz
end

end AM
end Go.Proofs.Ytfcmmpmdofejeaa
