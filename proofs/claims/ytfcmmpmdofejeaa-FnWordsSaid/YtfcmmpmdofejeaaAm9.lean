/- A table of what the types are, and the single operations told by it; no conditions. -/
import Derived.Test.YtfcmmpmdofejeaaAm8
set_option linter.unusedSimpArgs false
set_option linter.unusedVariables false
namespace Go.Proofs.Ytfcmmpmdofejeaa
namespace AM
open Go

/-- What the walk asks of a type: is its value a struct or an array, its cells, its bytes, a slice's or an array's element, a struct's fields (offset, cells, struct or array), a word for its kind. -/
structure TI where
  agg : Bool
  n : Nat
  b : Nat
  el : Option Nat
  fs : List (Option (Nat × Nat × Bool))
  pr : Nat
  ik : Option IntKind
  deriving DecidableEq, Repr

def fieldOf (P : Program) (f : Field) : Option (Nat × Nat × Bool) := match P.info? f.type, P.underlying f.type with
  | some i, some d => some (f.offset, i.size, aggD d)
  | _, _ => none
def elD : TypeDesc → Option Nat
  | .slice e => some e
  | .array _ e => some e
  | _ => none
def fsD : TypeDesc → List Field
  | .struct fs => fs.toList
  | _ => []
def prD : TypeDesc → Nat
  | .bool => 1
  | .string => 2
  | .int _ => 3
  | .slice _ => 4
  | .struct _ => 5
  | .array n _ => 10 + n
  | _ => 0
def ikD : TypeDesc → Option IntKind
  | .int k => some k
  | _ => none

def tiOf (P : Program) (t : TypeId) : Option TI :=
  match P.underlying t, P.info? t with
  | some d, some i => some { agg := aggD d, n := i.size, b := i.bytes, el := elD d, fs := (fsD d).map (fieldOf P), pr := prD d, ik := ikD d }
  | _, _ => none

def TabOk (P : Program) (tab : List (Nat × TI)) : Prop := ∀ t i, look tab t = some i → tiOf P t = some i
theorem TabOk.of {P : Program} {tab : List (Nat × TI)} (h : (tab.all fun p => decide (tiOf P p.1 = some p.2)) = true) : TabOk P tab := by
  intro t i hi
  have := List.all_eq_true.1 h _ (look_mem hi)
  simpa using this

theorem tiOf_some {P : Program} {t : TypeId} {i : TI} (h : tiOf P t = some i) : ∃ d j, P.underlying t = some d ∧ P.info? t = some j ∧ aggD d = i.agg ∧ j.size = i.n ∧ j.bytes = i.b ∧ elD d = i.el ∧ (fsD d).map (fieldOf P) = i.fs ∧ prD d = i.pr ∧ ikD d = i.ik := by
  unfold tiOf at h
  split at h
  · rename_i d j hd hj
    simp at h
    subst h
    exact ⟨d, j, hd, hj, rfl, rfl, rfl, rfl, rfl, rfl, rfl⟩
  · simp at h

theorem slice_of {d : TypeDesc} {e : Nat} (h1 : elD d = some e) (h2 : prD d = 4) : d = .slice e := by
  cases d <;> simp [elD, prD] at h1 h2
  · exact congrArg _ h1
  · omega
theorem array_of {d : TypeDesc} {e n : Nat} (h1 : elD d = some e) (h2 : prD d = 10 + n) : d = .array n e := by
  cases d <;> simp [elD, prD] at h1 h2
  · omega
  · rw [h1, h2]
theorem string_of {d : TypeDesc} (h2 : prD d = 2) : d = .string := by
  cases d <;> simp [prD] at h2 <;> first | rfl | omega
theorem bool_of {d : TypeDesc} (h2 : prD d = 1) : d = .bool := by
  cases d <;> simp [prD] at h2 <;> first | rfl | omega
theorem int_of {d : TypeDesc} {k : IntKind} (h2 : ikD d = some k) : d = .int k := by
  cases d <;> simp [ikD] at h2; exact congrArg _ h2

/-- The cells of a struct value. -/
def AV.sc : AV → Option (List At)
  | .dat xs => some (xs.map .d)
  | .agg xs => some xs
  | _ => none
theorem AV.sc_cells {X : AV} {cs : List At} (h : X.sc = some cs) : X.cells = some cs ∧ ((∃ ys, X = .dat ys) ∨ ∃ ys, X = .agg ys) := by
  cases X <;> simp [AV.sc] at h
  · exact ⟨by simp [AV.cells, h], .inl ⟨_, rfl⟩⟩
  · exact ⟨by simp [AV.cells, h], .inr ⟨_, rfl⟩⟩

section
variable {P : Program} {tab : List (Nat × TI)} {o : Oper} {s s0 : St} {y : AV} {nob : List (Nat × Ob)} {t : TypeId} {x z : Operand} {i : TI}

theorem field_facts (hT : TabOk P tab) (ht : look tab t = some i) {q off n : Nat} {a : Bool} (hq : i.fs[q]? = some (some (off, n, a))) :
    ∃ fs f d j, P.underlying t = some (.struct fs) ∧ fs[q]? = some f ∧ f.offset = off ∧ P.underlying f.type = some d ∧ aggD d = a ∧ P.info? f.type = some j ∧ j.size = n := by
  obtain ⟨d, j, hd, hj, _, _, _, _, hfs, _, _⟩ := tiOf_some (hT t i ht)
  rw [← hfs] at hq
  simp only [List.getElem?_map, Option.map_eq_some_iff] at hq
  obtain ⟨f, hf, h1⟩ := hq
  unfold fieldOf at h1
  split at h1
  · rename_i j2 d2 hj2 hd2
    simp at h1
    obtain ⟨rfl, rfl, rfl⟩ := h1
    cases d <;> simp [fsD] at hf
    exact ⟨_, f, d2, j2, hd, by simpa using hf, rfl, hd2, rfl, hj2, rfl⟩
  · simp at h1

theorem place_run {f : Field} {j : TypeInfo} (hj : P.info? f.type = some j) (hn : 0 < j.size) (w : World) (a : Addr) : (fieldPlace a f).run P w = .ok (a.add f.offset) w := by
  have : ¬ j.size = 0 := by omega
  simp [fieldPlace, sizeOf, typeInfo, hj, this]

theorem os_field1 (hT : TabOk P tab) {q off n : Nat} {X : AV} {cs : List At} {c : At} (ho : o.op = .field t x q) (ht : look tab t = some i) (hq : i.fs[q]? = some (some (off, n, false))) (hx : s.ev x = some X) (hc : X.sc = some cs) (hi : cs[off]? = some c) : OpS P o s s0 (.one c) [] := by
  obtain ⟨fs, f, d, j, h1, h2, rfl, h4, h5, h6, h7⟩ := field_facts hT ht hq
  obtain ⟨c1, c2⟩ := AV.sc_cells hc
  exact opS_of (opP_field1 ho h1 h2 h4 h5 hx c1 c2 hi)
theorem os_fieldS (hT : TabOk P tab) {q off n : Nat} {X : AV} {cs : List At} (ho : o.op = .field t x q) (ht : look tab t = some i) (hq : i.fs[q]? = some (some (off, n, true))) (hx : s.ev x = some X) (hc : X.sc = some cs) : OpS P o s s0 (mkAgg ((cs.drop off).take n)) [] := by
  obtain ⟨fs, f, d, j, h1, h2, rfl, h4, h5, h6, rfl⟩ := field_facts hT ht hq
  obtain ⟨c1, c2⟩ := AV.sc_cells hc
  exact opS_of (opP_fieldS ho h1 h2 h4 h5 h6 hx c1 c2)
/-- A field that is a struct, of data. -/
theorem os_fieldD (hT : TabOk P tab) {q off n : Nat} {ds : List Da} (ho : o.op = .field t x q) (ht : look tab t = some i) (hq : i.fs[q]? = some (some (off, n, true))) (hx : s.ev x = some (.dat ds)) : OpS P o s s0 (.dat ((ds.drop off).take n)) [] := by
  have := os_fieldS (s0 := s0) hT ho ht hq hx rfl
  have e : ((ds.map At.d).drop off).take n = ((ds.drop off).take n).map .d := by simp [List.map_drop, List.map_take]
  rw [e] at this
  have e2 : ∀ l : List Da, mkAgg (l.map .d) = .dat l := by
    intro l
    have : toDs (l.map .d) = some l := by induction l with | nil => rfl | cons a l ih => simp [toDs, At.toD, ih]
    have h2 : noE0 (l.map .d) = true := by clear this; induction l with | nil => rfl | cons a l ih => simpa [noE0] using ih
    simp [mkAgg, mkAggN, h2, this]
  rw [e2] at this
  exact this
theorem os_fieldAddrO (hT : TabOk P tab) {q off n k off0 : Nat} {a : Bool} (ho : o.op = .fieldAddr t x q) (ht : look tab t = some i) (hq : i.fs[q]? = some (some (off, n, a))) (hn : 0 < n) (hx : s.ev x = some (.one (.op k off0))) : OpS P o s s0 (.one (.op k (off0 + off))) [] := by
  obtain ⟨fs, f, d, j, h1, h2, rfl, h4, h5, h6, rfl⟩ := field_facts hT ht hq
  exact opS_of (opP_fieldAddrO ho h1 h2 hx (place_run h6 hn))
theorem os_fieldAddrE (hT : TabOk P tab) {q off n : Nat} {a : Bool} {cs : List Da} (ho : o.op = .fieldAddr t x q) (ht : look tab t = some i) (hq : i.fs[q]? = some (some (off, n, a))) (hn : 0 < n) (hx : s.ev x = some (.one (.ep cs))) : OpS P o s s0 (.one (.ep (cs.drop off))) [] := by
  obtain ⟨fs, f, d, j, h1, h2, rfl, h4, h5, h6, rfl⟩ := field_facts hT ht hq
  exact opS_of (opP_fieldAddrE ho h1 h2 hx (place_run h6 hn))

theorem os_loadE1 (hT : TabOk P tab) {cs : List Da} {c : Da} (ho : o.op = .load t x) (ht : look tab t = some i) (ha : i.agg = false) (hx : s.ev x = some (.one (.ep cs))) (hc : cs[0]? = some c) : OpS P o s s0 (.one (.d c)) [] := by
  obtain ⟨d, j, hd, hj, h1, h2, h3, _⟩ := tiOf_some (hT t i ht)
  exact opS_of (opP_loadE1 ho hd (h1.trans ha) hx hc)
theorem os_loadES (hT : TabOk P tab) {cs : List Da} (ho : o.op = .load t x) (ht : look tab t = some i) (ha : i.agg = true) (hx : s.ev x = some (.one (.ep cs))) (hc : cs.length = i.n) : OpS P o s s0 (.dat cs) [] := by
  obtain ⟨d, j, hd, hj, h1, h2, h3, _⟩ := tiOf_some (hT t i ht)
  exact opS_of (opP_loadES' ho hd (h1.trans ha) hj hx (hc.trans h2.symm))
theorem os_loadES2 (hT : TabOk P tab) {cs : List Da} (ho : o.op = .load t x) (ht : look tab t = some i) (ha : i.agg = true) (hx : s.ev x = some (.one (.ep cs))) (hc : i.n ≤ cs.length) : OpS P o s s0 (.dat (cs.take i.n)) [] := by
  obtain ⟨d, j, hd, hj, h1, h2, h3, _⟩ := tiOf_some (hT t i ht)
  rw [← h2] at hc ⊢
  exact opS_of (opP_loadES ho hd (h1.trans ha) hj hx hc)
theorem os_loadO1 (hT : TabOk P tab) {k off : Nat} {cs : List At} {c : At} (ho : o.op = .load t x) (ht : look tab t = some i) (ha : i.agg = false) (hx : s.ev x = some (.one (.op k off))) (hk : s0.gob k = some (.var cs)) (hc : cs[off]? = some c) : OpS P o s s0 (.one c) [] := by
  obtain ⟨d, j, hd, hj, h1, h2, h3, _⟩ := tiOf_some (hT t i ht)
  exact ⟨_, opP_loadO1 ho hd (h1.trans ha) hx hc, hk, trivial⟩
theorem os_loadOS (hT : TabOk P tab) {k off : Nat} {cs : List At} (ho : o.op = .load t x) (ht : look tab t = some i) (ha : i.agg = true) (hx : s.ev x = some (.one (.op k off))) (hk : s0.gob k = some (.var cs)) (hc : off + i.n ≤ cs.length) : OpS P o s s0 (mkAgg ((cs.drop off).take i.n)) [] := by
  obtain ⟨d, j, hd, hj, h1, h2, h3, _⟩ := tiOf_some (hT t i ht)
  rw [← h2] at hc ⊢
  exact ⟨_, opP_loadOS ho hd (h1.trans ha) hj hx hc, hk, trivial⟩
theorem os_loadL1 (hT : TabOk P tab) {tr : Bool} {k off n q E es : Nat} {xs : List (List Da)} {c : List Da} {x0 : Da} (ho : o.op = .load t x) (ht : look tab t = some i) (ha : i.agg = false) (hx : s.ev x = some (.one (.op k off))) (hk : s0.gob k = some (mkL tr E es xs)) (hn : xs[n]? = some c) (hq : c[q]? = some x0) (hoff : off = n * es + q) : OpS P o s s0 (.one (.d x0)) [] := by
  obtain ⟨d, j, hd, hj, h1, h2, h3, _⟩ := tiOf_some (hT t i ht)
  exact ⟨_, (opP_loadL1 ho hd (h1.trans ha) hx hn hq hoff).tr, hk, trivial⟩
theorem os_loadLS (hT : TabOk P tab) {tr : Bool} {k off n E es : Nat} {xs : List (List Da)} {c : List Da} (ho : o.op = .load t x) (ht : look tab t = some i) (ha : i.agg = true) (hx : s.ev x = some (.one (.op k off))) (hk : s0.gob k = some (mkL tr E es xs)) (hn : xs[n]? = some c) (hoff : off = n * es) (hc : c.length = i.n) : OpS P o s s0 (.dat c) [] := by
  obtain ⟨d, j, hd, hj, h1, h2, h3, _⟩ := tiOf_some (hT t i ht)
  exact ⟨_, (opP_loadLS ho hd (h1.trans ha) hj hx hn hoff (hc.trans h2.symm)).tr, hk, trivial⟩

theorem os_indexD (hT : TabOk P tab) {xs : List (List Da)} {k : IntKind} {n : Nat} {c : List Da} {e : Nat} {i2 : TI} (ho : o.op = .indexAddr t x z) (ht : look tab t = some i) (hp : i.pr = 4) (he : i.el = some e) (ht2 : look tab e = some i2) (hpos : 0 < i2.n) (hx : s.ev x = some (L xs)) (hz : s.ev z = some (I k (n : Int))) (hi : xs[n]? = some c) (hc : c.length = i2.n) : OpS P o s s0 (.one (.ep c)) [] := by
  obtain ⟨d, j, hd, hj, h1, h2, h3, h4, h5, h6, h7⟩ := tiOf_some (hT t i ht)
  obtain ⟨d2, j2, hd2, hj2, g1, g2, g3, _⟩ := tiOf_some (hT e i2 ht2)
  have := slice_of (h4.trans he) (h6.trans hp)
  subst this
  exact opS_of (opP_indexD ho hd hj2 hx hz hi (hc.trans g2.symm) (by omega))
theorem os_indexO (hT : TabOk P tab) {tr : Bool} {k' E es : Nat} {xs : List (List Da)} {k : IntKind} {n : Nat} {e : Nat} {i2 : TI} (ho : o.op = .indexAddr t x z) (ht : look tab t = some i) (hp : i.pr = 4) (he : i.el = some e) (ht2 : look tab e = some i2) (hx : s.ev x = some (.one (.ol k'))) (hk : s0.gob k' = some (mkL tr E es xs)) (hes : i2.n = es) (hpos : 0 < es) (hz : s.ev z = some (I k (n : Int))) (hn : n < xs.length) : OpS P o s s0 (.one (.op k' (n * es))) [] := by
  obtain ⟨d, j, hd, hj, h1, h2, h3, h4, h5, h6, h7⟩ := tiOf_some (hT t i ht)
  obtain ⟨d2, j2, hd2, hj2, g1, g2, g3, _⟩ := tiOf_some (hT e i2 ht2)
  have := slice_of (h4.trans he) (h6.trans hp)
  subst this
  exact ⟨_, (opP_indexO ho hd hj2 (g2.trans hes) hpos hx hz hn).tr, hk, trivial⟩
theorem os_indexS (hT : TabOk P tab) {q : ByteArray} {k : IntKind} {n : Nat} {c : UInt8} (ho : o.op = .index t x z) (ht : look tab t = some i) (hp : i.pr = 2) (hx : s.ev x = some (T q)) (hz : s.ev z = some (I k (n : Int))) (hc : q[n]? = some c) : OpS P o s s0 (I .u8 c.toNat) [] := by
  obtain ⟨d, j, hd, hj, h1, h2, h3, h4, h5, h6, h7⟩ := tiOf_some (hT t i ht)
  have := string_of (h6.trans hp); subst this
  exact opS_of (opP_indexS ho hd hx hz hc)

theorem os_lenS (hT : TabOk P tab) {q : ByteArray} (ho : o.op = .call { callee := .builtin .len, args := #[x], argTypes := #[t] }) (hx : s.ev x = some (T q)) (ht : look tab t = some i) (hp : i.pr = 2) : OpS P o s s0 (Z q.size) [] := by
  obtain ⟨d, j, hd, hj, h1, h2, h3, h4, h5, h6, h7⟩ := tiOf_some (hT t i ht)
  have := string_of (h6.trans hp); subst this
  exact opS_of (opP_lenS ho hd hx)
theorem os_lenD (hT : TabOk P tab) {xs : List (List Da)} {e : Nat} (ho : o.op = .call { callee := .builtin .len, args := #[x], argTypes := #[t] }) (hx : s.ev x = some (L xs)) (ht : look tab t = some i) (hp : i.pr = 4) (he : i.el = some e) : OpS P o s s0 (Z xs.length) [] := by
  obtain ⟨d, j, hd, hj, h1, h2, h3, h4, h5, h6, h7⟩ := tiOf_some (hT t i ht)
  have := slice_of (h4.trans he) (h6.trans hp); subst this
  exact opS_of (opP_lenD ho hd hx)
theorem os_len0 (hT : TabOk P tab) {e : Nat} (ho : o.op = .call { callee := .builtin .len, args := #[x], argTypes := #[t] }) (hx : s.ev x = some (.one .e0)) (ht : look tab t = some i) (hp : i.pr = 4) (he : i.el = some e) : OpS P o s s0 (Z 0) [] := by
  obtain ⟨d, j, hd, hj, h1, h2, h3, h4, h5, h6, h7⟩ := tiOf_some (hT t i ht)
  have := slice_of (h4.trans he) (h6.trans hp); subst this
  exact opS_of (opP_len0 ho hd hx)
theorem os_lenO (hT : TabOk P tab) {tr : Bool} {k E es : Nat} {xs : List (List Da)} {e : Nat} (ho : o.op = .call { callee := .builtin .len, args := #[x], argTypes := #[t] }) (hx : s.ev x = some (.one (.ol k))) (hk : s0.gob k = some (mkL tr E es xs)) (ht : look tab t = some i) (hp : i.pr = 4) (he : i.el = some e) : OpS P o s s0 (Z xs.length) [] := by
  obtain ⟨d, j, hd, hj, h1, h2, h3, h4, h5, h6, h7⟩ := tiOf_some (hT t i ht)
  have := slice_of (h4.trans he) (h6.trans hp); subst this
  exact ⟨_, (opP_lenO ho hd hx).tr, hk, trivial⟩

theorem os_cutS (hT : TabOk P tab) {q : ByteArray} {lo hi : Option Operand} {k k' : IntKind} {l h : Nat} (ho : o.op = .slice t x lo hi none) (ht : look tab t = some i) (hp : i.pr = 2) (hx : s.ev x = some (T q))
    (hlo : (lo = none ∧ l = 0) ∨ ∃ u, lo = some u ∧ s.ev u = some (I k (l : Int))) (hhi : (hi = none ∧ h = q.size) ∨ ∃ u, hi = some u ∧ s.ev u = some (I k' (h : Int))) (hlh : l ≤ h) (hs : h ≤ q.size) : OpS P o s s0 (T (q.extract l h)) [] := by
  obtain ⟨d, j, hd, hj, h1, h2, h3, h4, h5, h6, h7⟩ := tiOf_some (hT t i ht)
  have := string_of (h6.trans hp); subst this
  exact opS_of (opP_cutS ho hd hx hlo hhi hlh hs)
theorem os_cutD (hT : TabOk P tab) {xs : List (List Da)} {lo hi : Option Operand} {k k' : IntKind} {l h e : Nat} {i2 : TI} (ho : o.op = .slice t x lo hi none) (ht : look tab t = some i) (hp : i.pr = 4) (he : i.el = some e) (ht2 : look tab e = some i2) (hes : ∀ c ∈ xs, c.length = i2.n) (hx : s.ev x = some (L xs))
    (hlo : (lo = none ∧ l = 0) ∨ ∃ u, lo = some u ∧ s.ev u = some (I k (l : Int))) (hhi : (hi = none ∧ h = xs.length) ∨ ∃ u, hi = some u ∧ s.ev u = some (I k' (h : Int))) (hlh : l ≤ h) (hs : h ≤ xs.length) : OpS P o s s0 (L ((xs.take h).drop l)) [] := by
  obtain ⟨d, j, hd, hj, h1, h2, h3, h4, h5, h6, h7⟩ := tiOf_some (hT t i ht)
  obtain ⟨d2, j2, hd2, hj2, g1, g2, g3, _⟩ := tiOf_some (hT e i2 ht2)
  have := slice_of (h4.trans he) (h6.trans hp); subst this
  exact opS_of (opP_cutD ho hd hj2 (fun c hc => (hes c hc).trans g2.symm) hx hlo hhi hlh hs)

theorem os_boolEq (hT : TabOk P tab) {t' : TypeId} {b c : Bool} (ho : o.op = .binOp .eql t x z t') (hx : s.ev x = some (B b)) (hz : s.ev z = some (B c)) (ht : look tab t = some i) (hp : i.pr = 1) : OpS P o s s0 (B (decide (b = c))) [] := by
  obtain ⟨d, j, hd, hj, h1, h2, h3, h4, h5, h6, h7⟩ := tiOf_some (hT t i ht)
  have := bool_of (h6.trans hp); subst this
  exact opS_of (opP_boolEq ho hd hx hz)
theorem os_boolNe (hT : TabOk P tab) {t' : TypeId} {b c : Bool} (ho : o.op = .binOp .neq t x z t') (hx : s.ev x = some (B b)) (hz : s.ev z = some (B c)) (ht : look tab t = some i) (hp : i.pr = 1) : OpS P o s s0 (B (decide (b ≠ c))) [] := by
  obtain ⟨d, j, hd, hj, h1, h2, h3, h4, h5, h6, h7⟩ := tiOf_some (hT t i ht)
  have := bool_of (h6.trans hp); subst this
  exact opS_of (opP_boolNe ho hd hx hz)
theorem os_convInt (hT : TabOk P tab) {src dst : TypeId} {k k' : IntKind} {n : Int} {i2 : TI} (ho : o.op = .convert src dst x) (hx : s.ev x = some (I k n)) (hs : look tab src = some i) (hd : look tab dst = some i2) (hk : i2.ik = some k') : OpS P o s s0 (I k' (k'.wrap n)) [] := by
  obtain ⟨d, j, hd1, _⟩ := tiOf_some (hT src i hs)
  obtain ⟨d2, j2, hd2, hj2, h1, h2, h3, h4, h5, h6, h7⟩ := tiOf_some (hT dst i2 hd)
  have := int_of (h7.trans hk); subst this
  exact opS_of (opP_convInt ho hd1 hd2 hx)
theorem os_convStr (hT : TabOk P tab) {src dst : TypeId} {k : IntKind} {n : Int} {i2 : TI} (ho : o.op = .convert src dst x) (hx : s.ev x = some (I k n)) (hs : look tab src = some i) (hd : look tab dst = some i2) (hp : i2.pr = 2) (hz : (Utf8.encode n).size ≤ 281474976710656) : OpS P o s s0 (T (Utf8.encode n)) [] := by
  obtain ⟨d, j, hd1, _⟩ := tiOf_some (hT src i hs)
  obtain ⟨d2, j2, hd2, hj2, h1, h2, h3, h4, h5, h6, h7⟩ := tiOf_some (hT dst i2 hd)
  have := string_of (h6.trans hp); subst this
  exact opS_of (opP_convStr ho hd1 hd2 hx hz)
theorem os_box {d : Nat} {X : AV} {cs : List At} (ho : o.op = .box t x) (hdst : o.dst = some d) (hx : s.ev x = some X) (hc : X.cells = some cs) (hd : (AV.idsL cs).contains d = false) : OpS P o s s0 (.one (.op d 0)) [(d, .var cs)] :=
  opS_of (opP_box ho hx hc (by simpa using hd))
end

/-- A type's zero value, read. -/
def ZeroOk (P : Program) (t : TypeId) (n b : Nat) (cs : List At) : Prop := ∃ j zv, P.info? t = some j ∧ j.size = n ∧ j.bytes = b ∧ j.zero = some zv ∧ zv.cells.size = n ∧ constAts zv.cells.toList = some cs
theorem ZeroOk.of {P : Program} {t : TypeId} {n b : Nat} {cs : List At} {zv : Value} (h : (P.info? t).map (fun i => (i.size, i.bytes, i.zero)) = some (n, b, some zv)) (hn : zv.cells.size = n) (hc : constAts zv.cells.toList = some cs) : ZeroOk P t n b cs := by
  cases hj : P.info? t with
  | none => rw [hj] at h; simp at h
  | some j => rw [hj] at h; simp at h; exact ⟨j, zv, hj, h.1, h.2.1, h.2.2, hn, hc⟩

section
variable {Γ : Cx} {P : Program} {ops : Array Oper} {rest : List Oper} {o : Oper} {K : St → Prop} {s s0 : St} {t : TypeId} {x z : Operand}
theorem os_alloc {d : Nat} {n b : Nat} {cs : List At} (hz : ZeroOk P t n b cs) (ho : o.op = .alloc t) (hdst : o.dst = some d) : OpS P o s s0 (.one (.op d 0)) [(d, .var cs)] := by
  obtain ⟨j, zv, h1, h2, h3, h4, h5, h6⟩ := hz
  exact opS_of (opP_alloc ho h1 h4 h6)
theorem os_make {tab : List (Nat × TI)} {i : TI} {e : Nat} {d : Nat} {n b l c : Nat} {k k' : IntKind} {cs : List At} {zd : List Da} (hT : TabOk P tab) (hz : ZeroOk P e n b cs) (ho : o.op = .makeSlice t x z) (hdst : o.dst = some d) (ht : look tab t = some i) (hp : i.pr = 4) (he : i.el = some e) (hpos : 0 < n) (hzd : toDs cs = some zd)
    (hx : s.ev x = some (I k (l : Int))) (hzz : s.ev z = some (I k' (c : Int))) (hlc : l ≤ c) (hb : b * c ≤ 281474976710656) (hc48 : c ≤ 281474976710656) : OpS P o s s0 (.one (.ol d)) [(d, .lst e n (List.replicate l zd))] := by
  obtain ⟨j, zv, h1, h2, h3, h4, h5, h6⟩ := hz
  obtain ⟨d1, j1, hd, hj, g1, g2, g3, g4, g5, g6, g7⟩ := tiOf_some (hT t i ht)
  have := slice_of (g4.trans he) (g6.trans hp); subst this
  subst h2; subst h3
  exact opS_of (opP_makeSlice ho hd h1 h4 h5 hpos h6 hzd hx hzz hlc hb hc48)
theorem os_build {tab : List (Nat × TI)} {i : TI} {n b : Nat} {ps : List (Nat × Operand)} {cs out : List At} {as : List (Nat × List At)} (hT : TabOk P tab) (hz : ZeroOk P t n b cs) (ho : o.op = .build t ps.toArray) (ht : look tab t = some i) (hp : i.pr = 5) (hfs : i.fs.all (·.isSome) = true) (has : partsA s.ev ps = some as)
    (hf : fillA (fun q => (i.fs[q]?).bind fun (f : Option (Nat × Nat × Bool)) => f.map fun f => (f.1, f.2.1)) cs as = some out) : OpS P o s s0 (mkAgg out) [] := by
  obtain ⟨j, zv, h1, h2, h3, h4, h5, h6⟩ := hz
  obtain ⟨d1, j1, hd, hj, g1, g2, g3, g4, g5, g6, g7⟩ := tiOf_some (hT t i ht)
  have hst : ∃ fs, d1 = .struct fs := by
    have := g6.trans hp
    cases d1 <;> simp [prD] at this <;> first | exact ⟨_, rfl⟩ | omega
  obtain ⟨fs, rfl⟩ := hst
  have hall : ∀ f ∈ fs.toList, ∃ p, fieldOf P f = some p := by
    intro f hf
    have hm : fieldOf P f ∈ i.fs := by rw [← g5]; exact List.mem_map.2 ⟨f, hf, rfl⟩
    have := List.all_eq_true.1 hfs _ hm
    exact Option.isSome_iff_exists.1 this
  · have hpl : ∃ places : Array (Nat × Nat), (∀ w, (fs.mapM fun f => do pure (f.offset, ← sizeOf f.type) : Sem (Array (Nat × Nat))).run P w = .ok places w) ∧ ∀ q : Nat, places[q]? = (i.fs[q]?).bind fun (f : Option (Nat × Nat × Bool)) => f.map fun f => (f.1, f.2.1) := by
      refine ⟨(fs.toList.map fun f => (f.offset, ((P.info? f.type).map (·.size)).getD 0)).toArray, fun w => ?_, fun q => ?_⟩
      · have key : ∀ (l : List Field), (∀ f ∈ l, ∃ p, fieldOf P f = some p) → (l.mapM fun f => do pure (f.offset, ← sizeOf f.type) : Sem (List (Nat × Nat))).run P w = .ok (l.map fun f => (f.offset, ((P.info? f.type).map (·.size)).getD 0)) w := by
          intro l
          induction l with
          | nil => intro _; simp
          | cons f l ih =>
            intro h
            obtain ⟨p, hp⟩ := h f (by simp)
            have ih' := ih fun g hg => h g (by simp [hg])
            unfold fieldOf at hp
            split at hp
            · rename_i j2 d2 hj2 hd2
              have hs : (sizeOf f.type).run P w = .ok j2.size w := by simp [sizeOf, typeInfo, hj2]
              simp only [List.mapM_cons, Sem.run_bind, hs, hj2, Sem.run_pure, Result.andThen_ok, ih', List.map_cons, Option.map_some, Option.getD_some]
            · simp at hp
        have hk := key fs.toList hall
        rw [show fs = fs.toList.toArray by simp, List.mapM_toArray]
        simp only [map_eq_pure_bind, Sem.run_bind, hk, Result.andThen_ok, Sem.run_pure]
      · rw [← g5]
        simp only [fsD, List.getElem?_toArray, List.getElem?_map]
        cases hq : fs.toList[q]? with
        | none => rfl
        | some f =>
          obtain ⟨p, hp⟩ := hall f (List.mem_of_getElem? hq)
          simp only [Option.map_some, Option.bind_some, hp]
          unfold fieldOf at hp
          split at hp
          · rename_i j2 d2 hj2 hd2
            simp at hp
            simp [hj2, ← hp]
          · simp at hp
    obtain ⟨places, hp1, hp2⟩ := hpl
    have e : (fun q => (i.fs[q]?).bind fun (f : Option (Nat × Nat × Bool)) => f.map fun f => (f.1, f.2.1)) = (places[·]?) := funext fun q => (hp2 q).symm
    rw [e] at hf
    exact opS_of (opP_build ho hd h1 h4 hp1 h6 has hf)
theorem os_buildSlice {tab : List (Nat × TI)} {i : TI} {e : Nat} {d : Nat} {n b m : Nat} {ps : List (Nat × Operand)} {cs out : List At} {ds : List Da} {as : List (Nat × List At)} (hT : TabOk P tab) (hz : ZeroOk P e n b cs) (ho : o.op = .buildSlice t m ps.toArray) (hdst : o.dst = some d) (ht : look tab t = some i) (hp : i.pr = 4) (he : i.el = some e) (hpos : 0 < n) (hsm : m * n ≤ 16777216)
    (has : partsA s.ev ps = some as) (hf : fillA (fun q => some (q * n, n)) (List.replicate m cs).flatten as = some out) (hd : toDs out = some ds) : OpS P o s s0 (.one (.ol d)) [(d, .lst e n (chunk n m ds))] := by
  obtain ⟨j, zv, h1, h2, h3, h4, h5, h6⟩ := hz
  obtain ⟨d1, j1, hdd, hj, g1, g2, g3, g4, g5, g6, g7⟩ := tiOf_some (hT t i ht)
  have := slice_of (g4.trans he) (g6.trans hp); subst this
  subst h2
  exact opS_of (opP_buildSlice ho hdd h1 h4 h5 hpos h6 hsm has hf hd)

theorem os_call {f : FuncId} {fn : Func} {ag : List Operand} {ts : Array TypeId} {xs : List AV} {r : AV} {nob : List (Nat × Ob)} (hc : ACall P f xs r nob) (hf : P.funcs[f]? = some fn) (ho : o.op = .call { callee := .value (.func f), args := ag.toArray, argTypes := ts }) (hb : fn.body.isNone = false) (hname : (fn.name == "runtime.NumGoroutine") = false) (has : argsA s.ev ag = some xs) : OpS P o s s0 r nob :=
  opS_of (opP_call ho hf hb hname has hc)

theorem st_store {tab : List (Nat × TI)} {i : TI} {k off : Nat} {Zv : AV} {zs cs : List At} (hT : TabOk P tab) (ho : o.op = .store t x z) (hg : o.guard = none) (hd : o.dst = none) (hx : s.ev x = some (.one (.op k off))) (hz : s.ev z = some Zv) (hc : Zv.cells = some zs) (hk : s.gob k = some (.var cs)) (ht : look tab t = some i) (hsz : i.n = zs.length)
    (hl : off + zs.length ≤ cs.length) (hnj : noJunk zs = true) (h : aOps Γ P ops rest K (s.setOb k (.var (cs.take off ++ zs ++ cs.drop (off + zs.length))))) : aOps Γ P ops (o :: rest) K s := by
  obtain ⟨d1, j1, hdd, hj, g1, g2, g3, g4, g5, g6, g7⟩ := tiOf_some (hT t i ht)
  exact aOps_store ho hg hd hx hz hc hk hj (g2.trans hsz) hl hnj h
theorem st_storeL {tab : List (Nat × TI)} {i : TI} {k off n q E es : Nat} {Zv : AV} {zs : List At} {ds c : List Da} {xs : List (List Da)} (hT : TabOk P tab) (ho : o.op = .store t x z) (hg : o.guard = none) (hd : o.dst = none) (hx : s.ev x = some (.one (.op k off))) (hz : s.ev z = some Zv) (hc : Zv.cells = some zs) (hds : toDs zs = some ds)
    (hk : s.gob k = some (.lst E es xs)) (ht : look tab t = some i) (hsz : i.n = ds.length) (hn : xs[n]? = some c) (hoff : off = n * es + q) (hq : q + ds.length ≤ c.length) (hpos : 0 < ds.length)
    (h : aOps Γ P ops rest K (s.setOb k (.lst E es (xs.set n (c.take q ++ ds ++ c.drop (q + ds.length)))))) : aOps Γ P ops (o :: rest) K s := by
  obtain ⟨d1, j1, hdd, hj, g1, g2, g3, g4, g5, g6, g7⟩ := tiOf_some (hT t i ht)
  exact aOps_storeL ho hg hd hx hz hc hds hk hj (g2.trans hsz) hn hoff hq hpos h

theorem st_app {tab : List (Nat × TI)} {i : TI} {e n b k : Nat} {ks : List Nat} {tr : Bool} {cs : List At} {xs ys : List (List Da)} (hT : TabOk P tab) (hz : ZeroOk P e n b cs) (ho : o.op = .call { callee := .builtin .append, args := #[x, z], argTypes := #[t, t] }) (hg : o.guard = none) (hd : o.dst.all (· < Γ.n) = true) (ht : look tab t = some i) (hp : i.pr = 4) (he : i.el = some e) (hpos : 0 < n)
    (hold : (∃ tr0, s.gob k = some (mkL tr0 e n xs) ∧ (tr = true → tr0 = true) ∧ s.ev x = some (.one (.ol k))) ∨ (s.ev x = some (.one .e0) ∧ xs = [] ∧ s.fresh [(k, .lst e n [])] = true)) (hsrc : SrcA s z tr k n ys ks) (hyes : ∀ y ∈ ys, y.length = n) (hsm : (xs.length + ys.length) * b ≤ 140737488355328) (hn48 : xs.length + ys.length ≤ 281474976710656)
    (h : aOps Γ P ops rest K (s.appd o.dst k ks (mkL tr e n (xs ++ ys)))) (hlow : k < 2000) : aOps Γ P ops (o :: rest) K s := by
  obtain ⟨j, zv, h1, h2, h3, h4, h5, h6⟩ := hz
  obtain ⟨d1, j1, hdd, hj, g1, g2, g3, g4, g5, g6, g7⟩ := tiOf_some (hT t i ht)
  have := slice_of (g4.trans he) (g6.trans hp); subst this
  subst h3
  exact aOps_app hold ho hg hd hdd h1 h4 h2 h5 hpos (fun a w S β hs => hsrc.src hpos hyes hs) hyes hsm hn48 h hlow

theorem ret_cell {tab : List (Nat × TI)} {i : TI} {fn : Func} {r : AV} {q k : Nat} {cs : List At} (hT : TabOk P tab) (hr : fn.results = #[.cell q t]) (hq : s.get q = some (.one (.op k 0))) (hk : s.gob k = some (.var cs)) (ht : look tab t = some i) (ha : i.agg = true) (hl : cs.length = i.n) (hm : mkAgg cs = r) (hi : r.ids = []) : RetOk P fn s r [] := by
  obtain ⟨d1, j1, hdd, hj, g1, g2, g3, g4, g5, g6, g7⟩ := tiOf_some (hT t i ht)
  exact retOk_cell hr hdd (g1.trans ha) hj hq hk (hl.trans g2.symm) hm hi
end

end AM
end Go.Proofs.Ytfcmmpmdofejeaa
