/- More operations over an abstract state: loads, lengths, cuts, new variables and lists, calls; what a call's contract says; no conditions. -/
import Derived.Test.YtfcmmpmdofejeaaAm3
set_option linter.unusedSimpArgs false
set_option linter.unusedVariables false
namespace Go.Proofs.Ytfcmmpmdofejeaa
namespace AM
open Go

theorem add_lit (b off n : Nat) : (⟨b, off, none⟩ : Addr).add n = ⟨b, off + n, none⟩ := by unfold Addr.add; split <;> simp_all

section
variable {P : Program} {o : Oper} {av : Operand → Option AV} {us : List (Nat × Ob)} {y : AV} {t : TypeId} {x z : Operand}

/-- A load of one cell of data. -/
theorem opP_loadE1 {cs : List Da} {c : Da} {d : TypeDesc} (ho : o.op = .load t x) (ht : P.underlying t = some d) (hd : aggD d = false) (hx : av x = some (.one (.ep cs))) (hc : cs[0]? = some c) : OpP P o av [] (.one (.d c)) [] := by
  refine opP_val fun a w S β _ hr _ => ?_
  have h := (hr x _ hx (by simp [ho, Op.operands])).one_inv
  generalize hv : a.eval x = v at h
  cases h with
  | @ep _ vs b off h1 h2 h3 =>
    match cs, hc with
    | c0 :: r, hc =>
      simp at hc; subst hc
      obtain ⟨v, vs', rfl, h4, h5⟩ := h1.cons_inv
      refine ⟨v, ?_, RepV.one (.d h4)⟩
      have := h3 0 v rfl
      simp only [Nat.add_zero] at this
      simp [execOp, ho, hv, Instr.loadAt, Instr.sureAddr, loadVar, run_isAgg ht, hd, run_load, this]

/-- A load of a struct that is data. -/
theorem opP_loadES {cs : List Da} {d : TypeDesc} {j : TypeInfo} (ho : o.op = .load t x) (ht : P.underlying t = some d) (hd : aggD d = true) (hj : P.info? t = some j) (hx : av x = some (.one (.ep cs))) (hc : j.size ≤ cs.length) : OpP P o av [] (.dat (cs.take j.size)) [] := by
  refine opP_val fun a w S β _ hr _ => ?_
  have h := (hr x _ hx (by simp [ho, Op.operands])).one_inv
  generalize hv : a.eval x = v at h
  cases h with
  | @ep _ vs b off h1 h2 h3 =>
    have hsp : cs = cs.take j.size ++ cs.drop j.size := (List.take_append_drop _ _).symm
    rw [hsp] at h1
    obtain ⟨v1, v2, rfl, h4, h5⟩ := h1.split
    have hl : v1.length = j.size := by rw [h4.len, List.length_take]; omega
    refine ⟨.agg v1.toArray, ?_, RepVs.dat h4 RepVs.nil⟩
    have hld := run_loadCells_list (P := P) w ⟨b, off, none⟩ v1 (fun q u hu => by
      rw [add_lit]; exact h3 q u (by rw [List.getElem?_append_left (List.getElem?_eq_some_iff.1 hu).1]; exact hu))
    rw [hl] at hld
    simp [execOp, ho, hv, Instr.loadAt, Instr.sureAddr, loadVar, run_isAgg ht, hd, sizeOf, typeInfo, hj, hld]

/-- The whole of a struct that is data. -/
theorem opP_loadES' {cs : List Da} {d : TypeDesc} {j : TypeInfo} (ho : o.op = .load t x) (ht : P.underlying t = some d) (hd : aggD d = true) (hj : P.info? t = some j) (hx : av x = some (.one (.ep cs))) (hc : cs.length = j.size) : OpP P o av [] (.dat cs) [] := by
  have := opP_loadES (P := P) ho ht hd hj hx (by omega)
  rwa [← hc, List.take_length] at this

theorem opP_fieldAddrE {cs : List Da} {i : Nat} {fs : Array Field} {f : Field} (ho : o.op = .fieldAddr t x i) (ht : P.underlying t = some (.struct fs)) (hf : fs[i]? = some f) (hx : av x = some (.one (.ep cs)))
    (hp : ∀ (w : World) (a : Addr), (fieldPlace a f).run P w = .ok (a.add f.offset) w) : OpP P o av [] (.one (.ep (cs.drop f.offset))) [] := by
  refine opP_val fun a w S β _ hr _ => ?_
  have h := (hr x _ hx (by simp [ho, Op.operands])).one_inv
  generalize hv : a.eval x = v at h
  cases h with
  | @ep _ vs b off h1 h2 h3 =>
    refine ⟨.pointer (some ⟨b, off + f.offset, none⟩), ?_, RepV.one (.ep (us := vs.drop f.offset) ?_ (h2.imp (fun h => by simp [h]) id) fun q u hu => ?_)⟩
    · simp [execOp, ho, hv, Instr.fieldAt, run_underlying ht, hf, Instr.sureAddr, hp, add_lit]
    · have hsp : cs = cs.take f.offset ++ cs.drop f.offset := (List.take_append_drop _ _).symm
      rw [hsp] at h1
      obtain ⟨v1, v2, rfl, h4, h5⟩ := h1.split
      have hl := h4.len
      rw [List.length_take] at hl
      by_cases hq : f.offset ≤ cs.length
      · have e : (v1 ++ v2).drop f.offset = v2 := by
          have : f.offset = v1.length := by omega
          rw [this]; simp
        rw [e]; exact h5
      · rw [List.drop_of_length_le (by omega)] at h5 ⊢
        rw [h5.nil_inv]
        rw [List.drop_of_length_le (by simp; omega)]
        exact RepDs.nil
    · rw [List.getElem?_drop] at hu
      rw [Nat.add_assoc]; exact h3 _ u hu

theorem cell_of_cells {w : World} {g i : Nat} {c : Array Value} {E : TypeId} {fr : Nat × Nat} (h : w.heap[g]? = some (.cells c E fr)) : w.cell? ⟨g, i, none⟩ = c[i]? := by simp [World.cell?, h]

/-- A load of one cell of a variable of the call's own. -/
theorem opP_loadO1 {k off : Nat} {cs : List At} {c : At} {d : TypeDesc} (ho : o.op = .load t x) (ht : P.underlying t = some d) (hd : aggD d = false) (hx : av x = some (.one (.op k off))) (hc : cs[off]? = some c) : OpP P o av [(k, .var cs)] (.one c) [] := by
  refine opP_val fun a w S β _ hr hu => ?_
  have h := (hr x _ hx (by simp [ho, Op.operands])).one_inv
  obtain ⟨hh, ar, E, hg, hrep⟩ := hu (k, .var cs) (by simp)
  generalize hv : a.eval x = v at h
  cases h
  obtain ⟨v, hv2, h4⟩ := hrep.get hc
  refine ⟨v, ?_, RepV.one h4⟩
  have hc2 := cell_of_cells (i := off) hg
  rw [← Array.getElem?_toList, hv2] at hc2
  simp [execOp, ho, hv, Instr.loadAt, Instr.sureAddr, loadVar, run_isAgg ht, hd, run_load, hc2]

/-- A load of a struct out of a variable of the call's own. -/
theorem opP_loadOS {k off : Nat} {cs : List At} {d : TypeDesc} {j : TypeInfo} (ho : o.op = .load t x) (ht : P.underlying t = some d) (hd : aggD d = true) (hj : P.info? t = some j) (hx : av x = some (.one (.op k off))) (hc : off + j.size ≤ cs.length) : OpP P o av [(k, .var cs)] (mkAgg ((cs.drop off).take j.size)) [] := by
  refine opP_val fun a w S β _ hr hu => ?_
  have h := (hr x _ hx (by simp [ho, Op.operands])).one_inv
  obtain ⟨hh, ar, E, hg, hrep⟩ := hu (k, .var cs) (by simp)
  generalize hv : a.eval x = v at h
  cases h
  have hl : ((ar.toList.drop off).take j.size).length = j.size := by
    have := hrep.len
    simp only [List.length_take, List.length_drop]; omega
  refine ⟨.agg ((ar.toList.drop off).take j.size).toArray, ?_, (hrep.take_drop off j.size).mk⟩
  have hld := run_loadCells_list (P := P) w ⟨(β k).blk, off, none⟩ ((ar.toList.drop off).take j.size) (fun q u hu => by
    rw [add_lit, cell_of_cells hg, ← Array.getElem?_toList]
    rw [List.getElem?_take] at hu
    split at hu
    · rw [List.getElem?_drop] at hu; exact hu
    · simp at hu)
  rw [hl] at hld
  simp only [execOp, ho, hv, Instr.loadAt, Instr.sureAddr, loadVar, Sem.run_bind, Sem.run_pure, Result.andThen_ok, run_isAgg ht, hd, sizeOf, typeInfo, program, Sem.run, hj, hld, if_true]

/-- A byte of a text. -/
theorem opP_indexS {s : ByteArray} {k : IntKind} {n : Nat} {c : UInt8} (ho : o.op = .index t x z) (ht : P.underlying t = some .string) (hx : av x = some (T s)) (hz : av z = some (I k (n : Int))) (hc : s[n]? = some c) : OpP P o av [] (I .u8 c.toNat) [] := by
  refine opP_val fun a w S β _ hr _ => ⟨.int .u8 c.toNat, ?_, RepV.int _ _⟩
  have e1 := (hr x _ hx (by simp [ho, Op.operands])).str_inv.1
  have e2 := (hr z _ hz (by simp [ho, Op.operands])).int_inv
  simp [execOp, ho, e1, e2, Instr.index, asIntOf, run_underlying ht, hc]

section
variable {ty : TypeId}
theorem opP_lenS {s : ByteArray} (ho : o.op = .call { callee := .builtin .len, args := #[x], argTypes := #[t] }) (ht : P.underlying t = some .string) (hx : av x = some (T s)) : OpP P o av [] (Z s.size) [] := by
  refine opP_val fun a w S β _ hr _ => ⟨goInt s.size, ?_, RepV.int _ _⟩
  have e1 := (hr x _ hx (by simp [ho, Op.operands, Call.operands])).str_inv.1
  simp [execOp, ho, resolve, invoke, builtin, e1, Builtin.len_, run_underlying ht]
theorem opP_lenD {xs : List (List Da)} {e : TypeId} (ho : o.op = .call { callee := .builtin .len, args := #[x], argTypes := #[t] }) (ht : P.underlying t = some (.slice e)) (hx : av x = some (L xs)) : OpP P o av [] (Z xs.length) [] := by
  refine opP_val fun a w S β _ hr _ => ⟨goInt xs.length, ?_, RepV.int _ _⟩
  have h := (hr x _ hx (by simp [ho, Op.operands, Call.operands])).one_inv
  generalize hv : a.eval x = v at h
  cases h with
  | d h =>
    obtain ⟨ad, cap, rfl, _⟩ := h.sl_inv
    simp [execOp, ho, resolve, invoke, builtin, hv, Builtin.len_, run_underlying ht]
theorem opP_len0 {e : TypeId} (ho : o.op = .call { callee := .builtin .len, args := #[x], argTypes := #[t] }) (ht : P.underlying t = some (.slice e)) (hx : av x = some (.one .e0)) : OpP P o av [] (Z 0) [] := by
  refine opP_val fun a w S β _ hr _ => ⟨goInt 0, ?_, RepV.int _ _⟩
  have h := (hr x _ hx (by simp [ho, Op.operands, Call.operands])).one_inv
  generalize hv : a.eval x = v at h
  cases h
  simp [execOp, ho, resolve, invoke, builtin, hv, Builtin.len_, run_underlying ht]
theorem ownsRow_form {w : World} {b : Nat} {e : TypeId} {es : Nat} {v : Value} {n : Nat} {xs : List Value} (h : w.ownsRow b e es v n xs) : ∃ a cap, v = .slice a n cap ∧ n ≤ cap := by
  rcases h.2 with ⟨rfl, rfl⟩ | ⟨g, cap, cur, rfl, _, _, h, _⟩
  · exact ⟨_, _, rfl, Nat.le_refl _⟩
  · exact ⟨_, _, rfl, h⟩
theorem opP_lenO {k : Nat} {E es : Nat} {xs : List (List Da)} {e : TypeId} (ho : o.op = .call { callee := .builtin .len, args := #[x], argTypes := #[t] }) (ht : P.underlying t = some (.slice e)) (hx : av x = some (.one (.ol k))) : OpP P o av [(k, .lst E es xs)] (Z xs.length) [] := by
  refine opP_val fun a w S β _ hr hu => ⟨goInt xs.length, ?_, RepV.int _ _⟩
  have h := (hr x _ hx (by simp [ho, Op.operands, Call.operands])).one_inv
  have hsv : ∃ ad cap, (β k).sv = .slice ad xs.length cap := by
    rcases hu (k, .lst E es xs) (by simp) with ⟨_, _, _, vs, hown, _⟩ | ⟨_, h0, ad, hz⟩
    · obtain ⟨ad, cap, hsv, _⟩ := ownsRow_form hown; exact ⟨ad, cap, hsv⟩
    · exact ⟨ad, 0, by rw [h0]; exact hz⟩
  obtain ⟨ad, cap, hsv⟩ := hsv
  generalize hv : a.eval x = v at h
  cases h
  rw [hsv] at hv
  simp [execOp, ho, resolve, invoke, builtin, hv, Builtin.len_, run_underlying ht]
end

/-- The address of an element of a list of the call's own. -/
theorem opP_indexO {k' : Nat} {E es : Nat} {xs : List (List Da)} {k : IntKind} {n : Nat} {e : TypeId} {j : TypeInfo} (ho : o.op = .indexAddr t x z) (ht : P.underlying t = some (.slice e)) (hj : P.info? e = some j) (hes : j.size = es) (hpos : 0 < es) (hx : av x = some (.one (.ol k'))) (hz : av z = some (I k (n : Int)))
    (hn : n < xs.length) : OpP P o av [(k', .lst E es xs)] (.one (.op k' (n * es))) [] := by
  refine opP_val fun a w S β _ hr hu => ⟨.pointer (some ⟨(β k').blk, n * es, none⟩), ?_, RepV.one .op⟩
  have ez := (hr z _ hz (by simp [ho, Op.operands])).int_inv
  have h := (hr x _ hx (by simp [ho, Op.operands])).one_inv
  obtain ⟨hob, _, hle, vs, hown, hrep⟩ := ObRep.pos (hu (k', .lst E es xs) (by simp)) (by omega)
  dsimp only at hob hown
  rcases hown.2 with ⟨_, h0⟩ | ⟨g, cap, cur, hsv, _, _, hcap, _⟩
  · omega
  generalize hv : a.eval x = v at h
  cases h
  rw [hsv] at hv hob
  have hg : g = (β k').blk := by
    simp only [Value.ownBlock] at hob
    split at hob
    · simpa using hob
    · simp at hob
  subst hes
  simp [execOp, ho, hv, ez, Instr.indexAt, run_underlying ht, asIntOf, sizeOf, typeInfo, hj, hn, Nat.not_le.2 hn, add_lit, hg]

theorem flatten_split {α : Type} {xs : List (List α)} {n : Nat} {c : List α} (hi : xs[n]? = some c) : xs.flatten = (xs.take n).flatten ++ (c ++ (xs.drop (n + 1)).flatten) := by
  have : xs = xs.take n ++ c :: xs.drop (n + 1) := by
    rw [(List.getElem?_eq_some_iff.1 hi).2.symm, List.getElem_cons_drop, List.take_append_drop]
  conv => lhs; rw [this]
  simp
theorem flatten_len {α : Type} {xs : List (List α)} {es : Nat} (h : ∀ x ∈ xs, x.length = es) : xs.flatten.length = xs.length * es := by
  induction xs with
  | nil => simp
  | cons x xs ih =>
    simp only [List.flatten_cons, List.length_append, List.length_cons, h x (by simp), ih fun y hy => h y (by simp [hy])]
    rw [Nat.add_mul]; omega
theorem flatten_take_len {α : Type} {xs : List (List α)} {es n : Nat} (h : ∀ x ∈ xs, x.length = es) (hn : n ≤ xs.length) : (xs.take n).flatten.length = n * es := by
  rw [flatten_len (es := es) fun x hx => h x (List.mem_of_mem_take hx), List.length_take, Nat.min_eq_left hn]

theorem ownsRow_cell {w : World} {k : Nat} {β : Nat → OLoc} {E es : Nat} {n : Nat} {vs : List Value} (hown : w.ownsRow 0 E es (β k).sv n vs) (hob : (β k).sv.ownBlock = (if (β k).has then some (β k).blk else none)) {i : Nat} {u : Value} (hu : vs[i]? = some u) :
    w.cell? ⟨(β k).blk, i, none⟩ = some u ∧ (β k).has = true := by
  rcases hown.2 with ⟨_, h0⟩ | ⟨g, cap, cur, hsv, _, hg, hcap, _, hsz, htk⟩
  · exfalso
    have := hown.1
    subst h0
    rw [Nat.zero_mul] at this
    have := List.eq_nil_of_length_eq_zero this
    subst this; simp at hu
  · rw [hsv] at hob
    simp only [Value.ownBlock] at hob
    split at hob
    · rename_i hh
      simp at hob
      refine ⟨?_, hh⟩
      rw [← hob, cell_of_cells hg, ← Array.getElem?_toList]
      rw [← htk, List.getElem?_take] at hu
      split at hu
      · exact hu
      · simp at hu
    · simp at hob

/-- A load of one cell of an element of a list of the call's own. -/
theorem opP_loadL1 {k off n q : Nat} {E es : Nat} {xs : List (List Da)} {c : List Da} {x0 : Da} {d : TypeDesc} (ho : o.op = .load t x) (ht : P.underlying t = some d) (hd : aggD d = false) (hx : av x = some (.one (.op k off))) (hn : xs[n]? = some c) (hq : c[q]? = some x0) (hoff : off = n * es + q) : OpP P o av [(k, .lst E es xs)] (.one (.d x0)) [] := by
  refine opP_val fun a w S β _ hr hu => ?_
  have h := (hr x _ hx (by simp [ho, Op.operands])).one_inv
  have hnl0 : n < xs.length := (List.getElem?_eq_some_iff.1 hn).1
  obtain ⟨hob, _, hle, vs, hown, hrep⟩ := ObRep.pos (hu (k, .lst E es xs) (by simp)) (by omega)
  dsimp only at hob hown
  generalize hv : a.eval x = v at h
  cases h
  have hnl : n < xs.length := (List.getElem?_eq_some_iff.1 hn).1
  rw [flatten_split hn] at hrep
  obtain ⟨v1, v2, rfl, d1, d2⟩ := hrep.split
  obtain ⟨v3, v4, rfl, d3, d4⟩ := d2.split
  have hl1 : v1.length = n * es := by rw [d1.len, flatten_take_len hle (Nat.le_of_lt hnl)]
  have hql : q < c.length := (List.getElem?_eq_some_iff.1 hq).1
  have hg3 : ∃ u, v3[q]? = some u ∧ RepDs w S [x0] [u] := by
    have := (RepAs.of_ds (β := β) d3).get (i := q) (x := .d x0) (by simp [hq])
    obtain ⟨u, hu, hr⟩ := this
    cases hr with | d hr => exact ⟨u, hu, hr⟩
  obtain ⟨u, hu3, hr3⟩ := hg3
  refine ⟨u, ?_, RepV.one (.d hr3)⟩
  have hlen3 := d3.len
  have hc := (ownsRow_cell hown hob (i := off) (u := u) (by
    rw [hoff, List.getElem?_append_right (by omega), hl1, Nat.add_sub_cancel_left, List.getElem?_append_left (by omega)]; exact hu3)).1
  simp [execOp, ho, hv, Instr.loadAt, Instr.sureAddr, loadVar, run_isAgg ht, hd, run_load, hc]

/-- A load of an element (a struct) of a list of the call's own. -/
theorem opP_loadLS {k off n : Nat} {E es : Nat} {xs : List (List Da)} {c : List Da} {d : TypeDesc} {j : TypeInfo} (ho : o.op = .load t x) (ht : P.underlying t = some d) (hd : aggD d = true) (hj : P.info? t = some j) (hx : av x = some (.one (.op k off))) (hn : xs[n]? = some c) (hoff : off = n * es) (hc : c.length = j.size) : OpP P o av [(k, .lst E es xs)] (.dat c) [] := by
  refine opP_val fun a w S β _ hr hu => ?_
  have h := (hr x _ hx (by simp [ho, Op.operands])).one_inv
  have hnl0 : n < xs.length := (List.getElem?_eq_some_iff.1 hn).1
  obtain ⟨hob, _, hle, vs, hown, hrep⟩ := ObRep.pos (hu (k, .lst E es xs) (by simp)) (by omega)
  dsimp only at hob hown
  generalize hv : a.eval x = v at h
  cases h
  have hnl : n < xs.length := (List.getElem?_eq_some_iff.1 hn).1
  rw [flatten_split hn] at hrep
  obtain ⟨v1, v2, rfl, d1, d2⟩ := hrep.split
  obtain ⟨v3, v4, rfl, d3, d4⟩ := d2.split
  have hl1 : v1.length = n * es := by rw [d1.len, flatten_take_len hle (Nat.le_of_lt hnl)]
  have hl3 : v3.length = j.size := by rw [d3.len, hc]
  refine ⟨.agg v3.toArray, ?_, RepVs.dat d3 RepVs.nil⟩
  have hld := run_loadCells_list (P := P) w ⟨(β k).blk, off, none⟩ v3 (fun q u hu => by
    rw [add_lit]
    have hq : q < v3.length := (List.getElem?_eq_some_iff.1 hu).1
    exact (ownsRow_cell hown hob (by rw [hoff, List.getElem?_append_right (by omega), hl1, Nat.add_sub_cancel_left, List.getElem?_append_left (by omega)]; exact hu)).1)
  rw [hl3] at hld
  simp only [execOp, ho, hv, Instr.loadAt, Instr.sureAddr, loadVar, Sem.run_bind, Sem.run_pure, Result.andThen_ok, run_isAgg ht, hd, sizeOf, typeInfo, program, Sem.run, hj, hld, if_true]

/-- A cut of a text. -/
theorem opP_cutS {s : ByteArray} {lo hi : Option Operand} {k k' : IntKind} {l h : Nat} (ho : o.op = .slice t x lo hi none) (ht : P.underlying t = some .string) (hx : av x = some (T s))
    (hlo : (lo = none ∧ l = 0) ∨ ∃ u, lo = some u ∧ av u = some (I k (l : Int))) (hhi : (hi = none ∧ h = s.size) ∨ ∃ u, hi = some u ∧ av u = some (I k' (h : Int))) (hlh : l ≤ h) (hs : h ≤ s.size) : OpP P o av [] (T (s.extract l h)) [] := by
  refine opP_val fun a w S β _ hr _ => ?_
  obtain ⟨e1, hsz⟩ := (hr x _ hx (by simp [ho, Op.operands])).str_inv
  refine ⟨.string (s.extract l h), ?_, RepV.str _ (by rw [ByteArray.size_extract]; omega)⟩
  rcases hlo with ⟨rfl, rfl⟩ | ⟨u, rfl, hu⟩ <;> rcases hhi with ⟨rfl, rfl⟩ | ⟨v, rfl, hv⟩
  · simp [execOp, ho, e1, Instr.sliceAt, Instr.slice, run_underlying ht, Instr.sliceBounds]
  · have e3 := (hr v _ hv (by simp [ho, Op.operands])).int_inv
    simp [execOp, ho, e1, e3, Instr.sliceAt, Instr.slice, run_underlying ht, Instr.sliceBounds, Instr.sliceBound, asIntOf, hs, Nat.not_lt.2 hs]
  · have e2 := (hr u _ hu (by simp [ho, Op.operands])).int_inv
    simp [execOp, ho, e1, e2, Instr.sliceAt, Instr.slice, run_underlying ht, Instr.sliceBounds, Instr.sliceBound, asIntOf, hlh, Nat.not_lt.2 hlh]
  · have e2 := (hr u _ hu (by simp [ho, Op.operands])).int_inv
    have e3 := (hr v _ hv (by simp [ho, Op.operands])).int_inv
    simp [execOp, ho, e1, e2, e3, Instr.sliceAt, Instr.slice, run_underlying ht, Instr.sliceBounds, Instr.sliceBound, asIntOf, hs, hlh, Nat.not_lt.2 hs, Nat.not_lt.2 hlh]

/-- A cut of data. -/
theorem opP_cutD {xs : List (List Da)} {lo hi : Option Operand} {k k' : IntKind} {l h : Nat} {e : TypeId} {j : TypeInfo} (ho : o.op = .slice t x lo hi none) (ht : P.underlying t = some (.slice e)) (hj : P.info? e = some j) (hes : ∀ c ∈ xs, c.length = j.size) (hx : av x = some (L xs))
    (hlo : (lo = none ∧ l = 0) ∨ ∃ u, lo = some u ∧ av u = some (I k (l : Int))) (hhi : (hi = none ∧ h = xs.length) ∨ ∃ u, hi = some u ∧ av u = some (I k' (h : Int))) (hlh : l ≤ h) (hs : h ≤ xs.length) : OpP P o av [] (L ((xs.take h).drop l)) [] := by
  refine opP_val fun a w S β _ hr _ => ?_
  have h0 := (hr x _ hx (by simp [ho, Op.operands])).one_inv
  generalize hv0 : a.eval x = v at h0
  cases h0 with
  | d h0 =>
    obtain ⟨ad, cap, rfl, h1, h2, h3⟩ := h0.sl_inv
    have hc : h ≤ cap := by omega
    have hlen : ((xs.take h).drop l).length = h - l := by rw [List.length_drop, List.length_take, Nat.min_eq_left hs]
    refine ⟨.slice (if cap = l then ad else ad.map (·.add (l * j.size))) (h - l) (cap - l), ?_, RepV.one (.d ?_)⟩
    · rcases hlo with ⟨rfl, rfl⟩ | ⟨u, rfl, hu⟩ <;> rcases hhi with ⟨rfl, rfl⟩ | ⟨v, rfl, hv⟩
      · simp [execOp, ho, hv0, Instr.sliceAt, Instr.slice, run_underlying ht, Instr.sliceBounds, sizeOf, typeInfo, hj]
      · have e3 := (hr v _ hv (by simp [ho, Op.operands])).int_inv
        simp [execOp, ho, hv0, e3, Instr.sliceAt, Instr.slice, run_underlying ht, Instr.sliceBounds, Instr.sliceBound, asIntOf, hc, Nat.not_lt.2 hc, sizeOf, typeInfo, hj]
      · have e2 := (hr u _ hu (by simp [ho, Op.operands])).int_inv
        simp [execOp, ho, hv0, e2, Instr.sliceAt, Instr.slice, run_underlying ht, Instr.sliceBounds, Instr.sliceBound, asIntOf, hlh, Nat.not_lt.2 hlh, sizeOf, typeInfo, hj]
      · have e2 := (hr u _ hu (by simp [ho, Op.operands])).int_inv
        have e3 := (hr v _ hv (by simp [ho, Op.operands])).int_inv
        simp [execOp, ho, hv0, e2, e3, Instr.sliceAt, Instr.slice, run_underlying ht, Instr.sliceBounds, Instr.sliceBound, asIntOf, hc, hlh, Nat.not_lt.2 hc, Nat.not_lt.2 hlh, sizeOf, typeInfo, hj]
    · by_cases hlt : h - l = 0
      · have : (xs.take h).drop l = [] := List.eq_nil_of_length_eq_zero (by omega)
        rw [this, hlt]
        exact RepDs.sl_nil _ _
      · have hne : ¬ cap = l := by omega
        rw [if_neg hne]
        have hflat : xs.flatten = (xs.take l).flatten ++ (((xs.take h).drop l).flatten ++ (xs.drop h).flatten) := by
          have e : xs = xs.take l ++ ((xs.take h).drop l ++ xs.drop h) := by
            have e1 : (xs.take h).take l = xs.take l := by rw [List.take_take, Nat.min_eq_left hlh]
            rw [← List.append_assoc, ← e1, List.take_append_drop, List.take_append_drop]
          conv => lhs; rw [e]
          simp
        rcases h3 with h3 | ⟨b, off, us, es, rfl, hS, hb, hd, hes', hm⟩
        · have hz : ((xs.take h).drop l).flatten = [] := by
            rw [h3] at hflat
            have := hflat.symm
            simp only [List.append_eq_nil_iff] at this
            exact this.2.1
          rw [← hlen]
          exact ⟨[], .sl0 hz rfl (by omega) (by omega) .nil, by simp⟩
        · rw [hflat] at hd
          obtain ⟨v1, v2, rfl, d1, d2⟩ := hd.split
          obtain ⟨v3, v4, rfl, d3, d4⟩ := d2.split
          have hl1 : v1.length = l * j.size := by rw [d1.len, flatten_take_len hes (by omega)]
          simp only [Option.map_some, add_lit]
          rw [← hlen]
          refine RepDs.sl_mk (by omega) (by omega) hS hb d3 (fun c hc => hes c (List.mem_of_mem_take (List.mem_of_mem_drop hc))) fun q u hu => ?_
          have hq : q < v3.length := (List.getElem?_eq_some_iff.1 hu).1
          rw [Nat.add_assoc]
          exact hm _ u (by rw [List.getElem?_append_right (by omega), hl1, Nat.add_sub_cancel_left, List.getElem?_append_left hq]; exact hu)
end

end AM
end Go.Proofs.Ytfcmmpmdofejeaa
