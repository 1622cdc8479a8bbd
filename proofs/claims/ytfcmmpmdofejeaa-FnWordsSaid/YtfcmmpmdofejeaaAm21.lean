/- Memory that is the caller's alone: lists read, written and handed on; no conditions. -/
import Derived.Test.YtfcmmpmdofejeaaAm20
import Derived.Laws.Cover3
set_option linter.unusedSimpArgs false
set_option linter.unusedVariables false
namespace Go.Proofs.Ytfcmmpmdofejeaa
namespace AM
open Go

theorem RepT.sl_inv {w : World} {xs : List (List Da)} {v : Value} {fp : List Nat} (h : RepT w [.sl xs] [v] fp) (hp : 0 < xs.length) : ∃ us fi b cap es c E, v = .slice (some ⟨b, 0, none⟩) xs.length cap ∧ RepT w xs.flatten us fi ∧ xs.length ≤ cap ∧ xs.length ≤ 281474976710656 ∧
    (∀ y ∈ xs, y.length = es) ∧ w.heap[b]? = some (.cells c E (0, 0)) ∧ us = c.toList.take (xs.length * es) ∧ fp = b :: fi := by
  cases h with
  | sl0 _ => simp at hp
  | sl1 h0 h1 h2 h3 h4 h5 h6 h7 h8 =>
    cases h8
    subst h1
    exact ⟨_, _, _, _, _, _, _, rfl, h0, h3, h4, h5, h6, h7, by simp⟩
theorem RepT.sl_form {w : World} {xs : List (List Da)} {v : Value} {fp : List Nat} (h : RepT w [.sl xs] [v] fp) : ∃ a cap, v = .slice a xs.length cap := by
  cases h with
  | sl0 _ => exact ⟨_, _, rfl⟩
  | sl1 h0 h1 => subst h1; exact ⟨_, _, rfl⟩
theorem RepT.one {w : World} {x : Da} {vs : List Value} {fp : List Nat} (h : RepT w [x] vs fp) : ∃ v, vs = [v] := by
  have := h.len
  match vs, this with
  | [v], _ => exact ⟨v, rfl⟩
theorem RepT.flat_fp {w : World} {xs : List Da} {vs : List Value} {fp : List Nat} (h : RepT w xs vs fp) (hf : xs.all Da.flat = true) : fp = [] := by
  induction h with
  | nil => rfl
  | int _ ih => exact ih (by simpa [Da.flat] using hf)
  | bool _ ih => exact ih (by simpa [Da.flat] using hf)
  | str _ _ ih => exact ih (by simpa [Da.flat] using hf)
  | sl0 _ ih => exact ih (by simpa [Da.flat] using hf)
  | @sl1 ys _ _ _ _ _ _ _ _ _ _ _ _ h1 h2 _ _ _ _ _ _ _ _ =>
    cases ys with
    | nil => simp at h1; omega
    | cons y ys => simp [Da.flat] at hf

/-- Cells of rows: what stands ahead of a place, at it, and behind it. -/
theorem rows_split {xs : List (List Da)} {es n q l : Nat} {c : List Da} (hes : ∀ y ∈ xs, y.length = es) (hn : xs[n]? = some c) : xs.flatten = ((xs.take n).flatten ++ c.take q) ++ (((c.drop q).take l) ++ (c.drop (q + l) ++ (xs.drop (n + 1)).flatten)) := by
  rw [flatten_split hn]
  conv => lhs; rw [show c = c.take q ++ ((c.drop q).take l ++ c.drop (q + l)) by rw [← List.drop_drop, List.take_append_drop, List.take_append_drop]]
  simp [List.append_assoc]
theorem rows_set {xs : List (List Da)} {n q l : Nat} {c ds : List Da} (hn : xs[n]? = some c) : (xs.set n (c.take q ++ ds ++ c.drop (q + l))).flatten = ((xs.take n).flatten ++ c.take q) ++ (ds ++ (c.drop (q + l) ++ (xs.drop (n + 1)).flatten)) := by
  have hnl : n < xs.length := (List.getElem?_eq_some_iff.1 hn).1
  have := flatten_split (xs := xs.set n (c.take q ++ ds ++ c.drop (q + l))) (n := n) (c := c.take q ++ ds ++ c.drop (q + l)) (by simp [hnl])
  rw [this, List.take_set_of_le (Nat.le_refl n), List.drop_set_of_lt (by omega)]
  simp [List.append_assoc]

section
variable {Γ : Cx} {P : Program} {ops : Array Oper} {rest : List Oper} {o : Oper} {K : St → Prop} {s s0 : St} {t : TypeId} {x z : Operand} {av : Operand → Option AV}
theorem opP_lenM {k E es : Nat} {xs : List (List Da)} {e : TypeId} (ho : o.op = .call { callee := .builtin .len, args := #[x], argTypes := #[t] }) (ht : P.underlying t = some (.slice e)) (hx : av x = some (.one (.ol k))) : OpP P o av [(k, .mt E es xs)] (Z xs.length) [] := by
  refine opP_val fun a w S β _ hr hu => ⟨goInt xs.length, ?_, RepV.int _ _⟩
  have h := (hr x _ hx (by simp [ho, Op.operands, Call.operands])).one_inv
  obtain ⟨_, _, _, _, fp, h1, _⟩ := hu (k, .mt E es xs) (by simp)
  obtain ⟨ad, cap, hsv⟩ := h1.sl_form
  generalize hv : a.eval x = v at h
  cases h
  dsimp only at hsv
  rw [hsv] at hv
  simp [execOp, ho, resolve, invoke, builtin, hv, Builtin.len_, run_underlying ht]
theorem opP_indexM {k' E es : Nat} {xs : List (List Da)} {k : IntKind} {n : Nat} {e : TypeId} {j : TypeInfo} (ho : o.op = .indexAddr t x z) (ht : P.underlying t = some (.slice e)) (hj : P.info? e = some j) (hes : j.size = es) (hx : av x = some (.one (.ol k'))) (hz : av z = some (I k (n : Int)))
    (hn : n < xs.length) : OpP P o av [(k', .mt E es xs)] (.one (.op k' (n * es))) [] := by
  refine opP_val fun a w S β _ hr hu => ⟨.pointer (some ⟨(β k').blk, n * es, none⟩), ?_, RepV.one .op⟩
  have ez := (hr z _ hz (by simp [ho, Op.operands])).int_inv
  have h := (hr x _ hx (by simp [ho, Op.operands])).one_inv
  obtain ⟨_, _, _, h2, fp, h1, _⟩ := hu (k', .mt E es xs) (by simp)
  obtain ⟨us, fi, b, cap, es', c, E', hsv, _⟩ := h1.sl_inv (by omega)
  dsimp only at hsv h2
  have hb := h2 _ _ _ hsv (by omega)
  generalize hv : a.eval x = v at h
  cases h
  rw [hsv] at hv
  simp only [Addr.mk.injEq] at hb
  subst hes
  simp [execOp, ho, hv, ez, Instr.indexAt, run_underlying ht, asIntOf, sizeOf, typeInfo, hj, hn, Nat.not_le.2 hn, add_lit, hb.1]

/-- A store of single cells into an element. -/
theorem aOps_storeM {k off n q E es : Nat} {Z : AV} {zs : List At} {ds c : List Da} {xs : List (List Da)} {j : TypeInfo} (ho : o.op = .store t x z) (hg : o.guard = none) (hd : o.dst = none) (hx : s.ev x = some (.one (.op k off))) (hz : s.ev z = some Z) (hc : Z.cells = some zs) (hds : toDs zs = some ds) (hfl : ds.all Da.flat = true)
    (hk : s.gob k = some (.mt E es xs)) (hj : P.info? t = some j) (hsz : j.size = ds.length) (hn : xs[n]? = some c) (hoff : off = n * es + q) (hq : q + ds.length ≤ c.length) (hold : ((c.drop q).take ds.length).all Da.flat = true) (hpos : 0 < ds.length)
    (h : aOps Γ P ops rest K (s.mv (killL []) k [] (.mt E es (xs.set n (c.take q ++ ds ++ c.drop (q + ds.length)))))) : aOps Γ P ops (o :: rest) K s := by
  intro a w S β R hs hR
  refine wpList_plain hg fun K' hK => ?_
  have h1 := (hs.eval hx).one_inv
  have h2 := hs.eval hz
  have hcs := (h2.cells hc).toDs hds
  have hnl : n < xs.length := (List.getElem?_eq_some_iff.1 hn).1
  obtain ⟨m1, m2, hle, m3, fp, hrep, hsub, hnd⟩ := hs.mem.ob k _ hk
  have hcl : c.length = es := hle c (List.mem_of_getElem? hn)
  obtain ⟨us, fi, b, cap, es', cur, E', hsv, hrows, hcap, h48, hes', hgb, hus, hfpe⟩ := hrep.sl_inv (by omega)
  have hb := m3 _ _ _ hsv (by omega)
  simp only [Addr.mk.injEq, and_true] at hb
  subst hb
  have hee : es' = es := by rw [← hes' c (List.mem_of_getElem? hn), hcl]
  subst hee
  subst hfpe
  generalize hv : a.eval x = v at h1
  cases h1
  rw [rows_split (q := q) (l := ds.length) hle hn] at hrows
  obtain ⟨v1, v2, f1, f2, hus2, rfl, d1, d2⟩ := hrows.split
  obtain ⟨v3, v4, f3, f4, rfl, rfl, d3, d4⟩ := d2.split
  have hf3 := d3.flat_fp hold
  subst hf3
  have hbn := List.nodup_cons.1 hnd
  have hl1 : v1.length = off := by rw [d1.len, List.length_append, flatten_take_len hle (Nat.le_of_lt hnl), List.length_take, hcl]; omega
  have hl3 : v3.length = ds.length := by rw [d3.len, List.length_take, List.length_drop, hcl]; omega
  have hlz := hcs.len
  simp only [Array.length_toList] at hlz
  have hne : n * es' + es' ≤ xs.length * es' := by rw [← Nat.succ_mul]; exact Nat.mul_le_mul_right _ hnl
  have hul : us.length = xs.length * es' := by rw [hus2]; have := (d1.app (d3.app d4)).len; rw [← rows_split (q := q) (l := ds.length) hle hn, flatten_len hle] at this; exact this
  have hcz : xs.length * es' ≤ cur.size := by
    have := congrArg List.length hus
    rw [List.length_take, hul] at this
    have h6 : cur.toList.length = cur.size := Array.length_toList
    omega
  have hst := run_storeCells_at P (β k).blk off E' (a.eval z).cells.toList 0 cur w hgb (by simp; omega) hcs.oneCells
  simp only [Nat.add_zero, Array.length_toList] at hst
  have he : (execOp a.eval o).run P w = .ok .skip (w.setRow (β k).blk (cur.toList.take off ++ (a.eval z).cells.toList ++ cur.toList.drop (off + (a.eval z).cells.size)).toArray) := by
    have hszz : (a.eval z).cells.size = j.size := by omega
    simp only [execOp, ho, hv, Instr.storeAt, Instr.sureAddr, storeVar, sizeOf, typeInfo, program, Sem.run_bind, Sem.run, Sem.run_pure, Result.andThen_ok, hj, hszz, ne_eq, not_true_eq_false, if_false]
    rw [hszz] at hst
    simp [hst]
  unfold Oper.wp
  rw [he, Oper.upon_skip, hd]
  generalize hcnew : (cur.toList.take off ++ (a.eval z).cells.toList ++ cur.toList.drop (off + (a.eval z).cells.size)).toArray = cnew
  have hkb : (β k).Own (β k).blk := .inr (hsub _ (by simp))
  have hother : ∀ b', b' ≠ (β k).blk → (w.setRow (β k).blk cnew).heap[b']? = w.heap[b']? := fun b' hb' => setRow_other w _ b' _ hb'
  have hSo : ∀ b', S b' → (w.setRow (β k).blk cnew).heap[b']? = w.heap[b']? := fun b' hb' => hother b' fun e => (hs.mem.own k _ hk _ hkb).2.1 (e ▸ hb')
  have hfo : ∀ b' ∈ f1 ++ ([] ++ f4), b' ≠ (β k).blk := fun b' hb' e => hbn.1 (by rw [← e]; exact hb')
  refine hK _ _ (h _ _ S β R (hs.mv (f := killL []) (fun y v hy => killL_locs hSo (fun _ h => h) (fun _ _ => ⟨rfl, rfl⟩) hy) ⟨rfl, rfl, rfl, by simp [World.setRow]⟩ (fun b' hb' hno => hother b' fun e => hno _ hk (e ▸ hkb)) (fun _ _ => rfl) (fun l hl => (hs.mem.fix k l hl).2) ?_ (fun b' hb' => ⟨by have := (hs.mem.own k _ hk b' hb').1; simpa [World.setRow] using this, .inl ⟨_, hk, hb'⟩⟩) fun b' hb' => ⟨k, _, .inl rfl, hk, hb'⟩) hR)
  have hcl' : (c.take q ++ ds ++ c.drop (q + ds.length)).length = es' := by simp; omega
  have hle' : ∀ y ∈ xs.set n (c.take q ++ ds ++ c.drop (q + ds.length)), y.length = es' := fun y hy => by
    rcases List.mem_or_eq_of_mem_set hy with hy | hy
    · exact hle y hy
    · rw [hy]; exact hcl'
  refine ⟨m1, by simpa using m2, hle', m3, (β k).blk :: (f1 ++ f4), ?_, fun b' hb' => hsub b' (by simpa using hb'), by simpa using hnd⟩
  have hz1 : RepT w ds (a.eval z).cells.toList [] := by obtain ⟨f0, hcs, _⟩ := hcs; exact hcs.flatT hfl
  have hnew : RepT (w.setRow (β k).blk cnew) (xs.set n (c.take q ++ ds ++ c.drop (q + ds.length))).flatten (v1 ++ ((a.eval z).cells.toList ++ v4)) (f1 ++ ([] ++ f4)) := by
    rw [rows_set hn]
    exact (d1.app (hz1.app d4)).keep fun b' hb' => hother b' (hfo b' hb')
  rw [hsv]
  have := RepT.sl1 (w := w.setRow (β k).blk cnew) (ys := xs.set n (c.take q ++ ds ++ c.drop (q + ds.length))) (n := xs.length) (cap := cap) (es := es') (c := cnew) (E := E') (b := (β k).blk) hnew (by simp) (by omega) hcap h48 hle' (setRow_heap w _ cur _ E' _ hgb) ?_ .nil
  · simpa using this
  · have hcur : cur.toList = (v1 ++ (v3 ++ v4)) ++ cur.toList.drop (xs.length * es') := by rw [← hus2, hus]; exact (List.take_append_drop _ _).symm
    have h4 := hul
    rw [hus2] at h4
    simp only [List.length_append] at h4
    rw [← hcnew, hcur]
    have e1 : ((v1 ++ (v3 ++ v4)) ++ cur.toList.drop (xs.length * es')).take off = v1 := by
      rw [List.append_assoc]; exact List.take_left' hl1
    have e2 : ((v1 ++ (v3 ++ v4)) ++ cur.toList.drop (xs.length * es')).drop (off + (a.eval z).cells.size) = v4 ++ cur.toList.drop (xs.length * es') := by
      rw [← List.append_assoc v1, List.append_assoc (v1 ++ v3)]
      exact List.drop_left' (by simp; omega)
    simp only [List.toList_toArray]
    rw [e1, e2]
    rw [show v1 ++ (a.eval z).cells.toList ++ (v4 ++ cur.toList.drop (xs.length * es')) = (v1 ++ ((a.eval z).cells.toList ++ v4)) ++ cur.toList.drop (xs.length * es') by simp [List.append_assoc]]
    refine (List.take_left' ?_).symm
    simp only [List.length_append, Array.length_toList]
    omega

/-- The slice that stands in an element is read: its value is kept in mind. -/
theorem aOps_loadM {k off m q E es d : Nat} {xs ys : List (List Da)} {c : List Da} {de : TypeDesc} (ho : o.op = .load t x) (hg : o.guard = none) (hdst : o.dst = some d) (hdn : d < Γ.n) (ht : P.underlying t = some de) (hde : aggD de = false) (hx : s.ev x = some (.one (.op k off))) (hk : s.gob k = some (.mt E es xs)) (hn : xs[m]? = some c) (hq : c[q]? = some (.sl ys)) (hoff : off = m * es + q)
    (h : ∀ a n cc, aOps Γ P ops rest K ((s.setOb k (.mu E es xs m q a n cc)).upd (some d) (.one (.raw a n cc)) [])) : aOps Γ P ops (o :: rest) K s := by
  intro a w S β R hs hR
  refine wpList_plain hg fun K' hK => ?_
  have h1 := (hs.eval hx).one_inv
  have hnl : m < xs.length := (List.getElem?_eq_some_iff.1 hn).1
  obtain ⟨m1, m2, hle, m3, fp, hrep, hsub, hnd⟩ := hs.mem.ob k _ hk
  have hcl : c.length = es := hle c (List.mem_of_getElem? hn)
  have hql : q < c.length := (List.getElem?_eq_some_iff.1 hq).1
  obtain ⟨us, fi, b, cap, es', cur, E', hsv, hrows, hcap, h48, hes', hgb, hus, hfpe⟩ := hrep.sl_inv (by omega)
  have hb := m3 _ _ _ hsv (by omega)
  simp only [Addr.mk.injEq, and_true] at hb
  subst hb
  have hee : es' = es := by rw [← hes' c (List.mem_of_getElem? hn), hcl]
  subst hee
  subst hfpe
  generalize hv : a.eval x = v at h1
  cases h1
  have hmid : (c.drop q).take 1 = [.sl ys] := by rw [List.take_one, List.head?_drop, hq]; rfl
  rw [rows_split (q := q) (l := 1) hle hn, hmid] at hrows
  obtain ⟨v1, v2, f1, f2, hus2, rfl, d1, d2⟩ := hrows.split
  obtain ⟨v3, v4, f3, f4, rfl, rfl, d3, d4⟩ := d2.split
  obtain ⟨u, rfl⟩ := d3.one
  have hl1 : v1.length = off := by rw [d1.len, List.length_append, flatten_take_len hle (Nat.le_of_lt hnl), List.length_take, hcl]; omega
  obtain ⟨ua, uc, rfl⟩ := d3.sl_form
  have hcell : w.cell? ⟨(β k).blk, off, none⟩ = some (.slice ua ys.length uc) := by
    rw [cell_of_cells hgb, ← Array.getElem?_toList]
    have h5 : us[off]? = some (.slice ua ys.length uc) := by rw [hus2, List.getElem?_append_right (by omega), hl1, Nat.sub_self]; rfl
    rw [hus, List.getElem?_take] at h5
    split at h5
    · exact h5
    · simp at h5
  have he : (execOp a.eval o).run P w = .ok (.value (.slice ua ys.length uc)) w := by
    simp [execOp, ho, hv, Instr.loadAt, Instr.sureAddr, loadVar, run_isAgg ht, hde, run_load, hcell]
  unfold Oper.wp
  rw [he, Oper.upon_value, hdst]
  have hs1 : Sim Γ (s.setOb k (.mu E es' xs m q ua ys.length uc)) a w S β := hs.setX hk fun hX => ⟨hX, hsub _ (by simp), ⟨c, ys, hn, hq⟩, by rw [← hoff]; exact hcell⟩
  exact hK _ _ (h ua ys.length uc _ _ S β R (hs1.upd (Grow.refl hs1.mem.lt) (RepV.one .raw) (by simpa using hdn) rfl) hR)

theorem RepVs.noObs {w : World} {S : Nat → Prop} {β β' : Nat → OLoc} {ys : List AV} {vs : List Value} (h : RepVs w S β ys vs) (hi : AV.idsT ys = []) : RepVs w S β' ys vs := h.mono (fun _ _ => rfl) (fun _ h => h) (by simp [hi])
def blkOf : Option Addr → Nat
  | some ad => ad.block
  | none => 0
/-- A call that is handed the slice that stands in an element; it writes there, and leaves it in its place. -/
theorem aOps_callM {k E es m q n0 c0 E' es' : Nat} {a0 : Option Addr} {xs ys0 ys1 : List (List Da)} {row : List Da} {c : Operand} {ag : List Operand} {ts : Array TypeId} {f : FuncId} {fn : Func} {zs : List AV} {r : AV} (ho : o.op = .call { callee := .value c, args := ag.toArray, argTypes := ts }) (hg : o.guard = none) (hd : o.dst.all (· < Γ.n) = true)
    (hc : s.ev c = some (.one (.d (.fn f)))) (has : argsA s.ev ag = some (.one (.raw a0 n0 c0) :: zs)) (hzs : AV.idsT zs = []) (hk : s.gob k = some (.mu E es xs m q a0 n0 c0)) (hn : xs[m]? = some row) (hq : row[q]? = some (.sl ys0)) (hes0 : ∀ y ∈ ys0, y.length = es')
    (hf : P.funcs[f]? = some fn) (hb : fn.body.isNone = false) (hname : (fn.name == "runtime.NumGoroutine") = false) (hx : XCall P f (.one (.ol 2000) :: zs) r [(2000, .mt E' es' ys0)] [(2000, .mt E' es' ys1)] []) (hr : ∀ (w w' : World) (S S' : Nat → Prop) (β β' : Nat → OLoc) (v : Value), RepV w S β r v → RepV w' S' β' r v)
    (h : aOps Γ P ops rest K ((s.mv (killL []) k [] (.mt E es (xs.set m (row.take q ++ [Da.sl ys1] ++ row.drop (q + 1))))).upd o.dst r [])) : aOps Γ P ops (o :: rest) K s := by
  intro a w S β R hs hR
  refine wpList_plain hg fun K' hK => ?_
  have hev := (hs.eval hc).fn_inv
  have h1 := argsA_rep (w := w) (S := S) (β := β) (ρ := a.eval) ag _ (fun x X hx _ => hs.eval hx) has
  have hnl : m < xs.length := (List.getElem?_eq_some_iff.1 hn).1
  obtain ⟨⟨m1, m2, hle, m3, fp, hrep, hsub, hnd⟩, hbs, _, hcell⟩ := hs.mem.ob k _ hk
  have hcl : row.length = es := hle row (List.mem_of_getElem? hn)
  have hql : q < row.length := (List.getElem?_eq_some_iff.1 hq).1
  obtain ⟨us, fi, b, cap, es2, cur, E2, hsv, hrows, hcap, h48, hes2, hgb, hus, hfpe⟩ := hrep.sl_inv (by omega)
  have hbb := m3 _ _ _ hsv (by omega)
  simp only [Addr.mk.injEq, and_true] at hbb
  subst hbb
  have hee : es2 = es := by rw [← hes2 row (List.mem_of_getElem? hn), hcl]
  subst hee
  subst hfpe
  have hmid : (row.drop q).take 1 = [.sl ys0] := by rw [List.take_one, List.head?_drop, hq]; rfl
  rw [rows_split (q := q) (l := 1) hle hn, hmid] at hrows
  obtain ⟨v1, v2, f1, f2, hus2, rfl, d1, d2⟩ := hrows.split
  obtain ⟨v3, v4, f3, f4, rfl, rfl, d3, d4⟩ := d2.split
  obtain ⟨u, rfl⟩ := d3.one
  have hl1 : v1.length = m * es2 + q := by rw [d1.len, List.length_append, flatten_take_len hle (Nat.le_of_lt hnl), List.length_take, hcl]; omega
  have hu : u = .slice a0 n0 c0 := by
    rw [cell_of_cells hgb, ← Array.getElem?_toList] at hcell
    have h5 : us[m * es2 + q]? = some u := by rw [hus2, List.getElem?_append_right (by omega), hl1, Nat.sub_self]; rfl
    rw [hus, List.getElem?_take] at h5
    split at h5
    · rw [h5] at hcell; simpa using hcell
    · simp at h5
  subst hu
  have hbn := List.nodup_cons.1 hnd
  have hn1 := List.nodup_append.1 hbn.2
  have hn2 := List.nodup_append.1 hn1.2.1
  -- the memory that the call is handed
  let lc : OLoc := { blk := blkOf a0, sa := a0, sn := n0, sc := c0, has := false, sub := f3, clm := [] }
  have hlsv : lc.sv = .slice a0 n0 c0 := rfl
  let βc : Nat → OLoc := fun p => if p = 2000 then lc else β p
  have hβ2 : βc 2000 = lc := if_pos rfl
  have hf3own : ∀ b ∈ f3, (β k).Own b := fun b hb => .inr (hsub b (by simp [hb]))
  have hys : ys0.length ≤ 281474976710656 := by
    by_cases h0 : 0 < ys0.length
    · obtain ⟨_, _, _, _, _, _, _, _, _, _, h, _⟩ := d3.sl_inv h0; exact h
    · omega
  have hargs : RepVs w S βc (.one (.ol 2000) :: zs) (ag.map a.eval) := by
    generalize hvs : ag.map a.eval = vs at h1
    cases h1 with
    | one h5 h6 =>
      cases h5
      refine .one ?_ (h6.noObs hzs)
      have : (Value.slice a0 n0 c0) = (βc 2000).sv := by rw [hβ2]; rfl
      rw [this]; exact .ol
  have hown : ∀ b, lc.Own b → b ∈ f3 := fun b hb => by
    rcases hb with ⟨h, _⟩ | hb
    · simp [lc] at h
    · exact hb
  have hin : InOk w S βc [(2000, .mt E' es' ys0)] := by
    refine ⟨fun p hp => ?_, fun p hp b hb => ?_, fun p hp p' hp' _ _ _ => ?_, fun p hp b hb => ?_, fun p hp p' hp' _ _ _ => ?_⟩
    · simp at hp; subst hp
      rw [hβ2]
      refine ⟨rfl, hys, hes0, fun ad nn cc hsv hpos => ?_, f3, d3, fun b hb => hb, hn2.1⟩
      rw [hlsv] at hsv
      cases hsv
      cases d3 with
      | sl0 _ => omega
      | sl1 => rfl
    · simp at hp; subst hp
      rw [hβ2] at hb
      have := hs.mem.own k _ hk b (hf3own b (hown b hb))
      exact ⟨this.1, this.2.1⟩
    · simp at hp hp'; subst hp; subst hp'; rfl
    · simp at hp; subst hp; rw [hβ2] at hb; cases hb
    · simp at hp hp'; subst hp; subst hp'; rfl
  have hpass : ∀ b, passOf [(2000, .mt E' es' ys0)] βc b → b ∈ f3 := fun b ⟨p, hp, hb⟩ => by
    simp at hp; subst hp; rw [hβ2] at hb; exact hown b hb
  have he : (execOp a.eval o).run P w = .ok (.enter f (ag.map a.eval).toArray) w := by
    simp only [execOp, ho, resolve, hev, Deferred.ofValue, Sem.run_bind, Sem.run_pure, Result.andThen_ok, invoke, List.map_toArray]
    rw [show (#[] : Array Value) ++ (ag.map a.eval).toArray ++ #[] = (ag.map a.eval).toArray by simp]
    exact run_call_func hf hb hname _ _
  unfold Oper.wp
  rw [he, Oper.upon_enter]
  refine (hx w S βc _ hs.mem.lt hargs hin).mono ?_
  rintro e w' ⟨v, S', β', rfl, hG, hrv⟩
  have hkeep : ∀ b, b < w.heap.size → b ∉ f3 → w'.heap[b]? = w.heap[b]? := fun b hb hn => hG.block b hb fun hp => hn (hpass b hp)
  have hlt : ∀ b, (β k).Own b → b < w.heap.size := fun b hb => (hs.mem.own k _ hk b hb).1
  have hS : ∀ b, S b → w'.heap[b]? = w.heap[b]? := fun b hb => hkeep b (hs.mem.lt b hb) fun hm => (hs.mem.own k _ hk b (hf3own b hm)).2.1 hb
  have hloc : β' 2000 = lc := by rw [hG.loc 2000 (by simp), hβ2]
  obtain ⟨_, _, hley, _, f5, hrep5, hsub5, hnd5⟩ := hG.ob (2000, .mt E' es' ys1) (by simp)
  dsimp only at hrep5 hsub5
  rw [hloc] at hrep5 hsub5
  have hsub5' : ∀ b ∈ f5, b ∈ f3 := hsub5
  have hmv := hs.mv (w' := w') (β' := β) (f := killL []) (k := k) (ks := []) (X := .mt E es2 (xs.set m (row.take q ++ [Da.sl ys1] ++ row.drop (q + 1)))) (fun y v hy => killL_locs hS (fun _ h => h) (fun _ _ => ⟨rfl, rfl⟩) hy) ⟨hG.os, hG.tape, hG.output, hG.size⟩
    (fun b hb hno => hkeep b hb fun hm => hno _ hk (hf3own b hm)) (fun _ _ => rfl) (fun l hl => (hs.mem.fix k l hl).2) (by
      have hcl' : (row.take q ++ [Da.sl ys1] ++ row.drop (q + 1)).length = es2 := by simp; omega
      have hle' : ∀ y ∈ xs.set m (row.take q ++ [Da.sl ys1] ++ row.drop (q + 1)), y.length = es2 := fun y hy => by
        rcases List.mem_or_eq_of_mem_set hy with hy | hy
        · exact hle y hy
        · rw [hy]; exact hcl'
      refine ⟨m1, by simpa using m2, hle', m3, (β k).blk :: (f1 ++ (f5 ++ f4)), ?_, fun b hb => hsub b ?_, ?_⟩
      · have hnew : RepT w' (xs.set m (row.take q ++ [Da.sl ys1] ++ row.drop (q + 1))).flatten (v1 ++ ([.slice a0 n0 c0] ++ v4)) (f1 ++ (f5 ++ f4)) := by
          rw [rows_set (l := 1) hn]
          refine (d1.keep fun b hb => hkeep b (hlt b (.inr (hsub b (by simp [hb])))) fun hm => ?_).app (hrep5.app (d4.keep fun b hb => hkeep b (hlt b (.inr (hsub b (by simp [hb])))) fun hm => ?_))
          · exact hn1.2.2 b hb b (by simp [hm]) rfl
          · exact hn2.2.2 b hm b hb rfl
        have hgb' : w'.heap[(β k).blk]? = some (.cells cur E2 (0, 0)) := (hkeep _ (hlt _ (.inr hbs)) fun hm => hbn.1 (by simp [hm])).trans hgb
        have h9 := RepT.sl1 (cap := cap) (es := es2) (c := cur) (E := E2) (b := (β k).blk) (n := xs.length) hnew (by simp) (by omega) hcap h48 hle' hgb' (by rw [← hus, hus2]) RepT.nil
        rw [hsv]
        simpa using h9
      · simp only [List.mem_cons, List.mem_append] at hb ⊢
        rcases hb with hb | hb | hb | hb
        · exact .inl hb
        · exact .inr (.inl hb)
        · exact .inr (.inr (.inl (hsub5' b hb)))
        · exact .inr (.inr (.inr hb))
      · refine List.nodup_cons.2 ⟨fun hm => hbn.1 ?_, List.nodup_append.2 ⟨hn1.1, List.nodup_append.2 ⟨hnd5, hn2.2.1, fun b hb b' hb' e => hn2.2.2 b (hsub5' b hb) b' hb' e⟩, fun b hb b' hb' e => ?_⟩⟩
        · simp only [List.mem_append] at hm ⊢
          rcases hm with hm | hm | hm
          · exact .inl hm
          · exact .inr (.inl (hsub5' _ hm))
          · exact .inr (.inr hm)
        · rcases List.mem_append.1 hb' with hb' | hb'
          · exact hn1.2.2 b hb b' (by simp [hsub5' _ hb']) e
          · exact hn1.2.2 b hb b' (by simp [hb']) e)
    (fun b hb => ⟨Nat.lt_of_lt_of_le (hlt b hb) hG.size, .inl ⟨_, hk, hb⟩⟩) fun b hb => ⟨k, _, .inl rfl, hk, hb⟩
  have hput := hmv.upd (dst := o.dst) (y := r) (v := v) (nob := []) (Grow.refl hmv.mem.lt) (hr _ _ _ _ _ _ _ hrv) hd rfl
  exact hK _ _ (h _ _ S β R hput hR)

section
variable {tab : List (Nat × TI)} {i : TI}
theorem os_lenM (hT : TabOk P tab) {k E es : Nat} {xs : List (List Da)} {e : Nat} (ho : o.op = .call { callee := .builtin .len, args := #[x], argTypes := #[t] }) (hx : s.ev x = some (.one (.ol k))) (hk : s0.gob k = some (.mt E es xs)) (ht : look tab t = some i) (hp : i.pr = 4) (he : i.el = some e) : OpS P o s s0 (Z xs.length) [] := by
  obtain ⟨d, j, hd, hj, h1, h2, h3, h4, h5, h6, h7⟩ := tiOf_some (hT t i ht)
  have := slice_of (h4.trans he) (h6.trans hp); subst this
  exact ⟨_, opP_lenM ho hd hx, hk, trivial⟩
theorem os_indexM (hT : TabOk P tab) {k' E es : Nat} {xs : List (List Da)} {k : IntKind} {n : Nat} {e : Nat} {i2 : TI} (ho : o.op = .indexAddr t x z) (ht : look tab t = some i) (hp : i.pr = 4) (he : i.el = some e) (ht2 : look tab e = some i2) (hx : s.ev x = some (.one (.ol k'))) (hk : s0.gob k' = some (.mt E es xs)) (h2 : i2.n = es) (hz : s.ev z = some (I k (n : Int))) (hn : n < xs.length) : OpS P o s s0 (.one (.op k' (n * es))) [] := by
  obtain ⟨d, j, hd, hj, g1, g2, g3, g4, g5, g6, g7⟩ := tiOf_some (hT t i ht)
  obtain ⟨d2, j2, hd2, hj2, f1, f2, f3, f4, f5, f6, f7⟩ := tiOf_some (hT e i2 ht2)
  have := slice_of (g4.trans he) (g6.trans hp); subst this
  exact ⟨_, opP_indexM ho hd hj2 (f2.trans h2) hx hz hn, hk, trivial⟩
end

/-- A slice of data is asked whether it is nil. -/
theorem aOps_nilD {d : Nat} {xs : List (List Da)} {e t' : TypeId} (ho : o.op = .binOp .eql t x z t') (hg : o.guard = none) (hdst : o.dst = some d) (hdn : d < Γ.n) (ht : P.underlying t = some (.slice e)) (hx : s.ev x = some (L xs)) (hz : s.ev z = some (.one .e0))
    (h1 : xs.flatten = [] → aOps Γ P ops rest K (s.upd (some d) (B true) [])) (h2 : aOps Γ P ops rest K (s.upd (some d) (B false) [])) : aOps Γ P ops (o :: rest) K s := by
  intro a w S β R hs hR
  refine wpList_plain hg fun K' hK => ?_
  have hX := (hs.eval hx).one_inv
  have hZ := (hs.eval hz).one_inv
  generalize hv : a.eval x = v at hX
  generalize hw : a.eval z = u at hZ
  cases hZ
  cases hX with
  | d hX =>
    obtain ⟨ad, cap, rfl, _, _, hc⟩ := hX.sl_inv
    have he : (execOp a.eval o).run P w = .ok (.value (.bool ad.isNone)) w := by
      have hb : ∀ p q, binOp .eql t p q = (do pure (.bool (← Op.equal t p q))) ∨ True := fun _ _ => .inr trivial
      simp [execOp, ho, hv, hw, binOp, eqGuard, run_equal_slice_nil w t e ad xs.length cap ht]
    unfold Oper.wp
    rw [he, Oper.upon_value, hdst]
    cases ad with
    | none =>
      rcases hc with hc | ⟨_, _, _, _, hc, _⟩
      · exact hK _ _ (h1 hc _ _ S β R (hs.upd (Grow.refl hs.mem.lt) (RepV.bool _) (by simpa using hdn) rfl) hR)
      · cases hc
    | some ad => exact hK _ _ (h2 _ _ S β R (hs.upd (Grow.refl hs.mem.lt) (RepV.bool _) (by simpa using hdn) rfl) hR)
end

end AM
end Go.Proofs.Ytfcmmpmdofejeaa
