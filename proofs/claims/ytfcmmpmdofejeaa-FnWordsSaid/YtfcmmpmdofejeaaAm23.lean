/- Lists of the call's own in parts: slices of them, and what may be done with these; no conditions. -/
import Derived.Test.YtfcmmpmdofejeaaAm22
import Derived.Lib.AppendZeros
import Derived.Lib.Overlaps
import Derived.Laws.CopyRow
import Derived.Lib.AppendZerosOnto
import Derived.Deep.AppendSrc
set_option linter.unusedSimpArgs false
set_option linter.unusedVariables false
namespace Go.Proofs.Ytfcmmpmdofejeaa
namespace AM
open Go

/-- A block whose first rows are known. -/
def PRep (w : World) (S : Nat → Prop) (l : OLoc) (E es : Nat) (xs : List (List Da)) : Prop :=
  xs.length ≤ l.sc ∧ (xs.length ≤ 281474976710656 ∧ l.sc ≤ maxLen) ∧ (∀ x ∈ xs, x.length = es) ∧
    ((l.has = true ∧ ∃ cur, w.heap[l.blk]? = some (.cells cur E (0, 0)) ∧ cur.size = l.sc * es ∧ RepDs w S xs.flatten (cur.toList.take (xs.length * es))) ∨ (l.has = false ∧ l.sc = 0))
/-- A list, as it is, or with all its room. -/
def mkP (c : Option Nat) (E es : Nat) (xs : List (List Da)) : Ob := match c with
  | none => .lst E es xs
  | some c => .fu E es xs c
def sideP (c : Option Nat) (l : OLoc) (n : Nat) : Prop := match c with
  | none => l.sn = n ∧ (l.has = true → l.sa = some ⟨l.blk, 0, none⟩)
  | some c => l.sc = c
theorem mkP_ids (c : Option Nat) (E es : Nat) (xs : List (List Da)) : (mkP c E es xs).ids = [] := by cases c <;> rfl
theorem lst_iff {w : World} {S : Nat → Prop} {β : Nat → OLoc} {l : OLoc} {E es : Nat} {xs : List (List Da)} : ObRep w S β l (.lst E es xs) ↔ PRep w S l E es xs ∧ l.sn = xs.length ∧ (l.has = true → l.sa = some ⟨l.blk, 0, none⟩) := by
  constructor
  · rintro (⟨h1, h2, h3, vs, h4, h5⟩ | ⟨h1, rfl, a, h2⟩)
    · rcases h4.2 with ⟨hn, h0⟩ | ⟨g, cap, cur, hsv, _, hg, hcap, hcm, hcs, htk⟩
      · rw [hn] at h1
        simp only [OLoc.sv, Value.slice.injEq] at hn
        obtain ⟨e1, e2, e3⟩ := hn
        have hh : l.has = false := by
          cases e : l.has
          · rfl
          · rw [e] at h1; simp [Value.ownBlock] at h1
        exact ⟨⟨by omega, ⟨h2, by rw [e3]; exact Nat.zero_le _⟩, h3, .inr ⟨hh, e3⟩⟩, by omega, by simp [hh]⟩
      · rw [hsv] at h1
        simp only [OLoc.sv, Value.slice.injEq] at hsv
        obtain ⟨e1, e2, e3⟩ := hsv
        simp only [Value.ownBlock] at h1
        split at h1
        · rename_i hh
          simp at h1
          subst h1
          exact ⟨⟨by omega, ⟨h2, by omega⟩, h3, .inl ⟨hh, cur, hg, by rw [hcs, e3], by rw [htk]; exact h5⟩⟩, e2, fun _ => e1⟩
        · simp at h1
    · simp only [OLoc.sv, Value.slice.injEq] at h2
      exact ⟨⟨by simp, ⟨by simp, by rw [h2.2.2]; exact Nat.zero_le _⟩, by simp, .inr ⟨h1, h2.2.2⟩⟩, by simpa using h2.2.1, by simp [h1]⟩
  · rintro ⟨⟨h1, ⟨h2, h2'⟩, h3, h4⟩, h5, h6⟩
    rcases h4 with ⟨hh, cur, hg, hcs, hr⟩ | ⟨hh, h0⟩
    · have hsv : l.sv = .slice (some ⟨l.blk, 0, none⟩) xs.length l.sc := by simp [OLoc.sv, h6 hh, h5]
      refine .inl ⟨by rw [hsv, hh]; rfl, h2, h3, _, ⟨?_, .inr ⟨l.blk, l.sc, cur, hsv, Nat.zero_le _, hg, h1, h2', hcs, rfl⟩⟩, hr⟩
      have hz : cur.toList.length = l.sc * es := by simpa using hcs
      rw [List.length_take, hz]
      exact Nat.min_eq_left (Nat.mul_le_mul_right _ h1)
    · have : xs = [] := List.eq_nil_of_length_eq_zero (by omega)
      subst this
      exact .inr ⟨hh, rfl, l.sa, by simp [OLoc.sv, h0, h5]⟩
theorem mkP_rep {c : Option Nat} {w : World} {S : Nat → Prop} {β : Nat → OLoc} {l : OLoc} {E es : Nat} {xs : List (List Da)} : ObRep w S β l (mkP c E es xs) ↔ PRep w S l E es xs ∧ sideP c l xs.length := by
  cases c with
  | none => exact lst_iff
  | some c =>
    constructor
    · rintro ⟨h1, h2, h3, h4, h5⟩
      subst h1
      exact ⟨⟨h2, h3, h4, h5⟩, rfl⟩
    · rintro ⟨⟨h2, h3, h4, h5⟩, h1⟩
      have h1 : l.sc = c := h1
      subst h1
      exact ⟨rfl, h2, h3, h4, h5⟩

theorem rows_cut {xs : List (List Da)} {lo m : Nat} : xs.flatten = (xs.take lo).flatten ++ (((xs.drop lo).take m).flatten ++ (xs.drop (lo + m)).flatten) := by
  rw [← List.flatten_append, ← List.flatten_append]
  congr 1
  rw [← List.drop_drop, List.take_append_drop, List.take_append_drop]
/-- The values of some rows. -/
theorem PRep.part {w : World} {S : Nat → Prop} {l : OLoc} {E es lo m : Nat} {xs : List (List Da)} (h : PRep w S l E es xs) (hlo : lo + m ≤ xs.length) :
    ∃ vs : List Value, vs.length = m * es ∧ RepDs w S ((xs.drop lo).take m).flatten vs ∧ (0 < m → l.has = true) ∧ ∀ j u, vs[j]? = some u → w.cell? ⟨l.blk, lo * es + j, none⟩ = some u := by
  obtain ⟨h1, _, h3, h4⟩ := h
  by_cases hm : m = 0
  · subst hm
    exact ⟨[], by simp, by simpa using RepDs.nil, by omega, by simp⟩
  · rcases h4 with ⟨hh, cur, hg, hcs, hr⟩ | ⟨_, h0⟩
    · rw [rows_cut (lo := lo) (m := m)] at hr
      obtain ⟨v1, v2, e, d1, d2⟩ := hr.split
      obtain ⟨v3, v4, rfl, d3, d4⟩ := d2.split
      have l1 : v1.length = lo * es := by rw [d1.len, flatten_take_len h3 (by omega)]
      have l3 : v3.length = m * es := by
        rw [d3.len, flatten_len (es := es) (fun y hy => h3 y (List.mem_of_mem_drop (List.mem_of_mem_take hy))), List.length_take, List.length_drop, Nat.min_eq_left (by omega)]
      refine ⟨v3, l3, d3, fun _ => hh, fun j u hu => ?_⟩
      have hj : j < v3.length := (List.getElem?_eq_some_iff.1 hu).1
      rw [cell_of_cells hg, ← Array.getElem?_toList]
      have : (cur.toList.take (xs.length * es))[lo * es + j]? = some u := by
        rw [e, List.getElem?_append_right (by omega), l1, Nat.add_sub_cancel_left, List.getElem?_append_left hj]; exact hu
      rw [List.getElem?_take] at this
      split at this
      · exact this
      · cases this
    · omega
/-- Some rows are written. -/
theorem PRep.put {w : World} {S : Nat → Prop} {l : OLoc} {E es lo : Nat} {xs ys : List (List Da)} {us : List Value} {cur : Array Value} (h : PRep w S l E es xs) (hh : l.has = true) (hg : w.heap[l.blk]? = some (.cells cur E (0, 0))) (hnS : ¬ S l.blk) (hlo : lo ≤ xs.length) (hc : lo + ys.length ≤ l.sc) (h48 : lo + ys.length ≤ 281474976710656) (hes : ∀ y ∈ ys, y.length = es) (hr : RepDs w S ys.flatten us) :
    PRep (w.setRow l.blk (cur.toList.take (lo * es) ++ us ++ cur.toList.drop (lo * es + us.length)).toArray) S l E es (xs.take lo ++ ys ++ xs.drop (lo + ys.length)) := by
  obtain ⟨h1, ⟨h2, h2'⟩, h3, h4⟩ := h
  rcases h4 with ⟨_, cur', hg', hcs, hd⟩ | ⟨hf, _⟩
  rotate_left
  · rw [hh] at hf; cases hf
  have : cur' = cur := by rw [hg] at hg'; simpa using hg'.symm
  subst this
  have hS : ∀ b, S b → (w.setRow l.blk (cur'.toList.take (lo * es) ++ us ++ cur'.toList.drop (lo * es + us.length)).toArray).heap[b]? = w.heap[b]? := fun b hb => setRow_other w _ b _ fun e => hnS (e ▸ hb)
  have lus : us.length = ys.length * es := by rw [hr.len, flatten_len hes]
  have hlen : (xs.take lo ++ ys ++ xs.drop (lo + ys.length)).length = max xs.length (lo + ys.length) := by
    simp only [List.length_append, List.length_take, List.length_drop]; omega
  have hall : ∀ x ∈ xs.take lo ++ ys ++ xs.drop (lo + ys.length), x.length = es := fun x hx => by
    rcases List.mem_append.1 hx with hx | hx
    · rcases List.mem_append.1 hx with hx | hx
      · exact h3 x (List.mem_of_mem_take hx)
      · exact hes x hx
    · exact h3 x (List.mem_of_mem_drop hx)
  have hcz : cur'.toList.length = l.sc * es := by simpa using hcs
  have e1 : lo * es ≤ l.sc * es := Nat.mul_le_mul_right _ (by omega)
  have e2 : lo * es + ys.length * es ≤ l.sc * es := by rw [← Nat.add_mul]; exact Nat.mul_le_mul_right _ hc
  refine ⟨by rw [hlen]; omega, ⟨by rw [hlen]; omega, h2'⟩, hall, .inl ⟨hh, _, setRow_heap w _ cur' _ E _ hg, ?_, ?_⟩⟩
  · simp only [List.size_toArray, List.length_append, List.length_take, List.length_drop, hcz, lus]; omega
  · simp only [List.toList_toArray]
    rw [hlen]
    rw [rows_cut (lo := lo) (m := ys.length)] at hd
    obtain ⟨v1, v2, e, d1, d2⟩ := hd.split
    obtain ⟨v3, v4, rfl, d3, d4⟩ := d2.split
    have l1 : v1.length = lo * es := by rw [d1.len, flatten_take_len h3 hlo]
    have l3 : v3.length = (min ys.length (xs.length - lo)) * es := by
      rw [d3.len, flatten_len (es := es) (fun y hy => h3 y (List.mem_of_mem_drop (List.mem_of_mem_take hy))), List.length_take, List.length_drop]
    have l4 : v4.length = (xs.length - (lo + ys.length)) * es := by
      rw [d4.len, flatten_len (es := es) (fun y hy => h3 y (List.mem_of_mem_drop hy)), List.length_drop]
    have e3 : xs.length * es ≤ l.sc * es := Nat.mul_le_mul_right _ h1
    have hcur : cur'.toList = v1 ++ (v3 ++ v4) ++ cur'.toList.drop (xs.length * es) := by rw [← e]; exact (List.take_append_drop _ _).symm
    have key : (cur'.toList.take (lo * es) ++ us ++ cur'.toList.drop (lo * es + us.length)).take (max xs.length (lo + ys.length) * es) = v1 ++ us ++ v4 := by
      have t1 : cur'.toList.take (lo * es) = v1 := by
        rw [hcur, List.append_assoc]
        exact List.take_left' l1
      rw [t1]
      by_cases hb : lo + ys.length ≤ xs.length
      · have m1 : max xs.length (lo + ys.length) = xs.length := by omega
        have l3' : v3.length = ys.length * es := by rw [l3, Nat.min_eq_left (by omega)]
        have t2 : cur'.toList.drop (lo * es + us.length) = v4 ++ cur'.toList.drop (xs.length * es) := by
          conv => lhs; rw [hcur]
          rw [List.append_assoc, ← List.append_assoc v1, List.append_assoc, ← List.append_assoc, List.append_assoc]
          rw [show v1 ++ (v3 ++ v4 ++ cur'.toList.drop (xs.length * es)) = (v1 ++ v3) ++ (v4 ++ cur'.toList.drop (xs.length * es)) by simp [List.append_assoc]]
          exact List.drop_left' (by rw [List.length_append, l1, l3', lus])
        rw [t2, m1, ← List.append_assoc]
        refine List.take_left' ?_
        have hle : xs.length = lo + (ys.length + (xs.length - (lo + ys.length))) := by omega
        rw [List.length_append, List.length_append, l1, lus, l4]
        conv => rhs; rw [hle]
        rw [Nat.add_mul, Nat.add_mul, Nat.add_assoc]
      · have m1 : max xs.length (lo + ys.length) = lo + ys.length := by omega
        have : v4 = [] := List.eq_nil_of_length_eq_zero (by rw [l4, show xs.length - (lo + ys.length) = 0 by omega]; simp)
        rw [this, m1, List.append_nil]
        refine List.take_left' ?_
        rw [List.length_append, l1, lus, Nat.add_mul]
    rw [key, List.flatten_append, List.flatten_append]
    exact ((d1.app hr).app d4).mono hS fun _ h => h

section
variable {Γ : Cx} {P : Program} {ops : Array Oper} {rest : List Oper} {o : Oper} {K : St → Prop} {s : St} {t : TypeId} {x z : Operand} {av : Operand → Option AV}

theorem opP_lenP {k es lo n : Nat} {e : TypeId} (ho : o.op = .call { callee := .builtin .len, args := #[x], argTypes := #[t] }) (ht : P.underlying t = some (.slice e)) (hx : av x = some (.one (.ps k es lo n))) : OpP P o av [] (Z n) [] := by
  refine opP_val fun a w S β _ hr hu => ⟨goInt n, ?_, RepV.int _ _⟩
  have h := (hr x _ hx (by simp [ho, Op.operands, Call.operands])).one_inv
  generalize hv : a.eval x = v at h
  cases h
  simp [execOp, ho, resolve, invoke, builtin, hv, Builtin.len_, run_underlying ht]
theorem opP_capP {k E es es' lo n c : Nat} {xs : List (List Da)} {e : TypeId} (ho : o.op = .call { callee := .builtin .cap, args := #[x], argTypes := #[t] }) (ht : P.underlying t = some (.slice e)) (hx : av x = some (.one (.ps k es lo n))) : OpP P o av [(k, .fu E es' xs c)] (Z ((c - lo : Nat) : Int)) [] := by
  refine opP_val fun a w S β _ hr hu => ⟨goInt (c - lo : Nat), ?_, RepV.int _ _⟩
  have h := (hr x _ hx (by simp [ho, Op.operands, Call.operands])).one_inv
  have hc : (β k).sc = c := (hu (k, .fu E es' xs c) (by simp)).1
  generalize hv : a.eval x = v at h
  cases h with
  | ps h1 h2 h3 =>
    rename_i c'
    have : c' = c - lo := by omega
    subst this
    simp [execOp, ho, resolve, invoke, builtin, hv, Builtin.cap_, run_underlying ht]
theorem opP_cap0 {e : TypeId} (ho : o.op = .call { callee := .builtin .cap, args := #[x], argTypes := #[t] }) (ht : P.underlying t = some (.slice e)) (hx : av x = some (.one .e0)) : OpP P o av [] (Z 0) [] := by
  refine opP_val fun a w S β _ hr hu => ⟨goInt 0, ?_, RepV.int _ _⟩
  have h := (hr x _ hx (by simp [ho, Op.operands, Call.operands])).one_inv
  generalize hv : a.eval x = v at h
  cases h
  simp [execOp, ho, resolve, invoke, builtin, hv, Builtin.cap_, run_underlying ht]
/-- The address of an element of a part. -/
theorem opP_indexP {k' es lo m : Nat} {k : IntKind} {n : Nat} {e : TypeId} {j : TypeInfo} (ho : o.op = .indexAddr t x z) (ht : P.underlying t = some (.slice e)) (hj : P.info? e = some j) (hes : j.size = es) (hx : av x = some (.one (.ps k' es lo m))) (hz : av z = some (I k (n : Int)))
    (hn : n < m) : OpP P o av [] (.one (.op k' ((lo + n) * es))) [] := by
  refine opP_val fun a w S β _ hr hu => ⟨.pointer (some ⟨(β k').blk, (lo + n) * es, none⟩), ?_, RepV.one .op⟩
  have ez := (hr z _ hz (by simp [ho, Op.operands])).int_inv
  have h := (hr x _ hx (by simp [ho, Op.operands])).one_inv
  generalize hv : a.eval x = v at h
  cases h with
  | ps h1 h2 h3 =>
    have ha := h3 (by omega)
    subst ha
    subst hes
    simp [execOp, ho, hv, ez, Instr.indexAt, run_underlying ht, asIntOf, sizeOf, typeInfo, hj, hn, Nat.not_le.2 hn, add_lit, Nat.add_mul]
/-- A part of a part. -/
theorem opP_sliceP {k0 es lo n : Nat} {lo' hi : Option Operand} {k k' : IntKind} {l h c : Nat} {X0 : Ob} {e : TypeId} {j : TypeInfo} (hX : ∀ w S β, ObRep w S β (β k0) X0 → c ≤ (β k0).sc) (ho : o.op = .slice t x lo' hi none) (ht : P.underlying t = some (.slice e)) (hj : P.info? e = some j) (hes : j.size = es) {X : AV} (hx : av x = some X) (hxr : ∀ w S β v, ObRep w S β (β k0) X0 → RepV w S β X v → RepA w S β (.ps k0 es lo n) v)
    (hlo : (lo' = none ∧ l = 0) ∨ ∃ u, lo' = some u ∧ av u = some (I k (l : Int))) (hhi : (hi = none ∧ h = n) ∨ ∃ u, hi = some u ∧ av u = some (I k' (h : Int))) (hlh : l ≤ h) (hs : h ≤ n ∨ lo + h ≤ c) : OpP P o av [(k0, X0)] (.one (.ps k0 es (lo + l) (h - l))) [] := by
  refine opP_val fun a w S β _ hr hu => ?_
  have h0 := hxr _ _ _ _ (hu (k0, X0) (by simp)) (hr x _ hx (by simp [ho, Op.operands]))
  have hcs := hX w S β (hu (k0, X0) (by simp))
  generalize hv0 : a.eval x = v at h0
  cases h0 with
  | @ps _ _ _ _ ad cap h1 h2 h3 =>
    have hc : h ≤ cap := by omega
    refine ⟨.slice (if cap = l then ad else ad.map (·.add (l * j.size))) (h - l) (cap - l), ?_, RepV.one (.ps (by omega) (by omega) fun hp => ?_)⟩
    · rcases hlo with ⟨rfl, rfl⟩ | ⟨u, rfl, hu⟩ <;> rcases hhi with ⟨rfl, rfl⟩ | ⟨v, rfl, hv⟩
      · simp [execOp, ho, hv0, Instr.sliceAt, Instr.slice, run_underlying ht, Instr.sliceBounds, sizeOf, typeInfo, hj]
      · have e3 := (hr v _ hv (by simp [ho, Op.operands])).int_inv
        simp [execOp, ho, hv0, e3, Instr.sliceAt, Instr.slice, run_underlying ht, Instr.sliceBounds, Instr.sliceBound, asIntOf, hc, Nat.not_lt.2 hc, sizeOf, typeInfo, hj]
      · have e2 := (hr u _ hu (by simp [ho, Op.operands])).int_inv
        simp [execOp, ho, hv0, e2, Instr.sliceAt, Instr.slice, run_underlying ht, Instr.sliceBounds, Instr.sliceBound, asIntOf, hlh, Nat.not_lt.2 hlh, sizeOf, typeInfo, hj]
      · have e2 := (hr u _ hu (by simp [ho, Op.operands])).int_inv
        have e3 := (hr v _ hv (by simp [ho, Op.operands])).int_inv
        simp [execOp, ho, hv0, e2, e3, Instr.sliceAt, Instr.slice, run_underlying ht, Instr.sliceBounds, Instr.sliceBound, asIntOf, hc, hlh, Nat.not_lt.2 hc, Nat.not_lt.2 hlh, sizeOf, typeInfo, hj]
    · have ha := h3 (by omega)
      subst ha
      rw [if_neg (by omega)]
      simp [add_lit, hes, Nat.add_mul]
/-- A part with its room told: nothing is known of it. -/
theorem opP_slice3 {k0 es lo n : Nat} {lo' hi mx : Operand} {k k' k2 : IntKind} {l h m : Nat} {e : TypeId} {j : TypeInfo} (ho : o.op = .slice t x (some lo') (some hi) (some mx)) (ht : P.underlying t = some (.slice e)) (hj : P.info? e = some j) (hx : av x = some (.one (.ps k0 es lo n)))
    (h1 : av lo' = some (I k (l : Int))) (h2 : av hi = some (I k' (h : Int))) (h3 : av mx = some (I k2 (m : Int))) (hlh : l ≤ h) (hhm : h ≤ m) (hm : m ≤ n) : OpP P o av [] (.one .junk) [] := by
  refine opP_val fun a w S β _ hr _ => ?_
  have h0 := (hr x _ hx (by simp [ho, Op.operands])).one_inv
  generalize hv0 : a.eval x = v at h0
  cases h0 with
  | @ps _ _ _ _ ad cap g1 g2 g3 =>
    have hc : m ≤ cap := by omega
    have e1 := (hr lo' _ h1 (by simp [ho, Op.operands])).int_inv
    have e2 := (hr hi _ h2 (by simp [ho, Op.operands])).int_inv
    have e3 := (hr mx _ h3 (by simp [ho, Op.operands])).int_inv
    refine ⟨.slice (if m = l then ad else ad.map (·.add (l * j.size))) (h - l) (m - l), ?_, RepV.one .junk⟩
    simp [execOp, ho, hv0, e1, e2, e3, Instr.sliceAt, Instr.slice, run_underlying ht, Instr.sliceBounds, Instr.sliceBound, asIntOf, hc, hlh, hhm, sizeOf, typeInfo, hj]
/-- The nil slice, cut. -/
theorem opP_slice0 {lo' hi : Option Operand} {k k' : IntKind} {e : TypeId} {j : TypeInfo} (ho : o.op = .slice t x lo' hi none) (ht : P.underlying t = some (.slice e)) (hj : P.info? e = some j) (hx : av x = some (.one .e0))
    (hlo : lo' = none ∨ ∃ u, lo' = some u ∧ av u = some (I k 0)) (hhi : hi = none ∨ ∃ u, hi = some u ∧ av u = some (I k' 0)) : OpP P o av [] (.one .e0) [] := by
  refine opP_val fun a w S β _ hr hu => ?_
  have h0 := (hr x _ hx (by simp [ho, Op.operands])).one_inv
  generalize hv0 : a.eval x = v at h0
  cases h0
  refine ⟨.slice none 0 0, ?_, RepV.one .e0⟩
  rcases hlo with rfl | ⟨u, rfl, hu⟩ <;> rcases hhi with rfl | ⟨v, rfl, hv⟩
  · simp [execOp, ho, hv0, Instr.sliceAt, Instr.slice, run_underlying ht, Instr.sliceBounds, sizeOf, typeInfo, hj]
  · have e3 := (hr v _ hv (by simp [ho, Op.operands])).int_inv
    simp [execOp, ho, hv0, e3, Instr.sliceAt, Instr.slice, run_underlying ht, Instr.sliceBounds, Instr.sliceBound, asIntOf, sizeOf, typeInfo, hj]
  · have e2 := (hr u _ hu (by simp [ho, Op.operands])).int_inv
    simp [execOp, ho, hv0, e2, Instr.sliceAt, Instr.slice, run_underlying ht, Instr.sliceBounds, Instr.sliceBound, asIntOf, sizeOf, typeInfo, hj]
  · have e2 := (hr u _ hu (by simp [ho, Op.operands])).int_inv
    have e3 := (hr v _ hv (by simp [ho, Op.operands])).int_inv
    simp [execOp, ho, hv0, e2, e3, Instr.sliceAt, Instr.slice, run_underlying ht, Instr.sliceBounds, Instr.sliceBound, asIntOf, sizeOf, typeInfo, hj]
/-- A list is a part of itself. -/
theorem RepA.ps_of_ol {w : World} {S : Nat → Prop} {β : Nat → OLoc} {k E es : Nat} {xs : List (List Da)} {v : Value} (hX : ObRep w S β (β k) (.lst E es xs)) (h : RepA w S β (.ol k) v) : RepA w S β (.ps k es 0 xs.length) v := by
  cases h
  obtain ⟨⟨h1, _, _, h4⟩, h5, h6⟩ := lst_iff.1 hX
  simp only [OLoc.sv]
  rw [h5]
  refine .ps h1 (by omega) fun hp => ?_
  rcases h4 with ⟨hh, _⟩ | ⟨_, h0⟩
  · rw [h6 hh]; simp
  · omega
end

/-! What is written -/
theorem run_loadCells_zero (P : Program) (w : World) (a : Addr) : (loadCells a 0).run P w = .ok #[] w := by
  have := run_loadCells_list (P := P) w a [] (by simp)
  simpa using this
theorem run_storeCells_nil (P : Program) (w : World) (a : Addr) (i : Nat) : (storeCells a [] i).run P w = .ok () w := by
  simp [storeCells]
/-- Elements read: a part of a list. -/
theorem Src.of_part {w : World} {S : Nat → Prop} {β : Nat → OLoc} {k E es lo n : Nat} {c : Option Nat} {xs : List (List Da)} {v : Value} (hX : ObRep w S β (β k) (mkP c E es xs)) (h : RepA w S β (.ps k es lo n) v) (hl : lo + n ≤ xs.length) :
    Src w (RepDs w S ((xs.drop lo).take n).flatten) es ((xs.drop lo).take n).length v := by
  obtain ⟨hp, _⟩ := mkP_rep.1 hX
  have hlen : ((xs.drop lo).take n).length = n := by rw [List.length_take, List.length_drop]; omega
  obtain ⟨vs, h1, h2, h3, h4⟩ := hp.part hl
  cases h with
  | @ps _ _ _ _ a cap g1 g2 g3 =>
    rw [hlen]
    refine ⟨by have := hp.2.1.1; omega, ?_⟩
    by_cases hn : n = 0
    · subst hn
      exact .inl ⟨a, cap, rfl, rfl, by simpa using RepDs.nil⟩
    · have ha := g3 (by omega)
      subst ha
      exact .inr ⟨_, cap, vs, rfl, h1, ⟨h2, h2.oneCells⟩, fun j u hu => by rw [add_lit]; exact h4 j u hu⟩
/-- The first ones of what is read. -/
theorem Src.first {w : World} {S : Nat → Prop} {es m : Nat} {ys : List (List Da)} {v : Value} (h : Src w (RepDs w S ys.flatten) es ys.length v) (hes : ∀ y ∈ ys, y.length = es) (hm : m ≤ ys.length) :
    ∃ us, us.length = m * es ∧ RepDs w S (ys.take m).flatten us ∧ ∀ P : Program, (Builtin.lenOf v).run P w = .ok ys.length w ∧ (Builtin.firstCells es m v).run P w = .ok us.toArray w := by
  rcases h.val with ⟨a, c, rfl, h0, _⟩ | ⟨a, c, us, rfl, h1, ⟨h2, _⟩, h3⟩
  · have : m = 0 := by omega
    subst this
    refine ⟨[], by simp, by simpa using RepDs.nil, fun P => ⟨by simp [Builtin.lenOf, h0], ?_⟩⟩
    cases a with
    | none => simp [Builtin.firstCells]
    | some a => simpa [Builtin.firstCells] using run_loadCells_zero P w a
  · have e : ys.flatten = (ys.take m).flatten ++ (ys.drop m).flatten := by rw [← List.flatten_append, List.take_append_drop]
    rw [e] at h2
    obtain ⟨v1, v2, rfl, d1, d2⟩ := h2.split
    have l1 : v1.length = m * es := by rw [d1.len, flatten_take_len hes hm]
    refine ⟨v1, l1, d1, fun P => ⟨by simp [Builtin.lenOf], ?_⟩⟩
    have := run_loadCells_list (P := P) w a v1 (fun j u hu => h3 j u (by rw [List.getElem?_append_left (List.getElem?_eq_some_iff.1 hu).1]; exact hu))
    rw [l1] at this
    simpa [Builtin.firstCells] using this

/-- The first ones of a part, whose end may not be known. -/
theorem part_first {w : World} {S : Nat → Prop} {β : Nat → OLoc} {k E es lo n m : Nat} {c : Option Nat} {xs : List (List Da)} {v : Value} (hX : ObRep w S β (β k) (mkP c E es xs)) (h : RepA w S β (.ps k es lo n) v) (hl : lo + m ≤ xs.length) :
    ∃ us, us.length = m * es ∧ RepDs w S ((xs.drop lo).take m).flatten us ∧ ∀ P : Program, (Builtin.lenOf v).run P w = .ok n w ∧ (m ≤ n → (Builtin.firstCells es m v).run P w = .ok us.toArray w) := by
  obtain ⟨hp, _⟩ := mkP_rep.1 hX
  obtain ⟨vs, h1, h2, h3, h4⟩ := hp.part hl
  cases h with
  | @ps _ _ _ _ a cap g1 g2 g3 =>
    refine ⟨vs, h1, h2, fun P => ⟨by simp [Builtin.lenOf], fun hmn => ?_⟩⟩
    by_cases hm : m = 0
    · subst hm
      have : vs = [] := List.eq_nil_of_length_eq_zero (by simpa using h1)
      subst this
      cases a with
      | none => simp [Builtin.firstCells]
      | some a => simpa [Builtin.firstCells] using run_loadCells_zero P w a
    · have ha := g3 (by omega)
      subst ha
      have := run_loadCells_list (P := P) w ⟨(β k).blk, lo * es, none⟩ vs (fun j u hu => by rw [add_lit]; exact h4 j u hu)
      rw [h1] at this
      simpa [Builtin.firstCells] using this

section
variable {Γ : Cx} {P : Program} {o : Oper} {s : St} {t t' : TypeId} {x z : Operand}
/-- Rows are written into a part: what the world becomes, and what is known of it. -/
theorem Sim.putP {a : Act} {w : World} {S : Nat → Prop} {β : Nat → OLoc} {k E es lo : Nat} {c : Option Nat} {xs ys : List (List Da)} {us : List Value} {ad : Option Addr} {n cap : Nat} (hs : Sim Γ s a w S β) (hk : s.gob k = some (mkP c E es xs)) (hv : RepA w S β (.ps k es lo n) (.slice ad n cap)) (hlo : lo ≤ xs.length) (hn : ys.length ≤ cap) (hroom : c = none → lo + ys.length ≤ xs.length) (h48 : lo + ys.length ≤ 281474976710656)
    (hes : ∀ y ∈ ys, y.length = es) (hr : RepDs w S ys.flatten us) (hl : us.length = ys.length * es) : ∃ w', (∀ b, ad = some b → (storeCells b us).run P w = .ok () w') ∧ (ad = none → w' = w) ∧ Sim Γ (s.setOb k (mkP c E es (xs.take lo ++ ys ++ xs.drop (lo + ys.length)))) a w' S β := by
  have hX := hs.mem.ob k _ hk
  obtain ⟨hp, hside⟩ := mkP_rep.1 hX
  have same : ys.length = 0 → Sim Γ (s.setOb k (mkP c E es (xs.take lo ++ ys ++ xs.drop (lo + ys.length)))) a w S β := fun h0 => by
    have : ys = [] := List.eq_nil_of_length_eq_zero h0
    subst this
    simp only [List.append_nil, List.length_nil, Nat.add_zero, List.take_append_drop]
    exact hs.setX hk fun h => h
  cases hv with
  | ps g1 g2 g3 =>
    by_cases h0 : ys.length = 0
    · have hu : us = [] := List.eq_nil_of_length_eq_zero (by rw [hl, h0]; simp)
      subst hu
      exact ⟨w, fun b _ => run_storeCells_nil P w b 0, fun _ => rfl, same h0⟩
    · have ha := g3 (by omega)
      have hh : (β k).has = true := by
        rcases hp.2.2.2 with ⟨hh, _⟩ | ⟨_, hz⟩
        · exact hh
        · omega
      obtain ⟨cur, hg, hcs⟩ : ∃ cur, w.heap[(β k).blk]? = some (.cells cur E (0, 0)) ∧ cur.size = (β k).sc * es := by
        rcases hp.2.2.2 with ⟨_, cur, h1, h2, _⟩ | ⟨_, hz⟩
        · exact ⟨cur, h1, h2⟩
        · omega
      have hnS := (hs.mem.own k _ hk _ (.inl ⟨hh, rfl⟩)).2.1
      have hput := hp.put hh hg hnS hlo (by omega) h48 hes hr
      refine ⟨_, fun b hb => ?_, fun hn => ?_, hs.setRow hk hh hg (mkP_rep.2 ⟨hput, ?_⟩)⟩
      · rw [ha] at hb
        cases hb
        have e2 : lo * es + us.length ≤ cur.size := by rw [hl, hcs, ← Nat.add_mul]; exact Nat.mul_le_mul_right _ (by omega)
        have := run_storeCells_at P (β k).blk (lo * es) E us 0 cur w hg (by simpa using e2) hr.oneCells
        simpa using this
      · rw [ha] at hn; cases hn
      · cases c with
        | none =>
          have := hroom rfl
          refine ⟨?_, hside.2⟩
          rw [hside.1]
          simp only [List.length_append, List.length_take, List.length_drop]
          omega
        | some c => exact hside
/-- copy into a part: the source has nn rows, of which those that fit are known. -/
theorem xop_copyQ {k E es lo n nn : Nat} {c : Option Nat} {xs ys : List (List Da)} {i : TypeInfo} (ho : o.op = .call { callee := .builtin .copy, args := #[x, z], argTypes := #[t, t'] }) (hd : o.dst.all (· < Γ.n) = true) (ht : P.underlying t = some (.slice E)) (hi : P.info? E = some i) (hes : i.size = es) (hx : s.ev x = some (.one (.ps k es lo n))) (hk : s.gob k = some (mkP c E es xs))
    (hsrc : ∀ a w S β, Sim Γ s a w S β → (∀ y ∈ ys, y.length = es) ∧ ∃ us, us.length = min nn n * es ∧ RepDs w S ys.flatten us ∧ ∀ P : Program, (Builtin.lenOf (a.eval z)).run P w = .ok nn w ∧ (Builtin.firstCells es (min nn n) (a.eval z)).run P w = .ok us.toArray w) (hyl : ys.length = min nn n) (hlo : lo ≤ xs.length) (hroom : c = none → lo + min nn n ≤ xs.length) (h48 : lo + min nn n ≤ 281474976710656) :
    XOp Γ P o s ((s.setOb k (mkP c E es (xs.take lo ++ ys ++ xs.drop (lo + min nn n)))).upd o.dst (Z ((min nn n : Nat) : Int)) []) := by
  intro a w S β K' R hs hK
  have hv := (hs.eval hx).one_inv
  obtain ⟨hyes, us, h1, h2, h3⟩ := hsrc a w S β hs
  obtain ⟨r1, r2⟩ := h3 P
  generalize hva : a.eval x = v at hv
  obtain ⟨ad, cap, rfl, hnc⟩ : ∃ ad cap, v = .slice ad n cap ∧ n ≤ cap := by cases hv; exact ⟨_, _, rfl, by assumption⟩
  obtain ⟨w', g1, g2, g3⟩ := hs.putP (P := P) (ys := ys) hk hv hlo (by rw [hyl]; omega) (by rw [hyl]; exact hroom) (by rw [hyl]; exact h48) hyes h2 (by rw [h1, hyl])
  rw [hyl] at g3
  have he : (execOp a.eval o).run P w = .ok (.value (goInt (min nn n : Nat))) w' := by
    have hm : Nat.min nn n = min nn n := rfl
    have hz : (sizeOf E).run P w = .ok es w := by simp [sizeOf, typeInfo, hi, hes]
    cases ad with
    | none =>
      have := g2 rfl
      subst this
      simp [execOp, ho, resolve, invoke, builtin, hva, Builtin.copy_, run_underlying ht, hz, r1, hm, r2]
    | some b =>
      have := g1 b rfl
      simp [execOp, ho, resolve, invoke, builtin, hva, Builtin.copy_, run_underlying ht, hz, r1, hm, r2, this]
  unfold Oper.wp
  rw [he, Oper.upon_value]
  exact hK _ _ S β (g3.upd (Grow.refl g3.mem.lt) (RepV.int _ _) hd rfl)
end

theorem zeroCells_replicate (z : Array Value) (hz : 0 < z.size) (n : Nat) : (Builtin.zeroCells z n).toList = (List.replicate n z.toList).flatten := madeCells_replicate z hz n
/-- Rows of zeros. -/
theorem zero_rep {P : Program} {w : World} {S : Nat → Prop} {e : TypeId} {n b m : Nat} {cs : List At} {zd : List Da} {j : TypeInfo} {zv : Value} (hz : zv.cells.size = n) (hpos : 0 < n) (hc : constAts zv.cells.toList = some cs) (hzd : toDs cs = some zd) :
    RepDs w S (List.replicate m zd).flatten (Builtin.zeroCells zv.cells m).toList ∧ zd.length = n := by
  have hzr : RepDs w S zd zv.cells.toList := (constAts_rep (w := w) (S := S) (β := fun _ => ⟨0, none, 0, 0, false, [], []⟩) hc).toDs hzd
  refine ⟨?_, by have := hzr.len; simp at this; omega⟩
  rw [zeroCells_replicate _ (by omega)]
  exact replicate_repD hzr m

section
variable {Γ : Cx} {P : Program} {o : Oper} {s : St} {t t' : TypeId} {x z : Operand}
/-- A part is cleared. -/
theorem xop_clearP {k E es lo n b : Nat} {c : Option Nat} {xs : List (List Da)} {cs : List At} {zd : List Da} (hz : ZeroOk P E es b cs) (hzd : toDs cs = some zd) (hpos : 0 < es) (ho : o.op = .call { callee := .builtin .clear, args := #[x], argTypes := #[t] }) (hd : o.dst.all (· < Γ.n) = true) (ht : P.underlying t = some (.slice E)) (hx : s.ev x = some (.one (.ps k es lo n))) (hk : s.gob k = some (mkP c E es xs))
    (hl : lo + n ≤ xs.length) : XOp Γ P o s ((s.setOb k (mkP c E es (xs.take lo ++ List.replicate n zd ++ xs.drop (lo + n)))).upd o.dst (.tup []) []) := by
  intro a w S β K' R hs hK
  obtain ⟨j, zv, z1, z2, z3, z4, z5, z6⟩ := hz
  have hv := (hs.eval hx).one_inv
  generalize hva : a.eval x = v at hv
  obtain ⟨ad, cap, rfl, hnc⟩ : ∃ ad cap, v = .slice ad n cap ∧ n ≤ cap := by cases hv; exact ⟨_, _, rfl, by assumption⟩
  obtain ⟨hzr, hzl⟩ := zero_rep (P := P) (w := w) (S := S) (e := E) (b := b) (m := n) (j := j) z5 hpos z6 hzd
  have hp := mkP_rep.1 (hs.mem.ob k _ hk)
  obtain ⟨w', g1, g2, g3⟩ := hs.putP (P := P) (ys := List.replicate n zd) hk hv (by omega) (by simpa using hnc) (fun _ => by simpa using hl) (by have := hp.1.2.1.1; simp; omega) (fun y hy => by rw [List.eq_of_mem_replicate hy, hzl]) hzr (by simp [size_zeroCells, z5])
  simp only [List.length_replicate] at g3
  have he : (execOp a.eval o).run P w = .ok (.value (.tuple #[])) w' := by
    have hzv : ∀ w, (zeroValue E).run P w = .ok zv w := fun w => by simp [zeroValue, typeInfo, z1, z4]
    cases ad with
    | none =>
      have := g2 rfl
      subst this
      simp [execOp, ho, resolve, invoke, builtin, hva, Builtin.clear_, run_underlying ht]
    | some b =>
      have h1 := g1 b rfl
      cases n with
      | zero =>
        have h0 : (Builtin.zeroCells zv.cells 0).toList = [] := by simp [Builtin.zeroCells]
        rw [h0] at h1
        have : w' = w := by simpa [storeCells] using h1.symm
        subst this
        simp [execOp, ho, resolve, invoke, builtin, hva, Builtin.clear_, run_underlying ht]
      | succ n => simp [execOp, ho, resolve, invoke, builtin, hva, Builtin.clear_, run_underlying ht, hzv, h1]
  unfold Oper.wp
  rw [he, Oper.upon_value]
  exact hK _ _ S β (g3.upd (Grow.refl g3.mem.lt) (RepVs.tup .nil .nil) hd rfl)
/-- A whole row is stored. -/
theorem xop_storeP {k off n E es : Nat} {c : Option Nat} {Zv : AV} {zs : List At} {ds r : List Da} {xs : List (List Da)} {j : TypeInfo} (ho : o.op = .store t x z) (hd : o.dst = none) (hx : s.ev x = some (.one (.op k off))) (hz : s.ev z = some Zv) (hc : Zv.cells = some zs) (hds : toDs zs = some ds) (hk : s.gob k = some (mkP c E es xs)) (hj : P.info? t = some j) (hsz : j.size = ds.length) (hes : ds.length = es) (hn : xs[n]? = some r) (hoff : off = n * es) : XOp Γ P o s (s.setOb k (mkP c E es (xs.set n ds))) := by
  intro a w S β K' R hs hK
  have h1 := (hs.eval hx).one_inv
  have h2 := hs.eval hz
  have hcs := (h2.cells hc).toDs hds
  have hnl : n < xs.length := (List.getElem?_eq_some_iff.1 hn).1
  obtain ⟨hp, hside⟩ := mkP_rep.1 (hs.mem.ob k _ hk)
  generalize hv : a.eval x = v at h1
  cases h1
  have hpar : RepA w S β (.ps k es n 1) (.slice (some ⟨(β k).blk, n * es, none⟩) 1 ((β k).sc - n)) := .ps (by have := hp.1; omega) (by have := hp.1; omega) fun _ => rfl
  obtain ⟨w', g1, _, g3⟩ := hs.putP (P := P) (ys := [ds]) hk hpar (by omega) (by have := hp.1; simp; omega) (fun _ => by simp; omega) (by have := hp.2.1.1; simp; omega) (fun y hy => by rw [List.mem_singleton.1 hy, hes]) (by simpa using hcs) (by have := hcs.len; simp at this ⊢; omega)
  have hset : xs.take n ++ [ds] ++ xs.drop (n + [ds].length) = xs.set n ds := by
    rw [List.set_eq_take_append_cons_drop, if_pos hnl]; simp
  rw [hset] at g3
  have hlz := hcs.len
  have hszz : (a.eval z).cells.size = j.size := by simp at hlz; omega
  have he : (execOp a.eval o).run P w = .ok .skip w' := by
    have := g1 _ rfl
    rw [← hoff] at this
    simp only [execOp, ho, hv, Instr.storeAt, Instr.sureAddr, storeVar, sizeOf, typeInfo, program, Sem.run_bind, Sem.run, Sem.run_pure, Result.andThen_ok, hj, hszz, ne_eq, not_true_eq_false, if_false]
    simp [this]
  unfold Oper.wp
  rw [he, Oper.upon_skip, hd]
  exact hK _ _ S β g3
/-- A row is read. -/
theorem opP_loadP {av : Operand → Option AV} {k off n E es c : Nat} {xs : List (List Da)} {r : List Da} {d : TypeDesc} {j : TypeInfo} (ho : o.op = .load t x) (ht : P.underlying t = some d) (hd : aggD d = true) (hj : P.info? t = some j) (hx : av x = some (.one (.op k off))) (hn : xs[n]? = some r) (hoff : off = n * es) (hc : j.size = es) : OpP P o av [(k, .fu E es xs c)] (.dat r) [] := by
  refine opP_val fun a w S β _ hr hu => ?_
  have h := (hr x _ hx (by simp [ho, Op.operands])).one_inv
  have hnl : n < xs.length := (List.getElem?_eq_some_iff.1 hn).1
  obtain ⟨vs, g1, g2, _, g4⟩ := (mkP_rep (c := some c).1 (hu (k, .fu E es xs c) (by simp))).1.part (lo := n) (m := 1) (by omega)
  have hrow : (xs.drop n).take 1 = [r] := by
    rw [List.take_one]
    simp [hn]
  rw [hrow] at g2
  simp only [List.flatten_cons, List.flatten_nil, List.append_nil] at g2
  generalize hv : a.eval x = v at h
  cases h
  refine ⟨.agg vs.toArray, ?_, RepVs.dat g2 RepVs.nil⟩
  have hld := run_loadCells_list (P := P) w ⟨(β k).blk, off, none⟩ vs (fun q u hu => by rw [add_lit, hoff]; exact g4 q u hu)
  rw [show vs.length = j.size by rw [g1, hc]; simp] at hld
  simp only [execOp, ho, hv, Instr.loadAt, Instr.sureAddr, loadVar, Sem.run_bind, Sem.run_pure, Result.andThen_ok, run_isAgg ht, hd, sizeOf, typeInfo, program, Sem.run, hj, hld, if_true]
theorem opP_loadP1 {av : Operand → Option AV} {k off n E c : Nat} {xs : List (List Da)} {x0 : Da} {d : TypeDesc} (ho : o.op = .load t x) (ht : P.underlying t = some d) (hd : aggD d = false) (hx : av x = some (.one (.op k off))) (hn : xs[n]? = some [x0]) (hoff : off = n) : OpP P o av [(k, .fu E 1 xs c)] (.one (.d x0)) [] := by
  refine opP_val fun a w S β _ hr hu => ?_
  have h := (hr x _ hx (by simp [ho, Op.operands])).one_inv
  have hnl : n < xs.length := (List.getElem?_eq_some_iff.1 hn).1
  obtain ⟨vs, g1, g2, _, g4⟩ := (mkP_rep (c := some c).1 (hu (k, .fu E 1 xs c) (by simp))).1.part (lo := n) (m := 1) (by omega)
  have hrow : (xs.drop n).take 1 = [[x0]] := by
    rw [List.take_one]
    simp [hn]
  rw [hrow] at g2
  simp only [List.flatten_cons, List.flatten_nil, List.append_nil] at g2
  obtain ⟨u, rfl⟩ : ∃ u, vs = [u] := by
    match vs, g1 with
    | [u], _ => exact ⟨u, rfl⟩
  generalize hv : a.eval x = v at h
  cases h
  refine ⟨u, ?_, RepV.one (.d g2)⟩
  have hc := g4 0 u rfl
  simp only [Nat.mul_one, Nat.add_zero] at hc
  rw [← hoff] at hc
  simp [execOp, ho, hv, Instr.loadAt, Instr.sureAddr, loadVar, run_isAgg ht, hd, run_load, hc]
end

section
variable {Γ : Cx} {P : Program} {o : Oper} {s : St} {t t' : TypeId} {x z : Operand}
/-- What is appended to a part: elements read, or so many zeros. -/
structure AppSrc (P : Program) (s : St) (t' : TypeId) (E es : Nat) (zv : Value) (z : Operand) (ys : List (List Da)) : Prop where
  h : ∀ (Γ : Cx) (a : Act) (w : World) (S : Nat → Prop) (β : Nat → OLoc), Sim Γ s a w S β → (∀ y ∈ ys, y.length = es) ∧ ∃ us : List Value, us.length = ys.length * es ∧ RepDs w S ys.flatten us ∧
    ((∃ e', P.underlying t' = some (.slice e') ∧ (Builtin.lenOf (a.eval z)).run P w = .ok ys.length w ∧ (∀ w' : World, (Builtin.lenOf (a.eval z)).run P w' = .ok ys.length w') ∧ (Builtin.firstCells es ys.length (a.eval z)).run P w = .ok us.toArray w ∧ (Builtin.firstCells es ys.length (a.eval z)).run P w.drew = .ok us.toArray w.drew) ∨
     ∃ kn kq, P.underlying t' = some (.int kn) ∧ a.eval z = .int kq ys.length ∧ us = (Builtin.zeroCells zv.cells ys.length).toList)
theorem Src.firstD {w : World} {S : Nat → Prop} {es : Nat} {ys : List (List Da)} {v : Value} (h : Src w (RepDs w S ys.flatten) es ys.length v) :
    ∃ us, us.length = ys.length * es ∧ RepDs w S ys.flatten us ∧ ∀ P : Program, (∀ w' : World, (Builtin.lenOf v).run P w' = .ok ys.length w') ∧ (Builtin.firstCells es ys.length v).run P w = .ok us.toArray w ∧ (Builtin.firstCells es ys.length v).run P w.drew = .ok us.toArray w.drew := by
  rcases h.val with ⟨a, c, rfl, h0, h1⟩ | ⟨a, c, us, rfl, h1, ⟨h2, _⟩, h3⟩
  · refine ⟨[], by simp [h0], h1, fun P => ⟨fun w' => by simp [Builtin.lenOf, h0], ?_⟩⟩
    rw [h0]
    cases a with
    | none => simp [Builtin.firstCells]
    | some a => exact ⟨by simpa [Builtin.firstCells] using run_loadCells_zero P w a, by simpa [Builtin.firstCells] using run_loadCells_zero P w.drew a⟩
  · refine ⟨us, h1, h2, fun P => ⟨fun w' => by simp [Builtin.lenOf], ?_⟩⟩
    have := run_loadCells_list (P := P) w a us (fun j u hu => h3 j u hu)
    have this2 := run_loadCells_list (P := P) w.drew a us (fun j u hu => by simpa using h3 j u hu)
    rw [h1] at this this2
    exact ⟨by simpa [Builtin.firstCells] using this, by simpa [Builtin.firstCells] using this2⟩
theorem appSrc_of {E es e' : Nat} {zv : Value} {ys : List (List Da)} (ht' : P.underlying t' = some (.slice e')) (h : ∀ (Γ : Cx) a w S β, Sim Γ s a w S β → (∀ y ∈ ys, y.length = es) ∧ Src w (RepDs w S ys.flatten) es ys.length (a.eval z)) : AppSrc P s t' E es zv z ys := ⟨fun Γ a w S β hs => by
  obtain ⟨hyes, h⟩ := h Γ a w S β hs
  obtain ⟨us, h1, h2, h3⟩ := h.firstD
  obtain ⟨r1, r2, r3⟩ := h3 P
  exact ⟨hyes, us, h1, h2, .inl ⟨e', ht', r1 w, r1, r2, r3⟩⟩⟩
theorem appSrc_zeros {E es b m : Nat} {kn kq : IntKind} {zv : Value} {cs : List At} {zd : List Da} (ht' : P.underlying t' = some (.int kn)) (hz : zv.cells.size = es) (hpos : 0 < es) (hc : constAts zv.cells.toList = some cs) (hzd : toDs cs = some zd) (hz1 : s.ev z = some (I kq (m : Int))) : AppSrc P s t' E es zv z (List.replicate m zd) := ⟨fun Γ a w S β hs => by
  obtain ⟨h1, h2⟩ := zero_rep (P := P) (w := w) (S := S) (e := E) (b := b) (m := m) (j := default) hz hpos hc hzd
  have := (hs.eval hz1).int_inv
  exact ⟨fun y hy => by rw [List.eq_of_mem_replicate hy, h2], _, by simp [size_zeroCells, hz], h1, .inr ⟨kn, kq, ht', by simpa using this, by simp⟩⟩⟩

/-- An append in place. -/
theorem xop_appIn {k E es lo n b : Nat} {c : Option Nat} {xs ys : List (List Da)} {zv : Value} {i : TypeInfo} (ho : o.op = .call { callee := .builtin .append, args := #[x, z], argTypes := #[t, t'] }) (hd : o.dst.all (· < Γ.n) = true) (ht : P.underlying t = some (.slice E)) (hi : P.info? E = some i) (hes : i.size = es) (hz : i.zero = some zv) (hx : s.ev x = some (.one (.ps k es lo n))) (hk : s.gob k = some (mkP c E es xs))
    (hsrc : AppSrc P s t' E es zv z ys) (hlo : lo + n ≤ xs.length) (hpos : 0 < es) (hroom : lo + n + ys.length ≤ (c.getD xs.length)) (h48 : lo + n + ys.length ≤ 281474976710656) (hb : ys.length * i.bytes ≤ 281474976710656) :
    XOp Γ P o s ((s.setOb k (mkP c E es (xs.take (lo + n) ++ ys ++ xs.drop (lo + n + ys.length)))).upd o.dst (.one (.ps k es lo (n + ys.length))) []) := by
  intro a w S β K' R hs hK
  have hv := (hs.eval hx).one_inv
  obtain ⟨hyes, us, h1, h2, h3⟩ := hsrc.h Γ a w S β hs
  obtain ⟨hp, hside⟩ := mkP_rep.1 (hs.mem.ob k _ hk)
  generalize hva : a.eval x = v at hv
  have hcap : c.getD xs.length ≤ (β k).sc := by
    cases c with
    | none => exact hp.1
    | some c => have : (β k).sc = c := hside; simp [this]
  cases hv with
  | @ps _ _ _ _ ad cap g1 g2 g3 =>
    have hpar : RepA w S β (.ps k es (lo + n) (cap - n)) (.slice (ad.map (·.add (n * es))) (cap - n) (cap - n)) := .ps (Nat.le_refl _) (by omega) fun hp => by rw [g3 (by omega)]; simp [add_lit, Nat.add_mul]
    obtain ⟨w', p1, p2, p3⟩ := hs.putP (P := P) (ys := ys) hk hpar hlo (by omega) (fun e => by subst e; simpa using hroom) h48 hyes h2 h1
    have hroom' : n + ys.length ≤ cap := by omega
    have he : (execOp a.eval o).run P w = .ok (.value (.slice ad (n + ys.length) cap)) w' := by
      have hsz : (sizeOf E).run P w = .ok es w := by simp [sizeOf, typeInfo, hi, hes]
      have hst : ad = none → w' = w := fun e => p2 (by rw [e]; rfl)
      rcases h3 with ⟨e', ht', r0, r1, r2, _⟩ | ⟨kn, kq, ht', hz1, hzu⟩
      · cases ad with
        | none =>
          have := hst rfl
          subst this
          simp [execOp, ho, resolve, invoke, builtin, hva, Builtin.append_, run_underlying ht, run_underlying ht', hsz, r0, hroom', r2]
        | some b =>
          have := p1 _ rfl
          simp [execOp, ho, resolve, invoke, builtin, hva, Builtin.append_, run_underlying ht, run_underlying ht', hsz, r0, hroom', r2, this]
      · have hw : IntKind.i64.wrap (ys.length : Int) = ys.length := by rw [IntKind.wrap_i64]; omega
        have hneg : ¬ ((ys.length : Int) < 0) := by omega
        have h48i : ¬ (281474976710656 < (ys.length : Int) * (i.bytes : Int)) := by rw [← Int.natCast_mul]; omega
        have hzv : (zeroValue E).run P w = .ok zv w := by simp [zeroValue, typeInfo, hi, hz]
        have hti : (typeInfo E).run P w = .ok i w := by simp [typeInfo, hi]
        by_cases h0 : ys.length = 0
        · have hys : ys = [] := List.eq_nil_of_length_eq_zero h0
          subst hys
          simp only [List.length_nil, Nat.zero_mul] at h1 hw hneg h48i
          have hus : us = [] := List.eq_nil_of_length_eq_zero h1
          subst hus
          have hw0 : IntKind.i64.wrap (0 : Int) = 0 := by rw [IntKind.wrap_i64]; rfl
          cases ad with
          | none =>
            have := hst rfl
            subst this
            simp [execOp, ho, resolve, invoke, builtin, hva, hz1, Builtin.append_, run_underlying ht, run_underlying ht', hsz, asInt, asIntOf, hw0, hti, g1]
          | some b =>
            have := p1 _ rfl
            simp [execOp, ho, resolve, invoke, builtin, hva, hz1, Builtin.append_, run_underlying ht, run_underlying ht', hsz, asInt, asIntOf, hw0, hti, g1, this]
        · have hns : ¬ (ys.length * es = 0) := Nat.mul_ne_zero h0 (by omega)
          rw [hzu] at p1
          have hne : ys ≠ [] := fun e => h0 (by rw [e]; rfl)
          have hes0 : es ≠ 0 := by omega
          cases ad with
          | none => exact absurd (g3 (by omega)) (by simp)
          | some b =>
            have := p1 _ rfl
            simp [execOp, ho, resolve, invoke, builtin, hva, hz1, Builtin.append_, run_underlying ht, run_underlying ht', hsz, asInt, asIntOf, hw, hneg, hti, h48i, hns, hne, hes0, hroom', hzv, this]
    unfold Oper.wp
    rw [he, Oper.upon_value]
    refine hK _ _ S β (p3.upd (Grow.refl p3.mem.lt) (RepV.one (.ps hroom' g2 g3)) hd rfl)
end

section
variable {Γ : Cx} {P : Program} {o : Oper} {s : St} {t t' : TypeId} {x z : Operand}
/-- What an append makes that finds no room: a new list. -/
theorem run_appNew {w : World} {S : Nat → Prop} {E es n cap : Nat} {ad : Option Addr} {zv : Value} {i : TypeInfo} {olds ys : List (List Da)} {vs us : List Value} {vz : Value} (ty : TypeId) (ht : P.underlying t = some (.slice E)) (hi : P.info? E = some i) (hes : i.size = es) (hz : i.zero = some zv) (hzs : zv.cells.size = es) (hpos : 0 < es)
    (hvl : vs.length = n * es) (hold : (Builtin.firstCells es n (.slice ad n cap)).run P w.drew = .ok vs.toArray w.drew) (hul : us.length = ys.length * es)
    (h3 : (∃ e', P.underlying t' = some (.slice e') ∧ (Builtin.lenOf vz).run P w = .ok ys.length w ∧ (∀ w' : World, (Builtin.lenOf vz).run P w' = .ok ys.length w') ∧ (Builtin.firstCells es ys.length vz).run P w = .ok us.toArray w ∧ (Builtin.firstCells es ys.length vz).run P w.drew = .ok us.toArray w.drew) ∨
     ∃ kn kq, P.underlying t' = some (.int kn) ∧ vz = .int kq ys.length ∧ us = (Builtin.zeroCells zv.cells ys.length).toList) (hone : ∀ u ∈ us, u.oneCell' = true) (hg : cap < n + ys.length) (hnc : n ≤ cap) (hb : (n + ys.length) * i.bytes ≤ 140737488355328) (h48 : n + ys.length ≤ 281474976710656) :
    ∃ (g : Nat) (rest : Array Value), n + ys.length ≤ g ∧ g ≤ maxLen ∧ (vs.toArray ++ us.toArray ++ rest).size = g * es ∧ (Builtin.append_ #[t, t'] ty #[.slice ad n cap, vz]).run P w = .ok (.slice (some ⟨w.heap.size, 0, none⟩) (n + ys.length) g) (w.drew.alloc (.cells (vs.toArray ++ us.toArray ++ rest) E)) := by
  refine ⟨grownCap w (n + ys.length) cap E, Builtin.zeroCells zv.cells (grownCap w (n + ys.length) cap E - (n + ys.length)), grownCap_ge .., grownCap_le_maxLen _ _ _ _ (by unfold maxLen; omega), ?_, ?_⟩
  · have := grownCap_ge w (n + ys.length) cap E
    simp only [Array.size_append, List.size_toArray, size_zeroCells, hzs, hvl, hul]
    rw [← Nat.add_mul, ← Nat.add_mul]
    congr 1; omega
  · subst hes
    have hfit := growslice_fits (bytes := i.bytes) hg hb
    rcases h3 with ⟨e', ht', r0, r1, r2, r3⟩ | ⟨kn, kq, ht', rfl, rfl⟩
    · have := run_append_grow_src (P := P) w t t' ty E i zv ht hi hz ad n cap vs hold vz ys.length us ⟨.inl ⟨e', ht'⟩, r1, r2, r3, hul, hone⟩ hg (by omega) hfit
      rw [this]
      simp
    · have hkb : ys.length * i.bytes ≤ 281474976710656 := Nat.le_trans (Nat.mul_le_mul_right _ (Nat.le_add_left _ n)) (by omega)
      have := Lib.run_append_grow_zeros (P := P) w t t' ty E i zv kq kn ht ht' hi hz ad n cap vs hold ys.length (by omega) hpos hg (by omega) hkb hfit
      rw [this]
theorem Grow.drew {w w' : World} {S S' : Nat → Prop} {β β' : Nat → OLoc} {nob : List (Nat × Ob)} (h : Grow w.drew S β nob w' S' β') : Grow w S β nob w' S' β' := ⟨h.os, h.tape, h.output, h.size, h.block, h.sub, h.sup, h.loc, h.ob, h.own, h.sep, h.clm, h.sepc⟩
theorem opL_appNew {k E es lo n c d : Nat} {xs ys : List (List Da)} {zv : Value} {i : TypeInfo} (ho : o.op = .call { callee := .builtin .append, args := #[x, z], argTypes := #[t, t'] }) (ht : P.underlying t = some (.slice E)) (hi : P.info? E = some i) (hes : i.size = es) (hz : i.zero = some zv) (hzs : zv.cells.size = es) (hx : s.ev x = some (.one (.ps k es lo n))) (hk : s.gob k = some (.fu E es xs c))
    (hsrc : AppSrc P s t' E es zv z ys) (hlo : lo + n ≤ xs.length) (hpos : 0 < es) (hroom : c < lo + n + ys.length) (h48 : n + ys.length ≤ 281474976710656) (hb : (n + ys.length) * i.bytes ≤ 140737488355328) : OpL P o s (.one (.ol d)) [(d, .lst E es ((xs.drop lo).take n ++ ys))] := by
  intro Γ a w S β hs K R hK
  have hv := (hs.eval hx).one_inv
  obtain ⟨hyes, us, h1, h2, h3⟩ := hsrc.h Γ a w S β hs
  obtain ⟨hp, hside⟩ := (mkP_rep (c := some c)).1 (hs.mem.ob k _ hk)
  have hside : (β k).sc = c := hside
  obtain ⟨vs, v1, v2, _, v4⟩ := hp.part hlo
  have hlen : ((xs.drop lo).take n).length = n := by rw [List.length_take, List.length_drop]; omega
  generalize hva : a.eval x = v at hv
  cases hv with
  | @ps _ _ _ _ ad cap g1 g2 g3 =>
    have hold : (Builtin.firstCells es n (.slice ad n cap)).run P w.drew = .ok vs.toArray w.drew := by
      by_cases hn : n = 0
      · subst hn
        have : vs = [] := List.eq_nil_of_length_eq_zero (by simpa using v1)
        subst this
        cases ad with
        | none => simp [Builtin.firstCells]
        | some a => simpa [Builtin.firstCells] using run_loadCells_zero P w.drew a
      · have ha := g3 (by omega)
        subst ha
        have := run_loadCells_list (P := P) w.drew ⟨(β k).blk, lo * es, none⟩ vs (fun j u hu => by rw [add_lit]; simpa using v4 j u hu)
        rw [v1] at this
        simpa [Builtin.firstCells] using this
    obtain ⟨g, rest, r1, r2, r3, r4⟩ := run_appNew (w := w) (S := S) (olds := (xs.drop lo).take n) (ys := ys) (vs := vs) (us := us) (vz := a.eval z) o.type ht hi hes hz hzs hpos v1 hold h1 h3 h2.oneCells (by omega) g1 hb h48
    have he : (execOp a.eval o).run P w = .ok (.value (.slice (some ⟨w.heap.size, 0, none⟩) (n + ys.length) g)) (w.drew.alloc (.cells (vs.toArray ++ us.toArray ++ rest) E)) := by
      simp only [execOp, ho, resolve, invoke, builtin, Sem.run_bind, Sem.run_pure, Result.andThen_ok, List.map_toArray, List.map_cons, List.map_nil, hva, r4]
    have hL := newList (w := w.drew) (S := S) (β := β) (d := d) (E := E) (es := es) (cap := g) (xs := (xs.drop lo).take n ++ ys) (c := vs.toArray ++ us.toArray ++ rest) hs.mem.lt r3 (by simp only [List.length_append, hlen]; exact r1) r2 (fun y hy => by
      rcases List.mem_append.1 hy with hy | hy
      · exact hp.2.2.1 y (List.mem_of_mem_drop (List.mem_of_mem_take hy))
      · exact hyes y hy) (by simp only [List.length_append, hlen]; exact h48) (by
        have e : (vs.toArray ++ us.toArray ++ rest).toList.take (((xs.drop lo).take n ++ ys).length * es) = vs ++ us := by
          simp only [Array.toList_append, List.length_append, hlen]
          exact List.take_left' (by simp [v1, h1, Nat.add_mul])
        rw [e, List.flatten_append]
        exact (v2.app h2).mono (fun _ _ => rfl) fun _ h => h)
    simp only [List.length_append, hlen] at hL
    unfold Oper.wp
    rw [he, Oper.upon_value]
    exact hK _ _ S _ hL.1.drew hL.2
/-- Onto the nil slice. -/
theorem opL_app0 {E es d : Nat} {ys : List (List Da)} {zv : Value} {i : TypeInfo} (ho : o.op = .call { callee := .builtin .append, args := #[x, z], argTypes := #[t, t'] }) (ht : P.underlying t = some (.slice E)) (hi : P.info? E = some i) (hes : i.size = es) (hz : i.zero = some zv) (hzs : zv.cells.size = es) (hx : s.ev x = some (.one .e0))
    (hsrc : AppSrc P s t' E es zv z ys) (hpos : 0 < es) (h48 : ys.length ≤ 281474976710656) (hb : ys.length * i.bytes ≤ 140737488355328) : OpL P o s (.one (.ol d)) [(d, .lst E es ys)] := by
  intro Γ a w S β hs K R hK
  have hv := (hs.eval hx).one_inv
  obtain ⟨hyes, us, h1, h2, h3⟩ := hsrc.h Γ a w S β hs
  generalize hva : a.eval x = v at hv
  cases hv
  by_cases h0 : ys.length = 0
  · have hys : ys = [] := List.eq_nil_of_length_eq_zero h0
    subst hys
    have hsz : (sizeOf E).run P w = .ok es w := by simp [sizeOf, typeInfo, hi, hes]
    have hti : (typeInfo E).run P w = .ok i w := by simp [typeInfo, hi]
    have hw0 : IntKind.i64.wrap (0 : Int) = 0 := by rw [IntKind.wrap_i64]; rfl
    have hus : us = [] := List.eq_nil_of_length_eq_zero (by simpa using h1)
    subst hus
    have he : (execOp a.eval o).run P w = .ok (.value (.slice none 0 0)) w := by
      rcases h3 with ⟨e', ht', r0, r1, r2, _⟩ | ⟨kn, kq, ht', hz1, hzu⟩
      · simp only [List.length_nil] at r0 r2
        simp [execOp, ho, resolve, invoke, builtin, hva, Builtin.append_, run_underlying ht, run_underlying ht', hsz, r0, r2]
      · simp only [List.length_nil] at hz1
        simp [execOp, ho, resolve, invoke, builtin, hva, hz1, Builtin.append_, run_underlying ht, run_underlying ht', hsz, asInt, asIntOf, hw0, hti]
    unfold Oper.wp
    rw [he, Oper.upon_value]
    let l0 : OLoc := ⟨0, none, 0, 0, false, [], []⟩
    have hl0 : ∀ b, ¬ l0.Own b := fun b hb => by rcases hb with ⟨h, _⟩ | h <;> simp [l0] at h
    refine hK _ _ S (fun q => if q = d then l0 else β q) ⟨rfl, rfl, rfl, Nat.le_refl _, fun _ _ => rfl, fun _ h => h, fun b hb => ⟨hs.mem.lt b hb, .inl hb⟩, fun q hq => if_neg fun e => hq _ (List.mem_singleton.2 rfl) e.symm, fun p hp => ?_, fun p hp b hb => ?_, fun p hp q hq b hb => ?_, fun p hp b hb => ?_, fun p hp q hq b hb => ?_⟩ ?_
    · rw [List.mem_singleton.1 hp]
      exact .inr ⟨by simp [l0], rfl, none, by simp [l0, OLoc.sv]⟩
    · rw [List.mem_singleton.1 hp] at hb; simp only [if_pos] at hb; exact (hl0 b hb).elim
    · rw [List.mem_singleton.1 hp] at hb; simp only [if_pos] at hb; exact (hl0 b hb).elim
    · rw [List.mem_singleton.1 hp] at hb; simp [l0] at hb
    · rw [List.mem_singleton.1 hp] at hb; simp [l0] at hb
    · refine RepV.one ?_
      have : (.slice none 0 0 : Value) = ((fun q => if q = d then l0 else β q) d).sv := by simp [l0, OLoc.sv]
      rw [this]; exact .ol
  · obtain ⟨g, rest, r1, r2, r3, r4⟩ := run_appNew (w := w) (S := S) (olds := []) (ys := ys) (vs := []) (us := us) (vz := a.eval z) (n := 0) (cap := 0) (ad := none) o.type ht hi hes hz hzs hpos (by simp) (by simp [Builtin.firstCells]) h1 h3 h2.oneCells (by omega) (Nat.le_refl _) (by simpa using hb) (by simpa using h48)
    simp only [Nat.zero_add] at r1 r4
    have he : (execOp a.eval o).run P w = .ok (.value (.slice (some ⟨w.heap.size, 0, none⟩) ys.length g)) (w.drew.alloc (.cells ([].toArray ++ us.toArray ++ rest) E)) := by
      simp only [execOp, ho, resolve, invoke, builtin, Sem.run_bind, Sem.run_pure, Result.andThen_ok, List.map_toArray, List.map_cons, List.map_nil, hva, r4]
    have hL := newList (w := w.drew) (S := S) (β := β) (d := d) (E := E) (es := es) (cap := g) (xs := ys) (c := [].toArray ++ us.toArray ++ rest) hs.mem.lt r3 r1 r2 hyes h48 (by
        have e : ([].toArray ++ us.toArray ++ rest).toList.take (ys.length * es) = us := by
          simp only [Array.toList_append, List.nil_append]
          exact List.take_left' h1
        rw [e]
        exact h2.mono (fun _ _ => rfl) fun _ h => h)
    unfold Oper.wp
    rw [he, Oper.upon_value]
    exact hK _ _ S _ hL.1.drew hL.2
end

section
variable {Γ : Cx} {P : Program} {o : Oper} {s : St} {t t' : TypeId} {x z : Operand}
/-- A function without a text that asks whether two slices overlap. -/
def OvlOk (P : Program) (f : FuncId) : Prop := ∃ fn tS tR e size, P.funcs[f]? = some fn ∧ (fn.name == "runtime.NumGoroutine") = false ∧ fn.body.isNone = true ∧ Extern.findNext fn = none ∧ Extern.find fn = some (Extern.SlicesOverlaps.overlaps #[tS, tS] #[tR]) ∧ P.underlying tS = some (.slice e) ∧ (P.info? e).map (·.size) = some size
theorem shape_of_cells {w : World} {b : Nat} {cur : Array Value} {E : TypeId} (hg : w.heap[b]? = some (.cells cur E (0, 0))) : w.shape? b = some (E, cur.size) := by
  simp [World.shape?, hg]
theorem frozen_of_cells {w : World} {b i : Nat} {cur : Array Value} {E : TypeId} (hg : w.heap[b]? = some (.cells cur E (0, 0))) : w.frozen? ⟨b, i, none⟩ = false := by
  simp [World.frozen?, hg]
theorem run_ovl0 {P : Program} (w : World) (tS tR e : TypeId) (ht : P.underlying tS = some (.slice e)) (size : Nat) (hz : ∀ w, (Go.sizeOf e).run P w = .ok size w) (a b : Option Addr) (la ca lb cb : Nat) (h0 : la = 0 ∨ lb = 0) :
    (Extern.SlicesOverlaps.overlaps #[tS, tS] #[tR] #[.slice a la ca, .slice b lb cb]).run P w = .ok (.bool false) w := by
  change Sem.run P (α := Value) (do
    let some t := (#[tS, tS] : Array TypeId)[0]? | stuck "slices.overlaps: no parameter types"
    let .slice elem ← underlying t | stuck "slices.overlaps: slice type expected"
    let size ← sizeOf elem
    match a, b with
    | some a, some b =>
      if la = 0 ∨ lb = 0 ∨ size = 0 then pure (Value.bool false)
      else if a.block != b.block && (← frozen a) && (← frozen b) then unsupported .addressObserved
      else do
        if a.block != b.block then do
          noView a; noView b
          if ← mayBeOne a b then return Value.bool ((← choose (.extern "sameAddr.stringBytes" 2)) == 1)
        pure (Value.bool (a.block == b.block && a.off < b.off + lb * size && b.off < a.off + la * size))
    | _, _ => pure (Value.bool false)) w = _
  have h1 : la = 0 ∨ lb = 0 ∨ size = 0 := by rcases h0 with h | h <;> simp [h]
  cases a <;> cases b <;> simp [run_underlying ht, hz, h1]
/-- Two lists of the call's own do not overlap. -/
theorem opL_ovl {k1 k2 E1 es1 lo1 n1 E2 es2 lo2 n2 : Nat} {c1 c2 : Option Nat} {xs1 xs2 : List (List Da)} {ts : Array TypeId} {f : FuncId} (hf : OvlOk P f) (ho : o.op = .call { callee := .value (.func f), args := #[x, z], argTypes := ts }) (hk1 : s.gob k1 = some (mkP c1 E1 es1 xs1)) (hk2 : s.gob k2 = some (mkP c2 E2 es2 xs2)) (hne : k1 ≠ k2)
    (hx : s.ev x = some (.one (.ps k1 es1 lo1 n1)) ∨ (s.ev x = some (.one (.ol k1)) ∧ c1 = none)) (hz : s.ev z = some (.one (.ps k2 es2 lo2 n2))) (hpos : 0 < es2) : OpL P o s (B false) [] := by
  intro Γ a w S β hs K R hK
  obtain ⟨fn, tS, tR, e, size, f1, f2, f3, f4, f5, f6, f7⟩ := hf
  have hX1 := hs.mem.ob k1 _ hk1
  have hX2 := hs.mem.ob k2 _ hk2
  obtain ⟨p1, _⟩ := mkP_rep.1 hX1
  obtain ⟨p2, _⟩ := mkP_rep.1 hX2
  have hv1 : ∃ es lo n, RepA w S β (.ps k1 es lo n) (a.eval x) := by
    rcases hx with hx | ⟨hx, rfl⟩
    · exact ⟨_, _, _, (hs.eval hx).one_inv⟩
    · exact ⟨es1, 0, _, (RepA.ps_of_ol hX1 (hs.eval hx).one_inv)⟩
  obtain ⟨es1', lo1', n1', hv1⟩ := hv1
  have hv2 := (hs.eval hz).one_inv
  have hsz : ∀ w, (sizeOf e).run P w = .ok size w := by
    intro w
    cases hi : P.info? e with
    | none => rw [hi] at f7; simp at f7
    | some i =>
      rw [hi] at f7
      simp at f7
      simp [sizeOf, typeInfo, hi, f7]
  generalize hva : a.eval x = v1 at hv1
  generalize hvb : a.eval z = v2 at hv2
  cases hv1 with
  | @ps _ _ _ _ a1 cap1 g1 g2 g3 =>
    cases hv2 with
    | @ps _ _ _ _ a2 cap2 q1 q2 q3 =>
      have hrun : (Extern.SlicesOverlaps.overlaps #[tS, tS] #[tR] #[.slice a1 n1' cap1, .slice a2 n2 cap2]).run P w = .ok (.bool false) w := by
        by_cases h0 : n1' = 0 ∨ n2 = 0
        · exact run_ovl0 w tS tR e f6 size hsz _ _ _ _ _ _ h0
        · have e1 := g3 (by omega)
          have e2 := q3 (by omega)
          subst e1; subst e2
          have b1 : (β k1).has = true ∧ ∃ cur, w.heap[(β k1).blk]? = some (.cells cur E1 (0, 0)) := by
            rcases p1.2.2.2 with ⟨hh, cur, hg, _⟩ | ⟨_, hz⟩
            · exact ⟨hh, cur, hg⟩
            · omega
          have b2 : (β k2).has = true ∧ ∃ cur, w.heap[(β k2).blk]? = some (.cells cur E2 (0, 0)) ∧ cur.size = (β k2).sc * es2 := by
            rcases p2.2.2.2 with ⟨hh, cur, hg, hc, _⟩ | ⟨_, hz⟩
            · exact ⟨hh, cur, hg, hc⟩
            · omega
          obtain ⟨h1, cur1, hg1⟩ := b1
          obtain ⟨h2, cur2, hg2, hc2⟩ := b2
          refine Lib.run_overlaps_apart w tS tR e f6 size hsz _ _ _ _ _ _ (fun e => hne (hs.mem.sep k1 k2 _ _ hk1 hk2 _ (.inl ⟨h1, rfl⟩) (.inl ⟨h2, e.symm⟩))) _ _ _ _ (shape_of_cells hg1) (shape_of_cells hg2) ?_ (frozen_of_cells hg1) (frozen_of_cells hg1)
          rw [hc2]
          exact Nat.mul_ne_zero (by omega) (by omega)
      have hfe : a.eval (.func f) = .func (.func f) #[] #[] := rfl
      have he : (execOp a.eval o).run P w = .ok (.value (.bool false)) w := by
        simp only [execOp, ho, resolve, hfe, Deferred.ofValue, Sem.run_bind, Sem.run_pure, Result.andThen_ok, invoke]
        rw [show (#[] : Array Value) ++ Array.map a.eval #[x, z] ++ #[] = #[.slice a1 n1' cap1, .slice a2 n2 cap2] by simp [hva, hvb]]
        rw [run_callFunc_extern f1 f2 f3 f4 f5, hrun]
        rfl
      unfold Oper.wp
      rw [he, Oper.upon_value]
      exact hK _ _ S β (Grow.refl hs.mem.lt) (RepV.bool _)
end

theorem OpL.xop {Γ : Cx} {P : Program} {o : Oper} {s : St} {y : AV} {nob : List (Nat × Ob)} (h : OpL P o s y nob) (hd : o.dst.all (· < Γ.n) = true) (hfr : s.fresh nob = true) : XOp Γ P o s (s.upd o.dst y nob) :=
  fun a w S β K' R hs hK => h Γ a w S β hs K' R fun v w' S' β' hG hy => hK _ _ _ _ (hs.upd hG hy hd hfr)
/-! A list is opened, and shut -/
def openAt (k es n : Nat) : At → At
  | .ol o => if o == k then .ps k es 0 n else .ol o
  | x => x
theorem sim_open {Γ : Cx} {s : St} {a : Act} {w : World} {S : Nat → Prop} {β : Nat → OLoc} {k E es : Nat} {xs : List (List Da)} (hs : Sim Γ s a w S β) (hk : s.gob k = some (.lst E es xs)) : ∃ c, xs.length ≤ c ∧ c ≤ maxLen ∧ Sim Γ (s.mv (openAt k es xs.length) k [] (.fu E es xs c)) a w S β := by
  have hX := hs.mem.ob k _ hk
  obtain ⟨hp, _⟩ := lst_iff.1 hX
  refine ⟨(β k).sc, hp.1, hp.2.1.2, hs.mv (fun y v hy => ?_) ⟨rfl, rfl, rfl, Nat.le_refl _⟩ (fun _ _ _ => rfl) (fun _ _ => rfl) (fun l hl => (hs.mem.fix k l hl).2) ((mkP_rep (c := some (β k).sc)).2 ⟨hp, rfl⟩) (fun b hb => ⟨(hs.mem.own k _ hk b hb).1, .inl ⟨_, hk, hb⟩⟩) (fun b hb => ⟨k, _, .inl rfl, hk, hb⟩)⟩
  cases y with
  | ol q =>
    simp only [openAt]
    split
    · rename_i e
      simp at e
      subst e
      exact RepA.ps_of_ol hX hy
    · exact hy
  | _ => exact hy
/-- The first rows of a list are a list. -/
theorem sim_shut {Γ : Cx} {s : St} {a : Act} {w : World} {S : Nat → Prop} {β : Nat → OLoc} {t k E es n : Nat} {c : Option Nat} {xs : List (List Da)} (hs : Sim Γ s a w S β) (hk : s.gob k = some (mkP c E es xs)) (hlow : k < 2000) (ht : s.get t = some (.one (.ps k es 0 n))) (hn : n ≤ xs.length) : ∃ β', Sim Γ (s.appd (some t) k [] (.lst E es (xs.take n))) a w S β' := by
  obtain ⟨hp, hside⟩ := mkP_rep.1 (hs.mem.ob k _ hk)
  obtain ⟨v, hv, hr⟩ := hs.tm t _ ht
  have hr := hr.one_inv
  have htl : (xs.take n).length = n := by rw [List.length_take]; omega
  cases hr with
  | @ps _ _ _ _ ad cap g1 g2 g3 =>
    let l' : OLoc := { β k with sa := ad, sn := n, sc := cap, has := (β k).has && decide (0 < cap) }
    let β' : Nat → OLoc := fun q => if q = k then l' else β q
    have hβ : ∀ q, q ≠ k → β' q = β q := fun q h => if_neg h
    have hβk : β' k = l' := if_pos rfl
    have hc : cap = (β k).sc := by omega
    have hX : ObRep w S β' l' (.lst E es (xs.take n)) := by
      refine lst_iff.2 ⟨⟨?_, ⟨?_, ?_⟩, fun y hy => hp.2.2.1 y (List.mem_of_mem_take hy), ?_⟩, ?_, fun hh => ?_⟩
      · rw [htl]; exact g1
      · rw [htl]; have := hp.2.1.1; omega
      · show cap ≤ maxLen; rw [hc]; exact hp.2.1.2
      · rcases hp.2.2.2 with ⟨hh, cur, hg, hcs, hd⟩ | ⟨hh, hz⟩
        · by_cases h0 : 0 < cap
          · refine .inl ⟨by simp [l', hh, h0], cur, hg, by show cur.size = cap * es; rw [hc]; exact hcs, ?_⟩
            have e : xs.flatten = (xs.take n).flatten ++ (xs.drop n).flatten := by rw [← List.flatten_append, List.take_append_drop]
            rw [e] at hd
            obtain ⟨v1, v2, e2, d1, d2⟩ := hd.split
            have l1 : v1.length = n * es := by rw [d1.len, flatten_take_len hp.2.2.1 hn]
            have : cur.toList.take ((xs.take n).length * es) = v1 := by
              rw [htl]
              have e3 : (cur.toList.take (xs.length * es)).take (n * es) = cur.toList.take (n * es) := by
                rw [List.take_take, Nat.min_eq_left (Nat.mul_le_mul_right _ hn)]
              rw [← e3, e2]
              exact List.take_left' l1
            rw [this]
            exact d1
          · exact .inr ⟨by simp [l', h0], by show cap = 0; omega⟩
        · exact .inr ⟨by simp [l', hh], by show cap = 0; omega⟩
      · show n = (xs.take n).length
        rw [htl]
      · have : 0 < cap := by
          by_cases h0 : 0 < cap
          · exact h0
          · simp [l', h0] at hh
        show ad = _
        rw [g3 this, Nat.zero_mul]
    have h2 := hs.mv (f := killL [k]) (k := k) (ks := []) (X := .lst E es (xs.take n)) (w' := w) (β' := β') (RepA.killL (fun _ _ => rfl) (fun _ h => h) fun o ho => hβ o (by simpa using ho)) ⟨rfl, rfl, rfl, Nat.le_refl _⟩ (fun _ _ _ => rfl) hβ (fun l hl => by have := (hs.mem.fix k l hl).1; omega) (by rw [hβk]; exact hX) (fun b hb => ?_) (fun b hb => ?_)
    · refine ⟨β', h2.defers, h2.sz, fun i y hi => ?_, ⟨h2.mem.lt, fun q Y hq => ?_, fun q Y hq => ?_, fun q q' Y Y' hq hq' => ?_, h2.mem.os, h2.mem.tape, h2.mem.output, h2.mem.size, h2.mem.block, h2.mem.sub, h2.mem.sup, h2.mem.fix, fun q Y hq => ?_, fun q q' Y Y' hq hq' => ?_⟩⟩
      · rw [get_appd] at hi
        by_cases e : some t = some i
        · rw [if_pos e] at hi
          simp at e hi
          subst e; subst hi
          refine ⟨_, hv, RepV.one ?_⟩
          have : (.slice ad n cap : Value) = (β' k).sv := by rw [hβk]; rfl
          rw [this]; exact .ol
        · rw [if_neg e] at hi
          exact h2.tm i y (by simpa [St.mv, St.get, St.map, look_mapTm] using hi)
      all_goals first
        | exact h2.mem.ob q Y hq
        | exact h2.mem.own q Y hq
        | exact h2.mem.sep q q' Y Y' hq hq'
        | exact h2.mem.clm q Y hq
        | exact h2.mem.sepc q q' Y Y' hq hq'
    · rw [hβk] at hb
      have hb' : (β k).Own b := by
        rcases hb with ⟨h1, h2⟩ | h
        · simp only [l', Bool.and_eq_true] at h1
          exact .inl ⟨h1.1, h2⟩
        · exact .inr h
      exact ⟨(hs.mem.own k _ hk b hb').1, .inl ⟨_, hk, hb'⟩⟩
    · rw [hβk] at hb
      exact ⟨k, _, .inl rfl, hk, hb⟩

end AM
end Go.Proofs.Ytfcmmpmdofejeaa
