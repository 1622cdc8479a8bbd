/- The single operations over an abstract state: numbers, texts, fields, loads, lengths, cuts; no conditions. -/
import Derived.Test.YtfcmmpmdofejeaaAm2
import Derived.IntWalk
import Derived.Laws.Concat
set_option linter.unusedSimpArgs false
set_option linter.unusedVariables false
namespace Go.Proofs.Ytfcmmpmdofejeaa
namespace AM
open Go

abbrev I (k : IntKind) (n : Int) : AV := .one (.d (.int k n))
abbrev Z (n : Int) : AV := .one (.d (.int .i64 n))
abbrev B (b : Bool) : AV := .one (.d (.bool b))
abbrev T (s : ByteArray) : AV := .one (.d (.str s))
abbrev L (xs : List (List Da)) : AV := .one (.d (.sl xs))

section
variable {P : Program} {o : Oper} {av : Operand → Option AV} {us : List (Nat × Ob)} {y : AV}

theorem opP_val (h : ∀ (a : Act) (w : World) (S : Nat → Prop) (β : Nat → OLoc), (∀ b, S b → b < w.heap.size) → (∀ x X, av x = some X → x ∈ o.op.operands → RepV w S β X (a.eval x)) →
    (∀ p ∈ us, ObRep w S β (β p.1) p.2) → ∃ v, (execOp a.eval o).run P w = .ok (.value v) w ∧ RepV w S β y v) : OpP P o av us y [] := by
  intro a w S β hlt hr hu K Q hK
  obtain ⟨v, he, hy⟩ := h a w S β hlt hr hu
  unfold Oper.wp
  rw [he]
  exact hK v w S β (Grow.refl hlt) hy

theorem opP_move {x : Operand} (ho : o.op = .move x) (hx : av x = some y) : OpP P o av [] y [] :=
  opP_val fun a w S β _ hr _ => ⟨_, by simp [execOp, ho], hr x y hx (by simp [ho, Op.operands])⟩
theorem opP_assign {x : Operand} (ho : o.op = .assign x) (hx : av x = some y) : OpP P o av [] y [] :=
  opP_val fun a w S β _ hr _ => ⟨_, by simp [execOp, ho], hr x y hx (by simp [ho, Op.operands])⟩

theorem opP_pickB {c x z : Operand} {b p q : Bool} (ho : o.op = .pick c x z) (hc : av c = some (B b)) (hx : b = true → av x = some (B p)) (hz : b = false → av z = some (B q)) : OpP P o av [] (B (if b then p else q)) [] := by
  refine opP_val fun a w S β _ hr _ => ?_
  have e := (hr c _ hc (by simp [ho, Op.operands])).bool_inv
  cases b with
  | true =>
    have e1 := (hr x _ (hx rfl) (by simp [ho, Op.operands])).bool_inv
    exact ⟨.bool p, by simp [execOp, ho, e, e1, asBool], RepV.bool _⟩
  | false =>
    have e1 := (hr z _ (hz rfl) (by simp [ho, Op.operands])).bool_inv
    exact ⟨.bool q, by simp [execOp, ho, e, e1, asBool], RepV.bool _⟩

section
variable {t t' : TypeId} {x z : Operand} {k : IntKind} {m n : Int}
theorem opP_add (ho : o.op = .binOp .add t x z t') (hx : av x = some (I k m)) (hz : av z = some (I k n)) : OpP P o av [] (I k (k.wrap (m + n))) [] :=
  opP_val fun a w S β _ hr _ => ⟨_, by simp [execOp, ho, (hr x _ hx (by simp [ho, Op.operands])).int_inv, (hr z _ hz (by simp [ho, Op.operands])).int_inv, binOp_add, Op.intArith, eqGuard], RepV.int _ _⟩
theorem opP_sub (ho : o.op = .binOp .sub t x z t') (hx : av x = some (I k m)) (hz : av z = some (I k n)) : OpP P o av [] (I k (k.wrap (m - n))) [] :=
  opP_val fun a w S β _ hr _ => ⟨_, by simp [execOp, ho, (hr x _ hx (by simp [ho, Op.operands])).int_inv, (hr z _ hz (by simp [ho, Op.operands])).int_inv, binOp_sub, Op.intArith, eqGuard], RepV.int _ _⟩
theorem opP_mul (ho : o.op = .binOp .mul t x z t') (hx : av x = some (I k m)) (hz : av z = some (I k n)) : OpP P o av [] (I k (k.wrap (m * n))) [] :=
  opP_val fun a w S β _ hr _ => ⟨_, by simp [execOp, ho, (hr x _ hx (by simp [ho, Op.operands])).int_inv, (hr z _ hz (by simp [ho, Op.operands])).int_inv, binOp_mul, Op.intArith, eqGuard], RepV.int _ _⟩
theorem opP_quo (ho : o.op = .binOp .quo t x z t') (hx : av x = some (I k m)) (hz : av z = some (I k n)) (hn : n ≠ 0) : OpP P o av [] (I k (k.wrap (m.tdiv n))) [] :=
  opP_val fun a w S β _ hr _ => ⟨_, by simp [execOp, ho, (hr x _ hx (by simp [ho, Op.operands])).int_inv, (hr z _ hz (by simp [ho, Op.operands])).int_inv, binOp_quo, Op.intDiv, eqGuard, hn], RepV.int _ _⟩
theorem opP_rem (ho : o.op = .binOp .rem t x z t') (hx : av x = some (I k m)) (hz : av z = some (I k n)) (hn : n ≠ 0) : OpP P o av [] (I k (m.tmod n)) [] :=
  opP_val fun a w S β _ hr _ => ⟨_, by simp [execOp, ho, (hr x _ hx (by simp [ho, Op.operands])).int_inv, (hr z _ hz (by simp [ho, Op.operands])).int_inv, binOp_rem, Op.intDiv, eqGuard, hn], RepV.int _ _⟩
theorem opP_lss (ho : o.op = .binOp .lss t x z t') (hx : av x = some (I k m)) (hz : av z = some (I k n)) : OpP P o av [] (B (decide (m < n))) [] :=
  opP_val fun a w S β _ hr _ => ⟨_, by simp [execOp, ho, (hr x _ hx (by simp [ho, Op.operands])).int_inv, (hr z _ hz (by simp [ho, Op.operands])).int_inv, binOp_lss, eqGuard], RepV.bool _⟩
theorem opP_leq (ho : o.op = .binOp .leq t x z t') (hx : av x = some (I k m)) (hz : av z = some (I k n)) : OpP P o av [] (B (decide (m ≤ n))) [] :=
  opP_val fun a w S β _ hr _ => ⟨_, by simp [execOp, ho, (hr x _ hx (by simp [ho, Op.operands])).int_inv, (hr z _ hz (by simp [ho, Op.operands])).int_inv, binOp_leq, eqGuard], RepV.bool _⟩
theorem opP_gtr (ho : o.op = .binOp .gtr t x z t') (hx : av x = some (I k m)) (hz : av z = some (I k n)) : OpP P o av [] (B (decide (n < m))) [] :=
  opP_val fun a w S β _ hr _ => ⟨_, by simp [execOp, ho, (hr x _ hx (by simp [ho, Op.operands])).int_inv, (hr z _ hz (by simp [ho, Op.operands])).int_inv, binOp_gtr, eqGuard], RepV.bool _⟩
theorem opP_geq (ho : o.op = .binOp .geq t x z t') (hx : av x = some (I k m)) (hz : av z = some (I k n)) : OpP P o av [] (B (decide (n ≤ m))) [] :=
  opP_val fun a w S β _ hr _ => ⟨_, by simp [execOp, ho, (hr x _ hx (by simp [ho, Op.operands])).int_inv, (hr z _ hz (by simp [ho, Op.operands])).int_inv, binOp_geq, eqGuard], RepV.bool _⟩
theorem opP_eql (ho : o.op = .binOp .eql t x z t') (hx : av x = some (I k m)) (hz : av z = some (I k n)) : OpP P o av [] (B (decide (m = n))) [] :=
  opP_val fun a w S β _ hr _ => ⟨.bool (m == n), by simp [execOp, ho, (hr x _ hx (by simp [ho, Op.operands])).int_inv, (hr z _ hz (by simp [ho, Op.operands])).int_inv, binOp_eql, eqGuard], RepV.bool _⟩
theorem opP_neq (ho : o.op = .binOp .neq t x z t') (hx : av x = some (I k m)) (hz : av z = some (I k n)) : OpP P o av [] (B (decide (m ≠ n))) [] :=
  opP_val fun a w S β _ hr _ => ⟨.bool (m != n), by simp [execOp, ho, (hr x _ hx (by simp [ho, Op.operands])).int_inv, (hr z _ hz (by simp [ho, Op.operands])).int_inv, binOp_neq, eqGuard], by
    have : (m != n) = decide (m ≠ n) := by by_cases h : m = n <;> simp [h]
    rw [this]; exact RepV.bool _⟩
theorem opP_shr {yk : IntKind} (ho : o.op = .binOp .shr t x z t') (hx : av x = some (I k m)) (hz : av z = some (I yk n)) (h0 : 0 ≤ n) (h1 : n ≤ k.bits) : OpP P o av [] (I k (m / 2 ^ n.toNat)) [] :=
  opP_val fun a w S β _ hr _ => ⟨_, by simp [execOp, ho, (hr x _ hx (by simp [ho, Op.operands])).int_inv, (hr z _ hz (by simp [ho, Op.operands])).int_inv, binOp_shr, shift_shr k yk m n h0 h1, eqGuard], RepV.int _ _⟩
theorem opP_shl {yk : IntKind} (ho : o.op = .binOp .shl t x z t') (hx : av x = some (I k m)) (hz : av z = some (I yk n)) (h0 : 0 ≤ n) (h1 : n ≤ k.bits) : OpP P o av [] (I k (k.wrap (m * 2 ^ n.toNat))) [] :=
  opP_val fun a w S β _ hr _ => ⟨_, by simp [execOp, ho, (hr x _ hx (by simp [ho, Op.operands])).int_inv, (hr z _ hz (by simp [ho, Op.operands])).int_inv, binOp_shl, shift_shl k yk m n h0 h1, eqGuard], RepV.int _ _⟩
theorem opP_and (ho : o.op = .binOp .and t x z t') (hx : av x = some (I k m)) (hz : av z = some (I k n)) : OpP P o av [] (I k (bits .and k m n)) [] :=
  opP_val fun a w S β _ hr _ => ⟨_, by simp [execOp, ho, (hr x _ hx (by simp [ho, Op.operands])).int_inv, (hr z _ hz (by simp [ho, Op.operands])).int_inv, binOp_and, intBits_and, eqGuard], RepV.int _ _⟩
theorem opP_or (ho : o.op = .binOp .or t x z t') (hx : av x = some (I k m)) (hz : av z = some (I k n)) : OpP P o av [] (I k (bits .or k m n)) [] :=
  opP_val fun a w S β _ hr _ => ⟨_, by simp [execOp, ho, (hr x _ hx (by simp [ho, Op.operands])).int_inv, (hr z _ hz (by simp [ho, Op.operands])).int_inv, binOp_or, intBits_or, eqGuard], RepV.int _ _⟩
theorem opP_xor (ho : o.op = .binOp .xor t x z t') (hx : av x = some (I k m)) (hz : av z = some (I k n)) : OpP P o av [] (I k (bits .xor k m n)) [] :=
  opP_val fun a w S β _ hr _ => ⟨_, by simp [execOp, ho, (hr x _ hx (by simp [ho, Op.operands])).int_inv, (hr z _ hz (by simp [ho, Op.operands])).int_inv, binOp_xor, intBits_xor, eqGuard], RepV.int _ _⟩
/-- Sums that stay in range. -/
theorem opP_add64 (ho : o.op = .binOp .add t x z t') (hx : av x = some (Z m)) (hz : av z = some (Z n)) (h : -9223372036854775808 ≤ m + n ∧ m + n ≤ 9223372036854775807) : OpP P o av [] (Z (m + n)) [] := by
  have := opP_add (P := P) ho hx hz
  rwa [IntKind.wrap_i64, show (m + n + 9223372036854775808) % 18446744073709551616 - 9223372036854775808 = m + n by omega] at this
theorem opP_sub64 (ho : o.op = .binOp .sub t x z t') (hx : av x = some (Z m)) (hz : av z = some (Z n)) (h : -9223372036854775808 ≤ m - n ∧ m - n ≤ 9223372036854775807) : OpP P o av [] (Z (m - n)) [] := by
  have := opP_sub (P := P) ho hx hz
  rwa [IntKind.wrap_i64, show (m - n + 9223372036854775808) % 18446744073709551616 - 9223372036854775808 = m - n by omega] at this
end

section
variable {t t' : TypeId} {x z : Operand} {p q : ByteArray} {b c : Bool}
theorem opP_strEq (ho : o.op = .binOp .eql t x z t') (hx : av x = some (T p)) (hz : av z = some (T q)) : OpP P o av [] (B (decide (p = q))) [] := by
  refine opP_val fun a w S β _ hr _ => ⟨.bool (p.toList == q.toList), ?_, ?_⟩
  · simp [execOp, ho, (hr x _ hx (by simp [ho, Op.operands])).str_inv.1, (hr z _ hz (by simp [ho, Op.operands])).str_inv.1, binOp, Op.stringOp, eqGuard]
  · have : (p.toList == q.toList) = decide (p = q) := by
      by_cases h : p = q
      · simp [h]
      · have : ¬ p.toList = q.toList := fun e => h (by
          have e1 := ByteArray.toList_eq p  
          have e2 := ByteArray.toList_eq q
          rw [e1, e2] at e
          exact ByteArray.ext (Array.ext' e))
        simp [h, this]
    rw [this]; exact RepV.bool _
theorem opP_strNe (ho : o.op = .binOp .neq t x z t') (hx : av x = some (T p)) (hz : av z = some (T q)) : OpP P o av [] (B (decide (p ≠ q))) [] := by
  refine opP_val fun a w S β _ hr _ => ⟨.bool !(p.toList == q.toList), ?_, ?_⟩
  · simp [execOp, ho, (hr x _ hx (by simp [ho, Op.operands])).str_inv.1, (hr z _ hz (by simp [ho, Op.operands])).str_inv.1, binOp, Op.stringOp, eqGuard]
  · have : (!(p.toList == q.toList)) = decide (p ≠ q) := by
      by_cases h : p = q
      · simp [h]
      · have : ¬ p.toList = q.toList := fun e => h (by
          have e1 := ByteArray.toList_eq p  
          have e2 := ByteArray.toList_eq q
          rw [e1, e2] at e
          exact ByteArray.ext (Array.ext' e))
        simp [h, this]
    rw [this]; exact RepV.bool _
theorem opP_strAdd (ho : o.op = .binOp .add t x z t') (hx : av x = some (T p)) (hz : av z = some (T q)) (hs : (p ++ q).size ≤ 281474976710656) : OpP P o av [] (T (p ++ q)) [] := by
  refine opP_val fun a w S β _ hr _ => ⟨.string (p ++ q), ?_, RepV.str _ hs⟩
  have hh : ¬ ((9223372036854775807 : Int) < (p.size : Int) + (q.size : Int)) := by
    have := hs; rw [ByteArray.size_append] at this; omega
  simp [execOp, ho, (hr x _ hx (by simp [ho, Op.operands])).str_inv.1, (hr z _ hz (by simp [ho, Op.operands])).str_inv.1, binOp, Op.stringOp, eqGuard, IntKind.max, IntKind.signed, IntKind.bits, hh]
theorem run_equal_bool (ht : P.underlying t = some .bool) (w : World) (b c : Bool) : (Op.equal t (.bool b) (.bool c)).run P w = .ok (b == c) w := by
  have h : ∀ d : Nat, (Op.equalIn (d + 1) t (.bool b) (.bool c)).run P w = .ok (b == c) w := fun d => by simp [Op.equalIn, run_underlying ht]
  exact h 9999
theorem opP_boolEq (ho : o.op = .binOp .eql t x z t') (ht : P.underlying t = some .bool) (hx : av x = some (B b)) (hz : av z = some (B c)) : OpP P o av [] (B (decide (b = c))) [] := by
  refine opP_val fun a w S β _ hr _ => ⟨.bool (b == c), ?_, ?_⟩
  · have hb : binOp .eql t (.bool b) (.bool c) = (do pure (.bool (← Op.equal t (.bool b) (.bool c)))) := rfl
    simp only [execOp, ho, (hr x _ hx (by simp [ho, Op.operands])).bool_inv, (hr z _ hz (by simp [ho, Op.operands])).bool_inv, hb]
    simp [eqGuard, run_equal_bool ht]
  · have : (b == c) = decide (b = c) := by cases b <;> cases c <;> rfl
    rw [this]; exact RepV.bool _
theorem opP_boolNe (ho : o.op = .binOp .neq t x z t') (ht : P.underlying t = some .bool) (hx : av x = some (B b)) (hz : av z = some (B c)) : OpP P o av [] (B (decide (b ≠ c))) [] := by
  refine opP_val fun a w S β _ hr _ => ⟨.bool (!(b == c)), ?_, ?_⟩
  · have hb : binOp .neq t (.bool b) (.bool c) = (do pure (.bool (!(← Op.equal t (.bool b) (.bool c))))) := rfl
    simp only [execOp, ho, (hr x _ hx (by simp [ho, Op.operands])).bool_inv, (hr z _ hz (by simp [ho, Op.operands])).bool_inv, hb]
    simp [eqGuard, run_equal_bool ht]
  · have : (!(b == c)) = decide (b ≠ c) := by cases b <;> cases c <;> rfl
    rw [this]; exact RepV.bool _
theorem opP_not (ho : o.op = .unOp .not t x) (hx : av x = some (B b)) : OpP P o av [] (B (!b)) [] :=
  opP_val fun a w S β _ hr _ => ⟨_, by simp [execOp, ho, (hr x _ hx (by simp [ho, Op.operands])).bool_inv, Op.unary], RepV.bool _⟩
theorem opP_neg {k : IntKind} {n : Int} (ho : o.op = .unOp .neg t x) (hx : av x = some (I k n)) : OpP P o av [] (I k (k.wrap (0 - n))) [] :=
  opP_val fun a w S β _ hr _ => ⟨.int k (k.wrap (0 - n)), by simp [execOp, ho, (hr x _ hx (by simp [ho, Op.operands])).int_inv, Op.unary, Op.intArith], RepV.int k _⟩
theorem opP_convInt {src dst : TypeId} {k k' : IntKind} {n : Int} {d : TypeDesc} (ho : o.op = .convert src dst x) (hs : P.underlying src = some d) (hd : P.underlying dst = some (.int k')) (hx : av x = some (I k n)) : OpP P o av [] (I k' (k'.wrap n)) [] :=
  opP_val fun a w S β _ hr _ => ⟨_, by simp [execOp, ho, (hr x _ hx (by simp [ho, Op.operands])).int_inv, convert, run_underlying hs, run_underlying hd, Conv.intToInt], RepV.int _ _⟩
theorem opP_convStr {src dst : TypeId} {k : IntKind} {n : Int} {d : TypeDesc} (ho : o.op = .convert src dst x) (hs : P.underlying src = some d) (hd : P.underlying dst = some .string) (hx : av x = some (I k n)) (hz : (Utf8.encode n).size ≤ 281474976710656) : OpP P o av [] (T (Utf8.encode n)) [] :=
  opP_val fun a w S β _ hr _ => ⟨_, by simp [execOp, ho, (hr x _ hx (by simp [ho, Op.operands])).int_inv, convert, run_underlying hs, run_underlying hd, Conv.intToString], RepV.str _ hz⟩
end

/-- The cells of what a slot reads as. -/
def AV.cells : AV → Option (List At)
  | .one .junk => none
  | .one x => some [x]
  | .dat xs => some (xs.map .d)
  | .agg xs => some xs
  | .tup _ => none

def At.toD : At → Option Da
  | .d x => some x
  | .e0 => some (.sl [])
  | _ => none
def toDs : List At → Option (List Da)
  | [] => some []
  | x :: r => match x.toD, toDs r with
    | some y, some ys => some (y :: ys)
    | _, _ => none
def noE0 : List At → Bool
  | [] => true
  | .e0 :: _ => false
  | _ :: r => noE0 r
/-- A struct's cells: data, where all of them are. -/
def mkAggN (cs : List At) : AV := match toDs cs with
  | some ds => .dat ds
  | none => .agg cs
/-- The same; a nil slice stays what it is. -/
def mkAgg (cs : List At) : AV := match noE0 cs with
  | true => mkAggN cs
  | false => .agg cs

section
variable {w : World} {S : Nat → Prop} {β : Nat → OLoc}
theorem RepAs.len {xs vs} (h : RepAs w S β xs vs) : vs.length = xs.length := by induction h <;> simp_all
theorem RepAs.app {xs ys vs us} (h : RepAs w S β xs vs) (k : RepAs w S β ys us) : RepAs w S β (xs ++ ys) (vs ++ us) := by
  induction h with
  | nil => exact k
  | cons h _ ih => exact .cons h ih
theorem RepAs.of_ds {xs vs} (h : RepDs w S xs vs) : RepAs w S β (xs.map .d) vs := by
  induction xs generalizing vs with
  | nil => rw [h.nil_inv]; exact .nil
  | cons x xs ih => obtain ⟨v, vs', rfl, h1, h2⟩ := h.cons_inv; exact .cons (.d h1) (ih h2)
theorem RepA.toD {x v y} (h : RepA w S β x v) (hx : x.toD = some y) : RepDs w S [y] [v] := by
  cases h <;> simp [At.toD] at hx
  · subst hx; assumption
  · subst hx; exact RepDs.sl_nil _ _
theorem RepAs.toDs {xs vs ys} (h : RepAs w S β xs vs) (hx : toDs xs = some ys) : RepDs w S ys vs := by
  induction h generalizing ys with
  | nil => simp [AM.toDs] at hx; subst hx; exact RepDs.nil
  | cons h _ ih =>
    simp only [AM.toDs] at hx
    split at hx
    · rename_i h1 h2; simp at hx; subst hx; exact RepDs.cons (h.toD h1) (ih h2)
    · simp at hx
theorem RepAs.mkN {xs vs} (h : RepAs w S β xs vs) : RepV w S β (mkAggN xs) (.agg vs.toArray) := by
  unfold mkAggN
  split
  · rename_i h1; exact RepVs.dat (h.toDs h1) .nil
  · exact RepVs.agg h .nil
theorem RepAs.mk {xs vs} (h : RepAs w S β xs vs) : RepV w S β (mkAgg xs) (.agg vs.toArray) := by
  unfold mkAgg
  split
  · exact h.mkN
  · exact RepVs.agg h .nil
theorem RepA.notAgg {x v} (h : RepA w S β x v) (hj : x ≠ .junk) : v.cells = #[v] := by
  cases h with
  | d h =>
    obtain ⟨_, h, _⟩ := h
    cases h with
    | tg h => obtain ⟨_, _, _, rfl⟩ := h.sl_val; rfl
    | _ => rfl
  | ol => rfl
  | junk => exact absurd rfl hj
  | _ => rfl
theorem RepV.cells {X v cs} (h : RepV w S β X v) (hc : X.cells = some cs) : RepAs w S β cs v.cells.toList := by
  cases X with
  | one x =>
    have hj : x ≠ .junk := by rintro rfl; simp [AV.cells] at hc
    have : cs = [x] := by cases x <;> simp_all [AV.cells]
    subst this
    rw [h.one_inv.notAgg hj]
    exact .cons h.one_inv .nil
  | dat xs => simp [AV.cells] at hc; subst hc; obtain ⟨vs, rfl, h2⟩ := h.dat_inv; exact RepAs.of_ds h2
  | agg xs => simp [AV.cells] at hc; subst hc; obtain ⟨vs, rfl, h2⟩ := h.agg_inv; exact h2
  | tup _ => simp [AV.cells] at hc
theorem RepAs.take_drop {xs vs} (h : RepAs w S β xs vs) (i n : Nat) : RepAs w S β ((xs.drop i).take n) ((vs.drop i).take n) := by
  induction h generalizing i n with
  | nil => simp; exact .nil
  | cons h h2 ih =>
    cases i with
    | zero =>
      cases n with
      | zero => simp; exact .nil
      | succ n => simp only [List.drop_zero, List.take_succ_cons]; exact .cons h (by simpa using ih 0 n)
    | succ i => simpa using ih i n
theorem RepAs.get {xs vs} (h : RepAs w S β xs vs) {i : Nat} {x : At} (hx : xs[i]? = some x) : ∃ v, vs[i]? = some v ∧ RepA w S β x v := by
  induction h generalizing i with
  | nil => simp at hx
  | cons h _ ih =>
    cases i with
    | zero => simp at hx; subst hx; exact ⟨_, rfl, h⟩
    | succ i => simpa using ih (by simpa using hx)
end

/-- Is a type's value a struct or an array? -/
def aggD : TypeDesc → Bool
  | .struct _ => true
  | .array _ _ => true
  | _ => false

theorem run_isAgg {P : Program} {t : TypeId} {d : TypeDesc} (h : P.underlying t = some d) (w : World) : (isAgg t).run P w = .ok (aggD d) w := by
  simp only [isAgg, Sem.run_bind, run_underlying h, Result.andThen_ok]
  cases d <;> rfl

/-- A field of a struct that is a value. -/
theorem opP_field1 {t : TypeId} {x : Operand} {i : Nat} {X : AV} {cs : List At} {c : At} {fs : Array Field} {f : Field} {d : TypeDesc} (ho : o.op = .field t x i) (ht : P.underlying t = some (.struct fs)) (hf : fs[i]? = some f)
    (hd : P.underlying f.type = some d) (hna : aggD d = false) (hx : av x = some X) (hc : X.cells = some cs) (hX : (∃ ys, X = .dat ys) ∨ ∃ ys, X = .agg ys) (hi : cs[f.offset]? = some c) : OpP P o av [] (.one c) [] := by
  refine opP_val fun a w S β _ hr _ => ?_
  have h1 := hr x _ hx (by simp [ho, Op.operands])
  have key : ∃ vs, a.eval x = .agg vs.toArray ∧ RepAs w S β cs vs := by
    rcases hX with ⟨ys, rfl⟩ | ⟨ys, rfl⟩
    · simp [AV.cells] at hc; subst hc
      obtain ⟨vs, e, h⟩ := h1.dat_inv; exact ⟨vs, e, RepAs.of_ds h⟩
    · simp [AV.cells] at hc; subst hc; exact h1.agg_inv
  obtain ⟨vs, e, h⟩ := key
  obtain ⟨v, hv, hrep⟩ := h.get hi
  refine ⟨v, ?_, RepV.one hrep⟩
  have hag : (isAgg f.type).run P w = .ok false w := by rw [run_isAgg hd, hna]
  simp [execOp, ho, e, Instr.field, run_underlying ht, hf, asAgg, part, hag, hv]

/-- A field that is a struct, of a struct that is a value. -/
theorem opP_fieldS {t : TypeId} {x : Operand} {i : Nat} {X : AV} {cs : List At} {fs : Array Field} {f : Field} {d : TypeDesc} {j : TypeInfo} (ho : o.op = .field t x i) (ht : P.underlying t = some (.struct fs)) (hf : fs[i]? = some f)
    (hd : P.underlying f.type = some d) (hna : aggD d = true) (hj : P.info? f.type = some j) (hx : av x = some X) (hc : X.cells = some cs) (hX : (∃ ys, X = .dat ys) ∨ ∃ ys, X = .agg ys) : OpP P o av [] (mkAgg ((cs.drop f.offset).take j.size)) [] := by
  refine opP_val fun a w S β _ hr _ => ?_
  have h1 := hr x _ hx (by simp [ho, Op.operands])
  have key : ∃ vs, a.eval x = .agg vs.toArray ∧ RepAs w S β cs vs := by
    rcases hX with ⟨ys, rfl⟩ | ⟨ys, rfl⟩
    · simp [AV.cells] at hc; subst hc
      obtain ⟨vs, e, h⟩ := h1.dat_inv; exact ⟨vs, e, RepAs.of_ds h⟩
    · simp [AV.cells] at hc; subst hc; exact h1.agg_inv
  obtain ⟨vs, e, h⟩ := key
  refine ⟨.agg (vs.toArray.extract f.offset (f.offset + j.size)), ?_, ?_⟩
  · have hag : (isAgg f.type).run P w = .ok true w := by rw [run_isAgg hd, hna]
    simp [execOp, ho, e, Instr.field, run_underlying ht, hf, asAgg, part, hag, sizeOf, typeInfo, hj]
  · have := (h.take_drop f.offset j.size).mk
    have e2 : vs.toArray.extract f.offset (f.offset + j.size) = ((vs.drop f.offset).take j.size).toArray := by
      apply Array.ext'; simp [List.extract_eq_take_drop]
    rw [e2]; exact this

theorem RepVs.get {w : World} {S : Nat → Prop} {β : Nat → OLoc} {ys vs} (h : RepVs w S β ys vs) : ∀ {i : Nat} {x : AV}, ys[i]? = some x → ∃ v, vs[i]? = some v ∧ RepV w S β x v := by
  induction h with
  | nil => intro i x hx; simp at hx
  | one h _ ih => intro i x hx; cases i with | zero => simp at hx; subst hx; exact ⟨_, rfl, RepVs.one h RepVs.nil⟩ | succ i => simpa using ih (by simpa using hx)
  | dat h _ ih => intro i x hx; cases i with | zero => simp at hx; subst hx; exact ⟨_, rfl, RepVs.dat h RepVs.nil⟩ | succ i => simpa using ih (by simpa using hx)
  | agg h _ ih => intro i x hx; cases i with | zero => simp at hx; subst hx; exact ⟨_, rfl, RepVs.agg h RepVs.nil⟩ | succ i => simpa using ih (by simpa using hx)
  | tup h _ _ ih => intro i x hx; cases i with | zero => simp at hx; subst hx; exact ⟨_, rfl, RepVs.tup h RepVs.nil⟩ | succ i => simpa using ih (by simpa using hx)

theorem opP_extract {x : Operand} {i : Nat} {ys : List AV} (ho : o.op = .extract x i) (hx : av x = some (.tup ys)) (hi : ys[i]? = some y) : OpP P o av [] y [] := by
  refine opP_val fun a w S β _ hr _ => ?_
  obtain ⟨vs, e, h⟩ := (hr x _ hx (by simp [ho, Op.operands])).tup_inv
  obtain ⟨v, hv, hrep⟩ := h.get hi
  exact ⟨v, by simp [execOp, ho, e, Instr.extract, hv], hrep⟩

section
variable {t : TypeId} {x z : Operand} {i : Nat} {fs : Array Field} {f : Field}
theorem opP_fieldAddrO {k off : Nat} (ho : o.op = .fieldAddr t x i) (ht : P.underlying t = some (.struct fs)) (hf : fs[i]? = some f) (hx : av x = some (.one (.op k off)))
    (hp : ∀ (w : World) (a : Addr), (fieldPlace a f).run P w = .ok (a.add f.offset) w) : OpP P o av [] (.one (.op k (off + f.offset))) [] := by
  refine opP_val fun a w S β _ hr _ => ?_
  have h := (hr x _ hx (by simp [ho, Op.operands])).one_inv
  generalize hv : a.eval x = v at h
  cases h
  refine ⟨.pointer (some ⟨(β k).blk, off + f.offset, none⟩), ?_, RepV.one .op⟩
  have : (⟨(β k).blk, off, none⟩ : Addr).add f.offset = ⟨(β k).blk, off + f.offset, none⟩ := by unfold Addr.add; split <;> simp_all
  simp [execOp, ho, hv, Instr.fieldAt, run_underlying ht, hf, Instr.sureAddr, hp, this]
end

section
variable {t : TypeId} {x z : Operand}
/-- The address of an element of data. -/
theorem opP_indexD {xs : List (List Da)} {k : IntKind} {n : Nat} {c : List Da} {e : TypeId} {j : TypeInfo} (ho : o.op = .indexAddr t x z) (ht : P.underlying t = some (.slice e)) (hj : P.info? e = some j) (hx : av x = some (L xs)) (hz : av z = some (I k (n : Int)))
    (hi : xs[n]? = some c) (hc : c.length = j.size) (hpos : 0 < j.size) : OpP P o av [] (.one (.ep c)) [] := by
  refine opP_val fun a w S β _ hr _ => ?_
  have ez := (hr z _ hz (by simp [ho, Op.operands])).int_inv
  have h := (hr x _ hx (by simp [ho, Op.operands])).one_inv
  generalize hv : a.eval x = v at h
  cases h with
  | d h =>
    obtain ⟨ad, cap, rfl, h1, h2, h3⟩ := h.sl_inv
    have hn : n < xs.length := (List.getElem?_eq_some_iff.1 hi).1
    have hmem : c ∈ xs := List.mem_of_getElem? hi
    have hsplit : xs.flatten = (xs.take n).flatten ++ (c ++ (xs.drop (n + 1)).flatten) := by
      have : xs = xs.take n ++ c :: xs.drop (n + 1) := by
        rw [(List.getElem?_eq_some_iff.1 hi).2.symm, List.getElem_cons_drop, List.take_append_drop]
      conv => lhs; rw [this]
      simp
    rcases h3 with h3 | ⟨b, off, us, es, rfl, hS, hb, hd, hes, hm⟩
    · have hc0 : c = [] := by
        rw [h3] at hsplit
        have := hsplit.symm
        simp at this
        exact this.2.1
      subst hc0
      simp at hc; omega
    · rw [hsplit] at hd
      obtain ⟨v1, v2, rfl, d1, d2⟩ := hd.split
      obtain ⟨v3, v4, rfl, d3, d4⟩ := d2.split
      have hl1 : v1.length = n * j.size := by
        have hee : es = j.size := by rw [← hc, hes c hmem]
        rw [d1.len, List.length_flatten]
        have : (xs.take n).map List.length = List.replicate n j.size := by
          apply List.ext_getElem?
          intro q
          by_cases hq : q < n
          · have hq2 : q < xs.length := by omega
            simp only [List.getElem?_map, List.getElem?_take, hq, if_true, List.getElem?_replicate, List.getElem?_eq_getElem hq2, Option.map_some]
            rw [hes _ (List.getElem_mem hq2), hee]
          · simp [hq]; omega
        rw [this]; simp
      refine ⟨.pointer (some ⟨b, off + n * j.size, none⟩), ?_, RepV.one (.ep d3 (.inr ⟨hS, hb⟩) fun q u hu => ?_)⟩
      · have hadd : (⟨b, off, none⟩ : Addr).add (n * j.size) = ⟨b, off + n * j.size, none⟩ := by unfold Addr.add; split <;> simp_all
        simp [execOp, ho, hv, ez, Instr.indexAt, run_underlying ht, asIntOf, sizeOf, typeInfo, hj, hn, Nat.not_le.2 hn, hadd]
      · have hq : q < v3.length := (List.getElem?_eq_some_iff.1 hu).1
        have := hm (n * j.size + q) u (by
          rw [List.getElem?_append_right (by omega), hl1, Nat.add_sub_cancel_left, List.getElem?_append_left hq]; exact hu)
        rw [Nat.add_assoc]; exact this
end
end
end AM
end Go.Proofs.Ytfcmmpmdofejeaa
