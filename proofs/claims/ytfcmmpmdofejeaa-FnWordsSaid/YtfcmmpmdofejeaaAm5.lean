/- New variables and lists, struct values, calls by contract, entering a function and its results; no conditions. -/
import Derived.Test.YtfcmmpmdofejeaaAm4
set_option linter.unusedSimpArgs false
set_option linter.unusedVariables false
namespace Go.Proofs.Ytfcmmpmdofejeaa
namespace AM
open Go

section
variable {w : World} {S : Nat → Prop} {β : Nat → OLoc}

/-- A new block: an object of its own. -/
theorem Grow.new (hlt : ∀ b, S b → b < w.heap.size) (o : Obj) (d : Nat) (X : Ob) (l : OLoc) (hl : l.blk = w.heap.size) (hsub : l.sub = []) (hcl : l.clm = []) (hX : ObRep (w.alloc o) S (fun k => if k = d then l else β k) l X) :
    Grow w S β [(d, X)] (w.alloc o) S (fun k => if k = d then l else β k) := by
  refine ⟨rfl, rfl, rfl, by simp, fun b hb => Go.RowKit.Below.heap_alloc w o b hb, fun _ h => h, fun b hb => ⟨by have := hlt b hb; simp; omega, .inl hb⟩, fun k hk => ?_, ?_, ?_, ?_, ?_, ?_⟩
  · have := hk (d, X) (by simp)
    dsimp only at this
    rw [if_neg (fun e => this e.symm)]
  · intro p hp; simp at hp; subst hp; simp only [if_true]; exact hX
  · intro p hp b hb; simp at hp; subst hp
    simp only [if_true] at hb
    have hb := (OLoc.own0 hsub hb).2
    rw [hl] at hb; subst hb
    refine ⟨Nat.le_refl _, by simp, fun hs => ?_⟩
    have := hlt _ hs; omega
  · intro p hp q hq _ _ _; simp at hp hq; subst hp; subst hq; rfl
  · intro p hp b hb; simp at hp; subst hp; simp only [if_true, hcl] at hb; cases hb
  · intro p hp q hq _ _ _; simp at hp hq; subst hp; subst hq; rfl

theorem RepAs.newβ {xs vs d l} (h : RepAs w S β xs vs) (hd : d ∉ AV.idsL xs) : RepAs w S (fun k => if k = d then l else β k) xs vs :=
  h.mono (fun _ _ => rfl) (fun _ h => h) fun o ho => by rw [if_neg]; rintro rfl; exact hd ho
end

/-- Zero cells, read. -/
def constAts : List Value → Option (List At)
  | [] => some []
  | v :: r => match constAt v, constAts r with
    | some y, some ys => some (y :: ys)
    | _, _ => none

theorem constAt_rep {w : World} {S : Nat → Prop} {β : Nat → OLoc} {v : Value} {x : At} (h : constAt v = some x) : RepA w S β x v := by
  have : constAV v = some (.one x) := by simp [constAV, h]
  exact (constAV_rep this).one_inv

theorem constAts_rep {w : World} {S : Nat → Prop} {β : Nat → OLoc} {vs : List Value} {xs : List At} (h : constAts vs = some xs) : RepAs w S β xs vs := by
  induction vs generalizing xs with
  | nil => simp [constAts] at h; subst h; exact .nil
  | cons v vs ih =>
    simp only [constAts] at h
    split at h
    · rename_i h1 h2; simp at h; subst h; exact .cons (constAt_rep h1) (ih h2)
    · simp at h

theorem constAts_ids {vs : List Value} {xs : List At} (h : constAts vs = some xs) : AV.idsL xs = [] := by
  induction vs generalizing xs with
  | nil => simp [constAts] at h; subst h; rfl
  | cons v vs ih =>
    simp only [constAts] at h
    split at h
    · rename_i y ys h1 h2; simp at h; subst h
      simp only [AV.idsL, ih h2, List.append_nil]
      unfold constAt at h1
      split at h1 <;> simp at h1
      · subst h1; rfl
      · subst h1; rfl
      · obtain ⟨_, rfl⟩ := h1; rfl
      · subst h1; rfl
      · subst h1; rfl
    · simp at h

section
variable {P : Program} {o : Oper} {av : Operand → Option AV} {us : List (Nat × Ob)} {y : AV} {t : TypeId} {x z : Operand}

theorem opP_box {d : Nat} {X : AV} {cs : List At} (ho : o.op = .box t x) (hx : av x = some X) (hc : X.cells = some cs) (hd : d ∉ AV.idsL cs) : OpP P o av [] (.one (.op d 0)) [(d, .var cs)] := by
  intro a w S β hlt hr _ K Q hK
  have h := hr x _ hx (by simp [ho, Op.operands])
  have hcs := h.cells hc
  have he : (execOp a.eval o).run P w = .ok (.value (.pointer (some ⟨w.heap.size, 0, none⟩))) (w.alloc (.cells (a.eval x).cells t)) := by
    simp [execOp, ho, Instr.box, newVar, newRow]
  unfold Oper.wp
  rw [he]
  have hb : (w.alloc (.cells (a.eval x).cells t)).heap[w.heap.size]? = some (.cells (a.eval x).cells t (0, 0)) := heap_alloc_new w _
  have hcs' : RepAs (w.alloc (.cells (a.eval x).cells t)) S (fun k => if k = d then ⟨w.heap.size, none, 0, 0, true, [], []⟩ else β k) cs (a.eval x).cells.toList :=
    (hcs.mono (fun b hb => Go.RowKit.Below.heap_alloc w _ b (hlt b hb)) (fun _ h => h) (fun _ _ => rfl)).newβ hd
  refine hK _ _ S _ (Grow.new hlt _ d (.var cs) ⟨w.heap.size, none, 0, 0, true, [], []⟩ rfl rfl rfl ⟨rfl, _, _, hb, hcs'⟩) (RepV.one ?_)
  have : (some ⟨w.heap.size, 0, none⟩ : Option Addr) = some ⟨((fun k => if k = d then (⟨w.heap.size, none, 0, 0, true, [], []⟩ : OLoc) else β k) d).blk, 0, none⟩ := by simp
  rw [this]
  exact .op

theorem opP_alloc {d : Nat} {i : TypeInfo} {zv : Value} {cs : List At} (ho : o.op = .alloc t) (hi : P.info? t = some i) (hz : i.zero = some zv) (hc : constAts zv.cells.toList = some cs) : OpP P o av [] (.one (.op d 0)) [(d, .var cs)] := by
  intro a w S β hlt hr _ K Q hK
  have he : (execOp a.eval o).run P w = .ok (.value (.pointer (some ⟨w.heap.size, 0, none⟩))) (w.alloc (.cells zv.cells t)) := by
    simp [execOp, ho, Instr.alloc, zeroValue, typeInfo, hi, hz, newVar, newRow]
  unfold Oper.wp
  rw [he]
  have hb : (w.alloc (.cells zv.cells t)).heap[w.heap.size]? = some (.cells zv.cells t (0, 0)) := heap_alloc_new w _
  refine hK _ _ S _ (Grow.new hlt _ d (.var cs) ⟨w.heap.size, none, 0, 0, true, [], []⟩ rfl rfl rfl ⟨rfl, _, _, hb, constAts_rep hc⟩) (RepV.one ?_)
  have : (some ⟨w.heap.size, 0, none⟩ : Option Addr) = some ⟨((fun k => if k = d then (⟨w.heap.size, none, 0, 0, true, [], []⟩ : OLoc) else β k) d).blk, 0, none⟩ := by simp
  rw [this]
  exact .op

inductive Two {α β : Type} (R : α → β → Prop) : List α → List β → Prop
  | nil : Two R [] []
  | cons {a b l m} : R a b → Two R l m → Two R (a :: l) (b :: m)

/-- A struct's or an array's parts put into its zero cells. -/
def fillA (place : Nat → Option (Nat × Nat)) (cells : List At) : List (Nat × List At) → Option (List At)
  | [] => some cells
  | (i, v) :: rest => match place i with
    | none => none
    | some (off, size) => if v.length = size ∧ off + size ≤ cells.length then fillA place (cells.take off ++ v ++ cells.drop (off + size)) rest else none

theorem foldl_set (vs : List Value) : ∀ (cells : Array Value) (off k : Nat), off + k + vs.length ≤ cells.size →
    ((vs.zipIdx k).foldl (fun cs (p : Value × Nat) => cs.setIfInBounds (off + p.2) p.1) cells).toList = cells.toList.take (off + k) ++ vs ++ cells.toList.drop (off + k + vs.length) := by
  induction vs with
  | nil => intro cells off k _; simp
  | cons v vs ih =>
    intro cells off k h
    simp only [List.length_cons] at h
    simp only [List.zipIdx_cons, List.foldl_cons]
    rw [ih _ off (k + 1) (by simp; omega)]
    have e := list_seg_step cells.toList (off + k) v vs (by simp; omega)
    simpa [Array.toList_setIfInBounds, Nat.add_assoc] using e

theorem fill_rep {w : World} {S : Nat → Prop} {β : Nat → OLoc} {place : Nat → Option (Nat × Nat)} (parts : List (Nat × List At)) : ∀ (pv : List (Nat × Value)) (cells : List At) (cv : Array Value) (out : List At),
    RepAs w S β cells cv.toList → Two (fun p q => p.1 = q.1 ∧ RepAs w S β p.2 q.2.cells.toList) parts pv → fillA place cells parts = some out →
    ∃ ov, Instr.fill place cv pv = some ov ∧ RepAs w S β out ov.toList := by
  induction parts with
  | nil => intro pv cells cv out h hp hf; cases hp; simp [fillA] at hf; subst hf; exact ⟨cv, rfl, h⟩
  | cons p parts ih =>
    intro pv cells cv out h hp hf
    cases hp with
    | @cons _ q _ pv h1 h2 =>
      obtain ⟨i, v⟩ := p
      obtain ⟨j, u⟩ := q
      obtain ⟨rfl, hu⟩ := h1
      simp only [fillA] at hf
      split at hf
      · simp at hf
      · rename_i off size hpl
        split at hf
        · rename_i hc
          obtain ⟨hc1, hc2⟩ := hc
          have hlu : u.cells.size = size := by have := hu.len; simp at this; omega
          have hlc := h.len
          have hlen : cv.size = cells.length := by simpa using hlc
          have e := foldl_set u.cells.toList cv off 0 (by simp; omega)
          simp only [Nat.add_zero, Array.length_toList] at e
          obtain ⟨ov, ho, hr⟩ := ih pv _ ((u.cells.toList.zipIdx).foldl (fun cs (p : Value × Nat) => cs.setIfInBounds (off + p.2) p.1) cv) out (by
            rw [e]
            have t1 := h.take_drop 0 off
            have t2 := h.take_drop (off + size) cells.length
            simp only [List.drop_zero] at t1
            rw [List.take_of_length_le (by simp), List.take_of_length_le (by simp; omega)] at t2
            rw [hlu]
            exact (t1.app hu).app t2) h2 hf
          refine ⟨ov, ?_, hr⟩
          simp only [Instr.fill, hpl]
          rw [if_neg (by simp; omega), ← ho]
          congr 1
          rw [← Array.foldl_toList, Array.toList_zipIdx]
        · simp at hf

theorem evalParts {w : World} {S : Nat → Prop} {β : Nat → OLoc} {ρ : Operand → Value} (ps : List (Nat × Operand)) : ∀ (as : List (Nat × List At)),
    (∀ p ∈ ps, ∀ X, av p.2 = some X → RepV w S β X (ρ p.2)) → Two (fun p q => p.1 = q.1 ∧ ∃ X, av p.2 = some X ∧ X.cells = some q.2) ps as →
    Two (fun p q => p.1 = q.1 ∧ RepAs w S β p.2 q.2.cells.toList) as (ps.map fun p => (p.1, ρ p.2)) := by
  induction ps with
  | nil => intro as _ h; cases h; exact .nil
  | cons p ps ih =>
    intro as hr h
    cases h with
    | cons h1 h2 =>
      obtain ⟨e, X, hX, hc⟩ := h1
      exact .cons ⟨e.symm, (hr p (by simp) X hX).cells hc⟩ (ih _ (fun q hq => hr q (by simp [hq])) h2)

/-- The parts of a struct or array value, each by what its operand reads as. -/
def partsA (av : Operand → Option AV) : List (Nat × Operand) → Option (List (Nat × List At))
  | [] => some []
  | (i, x) :: r => match (av x).bind AV.cells, partsA av r with
    | some c, some cs => some ((i, c) :: cs)
    | _, _ => none

theorem partsA_spec (ps : List (Nat × Operand)) : ∀ (as : List (Nat × List At)), partsA av ps = some as → Two (fun p q => p.1 = q.1 ∧ ∃ X, av p.2 = some X ∧ X.cells = some q.2) ps as := by
  induction ps with
  | nil => intro as h; simp [partsA] at h; subst h; exact .nil
  | cons p ps ih =>
    intro as h
    obtain ⟨i, x⟩ := p
    simp only [partsA] at h
    split at h
    · rename_i c cs h1 h2
      simp at h; subst h
      obtain ⟨X, hX, hc⟩ := Option.bind_eq_some_iff.1 h1
      exact .cons ⟨rfl, X, hX, hc⟩ (ih _ h2)
    · simp at h

theorem opP_build {ps : List (Nat × Operand)} {fs : Array Field} {i : TypeInfo} {zv : Value} {cs out : List At} {as : List (Nat × List At)} {places : Array (Nat × Nat)} (ho : o.op = .build t ps.toArray) (ht : P.underlying t = some (.struct fs)) (hi : P.info? t = some i) (hz : i.zero = some zv)
    (hpl : ∀ w, (fs.mapM fun f => do pure (f.offset, ← sizeOf f.type) : Sem (Array (Nat × Nat))).run P w = .ok places w) (hc : constAts zv.cells.toList = some cs) (has : partsA av ps = some as) (hf : fillA (places[·]?) cs as = some out) : OpP P o av [] (mkAgg out) [] := by
  refine opP_val fun a w S β _ hr _ => ?_
  have h1 := evalParts (w := w) (S := S) (β := β) (ρ := a.eval) ps as (fun p hp X hX => hr p.2 X hX (by simp [ho, Op.operands]; exact ⟨p.1, hp⟩)) (partsA_spec ps as has)
  obtain ⟨ov, hov, hrep⟩ := fill_rep as _ cs zv.cells out (constAts_rep hc) h1 hf
  refine ⟨.agg ov, ?_, by have := hrep.mk; simpa using this⟩
  have hpl' := hpl w
  simp only [execOp, ho, Instr.build, zeroValue, typeInfo, program, Sem.run_bind, Sem.run, Result.andThen_ok, hi, hz, Sem.run_pure, run_underlying ht, hpl', List.map_toArray, hov]

/-- Cells cut into elements of es cells. -/
def chunk (es : Nat) : Nat → List Da → List (List Da)
  | 0, _ => []
  | n + 1, ds => ds.take es :: chunk es n (ds.drop es)

theorem chunk_spec {es : Nat} : ∀ (n : Nat) (ds : List Da), ds.length = n * es → (chunk es n ds).flatten = ds ∧ (chunk es n ds).length = n ∧ ∀ c ∈ chunk es n ds, c.length = es := by
  intro n
  induction n with
  | zero => intro ds h; simp at h; subst h; simp [chunk]
  | succ n ih =>
    intro ds h
    rw [Nat.add_mul] at h
    obtain ⟨h1, h2, h3⟩ := ih (ds.drop es) (by simp; omega)
    refine ⟨by simp [chunk, h1], by simp [chunk, h2], fun c hc => ?_⟩
    simp only [chunk, List.mem_cons] at hc
    rcases hc with rfl | hc
    · simp; omega
    · exact h3 c hc

theorem ownsRow_new {w : World} {c : Array Value} {E es n cap : Nat} (hc : c.size = cap * es) (hn : n ≤ cap) (hcap : cap ≤ maxLen) :
    (w.alloc (.cells c E)).ownsRow 0 E es (.slice (some ⟨w.heap.size, 0, none⟩) n cap) n (c.toList.take (n * es)) := by
  refine ⟨?_, .inr ⟨w.heap.size, cap, c, rfl, Nat.zero_le _, heap_alloc_new w _, hn, hcap, hc, rfl⟩⟩
  rw [List.length_take, Array.length_toList, hc]
  exact Nat.min_eq_left (Nat.mul_le_mul_right _ hn)

theorem take_replicate_flatten {α : Type} (zs : List α) (n m : Nat) (h : n ≤ m) : ((List.replicate m zs).flatten).take (n * zs.length) = (List.replicate n zs).flatten := by
  obtain ⟨k, rfl⟩ := Nat.exists_eq_add_of_le h
  rw [← List.replicate_append_replicate, List.flatten_append]
  exact List.take_left' (by simp)

theorem madeCells_replicate (z : Array Value) (hz : 0 < z.size) (n : Nat) : (madeCells z (n * z.size)).toList = (List.replicate n z.toList).flatten := by
  apply List.ext_getElem?
  intro i
  by_cases hi : i < n * z.size
  · have h1 : (madeCells z (n * z.size)).toList[i]? = some z[i % z.size]! := by
      simp [madeCells, hi]
    rw [h1]
    have hq : i / z.size < n := Nat.div_lt_of_lt_mul (by rw [Nat.mul_comm]; exact hi)
    have hm : i % z.size < z.size := Nat.mod_lt _ hz
    have hsp : (List.replicate n z.toList)[i / z.size]? = some z.toList := by simp [hq]
    rw [flatten_split hsp]
    have hl : ((List.replicate n z.toList).take (i / z.size)).flatten.length = (i / z.size) * z.size := by
      rw [flatten_len (es := z.size) (fun x hx => by
        have := List.mem_of_mem_take hx
        simp at this; rw [this.2]; simp)]
      simp [Nat.min_eq_left (Nat.le_of_lt hq)]
    have hdm := Nat.div_add_mod' i z.size
    rw [List.getElem?_append_right (by omega), hl, show i - i / z.size * z.size = i % z.size by omega, List.getElem?_append_left (by simpa using hm)]
    simp [hm]
  · rw [List.getElem?_eq_none (by simp [size_madeCells]; omega), List.getElem?_eq_none]
    rw [flatten_len (es := z.size) (fun x hx => by simp at hx; rw [hx.2]; simp)]
    simp; omega

theorem replicate_rep {w : World} {S : Nat → Prop} {β : Nat → OLoc} {cs : List At} {vs : List Value} (h : RepAs w S β cs vs) (n : Nat) : RepAs w S β (List.replicate n cs).flatten (List.replicate n vs).flatten := by
  induction n with
  | zero => exact .nil
  | succ n ih => simp only [List.replicate_succ, List.flatten_cons]; exact h.app ih

theorem replicate_repD {w : World} {S : Nat → Prop} {cs : List Da} {vs : List Value} (h : RepDs w S cs vs) (n : Nat) : RepDs w S (List.replicate n cs).flatten (List.replicate n vs).flatten := by
  induction n with
  | zero => exact RepDs.nil
  | succ n ih => simp only [List.replicate_succ, List.flatten_cons]; exact h.app ih

/-- What a new list of the call's own is. -/
theorem newList {w : World} {S : Nat → Prop} {β : Nat → OLoc} (hlt : ∀ b, S b → b < w.heap.size) {c : Array Value} {E es cap d : Nat} {xs : List (List Da)} (hc : c.size = cap * es) (hn : xs.length ≤ cap) (hcap : cap ≤ maxLen) (hle : ∀ y ∈ xs, y.length = es)
    (hsmall : xs.length ≤ 281474976710656) (hr : RepDs w S xs.flatten (c.toList.take (xs.length * es))) :
    Grow w S β [(d, .lst E es xs)] (w.alloc (.cells c E)) S (fun k => if k = d then ⟨w.heap.size, some ⟨w.heap.size, 0, none⟩, xs.length, cap, true, [], []⟩ else β k) ∧
    RepV (w.alloc (.cells c E)) S (fun k => if k = d then ⟨w.heap.size, some ⟨w.heap.size, 0, none⟩, xs.length, cap, true, [], []⟩ else β k) (.one (.ol d)) (.slice (some ⟨w.heap.size, 0, none⟩) xs.length cap) := by
  refine ⟨Grow.new hlt _ d (.lst E es xs) ⟨w.heap.size, some ⟨w.heap.size, 0, none⟩, xs.length, cap, true, [], []⟩ rfl rfl rfl (.inl ⟨rfl, hsmall, hle, _, ownsRow_new hc hn hcap, hr.mono (fun b hb => Go.RowKit.Below.heap_alloc w _ b (hlt b hb)) fun _ h => h⟩), RepV.one ?_⟩
  have : (Value.slice (some ⟨w.heap.size, 0, none⟩) xs.length cap) = ((fun k => if k = d then (⟨w.heap.size, some ⟨w.heap.size, 0, none⟩, xs.length, cap, true, [], []⟩ : OLoc) else β k) d).sv := by simp [OLoc.sv]
  rw [this]
  exact .ol

theorem buildSlice_run {ρa : Act} {w : World} {S : Nat → Prop} {β : Nat → OLoc} {ps : List (Nat × Operand)} {n : Nat} {e : TypeId} {i : TypeInfo} {zv : Value} {cs out : List At} {as : List (Nat × List At)} (ho : o.op = .buildSlice t n ps.toArray) (ht : P.underlying t = some (.slice e)) (hi : P.info? e = some i) (hz : i.zero = some zv) (hzs : zv.cells.size = i.size) (hpos : 0 < i.size)
    (hc : constAts zv.cells.toList = some cs) (hsm : n * i.size ≤ 16777216) (has : partsA av ps = some as) (hf : fillA (fun q => some (q * i.size, i.size)) (List.replicate n cs).flatten as = some out)
    (hr : ∀ x X, av x = some X → x ∈ o.op.operands → RepV w S β X (ρa.eval x)) : ∃ ov : Array Value, (execOp ρa.eval o).run P w = .ok (.value (.slice (some ⟨w.heap.size, 0, none⟩) n n)) (w.alloc (.cells ov e)) ∧ RepAs w S β out ov.toList ∧ ov.size = n * i.size := by
  have h1 := evalParts (w := w) (S := S) (β := β) (ρ := ρa.eval) ps as (fun p hp X hX => hr p.2 X hX (by simp [ho, Op.operands]; exact ⟨p.1, hp⟩)) (partsA_spec ps as has)
  have hz0 : RepAs w S β (List.replicate n cs).flatten (madeCells zv.cells (n * i.size)).toList := by
    rw [← hzs, madeCells_replicate _ (by omega)]
    exact replicate_rep (constAts_rep hc) n
  obtain ⟨ov, hov, hrep⟩ := fill_rep as _ _ (madeCells zv.cells (n * i.size)) out hz0 h1 hf
  have e2 : ov.size = n * i.size := by
      have : ∀ (place : Nat → Option (Nat × Nat)) (l : List (Nat × Value)) (c r : Array Value), Instr.fill place c l = some r → r.size = c.size := by
        intro place l
        induction l with
        | nil => intro c r h; simp [Instr.fill] at h; rw [h]
        | cons p l ih =>
          intro c r h
          obtain ⟨j, u⟩ := p
          simp only [Instr.fill] at h
          split at h
          · simp at h
          · split at h
            · simp at h
            · rw [ih _ _ h, ← Array.foldl_toList]
              generalize (u.cells.zipIdx).toList = q
              have : ∀ (q : List (Value × Nat)) (c : Array Value) (off : Nat), (q.foldl (fun cs (x : Value × Nat) => cs.setIfInBounds (off + x.2) x.1) c).size = c.size := by
                intro q
                induction q with
                | nil => intro c off; rfl
                | cons x q ih => intro c off; simp only [List.foldl_cons]; rw [ih]; simp
              exact this ..
      rw [this _ _ _ _ hov, size_madeCells]
  refine ⟨ov, ?_, hrep, e2⟩
  show (execOp ρa.eval o).run P w = .ok (.value (.slice (some ⟨w.heap.size, 0, none⟩) n n)) (w.alloc (.cells ov e)) 
  · by_cases hn0 : n * i.size = 0
    · have hmz : madeCells zv.cells (n * i.size) = #[] := by rw [hn0]; simp [madeCells, Array.range_zero']
      rw [hmz] at hov
      simp only [execOp, ho, Instr.buildSlice, run_underlying ht, Sem.run_bind, Result.andThen_ok, sizeOf, typeInfo, program, Sem.run, hi, Sem.run_pure, if_neg (Nat.not_lt.2 hsm), hn0, if_true, List.map_toArray]
      simp [hov, newRow, Array.range_zero']
    · simp only [execOp, ho, Instr.buildSlice, run_underlying ht, Sem.run_bind, Result.andThen_ok, sizeOf, typeInfo, program, Sem.run, hi, Sem.run_pure, if_neg (Nat.not_lt.2 hsm), hn0, if_false, List.map_toArray, zeroValue, hz]
      unfold madeCells at hov
      simp [hov, newRow]

theorem opP_buildSlice {ps : List (Nat × Operand)} {n d : Nat} {e : TypeId} {i : TypeInfo} {zv : Value} {cs out : List At} {ds : List Da} {as : List (Nat × List At)} (ho : o.op = .buildSlice t n ps.toArray) (ht : P.underlying t = some (.slice e)) (hi : P.info? e = some i) (hz : i.zero = some zv) (hzs : zv.cells.size = i.size) (hpos : 0 < i.size)
    (hc : constAts zv.cells.toList = some cs) (hsm : n * i.size ≤ 16777216) (has : partsA av ps = some as) (hf : fillA (fun q => some (q * i.size, i.size)) (List.replicate n cs).flatten as = some out) (hd : toDs out = some ds) : OpP P o av [] (.one (.ol d)) [(d, .lst e i.size (chunk i.size n ds))] := by
  intro a w S β hlt hr _ K Q hK
  obtain ⟨ov, he, hrep, e2⟩ := buildSlice_run (ρa := a) ho ht hi hz hzs hpos hc hsm has hf hr
  have hlen : ds.length = n * i.size := by
    have e1 := (hrep.toDs hd).len
    simp at e1; omega
  obtain ⟨g1, g2, g3⟩ := chunk_spec n ds hlen
  unfold Oper.wp
  rw [he]
  have hov2 : ov.toList.take ((chunk i.size n ds).length * i.size) = ov.toList := by
    rw [g2]; apply List.take_of_length_le; have := (hrep.toDs hd).len; omega
  have hL := newList (β := β) (d := d) (E := e) (es := i.size) (cap := n) (xs := chunk i.size n ds) (c := ov) hlt (by have := (hrep.toDs hd).len; simp at this; omega) (by omega) (by unfold maxLen; have : n ≤ n * i.size := Nat.le_mul_of_pos_right n hpos; omega) g3 (by rw [g2]; have : n ≤ n * i.size := Nat.le_mul_of_pos_right n hpos; omega) (by rw [g1, hov2]; exact hrep.toDs hd)
  rw [g2] at hL
  exact hK _ _ S _ hL.1 hL.2

theorem opP_makeSlice {l c : Nat} {k k' : IntKind} {d : Nat} {e : TypeId} {i : TypeInfo} {zv : Value} {cs : List At} {zd : List Da} (ho : o.op = .makeSlice t x z) (ht : P.underlying t = some (.slice e)) (hi : P.info? e = some i) (hz : i.zero = some zv) (hzs : zv.cells.size = i.size) (hpos : 0 < i.size)
    (hc : constAts zv.cells.toList = some cs) (hzd : toDs cs = some zd) (hx : av x = some (I k (l : Int))) (hzz : av z = some (I k' (c : Int))) (hlc : l ≤ c) (hb : i.bytes * c ≤ 281474976710656) (hc48 : c ≤ 281474976710656) : OpP P o av [] (.one (.ol d)) [(d, .lst e i.size (List.replicate l zd))] := by
  intro a w S β hlt hr _ K Q hK
  have e1 := (hr x _ hx (by simp [ho, Op.operands])).int_inv
  have e2 := (hr z _ hzz (by simp [ho, Op.operands])).int_inv
  have hbb : (i.bytes : Int) * (c : Int) ≤ 281474976710656 := by
    have h : ((i.bytes * c : Nat) : Int) ≤ 281474976710656 := by omega
    rwa [Int.natCast_mul] at h
  have hrun := run_make (P := P) w t e i zv ht hi hz k k' l c (by omega) (by omega) hbb (by omega)
  simp only [Int.toNat_natCast] at hrun
  have he : (execOp a.eval o).run P w = .ok (.value (.slice (some ⟨w.heap.size, 0, none⟩) l c)) (w.alloc (.cells (madeCells zv.cells (c * i.size)) e)) := by
    simp only [execOp, ho, e1, e2, Sem.run_bind, hrun, Result.andThen_ok, Sem.run_pure]
  unfold Oper.wp
  rw [he]
  have hzr : RepDs w S zd zv.cells.toList := (constAts_rep (w := w) (S := S) (β := β) hc).toDs hzd
  have hzl : zd.length = i.size := by have := hzr.len; simp at this; omega
  have hrr : RepDs w S (List.replicate l zd).flatten ((madeCells zv.cells (c * i.size)).toList.take ((List.replicate l zd).length * i.size)) := by
    have e3 : (madeCells zv.cells (c * i.size)).toList.take ((List.replicate l zd).length * i.size) = (List.replicate l zv.cells.toList).flatten := by
      have hs2 : i.size = zv.cells.toList.length := by simp [hzs]
      rw [← hzs, madeCells_replicate _ (by omega)]
      simp only [List.length_replicate]
      have := take_replicate_flatten zv.cells.toList l c hlc
      simpa using this
    rw [e3]
    exact replicate_repD hzr l
  have hL := newList (β := β) (d := d) (E := e) (es := i.size) (cap := c) (xs := List.replicate l zd) (c := madeCells zv.cells (c * i.size)) hlt (by simp [size_madeCells]) (by simpa using hlc) (by unfold maxLen; omega) (fun y hy => by simp at hy; rw [hy.2, hzl]) (by simp; omega) hrr
  simp only [List.length_replicate] at hL
  exact hK _ _ S _ hL.1 hL.2

/-- What a call comes to: from data to a value, and to new lists. -/
def ACall (P : Program) (f : FuncId) (xs : List AV) (r : AV) (nob : List (Nat × Ob)) : Prop :=
  ∀ (w : World) (S : Nat → Prop) (β : Nat → OLoc) (vs : List Value), (∀ b, S b → b < w.heap.size) → RepVs w S β xs vs →
    Calls P f vs.toArray w fun e w' => ∃ v S' β', e = .returned v ∧ Grow w S β nob w' S' β' ∧ RepV w' S' β' r v

theorem RepVs.cons {w : World} {S : Nat → Prop} {β : Nat → OLoc} {x : AV} {v : Value} {xs : List AV} {vs : List Value} (h : RepV w S β x v) (k : RepVs w S β xs vs) : RepVs w S β (x :: xs) (v :: vs) := by
  cases h with
  | one h _ => exact .one h k
  | dat h _ => exact .dat h k
  | agg h _ => exact .agg h k
  | tup h _ => exact .tup h k

def argsA (av : Operand → Option AV) : List Operand → Option (List AV)
  | [] => some []
  | x :: r => match av x, argsA av r with
    | some c, some cs => some (c :: cs)
    | _, _ => none

theorem argsA_rep {w : World} {S : Nat → Prop} {β : Nat → OLoc} {ρ : Operand → Value} : ∀ (as : List Operand) (xs : List AV), (∀ x X, av x = some X → x ∈ as → RepV w S β X (ρ x)) → argsA av as = some xs → RepVs w S β xs (as.map ρ) := by
  intro as
  induction as with
  | nil => intro xs _ h; simp [argsA] at h; subst h; exact .nil
  | cons a as ih =>
    intro xs hr h
    simp only [argsA] at h
    split at h
    · rename_i c cs h1 h2
      simp at h; subst h
      exact RepVs.cons (hr a c h1 (by simp)) (ih cs (fun x X hx hm => hr x X hx (by simp [hm])) h2)
    · simp at h

theorem run_call_func {f : FuncId} {fn : Func} (hf : P.funcs[f]? = some fn) (hb : fn.body.isNone = false) (hname : (fn.name == "runtime.NumGoroutine") = false) (args : Array Value) (w : World) : (callFunc f args).run P w = .ok (.enter f args) w := by
  simp at hb hname
  obtain ⟨c, hc⟩ := Option.isSome_iff_exists.1 hb
  simp [callFunc, hf, hc, hname]

theorem opP_call {f : FuncId} {fn : Func} {as : List Operand} {ts : Array TypeId} {xs : List AV} {r : AV} {nob : List (Nat × Ob)} (ho : o.op = .call { callee := .value (.func f), args := as.toArray, argTypes := ts }) (hf : P.funcs[f]? = some fn) (hb : fn.body.isNone = false) (hname : (fn.name == "runtime.NumGoroutine") = false)
    (has : argsA av as = some xs) (hc : ACall P f xs r nob) : OpP P o av [] r nob := by
  intro a w S β hlt hr _ K Q hK
  have h1 := argsA_rep (w := w) (S := S) (β := β) (ρ := a.eval) as xs (fun x X hx hm => hr x X hx (by simp [ho, Op.operands, Call.operands, hm])) has
  have he : (execOp a.eval o).run P w = .ok (.enter f (as.map a.eval).toArray) w := by
    have hfe : a.eval (.func f) = .func (.func f) #[] #[] := rfl
    simp only [execOp, ho, resolve, hfe, Deferred.ofValue, Sem.run_bind, Sem.run_pure, Result.andThen_ok, invoke, List.map_toArray]
    rw [show (#[] : Array Value) ++ (as.map a.eval).toArray ++ #[] = (as.map a.eval).toArray by simp]
    exact run_call_func hf hb hname _ _
  unfold Oper.wp
  rw [he, Oper.upon_enter]
  refine (hc w S β _ hlt h1).mono ?_
  rintro e w' ⟨v, S', β', rfl, hG, hrep⟩
  exact hK v w' S' β' hG hrep
end

/-- The state in which a call begins. -/
def St.enter (i : Nat) : List AV → List (Nat × AV)
  | [] => []
  | x :: r => (i, x) :: St.enter (i + 1) r

theorem enter_get {w : World} {S : Nat → Prop} {β : Nat → OLoc} {xs : List AV} {vs : List Value} (h : RepVs w S β xs vs) : ∀ (k i : Nat) (x : AV), look (St.enter k xs) i = some x → ∃ v, k ≤ i ∧ vs[i - k]? = some v ∧ RepV w S β x v := by
  have key : ∀ (xs : List AV) (vs : List Value), RepVs w S β xs vs → ∀ (k i : Nat) (x : AV), look (St.enter k xs) i = some x → ∃ v, k ≤ i ∧ vs[i - k]? = some v ∧ RepV w S β x v := by
    intro xs
    induction xs with
    | nil => intro vs _ k i x hx; simp [St.enter, look] at hx
    | cons y xs ih =>
      intro vs h k i x hx
      have hsp : ∃ v vs', vs = v :: vs' ∧ RepV w S β y v ∧ RepVs w S β xs vs' := by
        cases h with
        | one h1 h2 => exact ⟨_, _, rfl, RepVs.one h1 .nil, h2⟩
        | dat h1 h2 => exact ⟨_, _, rfl, RepVs.dat h1 .nil, h2⟩
        | agg h1 h2 => exact ⟨_, _, rfl, RepVs.agg h1 .nil, h2⟩
        | tup h1 h2 => exact ⟨_, _, rfl, RepVs.tup h1 .nil, h2⟩
      obtain ⟨v, vs', rfl, hy, hr⟩ := hsp
      simp only [St.enter, look] at hx
      split at hx
      · rename_i e
        simp at e hx
        subst e; subst hx
        exact ⟨v, Nat.le_refl _, by simp, hy⟩
      · rename_i e
        obtain ⟨u, hk, hu, hrep⟩ := ih vs' hr (k + 1) i x hx
        refine ⟨u, by omega, ?_, hrep⟩
        have : i - k = (i - (k + 1)) + 1 := by omega
        rw [this]; simpa using hu
  exact key xs vs h

/-- What stands at the end of a function: its results. -/
def RetOk (P : Program) (fn : Func) (s : St) (r : AV) (nob : List (Nat × Ob)) : Prop :=
  ∀ (w0 : World) (S0 : Nat → Prop) (n : Nat) (β0 : Nat → OLoc) (a : Act) (w : World) (S : Nat → Prop) (β : Nat → OLoc), Sim ⟨n, w0, S0, fun _ => False, fun _ _ => False, fun _ => False⟩ s a w S β →
    ∃ v S' β', (results fn a.tmps).run P w = .ok v w ∧ Grow w0 S0 β0 nob w S' β' ∧ RepV w S' β' r v

def retQ (P : Program) (fn : Func) (r : AV) (nob : List (Nat × Ob)) : Exit → St → Prop
  | .normal, s => RetOk P fn s r nob
  | .ret, s => RetOk P fn s r nob
  | _, _ => False

theorem acall_of {P : Program} {f : FuncId} {fn : Func} {c : Code} {xs : List AV} {r : AV} {nob : List (Nat × Ob)} (hf : P.funcs[f]? = some fn) (hb : fn.body = some c) (hn : xs.length ≤ fn.ntmps)
    (h : ∀ w0 S0, awp ⟨fn.ntmps, w0, S0, fun _ => False, fun _ _ => False, fun _ => False⟩ P c (retQ P fn r nob) ⟨St.enter 0 xs, []⟩) : ACall P f xs r nob := by
  intro w S β vs hlt hr
  refine calls_of_wp hf hb ?_
  have hl : vs.length = xs.length := by
    clear h hn hlt
    have : ∀ xs vs, RepVs w S β xs vs → vs.length = xs.length := by intro xs vs h; induction h <;> simp_all
    exact this _ _ hr
  have hsim : Sim ⟨fn.ntmps, w, S, fun _ => False, fun _ _ => False, fun _ => False⟩ ⟨St.enter 0 xs, []⟩ { tmps := vs.toArray ++ Array.replicate (fn.ntmps - vs.toArray.size) undef, defers := [] } w S β := by
    refine ⟨rfl, by simp; omega, fun i x hi => ?_, ⟨hlt, ?_, ?_, ?_, rfl, rfl, rfl, Nat.le_refl _, fun _ _ _ => rfl, fun _ h => h, fun _ h => .inl h, fun _ _ h => h.elim, fun o X ho => by simp [St.gob, look] at ho, fun o o' X X' ho => by simp [St.gob, look] at ho⟩⟩
    · obtain ⟨v, _, hv, hrep⟩ := enter_get hr 0 i x hi
      refine ⟨v, ?_, hrep⟩
      simp only [Nat.sub_zero] at hv
      have hi2 : i < vs.length := (List.getElem?_eq_some_iff.1 hv).1
      rw [Array.getElem?_append_left (by simpa using hi2)]
      simpa using hv
    · intro o X ho; simp [St.gob, look] at ho
    · intro o X ho; simp [St.gob, look] at ho
    · intro o o' X X' ho; simp [St.gob, look] at ho
  refine Code.wp_mono ?_ (h w S _ w S β hsim)
  rintro e a' w' ⟨s', S', β', hq, hs'⟩
  cases e with
  | normal =>
    obtain ⟨v, S2, β2, hrun, hG, hrep⟩ := hq w S _ β _ _ _ _ hs'
    exact ⟨hs'.defers, v, hrun, v, S2, β2, rfl, hG, hrep⟩
  | ret =>
    obtain ⟨v, S2, β2, hrun, hG, hrep⟩ := hq w S _ β _ _ _ _ hs'
    exact ⟨hs'.defers, v, hrun, v, S2, β2, rfl, hG, hrep⟩
  | exit id => exact hq.elim
  | goto l => exact hq.elim
  | panic ch => exact hq.elim
  | outgrown => exact hq.elim

theorem Sim.grow0 {n : Nat} {w0 : World} {S0 : Nat → Prop} {β0 : Nat → OLoc} {s : St} {a : Act} {w : World} {S : Nat → Prop} {β : Nat → OLoc} (h : Sim ⟨n, w0, S0, fun _ => False, fun _ _ => False, fun _ => False⟩ s a w S β) : Grow w0 S0 β0 [] w S β0 :=
  ⟨h.mem.os, h.mem.tape, h.mem.output, h.mem.size, fun b hb => h.mem.block b hb (fun h => h), h.mem.sub, fun b hb => ⟨h.mem.lt b hb, (h.mem.sup b hb).imp id fun h => h.resolve_right fun h => h⟩, fun _ _ => rfl, by simp, by simp, by simp, by simp, by simp⟩

/-- One result, of no object. -/
theorem retOk_tmp {P : Program} {fn : Func} {s : St} {r : AV} {t : Nat} (hr : fn.results = #[.tmp t]) (ht : s.get t = some r) (hi : r.ids = []) : RetOk P fn s r [] := by
  intro w0 S0 n β0 a w S β hs
  obtain ⟨v, hv, hrep⟩ := hs.tm t r ht
  refine ⟨v, S, β0, ?_, hs.grow0, hrep.mono (fun _ _ => rfl) (fun _ h => h) (by simp [hi])⟩
  rw [results_tmp hr]
  simp [Array.getD_eq_getD_getElem?, hv]

/-- One result: a list of the call's own. -/
theorem retOk_ol {P : Program} {fn : Func} {s : St} {t k d E es : Nat} {xs : List (List Da)} (hr : fn.results = #[.tmp t]) (ht : s.get t = some (.one (.ol k))) (hk : s.gob k = some (.lst E es xs)) : RetOk P fn s (.one (.ol d)) [(d, .lst E es xs)] := by
  intro w0 S0 n β0 a w S β hs
  obtain ⟨v, hv, hrep⟩ := hs.tm t _ ht
  have hg := hs.grow0 (β0 := β0)
  have hob := hs.mem.ob k _ hk
  refine ⟨v, S, fun o => if o = d then β k else β0 o, ?_, ⟨hg.os, hg.tape, hg.output, hg.size, hg.block, hg.sub, hg.sup, fun o ho => ?_, ?_, ?_, ?_, ?_, ?_⟩, ?_⟩
  · rw [results_tmp hr]
    simp [Array.getD_eq_getD_getElem?, hv]
  · have := ho (d, .lst E es xs) (by simp)
    dsimp only at this
    rw [if_neg (fun e => this e.symm)]
  · intro p hp; simp at hp; subst hp; simp only [if_true]; exact hob
  · intro p hp b hh; simp at hp; subst hp
    simp only [if_true] at hh
    obtain ⟨h1, h2, h3⟩ := hs.mem.own k _ hk b hh
    exact ⟨h3.resolve_right (fun h => h), h1, h2⟩
  · intro p hp q hq _ _ _; simp at hp hq; subst hp; subst hq; rfl
  · intro p hp b hh; simp at hp; subst hp
    simp only [if_true] at hh
    obtain ⟨h1, h2⟩ := hs.mem.clm k _ hk b hh
    exact ⟨h1, h2.resolve_right (fun h => h.elim id id)⟩
  · intro p hp q hq _ _ _; simp at hp hq; subst hp; subst hq; rfl
  · cases hrep.one_inv
    refine RepV.one ?_
    have : (β k).sv = ((fun o => if o = d then β k else β0 o) d).sv := by simp
    rw [this]
    exact .ol

theorem getAll_run {P : Program} {fn : Func} {ts : List Nat} (hr : fn.results = (ts.map ResultVar.tmp).toArray) (hl : ts.length ≠ 1) (tmps : Array Value) (w : World) :
    (results fn tmps).run P w = .ok (.tuple (ts.map fun t => tmps.getD t undef).toArray) w := by
  have hm : ∀ (f : ResultVar → Sem Value) (l : List Nat), (∀ t, f (.tmp t) = pure (tmps.getD t undef)) → (l.map ResultVar.tmp).mapM f = pure (l.map fun t => tmps.getD t undef) := by
    intro f l hf
    induction l with
    | nil => simp
    | cons t l ih => simp only [List.map_cons, List.mapM_cons, ih, hf, pure_bind]
  simp only [results, hr]
  rw [List.mapM_toArray, hm _ ts (fun _ => rfl)]
  simp only [map_pure, pure_bind, Sem.run_pure]
  rw [dif_neg (by simpa using hl)]

/-- Several results, of no object. -/
theorem retOk_tmps {P : Program} {fn : Func} {s : St} {ts : List Nat} {rs : List AV} (hr : fn.results = (ts.map ResultVar.tmp).toArray) (hl : ts.length ≠ 1) (ht : ts.map s.get = rs.map some) (hi : AV.idsT rs = []) : RetOk P fn s (.tup rs) [] := by
  intro w0 S0 n β0 a w S β hs
  refine ⟨_, S, β0, getAll_run hr hl _ _, hs.grow0, RepVs.tup ?_ .nil⟩
  clear hr hl
  induction ts generalizing rs with
  | nil => simp at ht; subst ht; exact .nil
  | cons t ts ih =>
    cases rs with
    | nil => simp at ht
    | cons r rs =>
      simp only [List.map_cons, List.cons.injEq] at ht
      simp only [AV.idsT, List.append_eq_nil_iff] at hi
      obtain ⟨v, hv, hrep⟩ := hs.tm t r ht.1
      have : a.tmps.getD t undef = v := by simp [Array.getD_eq_getD_getElem?, hv]
      simp only [List.map_cons, this]
      exact RepVs.cons (hrep.mono (fun _ _ => rfl) (fun _ h => h) (by simp [hi.1])) (ih ht.2 hi.2)

/-- One result: a struct that lies in a variable of the call's own. -/
theorem retOk_cell {P : Program} {fn : Func} {s : St} {r : AV} {t k : Nat} {ty : TypeId} {cs : List At} {d : TypeDesc} {j : TypeInfo} (hr : fn.results = #[.cell t ty]) (hd : P.underlying ty = some d) (hag : aggD d = true) (hj : P.info? ty = some j) (ht : s.get t = some (.one (.op k 0))) (hk : s.gob k = some (.var cs)) (hl : cs.length = j.size) (hm : mkAgg cs = r) (hi : r.ids = []) : RetOk P fn s r [] := by
  intro w0 S0 n β0 a w S β hs
  obtain ⟨v, hv, hrep⟩ := hs.tm t _ ht
  cases hrep.one_inv
  obtain ⟨hh, ar, E, hg, hrp⟩ := hs.mem.ob k _ hk
  have hlen := hrp.len
  simp only [Array.length_toList] at hlen
  refine ⟨.agg ar, S, β0, ?_, hs.grow0, ?_⟩
  · have hld := run_loadCells_list (P := P) w ⟨(β k).blk, 0, none⟩ ar.toList (fun q u hu => by
      rw [add_lit, cell_of_cells hg, ← Array.getElem?_toList, Nat.zero_add]; exact hu)
    simp only [Array.length_toList] at hld
    have hsz : ar.size = j.size := by omega
    rw [hsz] at hld
    simp [results, hr, hv, asAddr, loadVar, run_isAgg hd, hag, sizeOf, typeInfo, hj, hld]
  · have h2 := hrp.mk
    rw [hm] at h2
    simp only [Array.toArray_toList] at h2
    exact RepV.mono h2 (fun _ _ => rfl) (fun _ h => h) (by simp [hi])

end AM
end Go.Proofs.Ytfcmmpmdofejeaa
