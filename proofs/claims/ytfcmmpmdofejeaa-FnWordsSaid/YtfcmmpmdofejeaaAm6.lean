/- Stores into own variables and lists, appends, and lists that are written no more; no conditions. -/
import Derived.Test.YtfcmmpmdofejeaaAm5
set_option linter.unusedSimpArgs false
set_option linter.unusedVariables false
namespace Go.Proofs.Ytfcmmpmdofejeaa
namespace AM
open Go

mutual
def AV.map (f : At → At) : AV → AV
  | .one x => .one (f x)
  | .dat xs => .dat xs
  | .agg xs => mkAgg (xs.map f)
  | .tup ys => .tup (AV.mapT f ys)
def AV.mapT (f : At → At) : List AV → List AV
  | [] => []
  | y :: r => y.map f :: AV.mapT f r
end

def Ob.map (f : At → At) : Ob → Ob
  | .var cs => .var (cs.map f)
  | X => X

def mapTm (f : At → At) : List (Nat × AV) → List (Nat × AV)
  | [] => []
  | (i, x) :: r => (i, x.map f) :: mapTm f r
def mapOb (f : At → At) : List (Nat × Ob) → List (Nat × Ob)
  | [] => []
  | (i, x) :: r => (i, x.map f) :: mapOb f r
def St.map (f : At → At) (s : St) : St := ⟨mapTm f s.tm, mapOb f s.ob⟩

theorem look_mapTm (f : At → At) (l : List (Nat × AV)) (i : Nat) : look (mapTm f l) i = (look l i).map (·.map f) := by
  induction l with
  | nil => rfl
  | cons p l ih => obtain ⟨k, x⟩ := p; simp only [mapTm, look]; split <;> simp [ih]
theorem look_mapOb (f : At → At) (l : List (Nat × Ob)) (i : Nat) : look (mapOb f l) i = (look l i).map (·.map f) := by
  induction l with
  | nil => rfl
  | cons p l ih => obtain ⟨k, x⟩ := p; simp only [mapOb, look]; split <;> simp [ih]

section
variable {w w' : World} {S S' : Nat → Prop} {β β' : Nat → OLoc} {f : At → At}
theorem RepAs.map {xs vs} (hf : ∀ x v, RepA w S β x v → RepA w' S' β' (f x) v) (h : RepAs w S β xs vs) : RepAs w' S' β' (xs.map f) vs := by
  induction h with
  | nil => exact .nil
  | cons h _ ih => exact .cons (hf _ _ h) ih
theorem RepVs.map {ys vs} (hf : ∀ x v, RepA w S β x v → RepA w' S' β' (f x) v) (hd : ∀ xs cs, RepDs w S xs cs → RepDs w' S' xs cs) (h : RepVs w S β ys vs) : RepVs w' S' β' (AV.mapT f ys) vs := by
  induction h with
  | nil => exact .nil
  | one h _ ih => exact .one (hf _ _ h) ih
  | dat h _ ih => exact .dat (hd _ _ h) ih
  | agg h _ ih => exact RepVs.cons (h.map hf).mk ih
  | tup _ _ ih1 ih2 => exact .tup ih1 ih2
theorem RepV.map {y v} (hf : ∀ x v, RepA w S β x v → RepA w' S' β' (f x) v) (hd : ∀ xs cs, RepDs w S xs cs → RepDs w' S' xs cs) (h : RepV w S β y v) : RepV w' S' β' (y.map f) v := RepVs.map hf hd h
end

/-- What is killed is known no more. -/
def killAt (k : Nat) (x : At) : At := if x.ids.contains k then .junk else x
/-- A list that is written no more is data. -/
def frzAt (k : Nat) (xs : List (List Da)) : At → At
  | .ol o => if o == k then .d (.sl xs) else .ol o
  | .op o off => if o == k then .junk else .op o off
  | .clo f caps => if (caps.map (·.1)).contains k then .junk else .clo f caps
  | x => x

def St.setOb (s : St) (k : Nat) (X : Ob) : St := { s with ob := (k, X) :: s.ob }
theorem gob_setOb (s : St) (k : Nat) (X : Ob) (o : Nat) : (s.setOb k X).gob o = if o = k then some X else s.gob o := by
  simp only [St.setOb, St.gob, look]
  by_cases h : k = o
  · subst h; simp
  · simp [h, Ne.symm h]
theorem get_setOb (s : St) (k : Nat) (X : Ob) : (s.setOb k X).get = s.get := rfl

section
variable {Γ : Cx} {P : Program} {ops : Array Oper} {rest : List Oper} {o : Oper} {K : St → Prop} {s : St} {Q : Exit → St → Prop} {t : TypeId} {x z : Operand}

theorem Sim.setRow {a : Act} {w : World} {S : Nat → Prop} {β : Nat → OLoc} {k : Nat} {X X' : Ob} {cur c2 : Array Value} {E : TypeId} (h : Sim Γ s a w S β) (hk : s.gob k = some X) (hh : (β k).has = true) (hg : w.heap[(β k).blk]? = some (.cells cur E (0, 0)))
    (hX : ObRep (w.setRow (β k).blk c2) S β (β k) X') : Sim Γ (s.setOb k X') a (w.setRow (β k).blk c2) S β := by
  have hold : ∀ b, b ≠ (β k).blk → (w.setRow (β k).blk c2).heap[b]? = w.heap[b]? := fun b hb => setRow_other w _ b c2 hb
  have hkb : (β k).Own (β k).blk := .inl ⟨hh, rfl⟩
  obtain ⟨o1, o2, o3⟩ := h.mem.own k X hk _ hkb
  have hS : ∀ b, S b → (w.setRow (β k).blk c2).heap[b]? = w.heap[b]? := fun b hb => hold b (fun e => o2 (e ▸ hb))
  have hsz : (w.setRow (β k).blk c2).heap.size = w.heap.size := by simp [World.setRow]
  have hT : ∀ o Y, (s.setOb k X').gob o = some Y → (o = k ∧ Y = X') ∨ (o ≠ k ∧ s.gob o = some Y) := by
    intro o Y ho
    rw [gob_setOb] at ho
    by_cases e : o = k
    · rw [if_pos e] at ho; simp at ho; exact .inl ⟨e, ho.symm⟩
    · rw [if_neg e] at ho; exact .inr ⟨e, ho⟩
  have hT' : ∀ o Y, (s.setOb k X').gob o = some Y → ∃ Y', s.gob o = some Y' := by
    intro o Y ho
    rcases hT o Y ho with ⟨rfl, _⟩ | ⟨_, ho⟩
    · exact ⟨_, hk⟩
    · exact ⟨_, ho⟩
  refine ⟨h.defers, h.sz, fun i y hi => ?_, ?_⟩
  · obtain ⟨v, hv, hr⟩ := h.tm i y hi
    exact ⟨v, hv, hr.mono hS (fun _ h => h) fun _ _ => rfl⟩
  · refine ⟨fun b hb => by rw [hsz]; exact h.mem.lt b hb, fun o Y ho => ?_, fun o Y ho b hho => ?_, fun o o' Y Y' ho ho' => ?_, h.mem.os, h.mem.tape, h.mem.output, by rw [hsz]; exact h.mem.size, fun b hb hp => ?_, h.mem.sub, h.mem.sup, h.mem.fix, fun o Y ho b hh => ?_, fun o o' Y Y' ho ho' b hh hh' => ?_⟩
    · rcases hT o Y ho with ⟨rfl, rfl⟩ | ⟨hne, ho⟩
      · exact hX
      · exact (h.mem.ob o Y ho).mono (fun b hho => hold _ fun e => hne (h.mem.sep o k Y X ho hk b hho (e ▸ hkb))) hS (fun _ h => h) fun _ _ => rfl
    · obtain ⟨Y', ho'⟩ := hT' o Y ho
      rw [hsz]; exact h.mem.own o Y' ho' b hho
    · obtain ⟨Z, hz⟩ := hT' o Y ho
      obtain ⟨Z', hz'⟩ := hT' o' Y' ho'
      exact h.mem.sep o o' Z Z' hz hz'
    · refine (hold b fun e => ?_).trans (h.mem.block b hb hp)
      rcases o3 with o3 | o3
      · omega
      · exact hp (e ▸ o3)
    · obtain ⟨Z, hz⟩ := hT' o Y ho
      exact h.mem.clm o Z hz b hh
    · obtain ⟨Z, hz⟩ := hT' o Y ho
      obtain ⟨Z', hz'⟩ := hT' o' Y' ho'
      exact h.mem.sepc o o' Z Z' hz hz' b hh hh'

theorem RepA.oneCell {w : World} {S : Nat → Prop} {β : Nat → OLoc} {x : At} {v : Value} (h : RepA w S β x v) (hj : x ≠ .junk) : v.oneCell' = true := by
  cases h with
  | d h =>
    obtain ⟨_, h, _⟩ := h
    cases h with
    | tg h => obtain ⟨_, _, _, rfl⟩ := h.sl_val; rfl
    | _ => rfl
  | junk => exact absurd rfl hj
  | _ => rfl
theorem RepAs.oneCells {w : World} {S : Nat → Prop} {β : Nat → OLoc} {xs : List At} {vs : List Value} (h : RepAs w S β xs vs) (hj : .junk ∉ xs) : ∀ v ∈ vs, v.oneCell' = true := by
  induction h with
  | nil => simp
  | cons h _ ih =>
    intro v hv
    simp only [List.mem_cons, not_or] at hv hj
    rcases hv with rfl | hv
    · exact h.oneCell fun e => hj.1 e.symm
    · exact ih hj.2 v hv
theorem RepDs.oneCells {w : World} {S : Nat → Prop} {xs : List Da} {vs : List Value} (h : RepDs w S xs vs) : ∀ v ∈ vs, v.oneCell' = true :=
  (RepAs.of_ds (β := fun _ => ⟨0, none, 0, 0, false, [], []⟩) h).oneCells (by simp)

def noJunk : List At → Bool
  | [] => true
  | .junk :: _ => false
  | _ :: r => noJunk r
theorem noJunk_spec {xs : List At} (h : noJunk xs = true) : .junk ∉ xs := by
  induction xs with
  | nil => simp
  | cons x xs ih =>
    cases x <;> simp [noJunk] at h <;> simp [ih h]

/-- A store into a variable of the call's own. -/
theorem aOps_store {k off : Nat} {Z : AV} {zs cs : List At} {j : TypeInfo} (ho : o.op = .store t x z) (hg : o.guard = none) (hd : o.dst = none) (hx : s.ev x = some (.one (.op k off))) (hz : s.ev z = some Z) (hc : Z.cells = some zs) (hk : s.gob k = some (.var cs)) (hj : P.info? t = some j) (hsz : j.size = zs.length)
    (hl : off + zs.length ≤ cs.length) (hnj : noJunk zs = true) (h : aOps Γ P ops rest K (s.setOb k (.var (cs.take off ++ zs ++ cs.drop (off + zs.length))))) : aOps Γ P ops (o :: rest) K s := by
  intro a w S β R hs hR
  refine wpList_plain hg fun K' hK => ?_
  have h1 := (hs.eval hx).one_inv
  have h2 := hs.eval hz
  have hcs := h2.cells hc
  obtain ⟨hh, ar, E, hgb, hrep⟩ := hs.mem.ob k _ hk
  generalize hv : a.eval x = v at h1
  cases h1
  have hl1 := hcs.len
  have hl2 := hrep.len
  simp only [Array.length_toList] at hl1 hl2
  have hst := run_storeCells_at P (β k).blk off E (a.eval z).cells.toList 0 ar w hgb (by simp; omega) (hcs.oneCells (noJunk_spec hnj))
  simp only [Nat.add_zero, Array.length_toList] at hst
  have he : (execOp a.eval o).run P w = .ok .skip (w.setRow (β k).blk (ar.toList.take off ++ (a.eval z).cells.toList ++ ar.toList.drop (off + (a.eval z).cells.size)).toArray) := by
    have hszz : (a.eval z).cells.size = j.size := by omega
    simp only [execOp, ho, hv, Instr.storeAt, Instr.sureAddr, storeVar, sizeOf, typeInfo, program, Sem.run_bind, Sem.run, Sem.run_pure, Result.andThen_ok, hj, hszz, ne_eq, not_true_eq_false, if_false]
    rw [hszz] at hst
    simp [hst]
  unfold Oper.wp
  rw [he, Oper.upon_skip, hd]
  refine hK _ _ (h _ _ S β R (hs.setRow hk hh hgb ⟨hh, _, E, setRow_heap w _ ar _ E _ hgb, ?_⟩) hR)
  have hS : ∀ b, S b → (w.setRow (β k).blk (ar.toList.take off ++ (a.eval z).cells.toList ++ ar.toList.drop (off + (a.eval z).cells.size)).toArray).heap[b]? = w.heap[b]? := fun b hb => setRow_other w _ b _ fun e => (hs.mem.own k _ hk _ (.inl ⟨hh, rfl⟩)).2.1 (e ▸ hb)
  have t1 := hrep.take_drop 0 off
  have t2 := hrep.take_drop (off + zs.length) cs.length
  simp only [List.drop_zero] at t1
  rw [List.take_of_length_le (by simp), List.take_of_length_le (by simp; omega)] at t2
  have := (t1.app hcs).app t2
  rw [show off + zs.length = off + (a.eval z).cells.size by omega] at this ⊢
  exact this.mono hS (fun _ h => h) fun _ _ => rfl

/-- A store into an element of a list of the call's own. -/
theorem aOps_storeL {k off n q E es : Nat} {Z : AV} {zs : List At} {ds c : List Da} {xs : List (List Da)} {j : TypeInfo} (ho : o.op = .store t x z) (hg : o.guard = none) (hd : o.dst = none) (hx : s.ev x = some (.one (.op k off))) (hz : s.ev z = some Z) (hc : Z.cells = some zs) (hds : toDs zs = some ds)
    (hk : s.gob k = some (.lst E es xs)) (hj : P.info? t = some j) (hsz : j.size = ds.length) (hn : xs[n]? = some c) (hoff : off = n * es + q) (hq : q + ds.length ≤ c.length) (hpos : 0 < ds.length)
    (h : aOps Γ P ops rest K (s.setOb k (.lst E es (xs.set n (c.take q ++ ds ++ c.drop (q + ds.length)))))) : aOps Γ P ops (o :: rest) K s := by
  intro a w S β R hs hR
  refine wpList_plain hg fun K' hK => ?_
  have h1 := (hs.eval hx).one_inv
  have h2 := hs.eval hz
  have hcs := (h2.cells hc).toDs hds
  have hnl0 : n < xs.length := (List.getElem?_eq_some_iff.1 hn).1
  obtain ⟨hob, hsm, hle, vs, hown, hrep⟩ := ObRep.pos (hs.mem.ob k _ hk) (by omega)
  generalize hv : a.eval x = v at h1
  cases h1
  have hnl : n < xs.length := (List.getElem?_eq_some_iff.1 hn).1
  have hcl : c.length = es := hle c (List.mem_of_getElem? hn)
  rcases hown.2 with ⟨_, h0⟩ | ⟨g, cap, cur, hsv, _, hgb, hcap, hcm, hcsz, htk⟩
  · omega
  have hbh : (β k).has = true ∧ g = (β k).blk := by
    rw [hsv] at hob
    simp only [Value.ownBlock] at hob
    split at hob
    · rename_i e; exact ⟨e, by simpa using hob⟩
    · simp at hob
  obtain ⟨hh, rfl⟩ := hbh
  rw [flatten_split hn] at hrep
  obtain ⟨v1, v2, rfl, d1, d2⟩ := hrep.split
  obtain ⟨v3, v4, rfl, d3, d4⟩ := d2.split
  have hl1 : v1.length = n * es := by rw [d1.len, flatten_take_len hle (Nat.le_of_lt hnl)]
  have hl3 : v3.length = es := by rw [d3.len, hcl]
  have hlz := hcs.len
  simp only [Array.length_toList] at hlz
  have hne : n * es + es ≤ xs.length * es := by rw [← Nat.succ_mul]; exact Nat.mul_le_mul_right _ hnl
  have hxc : xs.length * es ≤ cap * es := Nat.mul_le_mul_right _ hcap
  have hst := run_storeCells_at P (β k).blk off E (a.eval z).cells.toList 0 cur w hgb (by simp; omega) hcs.oneCells
  simp only [Nat.add_zero, Array.length_toList] at hst
  have he : (execOp a.eval o).run P w = .ok .skip (w.setRow (β k).blk (cur.toList.take off ++ (a.eval z).cells.toList ++ cur.toList.drop (off + (a.eval z).cells.size)).toArray) := by
    have hszz : (a.eval z).cells.size = j.size := by omega
    simp only [execOp, ho, hv, Instr.storeAt, Instr.sureAddr, storeVar, sizeOf, typeInfo, program, Sem.run_bind, Sem.run, Sem.run_pure, Result.andThen_ok, hj, hszz, ne_eq, not_true_eq_false, if_false]
    rw [hszz] at hst
    simp [hst]
  unfold Oper.wp
  rw [he, Oper.upon_skip, hd]
  have hlen : (xs.set n (c.take q ++ ds ++ c.drop (q + ds.length))).length = xs.length := by simp
  have hcl' : (c.take q ++ ds ++ c.drop (q + ds.length)).length = es := by simp; omega
  have hS : ∀ b, S b → (w.setRow (β k).blk (cur.toList.take off ++ (a.eval z).cells.toList ++ cur.toList.drop (off + (a.eval z).cells.size)).toArray).heap[b]? = w.heap[b]? := fun b hb => setRow_other w _ b _ fun e => (hs.mem.own k _ hk _ (.inl ⟨hh, rfl⟩)).2.1 (e ▸ hb)
  refine hK _ _ (h _ _ S β R (hs.setRow hk hh hgb (.inl ⟨hob, by simpa using hsm, fun y hy => ?_, (v1 ++ ((v3.take q ++ (a.eval z).cells.toList ++ v3.drop (q + ds.length)) ++ v4)), ⟨?_, .inr ⟨_, cap, _, by rw [hsv, hlen], Nat.zero_le _, setRow_heap w _ cur _ E _ hgb, by simpa using hcap, hcm, by simp; omega, ?_⟩⟩, ?_⟩)) hR)
  · rcases List.mem_or_eq_of_mem_set hy with hy | hy
    · exact hle y hy
    · rw [hy]; exact hcl'
  · have := hown.1
    simp only [List.length_append, List.length_take, List.length_drop, Array.length_toList, hlen] at this ⊢
    omega
  · have hcur : cur.toList = (v1 ++ (v3 ++ v4)) ++ cur.toList.drop (xs.length * es) := by rw [← htk]; exact (List.take_append_drop _ _).symm
    have h4 := hown.1
    simp only [List.length_append] at h4
    rw [hlen, hcur]
    have e1 : ((v1 ++ (v3 ++ v4)) ++ cur.toList.drop (xs.length * es)).take off = v1 ++ v3.take q := by
      rw [hoff, List.append_assoc, List.take_append, List.take_of_length_le (by omega), hl1, Nat.add_sub_cancel_left, List.append_assoc, List.take_append_of_le_length (by omega)]
    have e2 : ((v1 ++ (v3 ++ v4)) ++ cur.toList.drop (xs.length * es)).drop (off + (a.eval z).cells.size) = v3.drop (q + ds.length) ++ (v4 ++ cur.toList.drop (xs.length * es)) := by
      rw [hoff, List.append_assoc, List.drop_append, List.drop_of_length_le (by omega), hl1, show n * es + q + (a.eval z).cells.size - n * es = q + ds.length by omega, List.append_assoc, List.drop_append_of_le_length (by omega)]
      simp
    simp only [List.toList_toArray]
    rw [e1, e2]
    rw [show v1 ++ v3.take q ++ (a.eval z).cells.toList ++ (v3.drop (q + ds.length) ++ (v4 ++ cur.toList.drop (xs.length * es))) = (v1 ++ ((v3.take q ++ (a.eval z).cells.toList ++ v3.drop (q + ds.length)) ++ v4)) ++ cur.toList.drop (xs.length * es) by simp [List.append_assoc]]
    apply List.take_left'
    simp only [List.length_append, List.length_take, List.length_drop, Array.length_toList]
    omega
  · have hfl : (xs.set n (c.take q ++ ds ++ c.drop (q + ds.length))).flatten = (xs.take n).flatten ++ ((c.take q ++ ds ++ c.drop (q + ds.length)) ++ (xs.drop (n + 1)).flatten) := by
      have := flatten_split (xs := xs.set n (c.take q ++ ds ++ c.drop (q + ds.length))) (n := n) (c := c.take q ++ ds ++ c.drop (q + ds.length)) (by simp [hnl])
      rw [this, List.take_set_of_le (Nat.le_refl n), List.drop_set_of_lt (by omega)]
    rw [hfl]
    have dt : RepDs w S (c.take q) (v3.take q) ∧ RepDs w S (c.drop (q + ds.length)) (v3.drop (q + ds.length)) := by
      have e : c = c.take q ++ (((c.drop q).take ds.length) ++ c.drop (q + ds.length)) := by
        rw [← List.drop_drop, List.take_append_drop, List.take_append_drop]
      rw [e] at d3
      obtain ⟨u1, u2, rfl, f1, f2⟩ := d3.split
      obtain ⟨u3, u4, rfl, f3, f4⟩ := f2.split
      have m1 : u1.length = q := by rw [f1.len]; simp; omega
      have m3 : u3.length = ds.length := by rw [f3.len]; simp; omega
      refine ⟨by rw [List.take_left' m1]; exact f1, ?_⟩
      rw [← List.append_assoc, List.drop_left' (by simp; omega)]
      exact f4
    exact (d1.app (((dt.1.app hcs).app dt.2).app d4)).mono hS fun _ h => h

/-- How rows are read: as data, or as data in blocks of their own. -/
def RowR (tr : Bool) (w : World) (S : Nat → Prop) (cl : List Nat) (xs : List Da) (vs : List Value) : Prop := match tr with
  | true => ∃ fp, RepT w xs vs fp ∧ (∀ b ∈ fp, S b ∧ b ∈ cl) ∧ fp.Nodup
  | false => RepDs w S xs vs
theorem RowR.ds {tr : Bool} {w : World} {S : Nat → Prop} {cl : List Nat} {xs : List Da} {vs : List Value} (h : RowR tr w S cl xs vs) : RepDs w S xs vs := by
  cases tr with
  | true => obtain ⟨fp, h1, h2, _⟩ := h; exact ⟨fp, h1.repF, fun b hb => (h2 b hb).1⟩
  | false => exact h
theorem RowR.app {tr : Bool} {w w' : World} {S : Nat → Prop} {c1 c2 : List Nat} {xs ys : List Da} {vs us : List Value} (h : RowR tr w S c1 xs vs) (k : RowR tr w S c2 ys us) (hk : ∀ b, S b → w'.heap[b]? = w.heap[b]?) (hd : ∀ b ∈ c1, b ∉ c2) : RowR tr w' S (c1 ++ c2) (xs ++ ys) (vs ++ us) := by
  cases tr with
  | true =>
    obtain ⟨f1, a1, a2, a3⟩ := h
    obtain ⟨f2, b1, b2, b3⟩ := k
    refine ⟨f1 ++ f2, (a1.app b1).keep fun b hb => ?_, fun b hb => ?_, List.nodup_append.2 ⟨a3, b3, fun a ha b hb e => ?_⟩⟩
    · rcases List.mem_append.1 hb with hb | hb
      · exact hk b (a2 b hb).1
      · exact hk b (b2 b hb).1
    · rcases List.mem_append.1 hb with hb | hb
      · exact ⟨(a2 b hb).1, List.mem_append_left _ (a2 b hb).2⟩
      · exact ⟨(b2 b hb).1, List.mem_append_right _ (b2 b hb).2⟩
    · subst e; exact hd a (a2 a ha).2 (b2 a hb).2
  | false => exact (RepDs.app h k).mono hk fun _ h => h
theorem RowR.nil {tr : Bool} {w : World} {S : Nat → Prop} {cl : List Nat} : RowR tr w S cl [] [] := by
  cases tr with
  | true => exact ⟨[], .nil, by simp, by simp⟩
  | false => exact RepDs.nil
def mkL (tr : Bool) (E : TypeId) (es : Nat) (xs : List (List Da)) : Ob := match tr with
  | true => .tr E es xs
  | false => .lst E es xs
theorem mkL_rep {tr : Bool} {w : World} {S : Nat → Prop} {β : Nat → OLoc} {l : OLoc} {E es : Nat} {xs : List (List Da)} : ObRep w S β l (mkL tr E es xs) ↔ (l.sv.ownBlock = (if l.has then some l.blk else none) ∧ xs.length ≤ 281474976710656 ∧ (∀ x ∈ xs, x.length = es) ∧ ∃ vs, w.ownsRow 0 E es l.sv xs.length vs ∧ RowR tr w S l.clm xs.flatten vs) ∨ ZC l xs := by
  cases tr with
  | true => exact or_congr ⟨fun ⟨h1, h2, h3, vs, fp, h4, h5⟩ => ⟨h1, h2, h3, vs, h4, fp, h5⟩, fun ⟨h1, h2, h3, vs, h4, fp, h5⟩ => ⟨h1, h2, h3, vs, fp, h4, h5⟩⟩ Iff.rfl
  | false => exact Iff.rfl
theorem mkL_len {tr : Bool} {w : World} {S : Nat → Prop} {β : Nat → OLoc} {l : OLoc} {E es : Nat} {xs : List (List Da)} (h : ObRep w S β l (mkL tr E es xs)) : xs.length ≤ 281474976710656 ∧ ∀ x ∈ xs, x.length = es := by
  rcases mkL_rep.1 h with ⟨_, h1, h2, _⟩ | ⟨_, rfl, _⟩
  · exact ⟨h1, h2⟩
  · simp

/-- Where appended elements are read from. -/
structure Src (w : World) (R : List Value → Prop) (es m : Nat) (v : Value) : Prop where
  small : m ≤ 281474976710656
  val : (∃ a c, v = .slice a 0 c ∧ m = 0 ∧ R []) ∨ ∃ a c us, v = .slice (some a) m c ∧ us.length = m * es ∧ (R us ∧ ∀ u ∈ us, u.oneCell' = true) ∧ ∀ j u, us[j]? = some u → w.cell? (a.add j) = some u

theorem nil_of_flatten {es : Nat} (hpos : 0 < es) {ys : List (List Da)} (h : ys.flatten = []) (hes : ∀ y ∈ ys, y.length = es) : ys = [] := by
  cases ys with
  | nil => rfl
  | cons y ys =>
    have h1 := hes y (by simp)
    simp at h
    rw [h.1] at h1
    simp at h1; omega

theorem Src.of_data {w : World} {S : Nat → Prop} {es : Nat} {ys : List (List Da)} {v : Value} (hpos : 0 < es) (h : RepDs w S [.sl ys] [v]) (hes : ∀ y ∈ ys, y.length = es) : Src w (RepDs w S ys.flatten) es ys.length v := by
  obtain ⟨a, cap, rfl, h1, h2, h3⟩ := h.sl_inv
  refine ⟨h2, ?_⟩
  rcases h3 with h3 | ⟨b, off, us, es', rfl, hS, hb, hd, hes', hm⟩
  · have := nil_of_flatten hpos h3 hes
    subst this
    exact .inl ⟨_, _, rfl, rfl, RepDs.nil⟩
  · refine .inr ⟨_, _, us, rfl, ?_, ⟨hd, hd.oneCells⟩, fun j u hu => by rw [add_lit]; exact hm j u hu⟩
    rw [hd.len, flatten_len hes]

theorem Src.of_own {tr : Bool} {w : World} {S : Nat → Prop} {β : Nat → OLoc} {k E es : Nat} {ys : List (List Da)} (h : ObRep w S β (β k) (mkL tr E es ys)) : Src w (RowR tr w S (β k).clm ys.flatten) es ys.length (β k).sv := by
  rcases mkL_rep.1 h with ⟨hob, hsm, hle, vs, hown, hrep⟩ | ⟨_, rfl, a, hz⟩
  rotate_left
  · exact ⟨by simp, .inl ⟨a, 0, hz, rfl, RowR.nil⟩⟩
  refine ⟨hsm, ?_⟩
  rcases hown.2 with ⟨hsv, h0⟩ | ⟨g, cap, cur, hsv, _, hgb, hcap, hcm, hcsz, htk⟩
  · have := List.eq_nil_of_length_eq_zero h0
    subst this
    exact .inl ⟨_, _, hsv, rfl, RowR.nil⟩
  · refine .inr ⟨⟨g, 0, none⟩, cap, vs, hsv, hown.1, ⟨hrep, hrep.ds.oneCells⟩, fun j u hu => ?_⟩
    rw [add_lit, Nat.zero_add, cell_of_cells hgb, ← Array.getElem?_toList]
    rw [← htk, List.getElem?_take] at hu
    split at hu
    · exact hu
    · simp at hu

theorem Src.mono {w : World} {R R' : List Value → Prop} {es m : Nat} {v : Value} (h : Src w R es m v) (hr : ∀ us, R us → R' us) : Src w R' es m v :=
  ⟨h.small, h.val.imp (fun ⟨a, c, h1, h2, h3⟩ => ⟨a, c, h1, h2, hr _ h3⟩) fun ⟨a, c, us, h1, h2, ⟨h3, h4⟩, h5⟩ => ⟨a, c, us, h1, h2, ⟨hr _ h3, h4⟩, h5⟩⟩

theorem grown_row {w : World} {E es n g : Nat} {vs us : List Value} {zc : Array Value} (hl : (vs ++ us).length = n * es) (hz : zc.size = es) (hn : n ≤ g) (hg : g ≤ maxLen) :
    (w.drew.alloc (.cells (vs.toArray ++ us.toArray ++ Builtin.zeroCells zc (g - n)) E)).ownsRow 0 E es (.slice (some ⟨w.heap.size, 0, none⟩) n g) n (vs ++ us) := by
  have h := ownsRow_new (w := w.drew) (E := E) (es := es) (n := n) (cap := g) (c := vs.toArray ++ us.toArray ++ Builtin.zeroCells zc (g - n)) (by
    simp only [Array.size_append, List.size_toArray, size_zeroCells, hz]
    have : n * es + (g - n) * es = g * es := by rw [← Nat.add_mul]; congr 1; omega
    simp only [List.length_append] at hl
    omega) hn hg
  have e : (vs.toArray ++ us.toArray ++ Builtin.zeroCells zc (g - n)).toList.take (n * es) = vs ++ us := by
    simp only [Array.toList_append]
    apply List.take_left'
    rw [hl]
  rw [e] at h
  exact h

/-- What the built-in append makes of an own row. -/
theorem run_app {P : Program} {w : World} {R : List Value → Prop} {E es n m : Nat} {t ty : TypeId} {i : TypeInfo} {zv : Value} {v1 v2 : Value} {vs : List Value} (ht : P.underlying t = some (.slice E)) (hi : P.info? E = some i) (hz : i.zero = some zv) (hes : i.size = es) (hzs : zv.cells.size = es) (hpos : 0 < es)
    (hown : w.ownsRow 0 E es v1 n vs) (hsrc : Src w R es m v2) (hsm : (n + m) * i.bytes ≤ 140737488355328) (hn48 : n + m ≤ 281474976710656) :
    ∃ v' w' us, (Builtin.append_ #[t, t] ty #[v1, v2]).run P w = .ok v' w' ∧ w'.ownsRow 0 E es v' (n + m) (vs ++ us) ∧ R us ∧ w.grownBy w' v1.ownBlock ∧ (v'.ownBlock = v1.ownBlock ∨ v'.ownBlock = some w.heap.size) := by
  rcases hsrc.val with ⟨a, c, rfl, rfl, hR⟩ | ⟨a, c, us, rfl, hl, ⟨hd, hone⟩, hm⟩
  · refine ⟨v1, w, [], ?_, by simpa using hown, hR, ⟨rfl, rfl, rfl, Nat.le_refl _, fun _ _ _ => rfl⟩, .inl rfl⟩
    obtain ⟨b, cap, rfl, hc⟩ := ownsRow_form hown
    cases a <;> cases b <;> simp [Builtin.append_, run_underlying ht, sizeOf, typeInfo, hi, Builtin.lenOf, hc, Builtin.firstCells, loadCells, loadCellsFrom, storeCells]
  · by_cases hm0 : m = 0
    · subst hm0
      have hus : us = [] := List.eq_nil_of_length_eq_zero (by simpa using hl)
      subst hus
      refine ⟨v1, w, [], ?_, by simpa using hown, hd, ⟨rfl, rfl, rfl, Nat.le_refl _, fun _ _ _ => rfl⟩, .inl rfl⟩
      obtain ⟨b, cap, rfl, hc⟩ := ownsRow_form hown
      cases b <;> simp [Builtin.append_, run_underlying ht, sizeOf, typeInfo, hi, Builtin.lenOf, hc, Builtin.firstCells, loadCells, loadCellsFrom, storeCells]
    · subst hes
      have hlen : (vs ++ us).length = (n + m) * i.size := by rw [List.length_append, hown.1, hl, Nat.add_mul]
      have h63 : n + m ≤ maxLen := by unfold maxLen; omega
      rcases hown.2 with ⟨rfl, rfl⟩ | ⟨g, cap, cur, rfl, hbg, hg, hnc, hcm, hcs, htake⟩
      · have hx : vs = [] := List.eq_nil_of_length_eq_zero (by simpa using hown.1)
        subst hx
        have hr := run_append_nil (P := P) w t ty E i zv ht hi hz a m c us hl hm (by omega) (by omega) (by have hb := hsm; simp only [Nat.zero_add] at hb; omega)
        simp only [Nat.zero_add] at hsm hn48 hlen h63 ⊢
        have hgr := grown_row (w := w) (E := E) (zc := zv.cells) hlen hzs (grownCap_ge w m 0 E) (grownCap_le_maxLen w m 0 E h63)
        simp only [List.nil_append] at hgr ⊢
        rw [show ([] : List Value).toArray ++ us.toArray = us.toArray by simp] at hgr
        exact ⟨_, _, us, hr, hgr, hd, ⟨rfl, rfl, rfl, by simp, fun k hk _ => heap_alloc_old w.drew _ hk⟩, .inr rfl⟩
      · by_cases hroom : n + m ≤ cap
        · have hfit : n * i.size + us.length ≤ cur.size := by rw [hl, hcs, ← Nat.add_mul]; exact Nat.mul_le_mul_right _ hroom
          have hr := run_append_room (P := P) w t ty E i ht hi g n cap cur hg a m c us hl hm hone hroom hfit
          refine ⟨_, _, us, hr, ⟨hlen, .inr ⟨g, cap, _, rfl, hbg, setRow_heap w g cur _ E _ hg, hroom, hcm, ?_, ?_⟩⟩, hd, ⟨rfl, rfl, rfl, by simp, fun k _ hk => setRow_other w g k _ (fun e => hk (by simp [Value.ownBlock, e]))⟩, .inl rfl⟩
          · simp only [List.size_toArray, List.length_append, List.length_take, List.length_drop, Array.length_toList]
            omega
          · rw [htake, ← hlen]
            exact List.take_left
        · have holds : ∀ j u, vs[j]? = some u → w.cell? ((⟨g, 0, none⟩ : Addr).add j) = some u := hown.cells (g := g) rfl
          have hr := run_append_grow (P := P) w t ty E i zv ht hi hz ⟨g, 0, none⟩ n cap vs hown.1 holds a m c us hl hm (by omega) (by omega) (growslice_fits (by omega) hsm)
          have hgr := grown_row (w := w) (E := E) (zc := zv.cells) hlen hzs (grownCap_ge w (n + m) cap E) (grownCap_le_maxLen w (n + m) cap E h63)
          exact ⟨_, _, us, hr, hgr, hd, ⟨rfl, rfl, rfl, by simp, fun k hk _ => heap_alloc_old w.drew _ hk⟩, .inr rfl⟩
/-- The same of an empty slice without room. -/
theorem run_appZ {P : Program} {w : World} {R : List Value → Prop} {E es m : Nat} {t ty : TypeId} {i : TypeInfo} {zv : Value} {a1 : Option Addr} {v2 : Value} (ht : P.underlying t = some (.slice E)) (hi : P.info? E = some i) (hz : i.zero = some zv) (hes : i.size = es) (hzs : zv.cells.size = es) (hpos : 0 < es)
    (hsrc : Src w R es m v2) (hsm : m * i.bytes ≤ 140737488355328) (hn48 : m ≤ 281474976710656) :
    ∃ v' w' us, (Builtin.append_ #[t, t] ty #[.slice a1 0 0, v2]).run P w = .ok v' w' ∧ R us ∧ w.grownBy w' none ∧ ((w'.ownsRow 0 E es v' m us ∧ (v'.ownBlock = none ∨ v'.ownBlock = some w.heap.size)) ∨ (v' = .slice a1 0 0 ∧ m = 0 ∧ us = [])) := by
  have empty : ∀ (b1 : Addr) (a : Option Addr) (c : Nat), (Builtin.append_ #[t, t] ty #[.slice (some b1) 0 0, .slice a 0 c]).run P w = .ok (.slice (some b1) 0 0) w := by
    intro b1 a c
    cases a <;> simp [Builtin.append_, run_underlying ht, sizeOf, typeInfo, hi, Builtin.lenOf, Builtin.firstCells, loadCells, loadCellsFrom, storeCells]
  cases a1 with
  | none =>
    obtain ⟨v', w', us, h1, h2, h3, h4, h5⟩ := run_app (P := P) (ty := ty) (n := 0) (vs := []) ht hi hz hes hzs hpos (World.ownsRow_nil w 0 E es) hsrc (by simpa using hsm) (by simpa using hn48)
    exact ⟨v', w', us, h1, h3, h4, .inl ⟨by simpa using h2, h5⟩⟩
  | some b1 =>
    rcases hsrc.val with ⟨a, c, rfl, rfl, hR⟩ | ⟨a, c, us, rfl, hl, ⟨hd, hone⟩, hm⟩
    · exact ⟨_, w, [], empty b1 a c, hR, ⟨rfl, rfl, rfl, Nat.le_refl _, fun _ _ _ => rfl⟩, .inr ⟨rfl, rfl, rfl⟩⟩
    · by_cases hm0 : m = 0
      · subst hm0
        have hus : us = [] := List.eq_nil_of_length_eq_zero (by simpa using hl)
        subst hus
        exact ⟨_, w, [], empty b1 _ c, hd, ⟨rfl, rfl, rfl, Nat.le_refl _, fun _ _ _ => rfl⟩, .inr ⟨rfl, rfl, rfl⟩⟩
      · subst hes
        have h63 : m ≤ maxLen := by unfold maxLen; omega
        have hr := run_append_grow (P := P) w t ty E i zv ht hi hz b1 0 0 [] (by simp) (by simp) a m c us hl hm (by omega) (by omega) (growslice_fits (by omega) (by simpa using hsm))
        have hgr := grown_row (w := w) (E := E) (zc := zv.cells) (vs := []) (us := us) (n := m) (by simpa using hl) hzs (grownCap_ge w m 0 E) (grownCap_le_maxLen w m 0 E h63)
        simp only [Nat.zero_add, List.nil_append] at hr hgr
        exact ⟨_, _, us, hr, hd, ⟨rfl, rfl, rfl, by simp, fun k hk _ => heap_alloc_old w.drew _ hk⟩, .inl ⟨hgr, .inr rfl⟩⟩

def killL (ks : List Nat) (x : At) : At := if x.ids.any ks.contains then .junk else x
def withoutL {α : Type} (l : List (Nat × α)) : List Nat → List (Nat × α)
  | [] => l
  | i :: r => withoutL (without l i) r
theorem look_withoutL {α : Type} (l : List (Nat × α)) (is : List Nat) (o : Nat) : look (withoutL l is) o = if o ∈ is then none else look l o := by
  induction is generalizing l with
  | nil => simp [withoutL]
  | cons i r ih =>
    simp only [withoutL, ih, look_without, List.mem_cons]
    by_cases h1 : o ∈ r
    · simp [h1]
    · by_cases h2 : o = i
      · simp [h2]
      · have : ¬ i = o := fun e => h2 e.symm
        simp [h1, h2, this]
theorem RepA.killL {w w' : World} {S S' : Nat → Prop} {β β' : Nat → OLoc} {ks : List Nat} (hk : ∀ b, S b → w'.heap[b]? = w.heap[b]?) (hs : ∀ b, S b → S' b) (hβ : ∀ o, o ∉ ks → β' o = β o) (x : At) (v : Value) (h : RepA w S β x v) : RepA w' S' β' (killL ks x) v := by
  unfold AM.killL
  split
  · exact .junk
  · rename_i hc
    refine h.mono hk hs fun o ho => hβ o fun hm => hc ?_
    exact List.any_eq_true.2 ⟨o, ho, by simpa using hm⟩

/-- The state behind an append: what was known of the list, and of lists that went into it, is forgotten; the longer list is known. -/
def St.appd (s : St) (dst : Option Nat) (k : Nat) (ks : List Nat) (X : Ob) : St :=
  let s1 := s.map (killL (k :: ks))
  { tm := match dst with | some d => (d, .one (.ol k)) :: s1.tm | none => s1.tm, ob := (k, X) :: withoutL s1.ob ks }

theorem get_appd (dst : Option Nat) (k : Nat) (ks : List Nat) (X : Ob) (i : Nat) : (s.appd dst k ks X).get i = if dst = some i then some (.one (.ol k)) else (s.get i).map (·.map (killL (k :: ks))) := by
  cases dst with
  | none => simp only [St.appd, St.get, St.map, look_mapTm]; simp
  | some d =>
    simp only [St.appd, St.get, look, St.map, look_mapTm, Option.some.injEq]
    by_cases h : d = i <;> simp [h]
theorem gob_appd (dst : Option Nat) (k : Nat) (ks : List Nat) (X : Ob) (o : Nat) : (s.appd dst k ks X).gob o = if o = k then some X else if o ∈ ks then none else (s.gob o).map (·.map (killL (k :: ks))) := by
  simp only [St.appd, St.gob, look, look_withoutL, St.map, look_mapOb]
  by_cases h : k = o
  · subst h; simp
  · simp [h, Ne.symm h]

theorem ObRep.map {w w' : World} {S S' : Nat → Prop} {β β' : Nat → OLoc} {f : At → At} {l : OLoc} {X : Ob} (hf : ∀ x v, RepA w S β x v → RepA w' S' β' (f x) v) (hb : ∀ b, l.Own b → w'.heap[b]? = w.heap[b]?) (hk : ∀ b, S b → w'.heap[b]? = w.heap[b]?) (hs : ∀ b, S b → S' b) (h : ObRep w S β l X) : ObRep w' S' β' l (X.map f) := by
  cases X with
  | var cs =>
    obtain ⟨h1, c, E, h2, h3⟩ := h
    exact ⟨h1, c, E, (hb _ (.inl ⟨h1, rfl⟩)).trans h2, h3.map hf⟩
  | lst E es xs => exact h.mono hb hk hs (by simp [Ob.ids])
  | tr E es xs => exact h.mono hb hk hs (by simp [Ob.ids])
  | tk xs => exact h.mono hb hk hs (by simp [Ob.ids])
  | mt E es xs => exact h.mono hb hk hs (by simp [Ob.ids])
  | mu E es xs m q a n c => exact h.mono hb hk hs (by simp [Ob.ids])
  | fu E es xs c => exact h.mono hb hk hs (by simp [Ob.ids])

theorem aOps_app {tr : Bool} {k E es : Nat} {ks : List Nat} {xs ys : List (List Da)} {i : TypeInfo} {zv : Value} (hold : (∃ tr0, s.gob k = some (mkL tr0 E es xs) ∧ (tr = true → tr0 = true) ∧ s.ev x = some (.one (.ol k))) ∨ (s.ev x = some (.one .e0) ∧ xs = [] ∧ s.fresh [(k, .lst E es [])] = true))
    (ho : o.op = .call { callee := .builtin .append, args := #[x, z], argTypes := #[t, t] }) (hg : o.guard = none) (hd : o.dst.all (· < Γ.n) = true) (ht : P.underlying t = some (.slice E)) (hi : P.info? E = some i) (hz : i.zero = some zv) (hes : i.size = es) (hzs : zv.cells.size = es) (hpos : 0 < es)
    (hsrc : ∀ a w S β, Sim Γ s a w S β → ∃ cl2, Src w (RowR tr w S cl2 ys.flatten) es ys.length (a.eval z) ∧ (cl2 = [] ∨ ∃ k2 X2, k2 ∈ ks ∧ k2 ≠ k ∧ s.gob k2 = some X2 ∧ cl2 = (β k2).clm)) (hyes : ∀ y ∈ ys, y.length = es) (hsm : (xs.length + ys.length) * i.bytes ≤ 140737488355328) (hn48 : xs.length + ys.length ≤ 281474976710656)
    (h : aOps Γ P ops rest K (s.appd o.dst k ks (mkL tr E es (xs ++ ys)))) (hlow : k < 2000) : aOps Γ P ops (o :: rest) K s := by
  intro a w S β R hs hR
  refine wpList_plain hg fun K' hK => ?_
  obtain ⟨cl2, hS2, hcl2⟩ := hsrc a w S β hs
  have hc2 : ∀ b ∈ cl2, ∃ k2 X2, k2 ∈ ks ∧ k2 ≠ k ∧ s.gob k2 = some X2 ∧ b ∈ (β k2).clm := by
    intro b hb
    rcases hcl2 with rfl | ⟨k2, X2, h1, h2, h3, rfl⟩
    · cases hb
    · exact ⟨k2, X2, h1, h2, h3, hb⟩
  -- the own row as it is
  have hrow : ∃ l : OLoc, ∃ vs, a.eval x = l.sv ∧ ((l.sv.ownBlock = (if l.has then some l.blk else none) ∧ w.ownsRow 0 E es l.sv xs.length vs) ∨ ((∀ b, ¬ l.Own b) ∧ l.sub = [] ∧ xs = [] ∧ vs = [] ∧ ∃ a, l.sv = .slice a 0 0)) ∧ RowR tr w S l.clm xs.flatten vs ∧ (∀ y ∈ xs, y.length = es) ∧
      (∀ b, l.Own b → b < w.heap.size ∧ ¬ S b ∧ (Γ.w0.heap.size ≤ b ∨ Γ.pass b)) ∧ (∀ o X, o ≠ k → s.gob o = some X → ∀ b, (β o).Own b → ¬ l.Own b) ∧
      (∀ b ∈ l.clm, ∃ X, s.gob k = some X ∧ b ∈ (β k).clm) := by
    rcases hold with ⟨tr0, hk, htr, hx⟩ | ⟨hx, rfl, hf⟩
    · have h1 := (hs.eval hx).one_inv
      generalize hv : a.eval x = v at h1
      cases h1
      rcases mkL_rep.1 (hs.mem.ob k _ hk) with ⟨hob, hsm1, hle, vs, hown, hrep⟩ | ⟨_, rfl, ad, hzc⟩
      · replace hrep : RowR tr w S (β k).clm xs.flatten vs := by
          cases tr with
          | true => rw [htr rfl] at hrep; exact hrep
          | false => exact hrep.ds
        exact ⟨β k, vs, rfl, .inl ⟨hob, hown⟩, hrep, hle, fun b hh => hs.mem.own k _ hk b hh, fun o X hne ho b hho hh => hne (hs.mem.sep o k X _ ho hk b hho hh), fun b hb => ⟨_, hk, hb⟩⟩
      · have hno : ∀ b, ¬ ({ β k with has := false, blk := 0, sub := [] } : OLoc).Own b := fun b hb => by (rcases hb with ⟨h, _⟩ | h <;> simp at h)
        exact ⟨{ β k with has := false, blk := 0, sub := [] }, [], rfl, .inr ⟨hno, rfl, rfl, rfl, ad, hzc⟩, RowR.nil, by simp, fun b hb => (hno b hb).elim, fun _ _ _ _ b _ hb => hno b hb, fun b hb => ⟨_, hk, hb⟩⟩
    · have h1 := (hs.eval hx).one_inv
      generalize hv : a.eval x = v at h1
      cases h1
      refine ⟨⟨0, none, 0, 0, false, [], []⟩, [], rfl, .inl ⟨rfl, ⟨by simp, .inl ⟨rfl, rfl⟩⟩⟩, RowR.nil, by simp, fun b hb => by (rcases hb with ⟨h, _⟩ | h <;> simp at h), fun _ _ _ _ b _ hb => by (rcases hb with ⟨h, _⟩ | h <;> simp at h), by simp⟩
  obtain ⟨l, vs, hev, hown, hrep, hle, hlown, hlsep, hlc⟩ := hrow
  -- what the call makes of it, and where the new row lies
  have hpost : ∃ v' w' us, ∃ l' : OLoc, (Builtin.append_ #[t, t] o.type #[l.sv, a.eval z]).run P w = .ok v' w' ∧ RowR tr w S cl2 ys.flatten us ∧ (w'.os = w.os ∧ w'.tape = w.tape ∧ w'.output = w.output ∧ w.heap.size ≤ w'.heap.size) ∧ (∀ b, b < w.heap.size → ¬ l.Own b → w'.heap[b]? = w.heap[b]?) ∧
      l'.sv = v' ∧ ((l'.sv.ownBlock = (if l'.has then some l'.blk else none) ∧ w'.ownsRow 0 E es l'.sv (xs.length + ys.length) (vs ++ us)) ∨ (l'.has = false ∧ xs.length + ys.length = 0 ∧ ∃ a, l'.sv = .slice a 0 0)) ∧ (∀ b, l'.Own b → b < w'.heap.size ∧ (l.Own b ∨ b = w.heap.size)) ∧ l'.clm = l.clm ++ cl2 := by
    have fin : ∀ (v' : Value) (w' : World) (us : List Value), w'.ownsRow 0 E es v' (xs.length + ys.length) (vs ++ us) → w.heap.size ≤ w'.heap.size → (∀ b, l.Own b → b < w.heap.size) → (∀ bk, v'.ownBlock = some bk → l.Own bk ∨ bk = w.heap.size) →
        ∃ l' : OLoc, l'.sv = v' ∧ (l'.sv.ownBlock = (if l'.has then some l'.blk else none) ∧ w'.ownsRow 0 E es l'.sv (xs.length + ys.length) (vs ++ us)) ∧ (∀ b, l'.Own b → b < w'.heap.size ∧ (l.Own b ∨ b = w.heap.size)) ∧ l'.clm = l.clm ++ cl2 := by
      intro v' w' us hown' hsz hll hwh
      obtain ⟨ad, cap, hv', hcap⟩ := ownsRow_form hown'
      have hsv : (OLoc.sv { blk := (v'.ownBlock).getD 0, sa := ad, sn := xs.length + ys.length, sc := cap, has := (v'.ownBlock).isSome, sub := l.sub, clm := l.clm ++ cl2 }) = v' := hv'.symm
      refine ⟨{ blk := (v'.ownBlock).getD 0, sa := ad, sn := xs.length + ys.length, sc := cap, has := (v'.ownBlock).isSome, sub := l.sub, clm := l.clm ++ cl2 }, hsv, ⟨?_, by rw [hsv]; exact hown'⟩, fun b hh => ?_, rfl⟩
      · rw [hsv]; cases v'.ownBlock <;> simp
      · rcases hh with ⟨hh, rfl⟩ | hh
        · dsimp only at hh ⊢
          obtain ⟨bk, hbk⟩ := Option.isSome_iff_exists.1 hh
          rw [hbk]
          exact ⟨(hown'.lt bk hbk).2, hwh bk hbk⟩
        · exact ⟨Nat.lt_of_lt_of_le (hll b (.inr hh)) hsz, .inl (.inr hh)⟩
    rcases hown with ⟨hob, hown⟩ | ⟨hno, hsub0, hxs, rfl, ad, hz0⟩
    · obtain ⟨v', w', us, hrun, hown', hus, hgr, hwhere⟩ := run_app (P := P) (ty := o.type) ht hi hz hes hzs hpos hown hS2 hsm hn48
      have hrow1 : ∀ b, l.sv.ownBlock = some b → l.has = true ∧ l.blk = b := by
        intro b hb
        rw [hob] at hb
        split at hb
        · rename_i e; simp at hb; exact ⟨e, hb⟩
        · simp at hb
      obtain ⟨l', f1, f2, f3, f4⟩ := fin v' w' us hown' hgr.size (fun b hb => (hlown b hb).1) fun bk hbk => by
        rcases hwhere with e | e
        · exact .inl (.inl (hrow1 bk (e ▸ hbk)))
        · rw [hbk] at e; simp at e; exact .inr e
      exact ⟨v', w', us, l', hrun, hus, ⟨hgr.os, hgr.tape, hgr.output, hgr.size⟩, fun b hb hn => hgr.block b hb fun e => hn (.inl (hrow1 b e.symm)), f1, .inl f2, f3, f4⟩
    · subst hxs
      simp only [List.length_nil, Nat.zero_add] at hsm hn48 fin ⊢
      rw [hz0]
      obtain ⟨v', w', us, hrun, hus, hgr, hc⟩ := run_appZ (P := P) (ty := o.type) (a1 := ad) ht hi hz hes hzs hpos hS2 hsm hn48
      have hkeep : ∀ b, b < w.heap.size → ¬ l.Own b → w'.heap[b]? = w.heap[b]? := fun b hb _ => hgr.block b hb (by simp)
      rcases hc with ⟨hown', hwhere⟩ | ⟨rfl, hm0, rfl⟩
      · obtain ⟨l', f1, f2, f3, f4⟩ := fin v' w' us (by simpa using hown') hgr.size (fun b hb => (hno b hb).elim) fun bk hbk => by
          rcases hwhere with e | e
          · rw [hbk] at e; simp at e
          · rw [hbk] at e; simp at e; exact .inr e
        exact ⟨v', w', us, l', hrun, hus, ⟨hgr.os, hgr.tape, hgr.output, hgr.size⟩, hkeep, f1, .inl (by simpa using f2), f3, f4⟩
      · exact ⟨_, w', [], { l with has := false, clm := l.clm ++ cl2 }, hrun, hus, ⟨hgr.os, hgr.tape, hgr.output, hgr.size⟩, hkeep, hz0, .inr ⟨rfl, hm0, ad, hz0⟩, fun b hb => by
          rcases hb with ⟨h, _⟩ | h
          · simp at h
          · rw [show ({ l with has := false, clm := l.clm ++ cl2 } : OLoc).sub = l.sub from rfl, hsub0] at h; simp at h, rfl⟩
  obtain ⟨v', w', us, l', hrun, hus, ⟨hgos, hgtape, hgout, hgsize⟩, hkeep, hl'sv, hl'ob, hl'blk, hl'clm⟩ := hpost
  have he : (execOp a.eval o).run P w = .ok (.value v') w' := by
    simp only [execOp, ho, resolve, invoke, builtin, Sem.run_bind, Sem.run_pure, Result.andThen_ok, List.map_toArray, List.map_cons, List.map_nil, hev, hrun]
  unfold Oper.wp
  rw [he, Oper.upon_value]
  have hS : ∀ b, S b → w'.heap[b]? = w.heap[b]? := fun b hb => hkeep b (hs.mem.lt b hb) fun hh => (hlown _ hh).2.1 hb
  let β' : Nat → OLoc := fun o => if o = k then l' else β o
  have hβ' : ∀ o, o ≠ k → β' o = β o := fun o h => if_neg h
  have hβk : β' k = l' := if_pos rfl
  have hkill : ∀ y v, RepA w S β y v → RepA w' S β' (killL (k :: ks) y) v := fun y v h => RepA.killL hS (fun _ h => h) (fun o ho => hβ' o fun e => ho (by simp [e])) y v h
  have hkd : ∀ xs cs, RepDs w S xs cs → RepDs w' S xs cs := fun xs cs h => h.mono hS fun _ h => h
  have hTk : ∀ o' X, (s.appd o.dst k ks (mkL tr E es (xs ++ ys))).gob o' = some X → (o' = k ∧ X = mkL tr E es (xs ++ ys)) ∨ (o' ≠ k ∧ o' ∉ ks ∧ ∃ Y, s.gob o' = some Y ∧ X = Y.map (killL (k :: ks))) := by
    intro o' X h
    rw [gob_appd] at h
    by_cases e : o' = k
    · rw [if_pos e] at h; simp at h; exact .inl ⟨e, h.symm⟩
    · rw [if_neg e] at h
      by_cases e2 : o' ∈ ks
      · rw [if_pos e2] at h; simp at h
      · rw [if_neg e2] at h
        cases hY : s.gob o' with
        | none => rw [hY] at h; simp at h
        | some Y => rw [hY] at h; simp at h; exact .inr ⟨e, e2, Y, rfl, h.symm⟩
  have hapart : ∀ o' X, o' ≠ k → s.gob o' = some X → ∀ b, (β o').Own b → ¬ l'.Own b := by
    intro o' X hne ho' b hh hh'
    rcases (hl'blk b hh').2 with hlh | e2
    · exact hlsep o' X hne ho' b hh hlh
    · have := (hs.mem.own o' X ho' b hh).1; omega
  have hcd : ∀ b ∈ l.clm, b ∉ cl2 := by
    intro b hb hb2
    obtain ⟨X, hX, h1⟩ := hlc b hb
    obtain ⟨k2, X2, _, h2, h3, h4⟩ := hc2 b hb2
    exact h2 (hs.mem.sepc k2 k X2 X h3 hX b h4 h1)
  have hcin : ∀ b ∈ l'.clm, ∃ q X, (q = k ∨ q ∈ ks) ∧ s.gob q = some X ∧ b ∈ (β q).clm := by
    intro b hb
    rw [hl'clm] at hb
    rcases List.mem_append.1 hb with hb | hb
    · obtain ⟨X, hX, h1⟩ := hlc b hb; exact ⟨k, X, .inl rfl, hX, h1⟩
    · obtain ⟨k2, X2, h1, _, h3, h4⟩ := hc2 b hb; exact ⟨k2, X2, .inr h1, h3, h4⟩
  refine hK _ _ (h _ _ S β' R ⟨?_, ?_, fun i' y hi' => ?_, ?_⟩ hR)
  · cases hdst : o.dst <;> simp [Act.put, hs.defers]
  · cases hdst : o.dst <;> simp [Act.put, hs.sz]
  · rw [get_appd] at hi'
    by_cases hdi : o.dst = some i'
    · rw [if_pos hdi] at hi'
      simp at hi'
      subst hi'
      rw [hdi] at hd ⊢
      simp at hd
      refine ⟨v', by simp [Act.put, hs.sz, hd], RepV.one ?_⟩
      have : v' = (β' k).sv := by rw [hβk, hl'sv]
      rw [this]; exact .ol
    · rw [if_neg hdi] at hi'
      cases hY : s.get i' with
      | none => rw [hY] at hi'; simp at hi'
      | some Y =>
        rw [hY] at hi'
        simp at hi'
        subst hi'
        obtain ⟨u, hu, hr⟩ := hs.tm i' Y hY
        refine ⟨u, ?_, hr.map hkill hkd⟩
        cases hdst : o.dst with
        | none => exact hu
        | some d =>
          simp only [Act.put]
          rw [Array.getElem?_setIfInBounds_ne (fun e => hdi (by rw [hdst, e]))]
          exact hu
  · refine ⟨fun b hb => Nat.lt_of_lt_of_le (hs.mem.lt b hb) hgsize, fun o' X ho' => ?_, fun o' X ho' b hh => ?_, fun o1 o2 X1 X2 h1 h2 b hh1 hh2 => ?_, hgos.trans hs.mem.os, hgtape.trans hs.mem.tape, hgout.trans hs.mem.output, Nat.le_trans hs.mem.size hgsize, fun b hb hp => ?_, hs.mem.sub, hs.mem.sup, fun o' l2 hl2 => ?_, fun o' X ho' b hh => ?_, fun o1 o2 X1 X2 h1 h2 b hh1 hh2 => ?_⟩
    · rcases hTk o' X ho' with ⟨rfl, rfl⟩ | ⟨hne, _, Y, hY, rfl⟩
      · rw [hβk]
        rcases hl'ob with ⟨hl'ob, hown'⟩ | ⟨z1, z2, z3⟩
        rotate_left
        · have e1 : xs = [] := List.eq_nil_of_length_eq_zero (by omega)
          have e2 : ys = [] := List.eq_nil_of_length_eq_zero (by omega)
          exact mkL_rep.2 (.inr ⟨z1, by rw [e1, e2]; rfl, z3⟩)
        refine mkL_rep.2 (.inl ⟨hl'ob, by simpa using hn48, fun y hy => ?_, vs ++ us, by simpa using hown', ?_⟩)
        · rcases List.mem_append.1 hy with hy | hy
          · exact hle y hy
          · exact hyes y hy
        · rw [List.flatten_append, hl'clm]
          exact hrep.app hus hS hcd
      · rw [hβ' o' hne]
        have hob' := hs.mem.ob o' Y hY
        have hbl : ∀ b, (β o').Own b → w'.heap[b]? = w.heap[b]? := fun b hh => hkeep _ (hs.mem.own o' Y hY b hh).1 fun hlh => hlsep o' Y hne hY b hh hlh
        exact hob'.map hkill hbl hS fun _ h => h
    · rcases hTk o' X ho' with ⟨rfl, rfl⟩ | ⟨hne, _, Y, hY, rfl⟩
      · rw [hβk] at hh
        obtain ⟨h1, h2⟩ := hl'blk b hh
        refine ⟨h1, ?_, ?_⟩
        · rcases h2 with hlh | e
          · exact (hlown b hlh).2.1
          · rw [e]; intro hs2; have := hs.mem.lt _ hs2; omega
        · rcases h2 with hlh | e
          · exact (hlown b hlh).2.2
          · rw [e]; exact .inl hs.mem.size
      · rw [hβ' o' hne] at hh
        obtain ⟨h1, h2, h3⟩ := hs.mem.own o' Y hY b hh
        exact ⟨Nat.lt_of_lt_of_le h1 hgsize, h2, h3⟩
    · rcases hTk o1 X1 h1 with ⟨rfl, rfl⟩ | ⟨hne1, _, Y1, hY1, rfl⟩ <;> rcases hTk o2 X2 h2 with ⟨rfl, rfl⟩ | ⟨hne2, _, Y2, hY2, rfl⟩
      · rfl
      · exfalso
        rw [hβk] at hh1
        rw [hβ' o2 hne2] at hh2
        exact hapart o2 Y2 hne2 hY2 b hh2 hh1
      · exfalso
        rw [hβk] at hh2
        rw [hβ' o1 hne1] at hh1
        exact hapart o1 Y1 hne1 hY1 b hh1 hh2
      · rw [hβ' o1 hne1] at hh1
        rw [hβ' o2 hne2] at hh2
        exact hs.mem.sep o1 o2 Y1 Y2 hY1 hY2 b hh1 hh2
    · refine (hkeep b (Nat.lt_of_lt_of_le hb hs.mem.size) fun hlh => ?_).trans (hs.mem.block b hb hp)
      rcases (hlown _ hlh).2.2 with h1 | h1
      · omega
      · exact hp h1
    · obtain ⟨f1, f2⟩ := hs.mem.fix o' l2 hl2
      exact ⟨f1, (hβ' o' (by omega)).trans f2⟩
    · rcases hTk o' X ho' with ⟨rfl, rfl⟩ | ⟨hne, _, Y, hY, rfl⟩
      · rw [hβk] at hh
        obtain ⟨q, X, _, hX, h1⟩ := hcin b hh
        exact hs.mem.clm q X hX b h1
      · rw [hβ' o' hne] at hh
        exact hs.mem.clm o' Y hY b hh
    · rcases hTk o1 X1 h1 with ⟨rfl, rfl⟩ | ⟨hne1, hn1, Y1, hY1, rfl⟩ <;> rcases hTk o2 X2 h2 with ⟨rfl, rfl⟩ | ⟨hne2, hn2, Y2, hY2, rfl⟩
      · rfl
      · exfalso
        rw [hβk] at hh1
        rw [hβ' o2 hne2] at hh2
        obtain ⟨q, X, hq, hX, h1⟩ := hcin b hh1
        have := hs.mem.sepc o2 q Y2 X hY2 hX b hh2 h1
        subst this
        exact hq.elim hne2 hn2
      · exfalso
        rw [hβk] at hh2
        rw [hβ' o1 hne1] at hh1
        obtain ⟨q, X, hq, hX, h1⟩ := hcin b hh2
        have := hs.mem.sepc o1 q Y1 X hY1 hX b hh1 h1
        subst this
        exact hq.elim hne1 hn1
      · rw [hβ' o1 hne1] at hh1
        rw [hβ' o2 hne2] at hh2
        exact hs.mem.sepc o1 o2 Y1 Y2 hY1 hY2 b hh1 hh2

/-- Rows of single cells that hold no list. -/
def Da.flat : Da → Bool
  | .sl [] => true
  | .sl _ => false
  | .tg _ _ => false
  | .fn _ => false
  | _ => true
def flatRows (ys : List (List Da)) : Prop := ∀ y ∈ ys, y.all Da.flat = true
theorem flatRows_all {ys : List (List Da)} (h : flatRows ys) : ys.flatten.all Da.flat = true := by
  rw [List.all_eq_true]
  intro x hx
  obtain ⟨y, hy, hx⟩ := List.mem_flatten.1 hx
  exact List.all_eq_true.1 (h y hy) x hx
theorem RepF.flatT {w : World} {xs : List Da} {vs : List Value} {fp : List Nat} (h : RepF w xs vs fp) (hf : xs.all Da.flat = true) : RepT w xs vs [] := by
  induction h with
  | nil => exact .nil
  | int _ ih => exact .int (ih (by simpa [Da.flat] using hf))
  | bool _ ih => exact .bool (ih (by simpa [Da.flat] using hf))
  | str hs _ ih => exact .str hs (ih (by simpa [Da.flat] using hf))
  | fn => simp [Da.flat] at hf
  | @sl0 ys _ _ _ _ n _ h1 h2 h3 h4 _ ih =>
    cases ys with
    | nil => subst h2; exact .sl0 (ih (by simpa [Da.flat] using hf))
    | cons y ys => simp [Da.flat] at hf
  | @sl1 ys _ _ _ _ _ _ _ n _ _ _ h2 _ _ _ _ _ _ _ ih =>
    cases ys with
    | nil => subst h2; exact .sl0 (ih (by simpa [Da.flat] using hf))
    | cons y ys => simp [Da.flat] at hf
  | tg => simp [Da.flat] at hf
theorem RepDs.flatR {tr : Bool} {w : World} {S : Nat → Prop} {cl : List Nat} {xs : List Da} {vs : List Value} (h : RepDs w S xs vs) (hf : xs.all Da.flat = true) : RowR tr w S cl xs vs := by
  cases tr with
  | true => obtain ⟨fp, h, _⟩ := h; exact ⟨[], h.flatT hf, by simp, by simp⟩
  | false => exact h

/-- What is appended: data, or another list, that goes into the new one where its rows own blocks. -/
inductive SrcA (s : St) (z : Operand) (tr : Bool) (k es : Nat) (ys : List (List Da)) : List Nat → Prop
  | d : s.ev z = some (L ys) → tr = false ∨ flatRows ys → SrcA s z tr k es ys []
  | o {k2 E2 tr2} : s.ev z = some (.one (.ol k2)) → s.gob k2 = some (mkL tr2 E2 es ys) → tr = false ∨ flatRows ys → SrcA s z tr k es ys []
  | t {k2 E2} : s.ev z = some (.one (.ol k2)) → s.gob k2 = some (.tr E2 es ys) → k2 ≠ k → SrcA s z tr k es ys [k2]
  | s : (∀ (Γ : Cx) (a : Act) (w : World) (S : Nat → Prop) (β : Nat → OLoc), Sim Γ s a w S β → Src w (RowR tr w S [] ys.flatten) es ys.length (a.eval z)) → SrcA s z tr k es ys []

theorem SrcA.src {z : Operand} {tr : Bool} {k es : Nat} {ys : List (List Da)} {ks : List Nat} (h : SrcA s z tr k es ys ks) (hpos : 0 < es) (hyes : ∀ y ∈ ys, y.length = es) {a : Act} {w : World} {S : Nat → Prop} {β : Nat → OLoc} (hs : Sim Γ s a w S β) :
    ∃ cl2, Src w (RowR tr w S cl2 ys.flatten) es ys.length (a.eval z) ∧ (cl2 = [] ∨ ∃ k2 X2, k2 ∈ ks ∧ k2 ≠ k ∧ s.gob k2 = some X2 ∧ cl2 = (β k2).clm) := by
  have hfl : ∀ {us : List Value}, tr = false ∨ flatRows ys → RepDs w S ys.flatten us → RowR tr w S [] ys.flatten us := by
    intro us hc hr
    rcases hc with rfl | hc
    · exact hr
    · exact hr.flatR (flatRows_all hc)
  cases h with
  | d hz hc =>
    have h1 := (hs.eval hz).one_inv
    generalize hv : a.eval z = v at h1
    cases h1 with | d h1 => exact ⟨[], (Src.of_data hpos h1 hyes).mono fun us hr => hfl hc hr, .inl rfl⟩
  | @o k2 E2 tr2 hz hk hc =>
    have h1 := (hs.eval hz).one_inv
    generalize hv : a.eval z = v at h1
    cases h1
    exact ⟨[], (Src.of_own (hs.mem.ob k2 _ hk)).mono fun us hr => hfl hc hr.ds, .inl rfl⟩
  | @t k2 E2 hz hk hne =>
    have h1 := (hs.eval hz).one_inv
    generalize hv : a.eval z = v at h1
    cases h1
    have := Src.of_own (tr := true) (hs.mem.ob k2 _ hk)
    refine ⟨(β k2).clm, this.mono fun us hr => ?_, .inr ⟨k2, _, by simp, hne, hk, rfl⟩⟩
    cases tr with
    | true => exact hr
    | false => exact hr.ds
  | s h => exact ⟨[], h _ a w S β hs, .inl rfl⟩

/-- A list that is written no more is data. -/
def St.frz (s : St) (k : Nat) (xs : List (List Da)) : St :=
  let s1 := s.map (frzAt k xs)
  { s1 with ob := without s1.ob k }

theorem Sim.frz {tr : Bool} {k E es : Nat} {xs : List (List Da)} (hk : s.gob k = some (mkL tr E es xs)) {a : Act} {w : World} {S : Nat → Prop} {β : Nat → OLoc} (hs : Sim Γ s a w S β) (hpos : 0 < es) : ∃ S', (∀ b, S b → S' b) ∧ Sim Γ (s.frz k xs) a w S' β := by
  let S' : Nat → Prop := fun b => S b ∨ ((β k).has = true ∧ b = (β k).blk)
  have hsub : ∀ b, S b → S' b := fun b hb => .inl hb
  have hd : RepDs w S' [.sl xs] [(β k).sv] := by
    rcases mkL_rep.1 (hs.mem.ob k _ hk) with ⟨hob, hsm, hle, vs, hown, hrep⟩ | ⟨_, rfl, ad, hz0⟩
    rotate_left
    · rw [hz0]; exact RepDs.sl_nil _ _
    replace hrep := hrep.ds
    rcases hown.2 with ⟨hsv, h0⟩ | ⟨g, cap, cur, hsv, _, hgb, hcap, hcm, hcsz, htk⟩
    · have := List.eq_nil_of_length_eq_zero h0
      subst this
      rw [hsv]; exact RepDs.sl_nil _ _
    · rw [hsv]
      have hbh : (β k).has = true ∧ g = (β k).blk := by
        rw [hsv] at hob
        simp only [Value.ownBlock] at hob
        split at hob
        · rename_i e; exact ⟨e, by simpa using hob⟩
        · simp at hob
      refine RepDs.sl_mk hcap hsm (.inr hbh) (Array.getElem?_eq_some_iff.1 hgb).1 (hrep.mono (fun _ _ => rfl) hsub) hle fun q u hu => ?_
      rw [Nat.zero_add, cell_of_cells hgb, ← Array.getElem?_toList]
      rw [← htk, List.getElem?_take] at hu
      split at hu
      · exact hu
      · simp at hu
  have hf : ∀ y v, RepA w S β y v → RepA w S' β (frzAt k xs y) v := by
    intro y v hy
    have hm := hy.mono (w' := w) (S' := S') (β' := β) (fun _ _ => rfl) hsub (fun _ _ => rfl)
    cases y with
    | ol o =>
      simp only [frzAt]
      split
      · rename_i e
        simp at e
        subst e
        cases hy
        exact .d hd
      · exact hm
    | op o off => simp only [frzAt]; split; exact .junk; exact hm
    | clo f caps => simp only [frzAt]; split; exact .junk; exact hm
    | _ => exact hm
  have hT : ∀ o' X, (s.frz k xs).gob o' = some X → o' ≠ k ∧ ∃ Y, s.gob o' = some Y ∧ X = Y.map (frzAt k xs) := by
    intro o' X h
    simp only [St.frz, St.gob, look_without, St.map, look_mapOb] at h
    split at h
    · simp at h
    · rename_i e
      cases hY : s.gob o' with
      | none => simp only [St.gob] at hY; rw [hY] at h; simp at h
      | some Y => have hY2 := hY; simp only [St.gob] at hY2; rw [hY2] at h; simp at h; exact ⟨fun e2 => e e2.symm, Y, rfl, h.symm⟩
  refine ⟨S', hsub, hs.defers, hs.sz, fun i y hi => ?_, ?_⟩
  · have : (s.frz k xs).get i = (s.get i).map (·.map (frzAt k xs)) := look_mapTm ..
    rw [this] at hi
    cases hY : s.get i with
    | none => rw [hY] at hi; simp at hi
    | some Y =>
      rw [hY] at hi; simp at hi; subst hi
      obtain ⟨v, hv, hr⟩ := hs.tm i Y hY
      exact ⟨v, hv, hr.map hf fun xs cs h => h.mono (fun _ _ => rfl) hsub⟩
  · refine ⟨fun b hb => ?_, fun o' X ho' => ?_, fun o' X ho' b hh => ?_, fun o1 o2 X1 X2 h1 h2 => ?_, hs.mem.os, hs.mem.tape, hs.mem.output, hs.mem.size, hs.mem.block, fun b hb => .inl (hs.mem.sub b hb), fun b hb => ?_, hs.mem.fix, fun o' X ho' b hh => ?_, fun o1 o2 X1 X2 h1 h2 => ?_⟩
    · rcases hb with hb | ⟨hh, rfl⟩
      · exact hs.mem.lt b hb
      · exact (hs.mem.own k _ hk _ (.inl ⟨hh, rfl⟩)).1
    · obtain ⟨hne, Y, hY, rfl⟩ := hT o' X ho'
      exact (hs.mem.ob o' Y hY).map hf (fun _ _ => rfl) (fun _ _ => rfl) hsub
    · obtain ⟨hne, Y, hY, rfl⟩ := hT o' X ho'
      obtain ⟨m1, m2, m3⟩ := hs.mem.own o' Y hY b hh
      refine ⟨m1, fun hb => ?_, m3⟩
      rcases hb with hb | ⟨hkh, hb⟩
      · exact m2 hb
      · exact hne (hs.mem.sep o' k Y _ hY hk b hh (.inl ⟨hkh, hb.symm⟩))
    · obtain ⟨hne, Y, hY, rfl⟩ := hT o1 X1 h1
      obtain ⟨hne2, Y2, hY2, rfl⟩ := hT o2 X2 h2
      exact hs.mem.sep o1 o2 Y Y2 hY hY2
    · rcases hb with hb | ⟨hh, rfl⟩
      · exact hs.mem.sup b hb
      · exact .inr (hs.mem.own k _ hk _ (.inl ⟨hh, rfl⟩)).2.2
    · obtain ⟨hne, Y, hY, rfl⟩ := hT o' X ho'
      obtain ⟨m1, m2⟩ := hs.mem.clm o' Y hY b hh
      exact ⟨hsub b m1, m2⟩
    · obtain ⟨hne, Y, hY, rfl⟩ := hT o1 X1 h1
      obtain ⟨hne2, Y2, hY2, rfl⟩ := hT o2 X2 h2
      exact hs.mem.sepc o1 o2 Y Y2 hY hY2

theorem aOps_frz {tr : Bool} {k E es : Nat} {xs : List (List Da)} {l : List Oper} (hk : s.gob k = some (mkL tr E es xs)) (hpos : 0 < es) (h : aOps Γ P ops l K (s.frz k xs)) : aOps Γ P ops l K s := by
  intro a w S β R hs hR
  obtain ⟨S', _, hs'⟩ := hs.frz hk hpos
  exact h a w S' β R hs' hR
theorem awp_frz {tr : Bool} {k E es : Nat} {xs : List (List Da)} {c : Code} (hk : s.gob k = some (mkL tr E es xs)) (hpos : 0 < es) (h : awp Γ P c Q (s.frz k xs)) : awp Γ P c Q s := by
  intro a w S β hs
  obtain ⟨S', _, hs'⟩ := hs.frz hk hpos
  exact h a w S' β hs'
theorem retOk_frz {fn : Func} {r : AV} {nob : List (Nat × Ob)} {tr : Bool} {k E es : Nat} {xs : List (List Da)} (hk : s.gob k = some (mkL tr E es xs)) (hpos : 0 < es) (h : RetOk P fn (s.frz k xs) r nob) : RetOk P fn s r nob := by
  intro w0 S0 n β0 a w S β hs
  obtain ⟨S', _, hs'⟩ := hs.frz hk hpos
  exact h w0 S0 n β0 a w S' β hs'
/-- Rows' blocks that are the list's own count as data alone. -/
theorem Sim.setX {k : Nat} {X Y : Ob} (hk : s.gob k = some X) {a : Act} {w : World} {S : Nat → Prop} {β : Nat → OLoc} (hs : Sim Γ s a w S β) (hX : ObRep w S β (β k) X → ObRep w S β (β k) Y) : Sim Γ (s.setOb k Y) a w S β := by
  have hT' : ∀ o Z, (s.setOb k Y).gob o = some Z → (o = k ∧ Z = Y) ∨ s.gob o = some Z := by
    intro o Z ho
    rw [gob_setOb] at ho
    by_cases e : o = k
    · rw [if_pos e] at ho; simp at ho; exact .inl ⟨e, ho.symm⟩
    · rw [if_neg e] at ho; exact .inr ho
  have hT : ∀ o Z, (s.setOb k Y).gob o = some Z → ∃ Z', s.gob o = some Z' := by
    intro o Z ho
    rcases hT' o Z ho with ⟨rfl, _⟩ | ho
    · exact ⟨_, hk⟩
    · exact ⟨_, ho⟩
  refine ⟨hs.defers, hs.sz, hs.tm, ⟨hs.mem.lt, fun o Z ho => ?_, fun o Z ho => ?_, fun o o' Z Z' ho ho' => ?_, hs.mem.os, hs.mem.tape, hs.mem.output, hs.mem.size, hs.mem.block, hs.mem.sub, hs.mem.sup, hs.mem.fix, fun o Z ho => ?_, fun o o' Z Z' ho ho' => ?_⟩⟩
  · rcases hT' o Z ho with ⟨rfl, rfl⟩ | ho
    · exact hX (hs.mem.ob o X hk)
    · exact hs.mem.ob o Z ho
  · obtain ⟨Z', h⟩ := hT o Z ho; exact hs.mem.own o Z' h
  · obtain ⟨Z1, h1⟩ := hT o Z ho; obtain ⟨Z2, h2⟩ := hT o' Z' ho'; exact hs.mem.sep o o' Z1 Z2 h1 h2
  · obtain ⟨Z', h⟩ := hT o Z ho; exact hs.mem.clm o Z' h
  · obtain ⟨Z1, h1⟩ := hT o Z ho; obtain ⟨Z2, h2⟩ := hT o' Z' ho'; exact hs.mem.sepc o o' Z1 Z2 h1 h2
theorem ObRep.tr_of_flat {w : World} {S : Nat → Prop} {β : Nat → OLoc} {l : OLoc} {E es : Nat} {xs : List (List Da)} (h : ObRep w S β l (.lst E es xs)) (hf : flatRows xs) : ObRep w S β l (.tr E es xs) := by
  rcases h with ⟨h1, h2, h3, vs, h4, h5⟩ | h
  · exact (mkL_rep (tr := true)).2 (.inl ⟨h1, h2, h3, vs, h4, h5.flatR (flatRows_all hf)⟩)
  · exact .inr h

theorem retOk_ent {s' : St} {fn : Func} {r : AV} {nob : List (Nat × Ob)} (he : Ent s s') (h : RetOk P fn s' r nob) : RetOk P fn s r nob :=
  fun w0 S0 n β0 a w S β hs => h w0 S0 n β0 a w S β (he.sim hs)

end
end AM
end Go.Proofs.Ytfcmmpmdofejeaa
