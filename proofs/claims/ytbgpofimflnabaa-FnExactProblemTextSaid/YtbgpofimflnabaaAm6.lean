/- Stores into own variables and lists, appends, and lists that are written no more; no conditions. -/
import Derived.Test.YtbgpofimflnabaaAm5
set_option linter.unusedSimpArgs false
set_option linter.unusedVariables false
namespace Go.Proofs.Ytbgpofimflnabaa
namespace AM
open Go

mutual
def AV.map (f : At → At) : AV → AV
  | .one x => .one (f x)
  | .dat xs => .dat xs
  | .agg xs => mkAgg (xs.map f)
  | .tup ys => .tup (AV.mapT f ys)
def AV.mapT (f : At → At) : List AV → List AV
  | [] => []
  | y :: r => y.map f :: AV.mapT f r
end

def Ob.map (f : At → At) : Ob → Ob
  | .var cs => .var (cs.map f)
  | .lst E es xs => .lst E es xs

def mapTm (f : At → At) : List (Nat × AV) → List (Nat × AV)
  | [] => []
  | (i, x) :: r => (i, x.map f) :: mapTm f r
def mapOb (f : At → At) : List (Nat × Ob) → List (Nat × Ob)
  | [] => []
  | (i, x) :: r => (i, x.map f) :: mapOb f r
def St.map (f : At → At) (s : St) : St := ⟨mapTm f s.tm, mapOb f s.ob⟩

theorem look_mapTm (f : At → At) (l : List (Nat × AV)) (i : Nat) : look (mapTm f l) i = (look l i).map (·.map f) := by
  induction l with
  | nil => rfl
  | cons p l ih => obtain ⟨k, x⟩ := p; simp only [mapTm, look]; split <;> simp [ih]
theorem look_mapOb (f : At → At) (l : List (Nat × Ob)) (i : Nat) : look (mapOb f l) i = (look l i).map (·.map f) := by
  induction l with
  | nil => rfl
  | cons p l ih => obtain ⟨k, x⟩ := p; simp only [mapOb, look]; split <;> simp [ih]

section
variable {w w' : World} {S S' : Nat → Prop} {β β' : Nat → OLoc} {f : At → At}
theorem RepAs.map {xs vs} (hf : ∀ x v, RepA w S β x v → RepA w' S' β' (f x) v) (h : RepAs w S β xs vs) : RepAs w' S' β' (xs.map f) vs := by
  induction h with
  | nil => exact .nil
  | cons h _ ih => exact .cons (hf _ _ h) ih
theorem RepVs.map {ys vs} (hf : ∀ x v, RepA w S β x v → RepA w' S' β' (f x) v) (hd : ∀ xs cs, RepDs w S xs cs → RepDs w' S' xs cs) (h : RepVs w S β ys vs) : RepVs w' S' β' (AV.mapT f ys) vs := by
  induction h with
  | nil => exact .nil
  | one h _ ih => exact .one (hf _ _ h) ih
  | dat h _ ih => exact .dat (hd _ _ h) ih
  | agg h _ ih => exact RepVs.cons (h.map hf).mk ih
  | tup _ _ ih1 ih2 => exact .tup ih1 ih2
theorem RepV.map {y v} (hf : ∀ x v, RepA w S β x v → RepA w' S' β' (f x) v) (hd : ∀ xs cs, RepDs w S xs cs → RepDs w' S' xs cs) (h : RepV w S β y v) : RepV w' S' β' (y.map f) v := RepVs.map hf hd h
end

/-- What is killed is known no more. -/
def killAt (k : Nat) (x : At) : At := if x.ids.contains k then .junk else x
/-- A list that is written no more is data. -/
def frzAt (k : Nat) (xs : List (List Da)) : At → At
  | .ol o => if o == k then .d (.sl xs) else .ol o
  | .op o off => if o == k then .junk else .op o off
  | .clo f caps => if (caps.map (·.1)).contains k then .junk else .clo f caps
  | x => x

def St.setOb (s : St) (k : Nat) (X : Ob) : St := { s with ob := (k, X) :: s.ob }
theorem gob_setOb (s : St) (k : Nat) (X : Ob) (o : Nat) : (s.setOb k X).gob o = if o = k then some X else s.gob o := by
  simp only [St.setOb, St.gob, look]
  by_cases h : k = o
  · subst h; simp
  · simp [h, Ne.symm h]
theorem get_setOb (s : St) (k : Nat) (X : Ob) : (s.setOb k X).get = s.get := rfl

section
variable {Γ : Cx} {P : Program} {ops : Array Oper} {rest : List Oper} {o : Oper} {K : St → Prop} {s : St} {Q : Exit → St → Prop} {t : TypeId} {x z : Operand}

theorem Sim.setRow {a : Act} {w : World} {S : Nat → Prop} {β : Nat → OLoc} {k : Nat} {X X' : Ob} {cur c2 : Array Value} {E : TypeId} (h : Sim Γ s a w S β) (hk : s.gob k = some X) (hh : (β k).has = true) (hg : w.heap[(β k).blk]? = some (.cells cur E (0, 0)))
    (hX : ObRep (w.setRow (β k).blk c2) S β (β k) X') : Sim Γ (s.setOb k X') a (w.setRow (β k).blk c2) S β := by
  have hold : ∀ b, b ≠ (β k).blk → (w.setRow (β k).blk c2).heap[b]? = w.heap[b]? := fun b hb => setRow_other w _ b c2 hb
  obtain ⟨o1, o2, o3⟩ := h.mem.own k X hk hh
  have hS : ∀ b, S b → (w.setRow (β k).blk c2).heap[b]? = w.heap[b]? := fun b hb => hold b (fun e => o2 (e ▸ hb))
  have hsz : (w.setRow (β k).blk c2).heap.size = w.heap.size := by simp [World.setRow]
  have hT : ∀ o Y, (s.setOb k X').gob o = some Y → (o = k ∧ Y = X') ∨ (o ≠ k ∧ s.gob o = some Y) := by
    intro o Y ho
    rw [gob_setOb] at ho
    by_cases e : o = k
    · rw [if_pos e] at ho; simp at ho; exact .inl ⟨e, ho.symm⟩
    · rw [if_neg e] at ho; exact .inr ⟨e, ho⟩
  have hT' : ∀ o Y, (s.setOb k X').gob o = some Y → ∃ Y', s.gob o = some Y' := by
    intro o Y ho
    rcases hT o Y ho with ⟨rfl, _⟩ | ⟨_, ho⟩
    · exact ⟨_, hk⟩
    · exact ⟨_, ho⟩
  refine ⟨h.defers, h.sz, fun i y hi => ?_, ?_⟩
  · obtain ⟨v, hv, hr⟩ := h.tm i y hi
    exact ⟨v, hv, hr.mono hS (fun _ h => h) fun _ _ => rfl⟩
  · refine ⟨fun b hb => by rw [hsz]; exact h.mem.lt b hb, fun o Y ho => ?_, fun o Y ho hho => ?_, fun o o' Y Y' ho ho' => ?_, h.mem.os, h.mem.tape, h.mem.output, by rw [hsz]; exact h.mem.size, fun b hb hp => ?_, h.mem.sub, h.mem.sup, h.mem.fix⟩
    · rcases hT o Y ho with ⟨rfl, rfl⟩ | ⟨hne, ho⟩
      · exact hX
      · exact (h.mem.ob o Y ho).mono (fun hho => hold _ fun e => hne (h.mem.sep o k Y X ho hk hho hh e)) hS (fun _ h => h) fun _ _ => rfl
    · obtain ⟨Y', ho'⟩ := hT' o Y ho
      rw [hsz]; exact h.mem.own o Y' ho' hho
    · obtain ⟨Z, hz⟩ := hT' o Y ho
      obtain ⟨Z', hz'⟩ := hT' o' Y' ho'
      exact h.mem.sep o o' Z Z' hz hz'
    · refine (hold b fun e => ?_).trans (h.mem.block b hb hp)
      rcases o3 with o3 | o3
      · omega
      · exact hp (e ▸ o3)

theorem RepA.oneCell {w : World} {S : Nat → Prop} {β : Nat → OLoc} {x : At} {v : Value} (h : RepA w S β x v) (hj : x ≠ .junk) : v.oneCell' = true := by
  cases h with
  | d h => obtain ⟨_, h, _⟩ := h; cases h <;> rfl
  | junk => exact absurd rfl hj
  | _ => rfl
theorem RepAs.oneCells {w : World} {S : Nat → Prop} {β : Nat → OLoc} {xs : List At} {vs : List Value} (h : RepAs w S β xs vs) (hj : .junk ∉ xs) : ∀ v ∈ vs, v.oneCell' = true := by
  induction h with
  | nil => simp
  | cons h _ ih =>
    intro v hv
    simp only [List.mem_cons, not_or] at hv hj
    rcases hv with rfl | hv
    · exact h.oneCell fun e => hj.1 e.symm
    · exact ih hj.2 v hv
theorem RepDs.oneCells {w : World} {S : Nat → Prop} {xs : List Da} {vs : List Value} (h : RepDs w S xs vs) : ∀ v ∈ vs, v.oneCell' = true :=
  (RepAs.of_ds (β := fun _ => ⟨0, none, 0, 0, false⟩) h).oneCells (by simp)

def noJunk : List At → Bool
  | [] => true
  | .junk :: _ => false
  | _ :: r => noJunk r
theorem noJunk_spec {xs : List At} (h : noJunk xs = true) : .junk ∉ xs := by
  induction xs with
  | nil => simp
  | cons x xs ih =>
    cases x <;> simp [noJunk] at h <;> simp [ih h]

/-- A store into a variable of the call's own. -/
theorem aOps_store {k off : Nat} {Z : AV} {zs cs : List At} {j : TypeInfo} (ho : o.op = .store t x z) (hg : o.guard = none) (hd : o.dst = none) (hx : s.ev x = some (.one (.op k off))) (hz : s.ev z = some Z) (hc : Z.cells = some zs) (hk : s.gob k = some (.var cs)) (hj : P.info? t = some j) (hsz : j.size = zs.length)
    (hl : off + zs.length ≤ cs.length) (hnj : noJunk zs = true) (h : aOps Γ P ops rest K (s.setOb k (.var (cs.take off ++ zs ++ cs.drop (off + zs.length))))) : aOps Γ P ops (o :: rest) K s := by
  intro a w S β R hs hR
  refine wpList_plain hg fun K' hK => ?_
  have h1 := (hs.eval hx).one_inv
  have h2 := hs.eval hz
  have hcs := h2.cells hc
  obtain ⟨hh, ar, E, hgb, hrep⟩ := hs.mem.ob k _ hk
  generalize hv : a.eval x = v at h1
  cases h1
  have hl1 := hcs.len
  have hl2 := hrep.len
  simp only [Array.length_toList] at hl1 hl2
  have hst := run_storeCells_at P (β k).blk off E (a.eval z).cells.toList 0 ar w hgb (by simp; omega) (hcs.oneCells (noJunk_spec hnj))
  simp only [Nat.add_zero, Array.length_toList] at hst
  have he : (execOp a.eval o).run P w = .ok .skip (w.setRow (β k).blk (ar.toList.take off ++ (a.eval z).cells.toList ++ ar.toList.drop (off + (a.eval z).cells.size)).toArray) := by
    have hszz : (a.eval z).cells.size = j.size := by omega
    simp only [execOp, ho, hv, Instr.storeAt, Instr.sureAddr, storeVar, sizeOf, typeInfo, program, Sem.run_bind, Sem.run, Sem.run_pure, Result.andThen_ok, hj, hszz, ne_eq, not_true_eq_false, if_false]
    rw [hszz] at hst
    simp [hst]
  unfold Oper.wp
  rw [he, Oper.upon_skip, hd]
  refine hK _ _ (h _ _ S β R (hs.setRow hk hh hgb ⟨hh, _, E, setRow_heap w _ ar _ E _ hgb, ?_⟩) hR)
  have hS : ∀ b, S b → (w.setRow (β k).blk (ar.toList.take off ++ (a.eval z).cells.toList ++ ar.toList.drop (off + (a.eval z).cells.size)).toArray).heap[b]? = w.heap[b]? := fun b hb => setRow_other w _ b _ fun e => (hs.mem.own k _ hk hh).2.1 (e ▸ hb)
  have t1 := hrep.take_drop 0 off
  have t2 := hrep.take_drop (off + zs.length) cs.length
  simp only [List.drop_zero] at t1
  rw [List.take_of_length_le (by simp), List.take_of_length_le (by simp; omega)] at t2
  have := (t1.app hcs).app t2
  rw [show off + zs.length = off + (a.eval z).cells.size by omega] at this ⊢
  exact this.mono hS (fun _ h => h) fun _ _ => rfl

/-- A store into an element of a list of the call's own. -/
theorem aOps_storeL {k off n q E es : Nat} {Z : AV} {zs : List At} {ds c : List Da} {xs : List (List Da)} {j : TypeInfo} (ho : o.op = .store t x z) (hg : o.guard = none) (hd : o.dst = none) (hx : s.ev x = some (.one (.op k off))) (hz : s.ev z = some Z) (hc : Z.cells = some zs) (hds : toDs zs = some ds)
    (hk : s.gob k = some (.lst E es xs)) (hj : P.info? t = some j) (hsz : j.size = ds.length) (hn : xs[n]? = some c) (hoff : off = n * es + q) (hq : q + ds.length ≤ c.length) (hpos : 0 < ds.length)
    (h : aOps Γ P ops rest K (s.setOb k (.lst E es (xs.set n (c.take q ++ ds ++ c.drop (q + ds.length)))))) : aOps Γ P ops (o :: rest) K s := by
  intro a w S β R hs hR
  refine wpList_plain hg fun K' hK => ?_
  have h1 := (hs.eval hx).one_inv
  have h2 := hs.eval hz
  have hcs := (h2.cells hc).toDs hds
  obtain ⟨hob, hsm, hle, vs, hown, hrep⟩ := hs.mem.ob k _ hk
  generalize hv : a.eval x = v at h1
  cases h1
  have hnl : n < xs.length := (List.getElem?_eq_some_iff.1 hn).1
  have hcl : c.length = es := hle c (List.mem_of_getElem? hn)
  rcases hown.2 with ⟨_, h0⟩ | ⟨g, cap, cur, hsv, _, hgb, hcap, hcm, hcsz, htk⟩
  · omega
  have hbh : (β k).has = true ∧ g = (β k).blk := by
    rw [hsv] at hob
    simp only [Value.ownBlock] at hob
    split at hob
    · rename_i e; exact ⟨e, by simpa using hob⟩
    · simp at hob
  obtain ⟨hh, rfl⟩ := hbh
  rw [flatten_split hn] at hrep
  obtain ⟨v1, v2, rfl, d1, d2⟩ := hrep.split
  obtain ⟨v3, v4, rfl, d3, d4⟩ := d2.split
  have hl1 : v1.length = n * es := by rw [d1.len, flatten_take_len hle (Nat.le_of_lt hnl)]
  have hl3 : v3.length = es := by rw [d3.len, hcl]
  have hlz := hcs.len
  simp only [Array.length_toList] at hlz
  have hne : n * es + es ≤ xs.length * es := by rw [← Nat.succ_mul]; exact Nat.mul_le_mul_right _ hnl
  have hxc : xs.length * es ≤ cap * es := Nat.mul_le_mul_right _ hcap
  have hst := run_storeCells_at P (β k).blk off E (a.eval z).cells.toList 0 cur w hgb (by simp; omega) hcs.oneCells
  simp only [Nat.add_zero, Array.length_toList] at hst
  have he : (execOp a.eval o).run P w = .ok .skip (w.setRow (β k).blk (cur.toList.take off ++ (a.eval z).cells.toList ++ cur.toList.drop (off + (a.eval z).cells.size)).toArray) := by
    have hszz : (a.eval z).cells.size = j.size := by omega
    simp only [execOp, ho, hv, Instr.storeAt, Instr.sureAddr, storeVar, sizeOf, typeInfo, program, Sem.run_bind, Sem.run, Sem.run_pure, Result.andThen_ok, hj, hszz, ne_eq, not_true_eq_false, if_false]
    rw [hszz] at hst
    simp [hst]
  unfold Oper.wp
  rw [he, Oper.upon_skip, hd]
  have hlen : (xs.set n (c.take q ++ ds ++ c.drop (q + ds.length))).length = xs.length := by simp
  have hcl' : (c.take q ++ ds ++ c.drop (q + ds.length)).length = es := by simp; omega
  have hS : ∀ b, S b → (w.setRow (β k).blk (cur.toList.take off ++ (a.eval z).cells.toList ++ cur.toList.drop (off + (a.eval z).cells.size)).toArray).heap[b]? = w.heap[b]? := fun b hb => setRow_other w _ b _ fun e => (hs.mem.own k _ hk hh).2.1 (e ▸ hb)
  refine hK _ _ (h _ _ S β R (hs.setRow hk hh hgb ⟨hob, by simpa using hsm, fun y hy => ?_, (v1 ++ ((v3.take q ++ (a.eval z).cells.toList ++ v3.drop (q + ds.length)) ++ v4)), ⟨?_, .inr ⟨_, cap, _, by rw [hsv, hlen], Nat.zero_le _, setRow_heap w _ cur _ E _ hgb, by simpa using hcap, hcm, by simp; omega, ?_⟩⟩, ?_⟩) hR)
  · rcases List.mem_or_eq_of_mem_set hy with hy | hy
    · exact hle y hy
    · rw [hy]; exact hcl'
  · have := hown.1
    simp only [List.length_append, List.length_take, List.length_drop, Array.length_toList, hlen] at this ⊢
    omega
  · have hcur : cur.toList = (v1 ++ (v3 ++ v4)) ++ cur.toList.drop (xs.length * es) := by rw [← htk]; exact (List.take_append_drop _ _).symm
    have h4 := hown.1
    simp only [List.length_append] at h4
    rw [hlen, hcur]
    have e1 : ((v1 ++ (v3 ++ v4)) ++ cur.toList.drop (xs.length * es)).take off = v1 ++ v3.take q := by
      rw [hoff, List.append_assoc, List.take_append, List.take_of_length_le (by omega), hl1, Nat.add_sub_cancel_left, List.append_assoc, List.take_append_of_le_length (by omega)]
    have e2 : ((v1 ++ (v3 ++ v4)) ++ cur.toList.drop (xs.length * es)).drop (off + (a.eval z).cells.size) = v3.drop (q + ds.length) ++ (v4 ++ cur.toList.drop (xs.length * es)) := by
      rw [hoff, List.append_assoc, List.drop_append, List.drop_of_length_le (by omega), hl1, show n * es + q + (a.eval z).cells.size - n * es = q + ds.length by omega, List.append_assoc, List.drop_append_of_le_length (by omega)]
      simp
    simp only [List.toList_toArray]
    rw [e1, e2]
    rw [show v1 ++ v3.take q ++ (a.eval z).cells.toList ++ (v3.drop (q + ds.length) ++ (v4 ++ cur.toList.drop (xs.length * es))) = (v1 ++ ((v3.take q ++ (a.eval z).cells.toList ++ v3.drop (q + ds.length)) ++ v4)) ++ cur.toList.drop (xs.length * es) by simp [List.append_assoc]]
    apply List.take_left'
    simp only [List.length_append, List.length_take, List.length_drop, Array.length_toList]
    omega
  · have hfl : (xs.set n (c.take q ++ ds ++ c.drop (q + ds.length))).flatten = (xs.take n).flatten ++ ((c.take q ++ ds ++ c.drop (q + ds.length)) ++ (xs.drop (n + 1)).flatten) := by
      have := flatten_split (xs := xs.set n (c.take q ++ ds ++ c.drop (q + ds.length))) (n := n) (c := c.take q ++ ds ++ c.drop (q + ds.length)) (by simp [hnl])
      rw [this, List.take_set_of_le (Nat.le_refl n), List.drop_set_of_lt (by omega)]
    rw [hfl]
    have dt : RepDs w S (c.take q) (v3.take q) ∧ RepDs w S (c.drop (q + ds.length)) (v3.drop (q + ds.length)) := by
      have e : c = c.take q ++ (((c.drop q).take ds.length) ++ c.drop (q + ds.length)) := by
        rw [← List.drop_drop, List.take_append_drop, List.take_append_drop]
      rw [e] at d3
      obtain ⟨u1, u2, rfl, f1, f2⟩ := d3.split
      obtain ⟨u3, u4, rfl, f3, f4⟩ := f2.split
      have m1 : u1.length = q := by rw [f1.len]; simp; omega
      have m3 : u3.length = ds.length := by rw [f3.len]; simp; omega
      refine ⟨by rw [List.take_left' m1]; exact f1, ?_⟩
      rw [← List.append_assoc, List.drop_left' (by simp; omega)]
      exact f4
    exact (d1.app (((dt.1.app hcs).app dt.2).app d4)).mono hS fun _ h => h

/-- Where appended elements are read from. -/
structure Src (w : World) (S : Nat → Prop) (es : Nat) (ys : List (List Da)) (v : Value) : Prop where
  small : ys.length ≤ 281474976710656
  val : (∃ a c, v = .slice a 0 c ∧ ys = []) ∨ ∃ a c us, v = .slice (some a) ys.length c ∧ us.length = ys.length * es ∧ RepDs w S ys.flatten us ∧ ∀ j u, us[j]? = some u → w.cell? (a.add j) = some u

theorem nil_of_flatten {es : Nat} (hpos : 0 < es) {ys : List (List Da)} (h : ys.flatten = []) (hes : ∀ y ∈ ys, y.length = es) : ys = [] := by
  cases ys with
  | nil => rfl
  | cons y ys =>
    have h1 := hes y (by simp)
    simp at h
    rw [h.1] at h1
    simp at h1; omega

theorem Src.of_data {w : World} {S : Nat → Prop} {es : Nat} {ys : List (List Da)} {v : Value} (hpos : 0 < es) (h : RepDs w S [.sl ys] [v]) (hes : ∀ y ∈ ys, y.length = es) : Src w S es ys v := by
  obtain ⟨a, cap, rfl, h1, h2, h3⟩ := h.sl_inv
  refine ⟨h2, ?_⟩
  rcases h3 with h3 | ⟨b, off, us, es', rfl, hS, hb, hd, hes', hm⟩
  · have := nil_of_flatten hpos h3 hes
    subst this
    exact .inl ⟨_, _, rfl, rfl⟩
  · refine .inr ⟨_, _, us, rfl, ?_, hd, fun j u hu => by rw [add_lit]; exact hm j u hu⟩
    rw [hd.len, flatten_len hes]

theorem Src.of_own {w : World} {S : Nat → Prop} {β : Nat → OLoc} {k E es : Nat} {ys : List (List Da)} (h : ObRep w S β (β k) (.lst E es ys)) : Src w S es ys (β k).sv := by
  obtain ⟨hob, hsm, hle, vs, hown, hrep⟩ := h
  refine ⟨hsm, ?_⟩
  rcases hown.2 with ⟨hsv, h0⟩ | ⟨g, cap, cur, hsv, _, hgb, hcap, hcm, hcsz, htk⟩
  · exact .inl ⟨_, _, hsv, List.eq_nil_of_length_eq_zero h0⟩
  · refine .inr ⟨⟨g, 0, none⟩, cap, vs, hsv, hown.1, hrep, fun j u hu => ?_⟩
    rw [add_lit, Nat.zero_add, cell_of_cells hgb, ← Array.getElem?_toList]
    rw [← htk, List.getElem?_take] at hu
    split at hu
    · exact hu
    · simp at hu

theorem Src.nil {w : World} {S : Nat → Prop} {es : Nat} : Src w S es [] (.slice none 0 0) := ⟨by simp, .inl ⟨_, _, rfl, rfl⟩⟩

theorem grown_row {w : World} {E es n g : Nat} {vs us : List Value} {zc : Array Value} (hl : (vs ++ us).length = n * es) (hz : zc.size = es) (hn : n ≤ g) (hg : g ≤ maxLen) :
    (w.drew.alloc (.cells (vs.toArray ++ us.toArray ++ Builtin.zeroCells zc (g - n)) E)).ownsRow 0 E es (.slice (some ⟨w.heap.size, 0, none⟩) n g) n (vs ++ us) := by
  have h := ownsRow_new (w := w.drew) (E := E) (es := es) (n := n) (cap := g) (c := vs.toArray ++ us.toArray ++ Builtin.zeroCells zc (g - n)) (by
    simp only [Array.size_append, List.size_toArray, size_zeroCells, hz]
    have : n * es + (g - n) * es = g * es := by rw [← Nat.add_mul]; congr 1; omega
    simp only [List.length_append] at hl
    omega) hn hg
  have e : (vs.toArray ++ us.toArray ++ Builtin.zeroCells zc (g - n)).toList.take (n * es) = vs ++ us := by
    simp only [Array.toList_append]
    apply List.take_left'
    rw [hl]
  rw [e] at h
  exact h

/-- What the built-in append makes of an own row. -/
theorem run_app {P : Program} {w : World} {S : Nat → Prop} {E es n : Nat} {t ty : TypeId} {i : TypeInfo} {zv : Value} {v1 v2 : Value} {vs : List Value} {ys : List (List Da)} (ht : P.underlying t = some (.slice E)) (hi : P.info? E = some i) (hz : i.zero = some zv) (hes : i.size = es) (hzs : zv.cells.size = es) (hpos : 0 < es)
    (hown : w.ownsRow 0 E es v1 n vs) (hsrc : Src w S es ys v2) (hsm : (n + ys.length) * i.bytes ≤ 140737488355328) (hn48 : n + ys.length ≤ 281474976710656) :
    ∃ v' w' us, (Builtin.append_ #[t, t] ty #[v1, v2]).run P w = .ok v' w' ∧ w'.ownsRow 0 E es v' (n + ys.length) (vs ++ us) ∧ RepDs w S ys.flatten us ∧ w.grownBy w' v1.ownBlock ∧ (v'.ownBlock = v1.ownBlock ∨ v'.ownBlock = some w.heap.size) := by
  rcases hsrc.val with ⟨a, c, rfl, rfl⟩ | ⟨a, c, us, rfl, hl, hd, hm⟩
  · refine ⟨v1, w, [], ?_, by simpa using hown, RepDs.nil, ⟨rfl, rfl, rfl, Nat.le_refl _, fun _ _ _ => rfl⟩, .inl rfl⟩
    obtain ⟨b, cap, rfl, hc⟩ := ownsRow_form hown
    cases a <;> cases b <;> simp [Builtin.append_, run_underlying ht, sizeOf, typeInfo, hi, Builtin.lenOf, hc, Builtin.firstCells, loadCells, loadCellsFrom, storeCells]
  · by_cases hm0 : ys.length = 0
    · have hy := List.eq_nil_of_length_eq_zero hm0
      subst hy
      refine ⟨v1, w, [], ?_, by simpa using hown, RepDs.nil, ⟨rfl, rfl, rfl, Nat.le_refl _, fun _ _ _ => rfl⟩, .inl rfl⟩
      obtain ⟨b, cap, rfl, hc⟩ := ownsRow_form hown
      cases b <;> simp [Builtin.append_, run_underlying ht, sizeOf, typeInfo, hi, Builtin.lenOf, hc, Builtin.firstCells, loadCells, loadCellsFrom, storeCells]
    · subst hes
      have hlen : (vs ++ us).length = (n + ys.length) * i.size := by rw [List.length_append, hown.1, hl, Nat.add_mul]
      have h63 : n + ys.length ≤ maxLen := by unfold maxLen; omega
      rcases hown.2 with ⟨rfl, rfl⟩ | ⟨g, cap, cur, rfl, hbg, hg, hnc, hcm, hcs, htake⟩
      · have hx : vs = [] := List.eq_nil_of_length_eq_zero (by simpa using hown.1)
        subst hx
        have hr := run_append_nil (P := P) w t ty E i zv ht hi hz a ys.length c us hl hm (by omega) (by omega) (by have hb := hsm; simp only [Nat.zero_add] at hb; omega)
        simp only [Nat.zero_add] at hsm hn48 hlen h63 ⊢
        have hgr := grown_row (w := w) (E := E) (zc := zv.cells) hlen hzs (grownCap_ge w ys.length 0 E) (grownCap_le_maxLen w ys.length 0 E h63)
        simp only [List.nil_append] at hgr ⊢
        rw [show ([] : List Value).toArray ++ us.toArray = us.toArray by simp] at hgr
        exact ⟨_, _, us, hr, hgr, hd, ⟨rfl, rfl, rfl, by simp, fun k hk _ => heap_alloc_old w.drew _ hk⟩, .inr rfl⟩
      · by_cases hroom : n + ys.length ≤ cap
        · have hfit : n * i.size + us.length ≤ cur.size := by rw [hl, hcs, ← Nat.add_mul]; exact Nat.mul_le_mul_right _ hroom
          have hr := run_append_room (P := P) w t ty E i ht hi g n cap cur hg a ys.length c us hl hm hd.oneCells hroom hfit
          refine ⟨_, _, us, hr, ⟨hlen, .inr ⟨g, cap, _, rfl, hbg, setRow_heap w g cur _ E _ hg, hroom, hcm, ?_, ?_⟩⟩, hd, ⟨rfl, rfl, rfl, by simp, fun k _ hk => setRow_other w g k _ (fun e => hk (by simp [Value.ownBlock, e]))⟩, .inl rfl⟩
          · simp only [List.size_toArray, List.length_append, List.length_take, List.length_drop, Array.length_toList]
            omega
          · rw [htake, ← hlen]
            exact List.take_left
        · have holds : ∀ j u, vs[j]? = some u → w.cell? ((⟨g, 0, none⟩ : Addr).add j) = some u := hown.cells (g := g) rfl
          have hr := run_append_grow (P := P) w t ty E i zv ht hi hz ⟨g, 0, none⟩ n cap vs hown.1 holds a ys.length c us hl hm (by omega) (by omega) (growslice_fits (by omega) hsm)
          have hgr := grown_row (w := w) (E := E) (zc := zv.cells) hlen hzs (grownCap_ge w (n + ys.length) cap E) (grownCap_le_maxLen w (n + ys.length) cap E h63)
          exact ⟨_, _, us, hr, hgr, hd, ⟨rfl, rfl, rfl, by simp, fun k hk _ => heap_alloc_old w.drew _ hk⟩, .inr rfl⟩

theorem look_killed (k i : Nat) : (s.map (killAt k)).get i = (s.get i).map (·.map (killAt k)) := look_mapTm ..
theorem RepA.kill {w w' : World} {S S' : Nat → Prop} {β β' : Nat → OLoc} {k : Nat} (hk : ∀ b, S b → w'.heap[b]? = w.heap[b]?) (hs : ∀ b, S b → S' b) (hβ : ∀ o, o ≠ k → β' o = β o) (x : At) (v : Value) (h : RepA w S β x v) : RepA w' S' β' (killAt k x) v := by
  unfold killAt
  split
  · exact .junk
  · rename_i hc
    refine h.mono hk hs fun o ho => hβ o ?_
    rintro rfl
    exact hc (by simpa using ho)

/-- The state behind an append: what was known of the list is forgotten, the longer list is known. -/
def St.appd (s : St) (dst : Option Nat) (k : Nat) (X : Ob) : St :=
  let s1 := s.map (killAt k)
  { tm := match dst with | some d => (d, .one (.ol k)) :: s1.tm | none => s1.tm, ob := (k, X) :: s1.ob }

theorem get_appd (dst : Option Nat) (k : Nat) (X : Ob) (i : Nat) : (s.appd dst k X).get i = if dst = some i then some (.one (.ol k)) else (s.get i).map (·.map (killAt k)) := by
  cases dst with
  | none => simp only [St.appd, St.get, St.map, look_mapTm]; simp
  | some d =>
    simp only [St.appd, St.get, look, St.map, look_mapTm, Option.some.injEq]
    by_cases h : d = i <;> simp [h]
theorem gob_appd (dst : Option Nat) (k : Nat) (X : Ob) (o : Nat) : (s.appd dst k X).gob o = if o = k then some X else (s.gob o).map (·.map (killAt k)) := by
  simp only [St.appd, St.gob, look, St.map, look_mapOb]
  by_cases h : k = o
  · subst h; simp
  · simp [h, Ne.symm h]

theorem ObRep.map {w w' : World} {S S' : Nat → Prop} {β β' : Nat → OLoc} {f : At → At} {l : OLoc} {X : Ob} (hf : ∀ x v, RepA w S β x v → RepA w' S' β' (f x) v) (hkeep : ObRep w S β l X → ObRep w' S' β' l X ∨ ∃ cs, X = .var cs) (hb : l.has = true → w'.heap[l.blk]? = w.heap[l.blk]?) (h : ObRep w S β l X) : ObRep w' S' β' l (X.map f) := by
  cases X with
  | var cs =>
    obtain ⟨h1, c, E, h2, h3⟩ := h
    exact ⟨h1, c, E, (hb h1).trans h2, h3.map hf⟩
  | lst E es xs =>
    rcases hkeep h with h | ⟨cs, h⟩
    · exact h
    · cases h

theorem aOps_appGen {k E es : Nat} {xs ys : List (List Da)} {i : TypeInfo} {zv : Value} (hold : (∃ X, s.gob k = some X ∧ X = .lst E es xs ∧ s.ev x = some (.one (.ol k))) ∨ (s.ev x = some (.one .e0) ∧ xs = [] ∧ s.fresh [(k, .lst E es [])] = true))
    (ho : o.op = .call { callee := .builtin .append, args := #[x, z], argTypes := #[t, t] }) (hg : o.guard = none) (hd : o.dst.all (· < Γ.n) = true) (ht : P.underlying t = some (.slice E)) (hi : P.info? E = some i) (hz : i.zero = some zv) (hes : i.size = es) (hzs : zv.cells.size = es) (hpos : 0 < es)
    (hsrc : ∀ a w S β, Sim Γ s a w S β → Src w S es ys (a.eval z)) (hyes : ∀ y ∈ ys, y.length = es) (hsm : (xs.length + ys.length) * i.bytes ≤ 140737488355328) (hn48 : xs.length + ys.length ≤ 281474976710656)
    (h : aOps Γ P ops rest K (s.appd o.dst k (.lst E es (xs ++ ys)))) (hlow : k < 2000 := by decide) : aOps Γ P ops (o :: rest) K s := by
  intro a w S β R hs hR
  refine wpList_plain hg fun K' hK => ?_
  have hS2 := hsrc a w S β hs
  -- the own row as it is
  have hrow : ∃ l : OLoc, ∃ vs, a.eval x = l.sv ∧ l.sv.ownBlock = (if l.has then some l.blk else none) ∧ w.ownsRow 0 E es l.sv xs.length vs ∧ RepDs w S xs.flatten vs ∧ (∀ y ∈ xs, y.length = es) ∧
      (l.has = true → l.blk < w.heap.size ∧ ¬ S l.blk ∧ (Γ.w0.heap.size ≤ l.blk ∨ Γ.pass l.blk)) ∧ (∀ o X, o ≠ k → s.gob o = some X → (β o).has = true → l.has = true → (β o).blk ≠ l.blk) ∧ (l.has = true → ∃ X, s.gob k = some X ∧ β k = l) := by
    rcases hold with ⟨X, hk, rfl, hx⟩ | ⟨hx, rfl, hf⟩
    · obtain ⟨hob, hsm1, hle, vs, hown, hrep⟩ := hs.mem.ob k _ hk
      have h1 := (hs.eval hx).one_inv
      generalize hv : a.eval x = v at h1
      cases h1
      exact ⟨β k, vs, rfl, hob, hown, hrep, hle, fun hh => hs.mem.own k _ hk hh, fun o X hne ho hho hh e => hne (hs.mem.sep o k X _ ho hk hho hh e), fun _ => ⟨_, hk, rfl⟩⟩
    · have h1 := (hs.eval hx).one_inv
      generalize hv : a.eval x = v at h1
      cases h1
      refine ⟨⟨0, none, 0, 0, false⟩, [], rfl, rfl, ⟨by simp, .inl ⟨rfl, rfl⟩⟩, RepDs.nil, by simp, by simp, by simp, by simp⟩
  obtain ⟨l, vs, hev, hob, hown, hrep, hle, hlown, hlsep, hlk⟩ := hrow
  obtain ⟨v', w', us, hrun, hown', hus, hgr, hwhere⟩ := run_app (P := P) (ty := o.type) ht hi hz hes hzs hpos hown hS2 hsm hn48
  have he : (execOp a.eval o).run P w = .ok (.value v') w' := by
    simp only [execOp, ho, resolve, invoke, builtin, Sem.run_bind, Sem.run_pure, Result.andThen_ok, List.map_toArray, List.map_cons, List.map_nil, hev, hrun]
  unfold Oper.wp
  rw [he, Oper.upon_value]
  -- where the new row lies
  obtain ⟨ad, cap, hv', hcap⟩ := ownsRow_form hown'
  have hpost : ∃ l' : OLoc, l'.sv = v' ∧ l'.sv.ownBlock = (if l'.has then some l'.blk else none) ∧ (l'.has = true → l'.blk < w'.heap.size ∧ ((l.has = true ∧ l'.blk = l.blk) ∨ l'.blk = w.heap.size)) := by
    refine ⟨{ blk := (v'.ownBlock).getD 0, sa := ad, sn := xs.length + ys.length, sc := cap, has := (v'.ownBlock).isSome }, hv'.symm, ?_, fun hh => ?_⟩
    · have : (OLoc.sv { blk := (v'.ownBlock).getD 0, sa := ad, sn := xs.length + ys.length, sc := cap, has := (v'.ownBlock).isSome }) = v' := hv'.symm
      rw [this]
      cases v'.ownBlock <;> simp
    · dsimp only at hh ⊢
      obtain ⟨bk, hbk⟩ := Option.isSome_iff_exists.1 hh
      rw [hbk]
      refine ⟨(hown'.lt bk hbk).2, ?_⟩
      rcases hwhere with e | e
      · rw [hbk, hob] at e
        split at e
        · rename_i hlh
          simp at e
          exact .inl ⟨hlh, e⟩
        · simp at e
      · rw [hbk] at e
        simp at e
        exact .inr e
  obtain ⟨l', hl'sv, hl'ob, hl'blk⟩ := hpost
  have hrow1 : ∀ b, l.sv.ownBlock = some b → l.has = true ∧ b = l.blk := by
    intro b hb
    rw [hob] at hb
    split at hb
    · rename_i e; simp at hb; exact ⟨e, hb.symm⟩
    · simp at hb
  have hkeep : ∀ b, b < w.heap.size → (l.has = true → b ≠ l.blk) → w'.heap[b]? = w.heap[b]? := fun b hb hne => hgr.block b hb fun e => hne (hrow1 b e.symm).1 (hrow1 b e.symm).2
  have hS : ∀ b, S b → w'.heap[b]? = w.heap[b]? := fun b hb => hkeep b (hs.mem.lt b hb) fun hh e => (hlown hh).2.1 (e ▸ hb)
  let β' : Nat → OLoc := fun o => if o = k then l' else β o
  have hβ' : ∀ o, o ≠ k → β' o = β o := fun o h => if_neg h
  have hβk : β' k = l' := if_pos rfl
  have hkill : ∀ y v, RepA w S β y v → RepA w' S β' (killAt k y) v := fun y v h => RepA.kill hS (fun _ h => h) hβ' y v h
  have hkd : ∀ xs cs, RepDs w S xs cs → RepDs w' S xs cs := fun xs cs h => h.mono hS fun _ h => h
  have hTk : ∀ o' X, (s.appd o.dst k (.lst E es (xs ++ ys))).gob o' = some X → (o' = k ∧ X = .lst E es (xs ++ ys)) ∨ (o' ≠ k ∧ ∃ Y, s.gob o' = some Y ∧ X = Y.map (killAt k)) := by
    intro o' X h
    rw [gob_appd] at h
    by_cases e : o' = k
    · rw [if_pos e] at h; simp at h; exact .inl ⟨e, h.symm⟩
    · rw [if_neg e] at h
      cases hY : s.gob o' with
      | none => rw [hY] at h; simp at h
      | some Y => rw [hY] at h; simp at h; exact .inr ⟨e, Y, rfl, h.symm⟩
  have hapart : ∀ o' X, o' ≠ k → s.gob o' = some X → (β o').has = true → l'.has = true → (β o').blk ≠ l'.blk := by
    intro o' X hne ho' hh hh' e
    rcases (hl'blk hh').2 with ⟨hlh, e2⟩ | e2
    · exact hlsep o' X hne ho' hh hlh (e.trans e2)
    · have := (hs.mem.own o' X ho' hh).1; omega
  refine hK _ _ (h _ _ S β' R ⟨?_, ?_, fun i' y hi' => ?_, ?_⟩ hR)
  · cases hdst : o.dst <;> simp [Act.put, hs.defers]
  · cases hdst : o.dst <;> simp [Act.put, hs.sz]
  · rw [get_appd] at hi'
    by_cases hdi : o.dst = some i'
    · rw [if_pos hdi] at hi'
      simp at hi'
      subst hi'
      rw [hdi] at hd ⊢
      simp at hd
      refine ⟨v', by simp [Act.put, hs.sz, hd], RepV.one ?_⟩
      have : v' = (β' k).sv := by rw [hβk, hl'sv]
      rw [this]; exact .ol
    · rw [if_neg hdi] at hi'
      cases hY : s.get i' with
      | none => rw [hY] at hi'; simp at hi'
      | some Y =>
        rw [hY] at hi'
        simp at hi'
        subst hi'
        obtain ⟨u, hu, hr⟩ := hs.tm i' Y hY
        refine ⟨u, ?_, hr.map hkill hkd⟩
        cases hdst : o.dst with
        | none => exact hu
        | some d =>
          simp only [Act.put]
          rw [Array.getElem?_setIfInBounds_ne (fun e => hdi (by rw [hdst, e]))]
          exact hu
  · refine ⟨fun b hb => Nat.lt_of_lt_of_le (hs.mem.lt b hb) hgr.size, fun o' X ho' => ?_, fun o' X ho' hh => ?_, fun o1 o2 X1 X2 h1 h2 hh1 hh2 e => ?_, hgr.os.trans hs.mem.os, hgr.tape.trans hs.mem.tape, hgr.output.trans hs.mem.output, Nat.le_trans hs.mem.size hgr.size, fun b hb hp => ?_, hs.mem.sub, hs.mem.sup, fun o' l2 hl2 => ?_⟩
    · rcases hTk o' X ho' with ⟨rfl, rfl⟩ | ⟨hne, Y, hY, rfl⟩
      · rw [hβk]
        refine ⟨hl'ob, by simpa using hn48, fun y hy => ?_, vs ++ us, by rw [hl'sv]; simpa using hown', ?_⟩
        · rcases List.mem_append.1 hy with hy | hy
          · exact hle y hy
          · exact hyes y hy
        · rw [List.flatten_append]
          exact (hrep.app hus).mono hS fun _ h => h
      · rw [hβ' o' hne]
        have hob' := hs.mem.ob o' Y hY
        have hbl : (β o').has = true → w'.heap[(β o').blk]? = w.heap[(β o').blk]? := fun hh => hkeep _ (hs.mem.own o' Y hY hh).1 fun hlh => hlsep o' Y hne hY hh hlh
        refine hob'.map hkill (fun _ => ?_) hbl
        cases Y with
        | var cs => exact .inr ⟨cs, rfl⟩
        | lst E' es' xs' => exact .inl (hob'.mono hbl hS (fun _ h => h) (by simp [Ob.ids]))
    · rcases hTk o' X ho' with ⟨rfl, rfl⟩ | ⟨hne, Y, hY, rfl⟩
      · rw [hβk] at hh ⊢
        obtain ⟨h1, h2⟩ := hl'blk hh
        refine ⟨h1, ?_, ?_⟩
        · rcases h2 with ⟨hlh, e⟩ | e
          · rw [e]; exact (hlown hlh).2.1
          · rw [e]; intro hs2; have := hs.mem.lt _ hs2; omega
        · rcases h2 with ⟨hlh, e⟩ | e
          · rw [e]; exact (hlown hlh).2.2
          · rw [e]; exact .inl hs.mem.size
      · rw [hβ' o' hne] at hh ⊢
        obtain ⟨h1, h2, h3⟩ := hs.mem.own o' Y hY hh
        exact ⟨Nat.lt_of_lt_of_le h1 hgr.size, h2, h3⟩
    · rcases hTk o1 X1 h1 with ⟨rfl, rfl⟩ | ⟨hne1, Y1, hY1, rfl⟩ <;> rcases hTk o2 X2 h2 with ⟨rfl, rfl⟩ | ⟨hne2, Y2, hY2, rfl⟩
      · rfl
      · exfalso
        rw [hβk] at hh1 e
        rw [hβ' o2 hne2] at hh2 e
        exact hapart o2 Y2 hne2 hY2 hh2 hh1 e.symm
      · exfalso
        rw [hβk] at hh2 e
        rw [hβ' o1 hne1] at hh1 e
        exact hapart o1 Y1 hne1 hY1 hh1 hh2 e
      · rw [hβ' o1 hne1] at hh1 e
        rw [hβ' o2 hne2] at hh2 e
        exact hs.mem.sep o1 o2 Y1 Y2 hY1 hY2 hh1 hh2 e
    · refine (hkeep b (Nat.lt_of_lt_of_le hb hs.mem.size) fun hlh e => ?_).trans (hs.mem.block b hb hp)
      rcases (hlown hlh).2.2 with h1 | h1
      · omega
      · exact hp (e ▸ h1)
    · obtain ⟨f1, f2⟩ := hs.mem.fix o' l2 hl2
      exact ⟨f1, (hβ' o' (by omega)).trans f2⟩

/-- Data appended to a list of the call's own. -/
theorem aOps_appD {k E es : Nat} {xs ys : List (List Da)} {i : TypeInfo} {zv : Value} (ho : o.op = .call { callee := .builtin .append, args := #[x, z], argTypes := #[t, t] }) (hg : o.guard = none) (hd : o.dst.all (· < Γ.n) = true) (ht : P.underlying t = some (.slice E)) (hi : P.info? E = some i) (hz : i.zero = some zv) (hes : i.size = es) (hzs : zv.cells.size = es) (hpos : 0 < es)
    (hx : s.ev x = some (.one (.ol k))) (hk : s.gob k = some (.lst E es xs)) (hy : s.ev z = some (L ys)) (hyes : ∀ y ∈ ys, y.length = es) (hsm : (xs.length + ys.length) * i.bytes ≤ 140737488355328) (hn48 : xs.length + ys.length ≤ 281474976710656)
    (h : aOps Γ P ops rest K (s.appd o.dst k (.lst E es (xs ++ ys)))) (hlow : k < 2000 := by decide) : aOps Γ P ops (o :: rest) K s :=
  aOps_appGen (.inl ⟨_, hk, rfl, hx⟩) ho hg hd ht hi hz hes hzs hpos (fun a w S β hs => by
    have h1 := (hs.eval hy).one_inv
    generalize hv : a.eval z = v at h1
    cases h1 with | d h1 => exact Src.of_data hpos h1 hyes) hyes hsm hn48 h hlow

/-- Another list of the call's own appended. -/
theorem aOps_appO {k k2 E E2 es : Nat} {xs ys : List (List Da)} {i : TypeInfo} {zv : Value} (ho : o.op = .call { callee := .builtin .append, args := #[x, z], argTypes := #[t, t] }) (hg : o.guard = none) (hd : o.dst.all (· < Γ.n) = true) (ht : P.underlying t = some (.slice E)) (hi : P.info? E = some i) (hz : i.zero = some zv) (hes : i.size = es) (hzs : zv.cells.size = es) (hpos : 0 < es)
    (hx : s.ev x = some (.one (.ol k))) (hk : s.gob k = some (.lst E es xs)) (hy : s.ev z = some (.one (.ol k2))) (hk2 : s.gob k2 = some (.lst E2 es ys)) (hyes : ∀ y ∈ ys, y.length = es) (hsm : (xs.length + ys.length) * i.bytes ≤ 140737488355328) (hn48 : xs.length + ys.length ≤ 281474976710656)
    (h : aOps Γ P ops rest K (s.appd o.dst k (.lst E es (xs ++ ys)))) (hlow : k < 2000 := by decide) : aOps Γ P ops (o :: rest) K s :=
  aOps_appGen (.inl ⟨_, hk, rfl, hx⟩) ho hg hd ht hi hz hes hzs hpos (fun a w S β hs => by
    have h1 := (hs.eval hy).one_inv
    generalize hv : a.eval z = v at h1
    cases h1
    exact Src.of_own (hs.mem.ob k2 _ hk2)) hyes hsm hn48 h hlow

/-- The same, onto nil: a new list, number k. -/
theorem aOps_appD0 {k E es : Nat} {ys : List (List Da)} {i : TypeInfo} {zv : Value} (ho : o.op = .call { callee := .builtin .append, args := #[x, z], argTypes := #[t, t] }) (hg : o.guard = none) (hd : o.dst.all (· < Γ.n) = true) (ht : P.underlying t = some (.slice E)) (hi : P.info? E = some i) (hz : i.zero = some zv) (hes : i.size = es) (hzs : zv.cells.size = es) (hpos : 0 < es)
    (hx : s.ev x = some (.one .e0)) (hf : s.fresh [(k, .lst E es [])] = true) (hy : s.ev z = some (L ys)) (hyes : ∀ y ∈ ys, y.length = es) (hsm : ys.length * i.bytes ≤ 140737488355328) (hn48 : ys.length ≤ 281474976710656)
    (h : aOps Γ P ops rest K (s.appd o.dst k (.lst E es ys))) (hlow : k < 2000 := by decide) : aOps Γ P ops (o :: rest) K s :=
  aOps_appGen (xs := []) (.inr ⟨hx, rfl, hf⟩) ho hg hd ht hi hz hes hzs hpos (fun a w S β hs => by
    have h1 := (hs.eval hy).one_inv
    generalize hv : a.eval z = v at h1
    cases h1 with | d h1 => exact Src.of_data hpos h1 hyes) hyes (by simpa using hsm) (by simpa using hn48) h hlow

theorem aOps_appO0 {k k2 E E2 es : Nat} {ys : List (List Da)} {i : TypeInfo} {zv : Value} (ho : o.op = .call { callee := .builtin .append, args := #[x, z], argTypes := #[t, t] }) (hg : o.guard = none) (hd : o.dst.all (· < Γ.n) = true) (ht : P.underlying t = some (.slice E)) (hi : P.info? E = some i) (hz : i.zero = some zv) (hes : i.size = es) (hzs : zv.cells.size = es) (hpos : 0 < es)
    (hx : s.ev x = some (.one .e0)) (hf : s.fresh [(k, .lst E es [])] = true) (hy : s.ev z = some (.one (.ol k2))) (hk2 : s.gob k2 = some (.lst E2 es ys)) (hyes : ∀ y ∈ ys, y.length = es) (hsm : ys.length * i.bytes ≤ 140737488355328) (hn48 : ys.length ≤ 281474976710656)
    (h : aOps Γ P ops rest K (s.appd o.dst k (.lst E es ys))) (hlow : k < 2000 := by decide) : aOps Γ P ops (o :: rest) K s :=
  aOps_appGen (xs := []) (.inr ⟨hx, rfl, hf⟩) ho hg hd ht hi hz hes hzs hpos (fun a w S β hs => by
    have h1 := (hs.eval hy).one_inv
    generalize hv : a.eval z = v at h1
    cases h1
    exact Src.of_own (hs.mem.ob k2 _ hk2)) hyes (by simpa using hsm) (by simpa using hn48) h hlow

/-- A list that is written no more is data. -/
def St.frz (s : St) (k : Nat) (xs : List (List Da)) : St :=
  let s1 := s.map (frzAt k xs)
  { s1 with ob := without s1.ob k }

theorem Sim.frz {k E es : Nat} {xs : List (List Da)} (hk : s.gob k = some (.lst E es xs)) {a : Act} {w : World} {S : Nat → Prop} {β : Nat → OLoc} (hs : Sim Γ s a w S β) (hpos : 0 < es) : ∃ S', Sim Γ (s.frz k xs) a w S' β := by
  obtain ⟨hob, hsm, hle, vs, hown, hrep⟩ := hs.mem.ob k _ hk
  let S' : Nat → Prop := fun b => S b ∨ ((β k).has = true ∧ b = (β k).blk)
  have hsub : ∀ b, S b → S' b := fun b hb => .inl hb
  have hd : RepDs w S' [.sl xs] [(β k).sv] := by
    rcases hown.2 with ⟨hsv, h0⟩ | ⟨g, cap, cur, hsv, _, hgb, hcap, hcm, hcsz, htk⟩
    · have := List.eq_nil_of_length_eq_zero h0
      subst this
      rw [hsv]; exact RepDs.sl_nil _ _
    · rw [hsv]
      have hbh : (β k).has = true ∧ g = (β k).blk := by
        rw [hsv] at hob
        simp only [Value.ownBlock] at hob
        split at hob
        · rename_i e; exact ⟨e, by simpa using hob⟩
        · simp at hob
      refine RepDs.sl_mk hcap hsm (.inr hbh) (Array.getElem?_eq_some_iff.1 hgb).1 (hrep.mono (fun _ _ => rfl) hsub) hle fun q u hu => ?_
      rw [Nat.zero_add, cell_of_cells hgb, ← Array.getElem?_toList]
      rw [← htk, List.getElem?_take] at hu
      split at hu
      · exact hu
      · simp at hu
  have hf : ∀ y v, RepA w S β y v → RepA w S' β (frzAt k xs y) v := by
    intro y v hy
    have hm := hy.mono (w' := w) (S' := S') (β' := β) (fun _ _ => rfl) hsub (fun _ _ => rfl)
    cases y with
    | ol o =>
      simp only [frzAt]
      split
      · rename_i e
        simp at e
        subst e
        cases hy
        exact .d hd
      · exact hm
    | op o off => simp only [frzAt]; split; exact .junk; exact hm
    | clo f caps => simp only [frzAt]; split; exact .junk; exact hm
    | _ => exact hm
  have hT : ∀ o' X, (s.frz k xs).gob o' = some X → o' ≠ k ∧ ∃ Y, s.gob o' = some Y ∧ X = Y.map (frzAt k xs) := by
    intro o' X h
    simp only [St.frz, St.gob, look_without, St.map, look_mapOb] at h
    split at h
    · simp at h
    · rename_i e
      cases hY : s.gob o' with
      | none => simp only [St.gob] at hY; rw [hY] at h; simp at h
      | some Y => have hY2 := hY; simp only [St.gob] at hY2; rw [hY2] at h; simp at h; exact ⟨fun e2 => e e2.symm, Y, rfl, h.symm⟩
  refine ⟨S', hs.defers, hs.sz, fun i y hi => ?_, ?_⟩
  · have : (s.frz k xs).get i = (s.get i).map (·.map (frzAt k xs)) := look_mapTm ..
    rw [this] at hi
    cases hY : s.get i with
    | none => rw [hY] at hi; simp at hi
    | some Y =>
      rw [hY] at hi; simp at hi; subst hi
      obtain ⟨v, hv, hr⟩ := hs.tm i Y hY
      exact ⟨v, hv, hr.map hf fun xs cs h => h.mono (fun _ _ => rfl) hsub⟩
  · refine ⟨fun b hb => ?_, fun o' X ho' => ?_, fun o' X ho' hh => ?_, fun o1 o2 X1 X2 h1 h2 => ?_, hs.mem.os, hs.mem.tape, hs.mem.output, hs.mem.size, hs.mem.block, fun b hb => .inl (hs.mem.sub b hb), fun b hb => ?_, hs.mem.fix⟩
    · rcases hb with hb | ⟨hh, rfl⟩
      · exact hs.mem.lt b hb
      · exact (hs.mem.own k _ hk hh).1
    · obtain ⟨hne, Y, hY, rfl⟩ := hT o' X ho'
      refine (hs.mem.ob o' Y hY).map hf (fun hh => ?_) fun _ => rfl
      cases Y with
      | var cs => exact .inr ⟨cs, rfl⟩
      | lst E' es' xs' => exact .inl (hh.mono (fun _ => rfl) (fun _ _ => rfl) hsub (by simp [Ob.ids]))
    · obtain ⟨hne, Y, hY, rfl⟩ := hT o' X ho'
      obtain ⟨m1, m2, m3⟩ := hs.mem.own o' Y hY hh
      refine ⟨m1, fun hb => ?_, m3⟩
      rcases hb with hb | ⟨hkh, hb⟩
      · exact m2 hb
      · exact hne (hs.mem.sep o' k Y _ hY hk hh hkh hb)
    · obtain ⟨hne, Y, hY, rfl⟩ := hT o1 X1 h1
      obtain ⟨hne2, Y2, hY2, rfl⟩ := hT o2 X2 h2
      exact hs.mem.sep o1 o2 Y Y2 hY hY2
    · rcases hb with hb | ⟨hh, rfl⟩
      · exact hs.mem.sup b hb
      · exact .inr (hs.mem.own k _ hk hh).2.2

theorem aOps_frz {k E es : Nat} {xs : List (List Da)} {l : List Oper} (hk : s.gob k = some (.lst E es xs)) (hpos : 0 < es) (h : aOps Γ P ops l K (s.frz k xs)) : aOps Γ P ops l K s := by
  intro a w S β R hs hR
  obtain ⟨S', hs'⟩ := hs.frz hk hpos
  exact h a w S' β R hs' hR
theorem awp_frz {k E es : Nat} {xs : List (List Da)} {c : Code} (hk : s.gob k = some (.lst E es xs)) (hpos : 0 < es) (h : awp Γ P c Q (s.frz k xs)) : awp Γ P c Q s := by
  intro a w S β hs
  obtain ⟨S', hs'⟩ := hs.frz hk hpos
  exact h a w S' β hs'
theorem retOk_frz {fn : Func} {r : AV} {nob : List (Nat × Ob)} {k E es : Nat} {xs : List (List Da)} (hk : s.gob k = some (.lst E es xs)) (hpos : 0 < es) (h : RetOk P fn (s.frz k xs) r nob) : RetOk P fn s r nob := by
  intro w0 S0 n β0 a w S β hs
  obtain ⟨S', hs'⟩ := hs.frz hk hpos
  exact h w0 S0 n β0 a w S' β hs'
theorem retOk_ent {s' : St} {fn : Func} {r : AV} {nob : List (Nat × Ob)} (he : Ent s s') (h : RetOk P fn s' r nob) : RetOk P fn s r nob :=
  fun w0 S0 n β0 a w S β hs => h w0 S0 n β0 a w S β (he.sim hs)

end
end AM
end Go.Proofs.Ytbgpofimflnabaa
