/- The rules by which a function's text is walked over abstract states, one for each form; no conditions. -/
import Derived.Test.YtfcmmpmdofejeaaAm7
set_option linter.unusedSimpArgs false
set_option linter.unusedVariables false
namespace Go.Proofs.Ytfcmmpmdofejeaa
namespace AM
open Go

def usOk (s : St) : List (Nat × Ob) → Prop
  | [] => True
  | (k, X) :: r => s.gob k = some X ∧ usOk s r

theorem usOk_spec {s : St} : ∀ {us : List (Nat × Ob)}, usOk s us → ∀ p ∈ us, s.gob p.1 = some p.2
  | [], _ => by simp
  | (k, X) :: r, h => by
    intro p hp
    rcases List.mem_cons.1 hp with rfl | hp
    · exact h.1
    · exact usOk_spec h.2 p hp

theorem OpP.tr {P : Program} {o : Oper} {av : Operand → Option AV} {y : AV} {nob : List (Nat × Ob)} {tr : Bool} {k E es : Nat} {xs : List (List Da)} (h : OpP P o av [(k, .lst E es xs)] y nob) : OpP P o av [(k, mkL tr E es xs)] y nob := by
  cases tr with
  | false => exact h
  | true =>
    intro a w S β hlt hr hu
    exact h a w S β hlt hr fun p hp => by
      simp only [List.mem_singleton] at hp
      subst hp
      exact ObRep.lst_of_tr (hu (k, .tr E es xs) (by simp [mkL]))

/-- One operation, at a state; the objects that it reads stand in s0. -/
def OpS (P : Program) (o : Oper) (s s0 : St) (y : AV) (nob : List (Nat × Ob)) : Prop := ∃ us, OpP P o s.ev us y nob ∧ usOk s0 us

section
variable {P : Program} {o : Oper} {s s0 : St} {y : AV} {nob : List (Nat × Ob)} {t : TypeId} {x z : Operand}
theorem opS_of (h : OpP P o s.ev [] y nob) : OpS P o s s0 y nob := ⟨[], h, trivial⟩
theorem opS_loadO1 {k off : Nat} {cs : List At} {c : At} {d : TypeDesc} (ho : o.op = .load t x) (hx : s.ev x = some (.one (.op k off))) (hk : s0.gob k = some (.var cs)) (ht : P.underlying t = some d) (hd : aggD d = false) (hc : cs[off]? = some c) : OpS P o s s0 (.one c) [] :=
  ⟨_, opP_loadO1 ho ht hd hx hc, hk, trivial⟩
theorem opS_loadOS {k off : Nat} {cs : List At} {d : TypeDesc} {j : TypeInfo} (ho : o.op = .load t x) (hx : s.ev x = some (.one (.op k off))) (hk : s0.gob k = some (.var cs)) (ht : P.underlying t = some d) (hd : aggD d = true) (hj : P.info? t = some j) (hc : off + j.size ≤ cs.length) : OpS P o s s0 (mkAgg ((cs.drop off).take j.size)) [] :=
  ⟨_, opP_loadOS ho ht hd hj hx hc, hk, trivial⟩
theorem opS_lenO {tr : Bool} {k : Nat} {E es : Nat} {xs : List (List Da)} {e : TypeId} (ho : o.op = .call { callee := .builtin .len, args := #[x], argTypes := #[t] }) (hx : s.ev x = some (.one (.ol k))) (hk : s0.gob k = some (mkL tr E es xs)) (ht : P.underlying t = some (.slice e)) : OpS P o s s0 (Z xs.length) [] :=
  ⟨_, (opP_lenO ho ht hx).tr, hk, trivial⟩
theorem opS_indexO {tr : Bool} {k' : Nat} {E es : Nat} {xs : List (List Da)} {k : IntKind} {n : Nat} {e : TypeId} {j : TypeInfo} (ho : o.op = .indexAddr t x z) (hx : s.ev x = some (.one (.ol k'))) (hk : s0.gob k' = some (mkL tr E es xs)) (ht : P.underlying t = some (.slice e)) (hj : P.info? e = some j) (hes : j.size = es) (hpos : 0 < es) (hz : s.ev z = some (I k (n : Int)))
    (hn : n < xs.length) : OpS P o s s0 (.one (.op k' (n * es))) [] := ⟨_, (opP_indexO ho ht hj hes hpos hx hz hn).tr, hk, trivial⟩
end

section
variable {Γ : Cx} {P : Program} {ops : Array Oper} {rest : List Oper} {o : Oper} {K : St → Prop} {s s0 : St} {y : AV} {nob : List (Nat × Ob)} {es : List Eff} {s' : St}
theorem st_op (h : OpS P o s s y nob) (hg : o.guard = none) (hd : o.dst.all (· < Γ.n) = true) (hf : s.fresh nob = true) (hr : aOps Γ P ops rest K (s.upd o.dst y nob)) : aOps Γ P ops (o :: rest) K s := by
  obtain ⟨us, h1, h2⟩ := h
  exact aOps_op h1 hg hd (usOk_spec h2) hf hr
theorem st_run {j d : Nat} {want : Bool} (h : OpS P o s s y nob) (hg : o.guard = some (j, want)) (hj : (ops[j]?).bind (·.dst) = some d) (hb : s.get d = some (B want)) (hd : o.dst.all (· < Γ.n) = true) (hf : s.fresh nob = true) (hr : aOps Γ P ops rest K (s.upd o.dst y nob)) : aOps Γ P ops (o :: rest) K s := by
  obtain ⟨us, h1, h2⟩ := h
  exact aOps_opg hg hj hb hd (fun _ => ⟨h1, usOk_spec h2, hf, hr⟩) (fun e => by cases want <;> cases e)
theorem st_skip {j d : Nat} {want : Bool} (hg : o.guard = some (j, want)) (hj : (ops[j]?).bind (·.dst) = some d) (hb : s.get d = some (B (!want))) (hd : o.dst.all (· < Γ.n) = true) (hr : aOps Γ P ops rest K (s.drop o.dst)) : aOps Γ P ops (o :: rest) K s :=
  aOps_opg (us := []) (nob := []) (y := .dat []) hg hj hb hd (fun e => by cases want <;> cases e) (fun _ => hr)
theorem Sim.at {d : Nat} {b : Bool} {a : Act} {w : World} {S : Nat → Prop} {β : Nat → OLoc} (hb : s.get d = some (B b)) (hs : Sim Γ s a w S β) : Sim Γ (s.upd (some d) (B b) []) a w S β := by
  refine hs.weaken (fun i x hi => ?_) (fun o X ho => ?_)
  · rw [get_upd] at hi
    split at hi
    · rename_i e; simp at e hi; subst e; subst hi; exact hb
    · exact hi
  · rw [gob_upd] at ho; simpa [look] using ho
/-- Both outcomes of a guard. -/
theorem st_split {l : List Oper} (d : Nat) {b : Bool} (hb : s.get d = some (B b)) (ht : b = true → aOps Γ P ops l K (s.upd (some d) (B true) [])) (hf : b = false → aOps Γ P ops l K (s.upd (some d) (B false) [])) : aOps Γ P ops l K s := by
  intro a w S β R hs hR
  have h1 := Sim.at hb hs
  cases b with
  | true => exact ht rfl a w S β R h1 hR
  | false => exact hf rfl a w S β R h1 hR

theorem pr_op (h : OpS P o s s0 y nob) (hg : o.guard = none) (hd : o.dst.all (· < Γ.n) = true) (hf : s.fresh nob = true) (hf0 : s0.fresh nob = true) (hid : idsOk s0 y nob = true) (hr : PRun Γ P ops s0 rest (s.upd o.dst y nob) es s') : PRun Γ P ops s0 (o :: rest) s (.run y nob :: es) s' := by
  obtain ⟨us, h1, h2⟩ := h
  exact .run (.inl hg) h1 (usOk_spec h2) hf hf0 hd hid hr
theorem pr_run {j d : Nat} {want : Bool} (h : OpS P o s s0 y nob) (hg : o.guard = some (j, want)) (hj : (ops[j]?).bind (·.dst) = some d) (hb : s.get d = some (B want)) (hd : o.dst.all (· < Γ.n) = true) (hf : s.fresh nob = true) (hf0 : s0.fresh nob = true) (hid : idsOk s0 y nob = true) (hr : PRun Γ P ops s0 rest (s.upd o.dst y nob) es s') : PRun Γ P ops s0 (o :: rest) s (.run y nob :: es) s' := by
  obtain ⟨us, h1, h2⟩ := h
  exact .run (.inr ⟨j, want, d, hg, hj, hb⟩) h1 (usOk_spec h2) hf hf0 hd hid hr
theorem pr_skip {j d : Nat} {want : Bool} (hg : o.guard = some (j, want)) (hj : (ops[j]?).bind (·.dst) = some d) (hb : s.get d = some (B (!want)) ∨ s.get d = some (.tup [])) (hd : o.dst.all (· < Γ.n) = true) (hr : PRun Γ P ops s0 rest (s.upd o.dst (.tup []) []) es s') : PRun Γ P ops s0 (o :: rest) s (.skip :: es) s' := .skip hg hj hb hd hr
end

/-- The walk of code: N stands behind it, E takes what leaves it. -/
def W (Γ : Cx) (P : Program) (c : Code) (N : St → Prop) (E : Exit → St → Prop) (s : St) : Prop := awp Γ P c (thenQ N E) s

def blockE (id : Nat) (N : St → Prop) (E : Exit → St → Prop) : Exit → St → Prop
  | .exit id', s => if id' = id then N s else E (.exit id') s
  | e, s => E e s

section
variable {Γ : Cx} {P : Program} {N : St → Prop} {E : Exit → St → Prop} {s : St}
theorem W_seq {x y : Code} (h : W Γ P x (W Γ P y N E) E s) : W Γ P (.seq x y) N E s := by
  refine awp_seq (awp_mono h ?_)
  intro e s' hq
  cases e <;> exact hq
theorem W_skip (h : N s) : W Γ P .skip N E s := awp_skip h
theorem W_exit {id : Nat} (h : E (.exit id) s) : W Γ P (.exit id) N E s := awp_exit h
theorem W_ret (h : E .ret s) : W Γ P .ret N E s := awp_ret h
theorem W_block {id : Nat} {c : Code} (h : W Γ P c N (blockE id N E) s) : W Γ P (.block id c) N E s := by
  refine awp_block (awp_mono h ?_)
  intro e s' hq
  cases e with
  | exit id' =>
    simp only [thenQ, blockE, blockQ] at hq ⊢
    split
    · rename_i hh; rw [if_pos hh] at hq; exact hq
    · rename_i hh; rw [if_neg hh] at hq; exact hq
  | _ => exact hq
theorem W_cond {c : Operand} {x y : Code} {b : Bool} (hc : s.ev c = some (B b)) (ht : b = true → W Γ P x N E s) (hf : b = false → W Γ P y N E s) : W Γ P (.cond c x y) N E s := awp_cond hc ht hf
theorem W_condT {c : Operand} {x y : Code} (hc : s.ev c = some (B true)) (ht : W Γ P x N E s) : W Γ P (.cond c x y) N E s := awp_cond hc (fun _ => ht) (by simp)
theorem W_condF {c : Operand} {x y : Code} (hc : s.ev c = some (B false)) (ht : W Γ P y N E s) : W Γ P (.cond c x y) N E s := awp_cond hc (by simp) (fun _ => ht)
theorem W_region {id : Nat} {l : List Oper} (h : aOps Γ P l.toArray l N s) : W Γ P (.region id l.toArray false) N E s := awp_region h
theorem W_draw {l : List Oper} {s' : St} {es : List Eff} {id : Nat} (hm : P.follows .mixedOrders = true) (hok : drawOk l.toArray = true) (hrun : PRun Γ P l.toArray s l s es s') (hN : N s') : W Γ P (.region id l.toArray true) N E s := awp_draw hm hok hrun hN
theorem W_keep {c : Code} (ts os : List Nat) (h : W Γ P c N E (s.keep ts os)) : W Γ P c N E s := awp_keep ts os h
theorem W_ent {c : Code} {s' : St} (he : Ent s s') (h : W Γ P c N E s') : W Γ P c N E s := awp_ent he h
theorem W_mono {c : Code} {N' : St → Prop} {E' : Exit → St → Prop} (h : W Γ P c N E s) (hn : ∀ s, N s → N' s) (he : ∀ e s, E e s → E' e s) : W Γ P c N' E' s := by
  refine awp_mono h ?_
  intro e s' hq
  cases e <;> first | exact hn _ hq | exact he _ _ hq
theorem W_frz {k Ee es : Nat} {xs : List (List Da)} {c : Code} (hk : s.gob k = some (mkL false Ee es xs)) (hpos : 0 < es) (h : W Γ P c N E (s.frz k xs)) : W Γ P c N E s := awp_frz hk hpos h
/-- Both outcomes of what a slot holds. -/
theorem W_split {c : Code} (d : Nat) {b : Bool} (hb : s.get d = some (B b)) (ht : b = true → W Γ P c N E (s.upd (some d) (B true) [])) (hf : b = false → W Γ P c N E (s.upd (some d) (B false) [])) : W Γ P c N E s := by
  intro a w S β hs
  have h1 := Sim.at hb hs
  cases b with
  | true => exact ht rfl a w S β h1
  | false => exact hf rfl a w S β h1
/-- A loop, by what holds at each round's head. -/
theorem W_loop {c : Code} (I : Nat → St → Prop) (m : Nat) (h0 : ∃ s', Ent s s' ∧ I m s')
    (round : ∀ m s, I m s → W Γ P c (fun s' => ∃ m' s'', Ent s' s'' ∧ I m' s'' ∧ m' < m) E s) : W Γ P (.loop c) N E s := by
  refine awp_loop I (m := m) h0 fun m s hI => awp_mono (round m s hI) ?_
  intro e s' hq
  cases e <;> exact hq
/-- A loop whose state is a function of a count that goes up to n. -/
theorem W_count {c : Code} (st : Nat → St) (n k0 : Nat) (h0 : Ent s (st k0)) (hk : k0 ≤ n)
    (round : ∀ k, k0 ≤ k → k ≤ n → W Γ P c (fun s' => ∃ k', Ent s' (st k') ∧ k < k' ∧ k' ≤ n) E (st k)) : W Γ P (.loop c) N E s := by
  refine W_loop (fun m s => ∃ k, k0 ≤ k ∧ k ≤ n ∧ m = n - k ∧ s = st k) (n - k0) ⟨_, h0, k0, Nat.le_refl _, hk, rfl, rfl⟩ ?_
  rintro m s ⟨k, h1, h2, rfl, rfl⟩
  refine W_mono (round k h1 h2) ?_ fun _ _ h => h
  rintro s' ⟨k', he, h3, h4⟩
  exact ⟨n - k', _, he, ⟨k', by omega, h4, rfl, rfl⟩, by omega⟩
end

theorem blockE_hit {id : Nat} {N : St → Prop} {E : Exit → St → Prop} {s : St} (h : N s) : blockE id N E (.exit id) s := by simp only [blockE, if_true]; exact h
theorem blockE_miss {id id' : Nat} {N : St → Prop} {E : Exit → St → Prop} {s : St} (hne : id' ≠ id) (h : E (.exit id') s) : blockE id N E (.exit id') s := by simp only [blockE, if_neg hne]; exact h
theorem blockE_ret {id : Nat} {N : St → Prop} {E : Exit → St → Prop} {s : St} (h : E .ret s) : blockE id N E .ret s := h

/-- What a function's results must be. -/
def retE (R : St → Prop) : Exit → St → Prop
  | .ret, s => R s
  | _, _ => False
theorem retE_ret {R : St → Prop} {s : St} (h : R s) : retE R .ret s := h

theorem acall_W {P : Program} {f : FuncId} {fn : Func} {c : Code} {xs : List AV} {r : AV} {nob : List (Nat × Ob)} (hf : P.funcs[f]? = some fn) (hb : fn.body = some c) (n : Nat) (hn : fn.ntmps = n) (hl : xs.length ≤ n)
    (h : ∀ w0 S0, W ⟨n, w0, S0, fun _ => False, fun _ _ => False, fun _ => False⟩ P c (fun s => RetOk P fn s r nob) (retE fun s => RetOk P fn s r nob) ⟨St.enter 0 xs, []⟩) : ACall P f xs r nob := by
  subst hn
  refine acall_of hf hb hl fun w0 S0 => awp_mono (h w0 S0) ?_
  intro e s hq
  cases e <;> first | exact hq | exact hq.elim

theorem Ent.refl (s : St) : Ent s s := ⟨fun _ _ h => h, fun _ _ h => h⟩
/-- A state given by its slots and objects is known of another one. -/
def entOk (s : St) (tm : List (Nat × AV)) (ob : List (Nat × Ob)) : Prop := (∀ p ∈ tm, s.get p.1 = some p.2) ∧ ∀ p ∈ ob, s.gob p.1 = some p.2
theorem Ent.of {s : St} {tm : List (Nat × AV)} {ob : List (Nat × Ob)} (h : entOk s tm ob) : Ent s ⟨tm, ob⟩ :=
  ⟨fun i x hi => h.1 (i, x) (look_mem hi), fun o X ho => h.2 (o, X) (look_mem ho)⟩
theorem entOk_nil {s : St} : entOk s [] [] := ⟨by simp, by simp⟩
theorem entOk_tm {s : St} {i : Nat} {x : AV} {tm : List (Nat × AV)} {ob : List (Nat × Ob)} (h : s.get i = some x) (k : entOk s tm ob) : entOk s ((i, x) :: tm) ob :=
  ⟨fun p hp => by rcases List.mem_cons.1 hp with rfl | hp; exact h; exact k.1 p hp, k.2⟩
theorem entOk_ob {s : St} {i : Nat} {x : Ob} {tm : List (Nat × AV)} {ob : List (Nat × Ob)} (h : s.gob i = some x) (k : entOk s tm ob) : entOk s tm ((i, x) :: ob) :=
  ⟨k.1, fun p hp => by rcases List.mem_cons.1 hp with rfl | hp; exact h; exact k.2 p hp⟩

end AM
end Go.Proofs.Ytfcmmpmdofejeaa
