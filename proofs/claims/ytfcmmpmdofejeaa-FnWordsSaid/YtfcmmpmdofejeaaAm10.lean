/- Rules for guards whose outcome is known by a hypothesis, and for counting loops; no conditions. -/
import Derived.Test.YtfcmmpmdofejeaaTy
set_option linter.unusedSimpArgs false
set_option linter.unusedVariables false
namespace Go.Proofs.Ytfcmmpmdofejeaa
namespace AM
open Go

section
variable {P : Program} {o : Oper} {av : Operand → Option AV} {y : AV}
theorem opP_pickA {c x z : Operand} {b : Bool} (ho : o.op = .pick c x z) (hc : av c = some (B b)) (e : b = true) (hx : av x = some y) : OpP P o av [] y [] := by
  refine opP_val fun a w S β _ hr _ => ?_
  subst e
  have e := (hr c _ hc (by simp [ho, Op.operands])).bool_inv
  exact ⟨a.eval x, by simp [execOp, ho, e, asBool], hr x _ hx (by simp [ho, Op.operands])⟩
theorem opP_pickF {c x z : Operand} {b : Bool} (ho : o.op = .pick c x z) (hc : av c = some (B b)) (e : b = false) (hz : av z = some y) : OpP P o av [] y [] := by
  refine opP_val fun a w S β _ hr _ => ?_
  subst e
  have e := (hr c _ hc (by simp [ho, Op.operands])).bool_inv
  exact ⟨a.eval z, by simp [execOp, ho, e, asBool], hr z _ hz (by simp [ho, Op.operands])⟩
end

section
variable {Γ : Cx} {P : Program} {ops : Array Oper} {rest : List Oper} {o : Oper} {K : St → Prop} {s s0 : St} {y : AV} {nob : List (Nat × Ob)} {es : List Eff} {s' : St}
theorem st_runA {j d : Nat} {want b : Bool} (h : OpS P o s s y nob) (hg : o.guard = some (j, want)) (hj : (ops[j]?).bind (·.dst) = some d) (hb : s.get d = some (B b)) (e : b = want) (hd : o.dst.all (· < Γ.n) = true) (hf : s.fresh nob = true) (hr : aOps Γ P ops rest K (s.upd o.dst y nob)) : aOps Γ P ops (o :: rest) K s := by
  subst e; exact st_run h hg hj hb hd hf hr
theorem st_skipA {j d : Nat} {want b : Bool} (hg : o.guard = some (j, want)) (hj : (ops[j]?).bind (·.dst) = some d) (hb : s.get d = some (B b)) (e : b = !want) (hd : o.dst.all (· < Γ.n) = true) (hr : aOps Γ P ops rest K (s.drop o.dst)) : aOps Γ P ops (o :: rest) K s := by
  subst e; exact st_skip hg hj hb hd hr
theorem st_gsplit {j d : Nat} {want b : Bool} (hg : o.guard = some (j, want)) (hj : (ops[j]?).bind (·.dst) = some d) (hb : s.get d = some (B b)) (ht : b = true → aOps Γ P ops (o :: rest) K (s.upd (some d) (B true) [])) (hf : b = false → aOps Γ P ops (o :: rest) K (s.upd (some d) (B false) [])) : aOps Γ P ops (o :: rest) K s :=
  st_split d hb ht hf
theorem pr_runA {j d : Nat} {want b : Bool} (h : OpS P o s s0 y nob) (hg : o.guard = some (j, want)) (hj : (ops[j]?).bind (·.dst) = some d) (hb : s.get d = some (B b)) (e : b = want) (hd : o.dst.all (· < Γ.n) = true) (hf : s.fresh nob = true) (hf0 : s0.fresh nob = true) (hid : idsOk s0 y nob = true) (hr : PRun Γ P ops s0 rest (s.upd o.dst y nob) es s') : PRun Γ P ops s0 (o :: rest) s (.run y nob :: es) s' := by
  subst e; exact pr_run h hg hj hb hd hf hf0 hid hr
end

section
variable {Γ : Cx} {P : Program} {N : St → Prop} {E : Exit → St → Prop} {s : St}
theorem W_condA {c : Operand} {x y : Code} {b : Bool} (hc : s.ev c = some (B b)) (e : b = true) (ht : W Γ P x N E s) : W Γ P (.cond c x y) N E s := by subst e; exact W_condT hc ht
theorem W_condB {c : Operand} {x y : Code} {b : Bool} (hc : s.ev c = some (B b)) (e : b = false) (ht : W Γ P y N E s) : W Γ P (.cond c x y) N E s := by subst e; exact W_condF hc ht
/-- A drawn region's run in the order of the text, and what stands behind it. -/
def PR (Γ : Cx) (P : Program) (ops : Array Oper) (s0 : St) (l : List Oper) (s : St) (K : St → Prop) : Prop := ∃ es s', PRun Γ P ops s0 l s es s' ∧ K s'
theorem W_drawK {l : List Oper} {id : Nat} (hm : P.follows .mixedOrders = true) (hok : drawOk l.toArray = true) (h : PR Γ P l.toArray s l s N) : W Γ P (.region id l.toArray true) N E s := by
  obtain ⟨es, s', h1, h2⟩ := h
  exact W_draw hm hok h1 h2
section
variable {ops : Array Oper} {rest : List Oper} {o : Oper} {K : St → Prop} {s0 : St} {y : AV} {nob : List (Nat × Ob)}
theorem pq_nil (h : K s) : PR Γ P ops s0 [] s K := ⟨_, _, .nil, h⟩
theorem pq_op (h : OpS P o s s0 y nob) (hg : o.guard = none) (hd : o.dst.all (· < Γ.n) = true) (hf : s.fresh nob = true) (hf0 : s0.fresh nob = true) (hid : idsOk s0 y nob = true) (hr : PR Γ P ops s0 rest (s.upd o.dst y nob) K) : PR Γ P ops s0 (o :: rest) s K := by
  obtain ⟨es, s', h1, h2⟩ := hr
  exact ⟨_, _, pr_op h hg hd hf hf0 hid h1, h2⟩
theorem pq_run {j d : Nat} {want b : Bool} (h : OpS P o s s0 y nob) (hg : o.guard = some (j, want)) (hj : (ops[j]?).bind (·.dst) = some d) (hb : s.get d = some (B b)) (e : b = want) (hd : o.dst.all (· < Γ.n) = true) (hf : s.fresh nob = true) (hf0 : s0.fresh nob = true) (hid : idsOk s0 y nob = true) (hr : PR Γ P ops s0 rest (s.upd o.dst y nob) K) : PR Γ P ops s0 (o :: rest) s K := by
  obtain ⟨es, s', h1, h2⟩ := hr
  exact ⟨_, _, pr_runA h hg hj hb e hd hf hf0 hid h1, h2⟩
theorem pq_skip {j d : Nat} {want : Bool} (hg : o.guard = some (j, want)) (hj : (ops[j]?).bind (·.dst) = some d) (hb : s.get d = some (B (!want)) ∨ s.get d = some (.tup [])) (hd : o.dst.all (· < Γ.n) = true) (hr : PR Γ P ops s0 rest (s.upd o.dst (.tup []) []) K) : PR Γ P ops s0 (o :: rest) s K := by
  obtain ⟨es, s', h1, h2⟩ := hr
  exact ⟨_, s', .skip hg hj hb hd h1, h2⟩
theorem pq_lit {l : List Oper} {d : Nat} {b : Bool} (hb : s.get d = some (B b)) (ht : b = true → PR Γ P ops s0 l (s.upd (some d) (B true) []) K) (hf : b = false → PR Γ P ops s0 l (s.upd (some d) (B false) []) K) : PR Γ P ops s0 l s K := by
  cases b with
  | true => obtain ⟨es, s', h1, h2⟩ := ht rfl; exact ⟨es, s', .same hb h1, h2⟩
  | false => obtain ⟨es, s', h1, h2⟩ := hf rfl; exact ⟨es, s', .same hb h1, h2⟩
end

/-- A loop whose state is a function of a count, with what is known at each count. -/
theorem W_countI {c : Code} (st : Nat → St) (J : Nat → Prop) (n k0 : Nat) (h0 : Ent s (st k0)) (hJ : J k0) (hk : k0 ≤ n)
    (round : ∀ k, k0 ≤ k → k ≤ n → J k → W Γ P c (fun s' => ∃ k', Ent s' (st k') ∧ J k' ∧ k < k' ∧ k' ≤ n) E (st k)) : W Γ P (.loop c) N E s := by
  refine W_loop (fun m s => ∃ k, k0 ≤ k ∧ k ≤ n ∧ J k ∧ m = n - k ∧ s = st k) (n - k0) ⟨_, h0, k0, Nat.le_refl _, hk, hJ, rfl, rfl⟩ ?_
  rintro m s ⟨k, h1, h2, h3, rfl, rfl⟩
  refine W_mono (round k h1 h2 h3) ?_ fun _ _ h => h
  rintro s' ⟨k', he, hj, h3, h4⟩
  exact ⟨n - k', _, he, ⟨k', by omega, h4, hj, rfl, rfl⟩, by omega⟩
/-- What stands behind a piece, once for all its ways. -/
theorem W_mid {c : Code} (M : St → Prop) (h : W Γ P c M E s) (hM : ∀ s, M s → N s) : W Γ P c N E s := W_mono h hM fun _ _ h => h
theorem aOps_mid {ops : Array Oper} {l : List Oper} {K : St → Prop} (M : St → Prop) (h : aOps Γ P ops l M s) (hM : ∀ s, M s → K s) : aOps Γ P ops l K s :=
  fun a w S β R hs hR => h a w S β R hs fun a' w' s' S' β' hm hs' => hR a' w' s' S' β' (hM s' hm) hs'
theorem N_ent {M : St → Prop} {s' : St} (he : Ent s s') (h : M s') (hm : ∀ {s s'}, Ent s s' → M s' → M s) : M s := hm he h
end

theorem retOk_tmpE {P : Program} {fn : Func} {s : St} {r r' : AV} {t : Nat} (hr : fn.results = #[.tmp t]) (ht : s.get t = some r') (e : r' = r) (hi : r'.ids = []) : RetOk P fn s r [] := by
  subst e; exact retOk_tmp hr ht hi

theorem entOk_Z {s : St} {i : Nat} {m n : Int} {tm : List (Nat × AV)} {ob : List (Nat × Ob)} (h : s.get i = some (Z m)) (e : m = n) (k : entOk s tm ob) : entOk s ((i, Z n) :: tm) ob := by subst e; exact entOk_tm h k
theorem entOk_B {s : St} {i : Nat} {m n : Bool} {tm : List (Nat × AV)} {ob : List (Nat × Ob)} (h : s.get i = some (B m)) (e : m = n) (k : entOk s tm ob) : entOk s ((i, B n) :: tm) ob := by subst e; exact entOk_tm h k
theorem entOk_lst {s : St} {i E es : Nat} {xs ys : List (List Da)} {tm : List (Nat × AV)} {ob : List (Nat × Ob)} (h : s.gob i = some (.lst E es xs)) (e : xs = ys) (k : entOk s tm ob) : entOk s tm ((i, .lst E es ys) :: ob) := by subst e; exact entOk_ob h k
theorem entOk_var {s : St} {i : Nat} {xs ys : List At} {tm : List (Nat × AV)} {ob : List (Nat × Ob)} (h : s.gob i = some (.var xs)) (e : xs = ys) (k : entOk s tm ob) : entOk s tm ((i, .var ys) :: ob) := by subst e; exact entOk_ob h k

/-- Data that some memory holds: its lengths are bounded. -/
def FitD (ds : List Da) : Prop := ∃ w vs fp, RepF w ds vs fp
def Fits (xs : List AV) : Prop := ∃ w S β vs, RepVs w S β xs vs
theorem acall_fit {P : Program} {f : FuncId} {xs : List AV} {r : AV} {nob : List (Nat × Ob)} (h : Fits xs → ACall P f xs r nob) : ACall P f xs r nob := by
  intro w S β vs hlt hr
  exact h ⟨w, S, β, vs, hr⟩ w S β vs hlt hr
theorem Fits.tail {x : AV} {xs : List AV} (h : Fits (x :: xs)) : Fits xs := by
  obtain ⟨w, S, β, vs, h⟩ := h
  cases h <;> exact ⟨_, _, _, _, by assumption⟩
theorem Fits.dat {ds : List Da} {xs : List AV} (h : Fits (.dat ds :: xs)) : FitD ds := by
  obtain ⟨w, S, β, vs, h⟩ := h
  cases h with | dat h _ => obtain ⟨fp, h, _⟩ := h; exact ⟨_, _, _, h⟩
theorem Fits.one {d : Da} {xs : List AV} (h : Fits (.one (.d d) :: xs)) : FitD [d] := by
  obtain ⟨w, S, β, vs, h⟩ := h
  cases h with | one h _ => cases h with | d h => obtain ⟨fp, h, _⟩ := h; exact ⟨_, _, _, h⟩
theorem FitD.tail {d : Da} {ds : List Da} (h : FitD (d :: ds)) : FitD ds := by
  obtain ⟨w, vs, fp, h⟩ := h
  cases h <;> exact ⟨_, _, _, by assumption⟩
theorem FitD.app {ds es : List Da} (h : FitD (ds ++ es)) : FitD ds ∧ FitD es := by
  obtain ⟨w, vs, fp, h⟩ := h
  obtain ⟨_, _, _, _, _, _, h1, h2⟩ := h.split
  exact ⟨⟨_, _, _, h1⟩, ⟨_, _, _, h2⟩⟩
theorem FitD.len {ys : List (List Da)} {ds : List Da} (h : FitD (.sl ys :: ds)) : ys.length ≤ 281474976710656 := by
  obtain ⟨w, vs, fp, h⟩ := h
  cases h <;> omega
theorem FitD.flat {ys : List (List Da)} {ds : List Da} (h : FitD (.sl ys :: ds)) : FitD ys.flatten := by
  obtain ⟨w, vs, fp, h⟩ := h
  cases h with
  | sl0 e _ _ _ _ => rw [e]; exact ⟨w, _, _, .nil⟩
  | sl1 h _ _ _ _ _ _ _ => exact ⟨w, _, _, h⟩
theorem FitD.mem {ys : List (List Da)} (h : FitD ys.flatten) : ∀ y ∈ ys, FitD y := by
  induction ys with
  | nil => simp
  | cons z ys ih =>
    rw [List.flatten_cons] at h
    intro y hy
    rcases List.mem_cons.1 hy with rfl | hy
    · exact h.app.1
    · exact ih h.app.2 y hy
theorem FitD.str {q : ByteArray} {ds : List Da} (h : FitD (.str q :: ds)) : q.size ≤ 281474976710656 := by
  obtain ⟨w, vs, fp, h⟩ := h
  cases h; assumption

section
variable {Γ : Cx} {P : Program} {s : St} {k E es : Nat} {xs : List (List Da)}
theorem W_len {tr : Bool} {c : Code} {N : St → Prop} {E' : Exit → St → Prop} (hk : s.gob k = some (mkL tr E es xs)) (h : xs.length ≤ 281474976710656 → (∀ x ∈ xs, x.length = es) → W Γ P c N E' s) : W Γ P c N E' s := by
  intro a w S β hs
  obtain ⟨h1, h2⟩ := mkL_len (hs.mem.ob k _ hk)
  exact h h1 h2 a w S β hs
theorem aOps_len {tr : Bool} {ops : Array Oper} {l : List Oper} {K : St → Prop} (hk : s.gob k = some (mkL tr E es xs)) (h : xs.length ≤ 281474976710656 → (∀ x ∈ xs, x.length = es) → aOps Γ P ops l K s) : aOps Γ P ops l K s := by
  intro a w S β R hs hR
  obtain ⟨h1, h2⟩ := mkL_len (hs.mem.ob k _ hk)
  exact h h1 h2 a w S β R hs hR
theorem W_lenD {c : Code} {N : St → Prop} {E' : Exit → St → Prop} {d : Nat} {ds : List Da} (hd : s.get d = some (.dat ds)) (h : FitD ds → W Γ P c N E' s) : W Γ P c N E' s := by
  intro a w S β hs
  obtain ⟨v, _, hv⟩ := hs.tm d _ hd
  obtain ⟨cs, _, fp, h1, _⟩ := RepV.dat_inv hv
  exact h ⟨_, _, _, h1⟩ a w S β hs
theorem W_lenA {c : Code} {N : St → Prop} {E' : Exit → St → Prop} {d : Nat} {x : Da} (hd : s.get d = some (.one (.d x))) (h : FitD [x] → W Γ P c N E' s) : W Γ P c N E' s := by
  intro a w S β hs
  obtain ⟨v, _, hv⟩ := hs.tm d _ hd
  cases hv.one_inv with | d h1 => obtain ⟨fp, h1, _⟩ := h1; exact h ⟨_, _, _, h1⟩ a w S β hs
end

theorem ofNat_lt {m n : Nat} (h : decide ((m : Int) < (n : Int)) = true) : m < n := by simpa using h
theorem ofNat_ge {m n : Nat} (h : decide ((m : Int) < (n : Int)) = false) : n ≤ m := by simpa using h

theorem toDs_map (l : List Da) : toDs (l.map .d) = some l := by induction l with | nil => rfl | cons a l ih => simp [toDs, At.toD, ih]
theorem fill_get {α : Type} {l : List α} {k n : Nat} {z : α} (hn : n = l.length) (hk : k < n) : (l.take k ++ List.replicate (n - k) z)[k]? = some z := by
  rw [List.getElem?_append_right (by simp; omega)]
  simp [List.getElem?_replicate]; omega
theorem fill_set {α : Type} {l : List α} {k n : Nat} {y z : α} (hn : n = l.length) (hk : l[k]? = some y) : (l.take k ++ List.replicate (n - k) z).set k y = l.take (k + 1) ++ List.replicate (n - (k + 1)) z := by
  obtain ⟨h, he⟩ := List.getElem?_eq_some_iff.1 hk
  subst hn
  apply List.ext_getElem?
  intro i
  have hl : (l.take k).length = k := by simp; omega
  rw [List.getElem?_set]
  by_cases hi : k = i
  · subst hi
    rw [if_pos rfl, if_pos (by simp; omega), List.getElem?_append_left (by simp; omega), List.getElem?_take, if_pos (by omega), hk]
  · rw [if_neg hi]
    by_cases hlt : i < k
    · rw [List.getElem?_append_left (by omega), List.getElem?_append_left (by simp; omega), List.getElem?_take, List.getElem?_take, if_pos hlt, if_pos (by omega)]
    · rw [List.getElem?_append_right (by omega), List.getElem?_append_right (by simp; omega), List.getElem?_replicate, List.getElem?_replicate]
      simp only [List.length_take]
      by_cases h2 : i < l.length
      · rw [if_pos (by omega), if_pos (by omega)]
      · rw [if_neg (by omega), if_neg (by omega)]
theorem fill_all {α : Type} {l : List α} {k n : Nat} {z : α} (hn : n = l.length) (hk : n ≤ k) : l.take k ++ List.replicate (n - k) z = l := by
  rw [show n - k = 0 by omega, List.take_of_length_le (by omega)]; simp

theorem fill_setE {l : List (List Da)} {k n es : Nat} {y z : List Da} (hn : n = l.length) (hk : l[k]? = some y) (hy : y.length = es) (hz : z.length = es) : (l.take k ++ List.replicate (n - k) z).set k (z.take 0 ++ y ++ z.drop (0 + y.length)) = l.take (k + 1) ++ List.replicate (n - (k + 1)) z := by
  rw [List.take_zero, List.drop_eq_nil_of_le (by omega)]
  simpa using fill_set hn hk

end AM
end Go.Proofs.Ytfcmmpmdofejeaa
