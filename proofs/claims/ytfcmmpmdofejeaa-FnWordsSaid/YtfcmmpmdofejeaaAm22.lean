/- Regions of drawn order whose operations may write: apart operations change places; no conditions. -/
import Derived.Test.YtfcmmpmdofejeaaAm21
set_option linter.unusedSimpArgs false
set_option linter.unusedVariables false
namespace Go.Proofs.Ytfcmmpmdofejeaa
namespace AM
open Go

mutual
/-- What is killed is known no more; structs stay structs. -/
def AV.kill (ks : List Nat) : AV → AV
  | .one x => .one (killL ks x)
  | .dat xs => .dat xs
  | .agg xs => .agg (xs.map (killL ks))
  | .tup ys => .tup (AV.killT ks ys)
def AV.killT (ks : List Nat) : List AV → List AV
  | [] => []
  | y :: r => y.kill ks :: AV.killT ks r
end
def Ob.kill (ks : List Nat) : Ob → Ob
  | .var cs => .var (cs.map (killL ks))
  | X => X

theorem killL_killL (a b : List Nat) (x : At) : killL b (killL a x) = killL (a ++ b) x := by
  unfold killL
  by_cases h1 : x.ids.any a.contains = true
  · rw [if_pos h1]
    have h2 : x.ids.any (a ++ b).contains = true := by
      obtain ⟨o, ho, h⟩ := List.any_eq_true.1 h1
      exact List.any_eq_true.2 ⟨o, ho, by simp at h ⊢; exact .inl h⟩
    rw [if_pos h2]; simp [At.ids]
  · rw [if_neg h1]
    by_cases h2 : x.ids.any b.contains = true
    · have h3 : x.ids.any (a ++ b).contains = true := by
        obtain ⟨o, ho, h⟩ := List.any_eq_true.1 h2
        exact List.any_eq_true.2 ⟨o, ho, by simp at h ⊢; exact .inr h⟩
      rw [if_pos h2, if_pos h3]
    · have h3 : ¬ x.ids.any (a ++ b).contains = true := fun h => by
        obtain ⟨o, ho, h⟩ := List.any_eq_true.1 h
        simp at h
        rcases h with h | h
        · exact h1 (List.any_eq_true.2 ⟨o, ho, by simpa using h⟩)
        · exact h2 (List.any_eq_true.2 ⟨o, ho, by simpa using h⟩)
      rw [if_neg h2, if_neg h3]
theorem killL_congr {a b : List Nat} (h : ∀ o, o ∈ a ↔ o ∈ b) (x : At) : killL a x = killL b x := by
  unfold killL
  have : x.ids.any a.contains = x.ids.any b.contains := by
    congr 1
    funext o
    rw [Bool.eq_iff_iff]
    simpa using h o
  rw [this]
theorem killL_id {ks : List Nat} {x : At} (h : ∀ o ∈ x.ids, o ∉ ks) : killL ks x = x := by
  unfold killL
  rw [if_neg]
  intro hc
  obtain ⟨o, ho, h2⟩ := List.any_eq_true.1 hc
  exact h o ho (by simpa using h2)
theorem AV.mem_idsL {xs : List At} {o : Nat} : o ∈ AV.idsL xs ↔ ∃ x ∈ xs, o ∈ x.ids := by
  induction xs with
  | nil => simp [AV.idsL]
  | cons x r ih => simp [AV.idsL, ih]
mutual
theorem AV.kill_kill (a b : List Nat) : ∀ (x : AV), (x.kill a).kill b = x.kill (a ++ b)
  | .one x => by simp only [AV.kill, killL_killL]
  | .dat xs => rfl
  | .agg xs => by simp only [AV.kill, List.map_map]; congr 1; exact List.map_congr_left fun x _ => killL_killL a b x
  | .tup ys => by simp only [AV.kill, AV.killT_killT a b ys]
theorem AV.killT_killT (a b : List Nat) : ∀ (ys : List AV), AV.killT b (AV.killT a ys) = AV.killT (a ++ b) ys
  | [] => rfl
  | y :: r => by simp only [AV.killT, AV.kill_kill a b y, AV.killT_killT a b r]
end
mutual
theorem AV.kill_congr {a b : List Nat} (h : ∀ o, o ∈ a ↔ o ∈ b) : ∀ (x : AV), x.kill a = x.kill b
  | .one x => by simp only [AV.kill, killL_congr h]
  | .dat xs => rfl
  | .agg xs => by simp only [AV.kill]; congr 1; exact List.map_congr_left fun x _ => killL_congr h x
  | .tup ys => by simp only [AV.kill, AV.killT_congr h ys]
theorem AV.killT_congr {a b : List Nat} (h : ∀ o, o ∈ a ↔ o ∈ b) : ∀ (ys : List AV), AV.killT a ys = AV.killT b ys
  | [] => rfl
  | y :: r => by simp only [AV.killT, AV.kill_congr h y, AV.killT_congr h r]
end
mutual
theorem AV.kill_id {ks : List Nat} : ∀ {x : AV}, (∀ o ∈ x.ids, o ∉ ks) → x.kill ks = x
  | .one x, h => by simp only [AV.kill]; rw [killL_id h]
  | .dat xs, _ => rfl
  | .agg xs, h => by
    simp only [AV.kill]
    congr 1
    have : ∀ x ∈ xs, killL ks x = x := fun x hx => killL_id fun o ho => h o (by simp only [AV.ids]; exact AV.mem_idsL.2 ⟨x, hx, ho⟩)
    calc xs.map (killL ks) = xs.map id := List.map_congr_left this
      _ = xs := by simp
  | .tup ys, h => by simp only [AV.kill]; rw [AV.killT_id h]
theorem AV.killT_id {ks : List Nat} : ∀ {ys : List AV}, (∀ o ∈ AV.idsT ys, o ∉ ks) → AV.killT ks ys = ys
  | [], _ => rfl
  | y :: r, h => by simp only [AV.killT]; rw [AV.kill_id fun o ho => h o (by simp [AV.idsT, ho]), AV.killT_id fun o ho => h o (by simp [AV.idsT, ho])]
end
theorem AV.kill_swap (a b : List Nat) (x : AV) : (x.kill a).kill b = (x.kill b).kill a := by
  rw [AV.kill_kill, AV.kill_kill]
  exact AV.kill_congr (fun o => by simp [or_comm]) x
theorem Ob.kill_kill (a b : List Nat) (X : Ob) : (X.kill a).kill b = X.kill (a ++ b) := by
  cases X <;> simp only [Ob.kill]
  simp only [List.map_map]; congr 1; exact List.map_congr_left fun x _ => killL_killL a b x
theorem Ob.kill_congr {a b : List Nat} (h : ∀ o, o ∈ a ↔ o ∈ b) (X : Ob) : X.kill a = X.kill b := by
  cases X <;> simp only [Ob.kill]
  congr 1; exact List.map_congr_left fun x _ => killL_congr h x
theorem Ob.kill_swap (a b : List Nat) (X : Ob) : (X.kill a).kill b = (X.kill b).kill a := by
  rw [Ob.kill_kill, Ob.kill_kill]
  exact Ob.kill_congr (fun o => by simp [or_comm]) X
theorem Ob.kill_id {ks : List Nat} {X : Ob} (h : ∀ o ∈ X.ids, o ∉ ks) : X.kill ks = X := by
  cases X with
  | var cs =>
    simp only [Ob.kill]
    congr 1
    have : ∀ x ∈ cs, killL ks x = x := fun x hx => killL_id fun o ho => h o (by simp only [Ob.ids]; exact AV.mem_idsL.2 ⟨x, hx, ho⟩)
    calc cs.map (killL ks) = cs.map id := List.map_congr_left this
      _ = cs := by simp
  | _ => rfl
section
variable {w w' : World} {S S' : Nat → Prop} {β β' : Nat → OLoc} {ks : List Nat}
theorem RepAs.killA (hk : ∀ b, S b → w'.heap[b]? = w.heap[b]?) (hs : ∀ b, S b → S' b) (hβ : ∀ o, o ∉ ks → β' o = β o) {xs : List At} {vs : List Value} (h : RepAs w S β xs vs) : RepAs w' S' β' (xs.map (killL ks)) vs :=
  h.map (RepA.killL hk hs hβ)
theorem RepVs.killV (hk : ∀ b, S b → w'.heap[b]? = w.heap[b]?) (hs : ∀ b, S b → S' b) (hβ : ∀ o, o ∉ ks → β' o = β o) {ys : List AV} {vs : List Value} (h : RepVs w S β ys vs) : RepVs w' S' β' (AV.killT ks ys) vs := by
  induction h with
  | nil => exact .nil
  | one h _ ih => exact .one (RepA.killL hk hs hβ _ _ h) ih
  | dat h _ ih => exact .dat (h.mono hk hs) ih
  | agg h _ ih => exact .agg (h.killA hk hs hβ) ih
  | tup _ _ ih1 ih2 => exact .tup ih1 ih2
theorem RepV.killV (hk : ∀ b, S b → w'.heap[b]? = w.heap[b]?) (hs : ∀ b, S b → S' b) (hβ : ∀ o, o ∉ ks → β' o = β o) {y : AV} {v : Value} (h : RepV w S β y v) : RepV w' S' β' (y.kill ks) v := RepVs.killV hk hs hβ h
theorem ObRep.killO {l : OLoc} {X : Ob} (hb : ∀ b, l.Own b → w'.heap[b]? = w.heap[b]?) (hk : ∀ b, S b → w'.heap[b]? = w.heap[b]?) (hs : ∀ b, S b → S' b) (hβ : ∀ o, o ∉ ks → β' o = β o) (h : ObRep w S β l X) : ObRep w' S' β' l (X.kill ks) := by
  cases X with
  | var cs =>
    obtain ⟨h1, c, E, h2, h3⟩ := h
    exact ⟨h1, c, E, (hb _ (.inl ⟨h1, rfl⟩)).trans h2, h3.killA hk hs hβ⟩
  | _ => exact h.mono hb hk hs (by simp [Ob.ids])
end

/-- An operation that may write what it is handed. -/
def OpX (n : Nat) (P : Program) (o : Oper) (av : Operand → Option AV) (us I : List (Nat × Ob)) (y : AV) (O : List (Nat × Ob)) (mv : List Nat) : Prop :=
  ∀ (a : Act) (w : World) (S : Nat → Prop) (β : Nat → OLoc), a.defers = [] → a.tmps.size = n → (∀ b, S b → b < w.heap.size) → (∀ x X, av x = some X → x ∈ o.op.operands → RepV w S β X (a.eval x)) → InOk w S β (us ++ I) →
    ∀ (K : Act → World → Prop) (Q : Exit → Act → World → Prop), (∀ v w' S' β', GrowX w S β I O mv w' S' β' → RepV w' S' β' y v → K (a.put o.dst v) w') → o.wp P a w K Q

/-- What an operation does: it runs, by what it reads and is handed; or it does not. -/
inductive EX where
  | run (av : Operand → Option AV) (us I : List (Nat × Ob)) (y : AV) (O : List (Nat × Ob)) (mv : List Nat)
  | skip
def EX.y : EX → AV
  | .run _ _ _ y _ _ => y
  | .skip => .tup []
def EX.O : EX → List (Nat × Ob)
  | .run _ _ _ _ O _ => O
  | .skip => []
def EX.I : EX → List (Nat × Ob)
  | .run _ _ I _ _ _ => I
  | .skip => []
def EX.us : EX → List (Nat × Ob)
  | .run _ us _ _ _ _ => us
  | .skip => []
def EX.mv : EX → List Nat
  | .run _ _ _ _ _ mv => mv
  | .skip => []
def EX.drop (e : EX) : List Nat := droppedIds e.I e.O
def EX.ks (e : EX) : List Nat := e.mv ++ e.drop
/-- The objects that it writes, makes, or takes. -/
def EX.tch (e : EX) : List Nat := e.I.map (·.1) ++ (e.O.map (·.1) ++ e.mv)
def obIds : List (Nat × Ob) → List Nat
  | [] => []
  | p :: r => p.1 :: (p.2.ids ++ obIds r)
def rdIds (av : Operand → Option AV) : List Operand → List Nat
  | [] => []
  | x :: r => (match av x with
    | some X => X.ids
    | none => []) ++ rdIds av r
/-- The objects that it reads, writes, makes or takes. -/
def EX.keys : EX → List Nat
  | .run _ us I _ O mv => us.map (·.1) ++ (I.map (·.1) ++ (O.map (·.1) ++ mv))
  | .skip => []
/-- Every object that it speaks of. -/
def EX.all (o : Oper) (e : EX) : List Nat := match e with
  | .run av us I y O mv => obIds us ++ (obIds I ++ (obIds O ++ (mv ++ (y.ids ++ rdIds av o.op.operands.toList))))
  | .skip => []

theorem mem_obIds {l : List (Nat × Ob)} {p : Nat × Ob} (h : p ∈ l) : p.1 ∈ obIds l ∧ ∀ o ∈ p.2.ids, o ∈ obIds l := by
  induction l with
  | nil => cases h
  | cons q r ih =>
    rcases List.mem_cons.1 h with rfl | h
    · exact ⟨by simp [obIds], fun o ho => by simp [obIds, ho]⟩
    · exact ⟨by simp [obIds, (ih h).1], fun o ho => by simp [obIds, (ih h).2 o ho]⟩
theorem mem_rdIds {av : Operand → Option AV} {x : Operand} {X : AV} {l : List Operand} (hx : x ∈ l) (h : av x = some X) : ∀ o ∈ X.ids, o ∈ rdIds av l := by
  induction l with
  | nil => cases hx
  | cons y r ih =>
    intro o ho
    rcases List.mem_cons.1 hx with rfl | hx
    · simp [rdIds, h, ho]
    · simp [rdIds, ih hx o ho]

def gE (o : Oper) (e : EX) (g : Nat → Option AV) : Nat → Option AV := fun t => if o.dst = some t then some e.y else (g t).map (·.kill e.ks)
def TE (e : EX) (T : Nat → Option Ob) : Nat → Option Ob := fun q => (look e.O q).or (if q ∈ e.drop then none else (T q).map (·.kill e.ks))

/-- What an operation's instance asks, whatever the state. -/
structure OInst (n : Nat) (P : Program) (o : Oper) (e : EX) : Prop where
  dst : o.dst.all (· < n) = true
  run : ∀ av us I y O mv, e = .run av us I y O mv → OpX n P o av us I y O mv ∧ (∀ m ∈ mv, m < 2000) ∧ ∀ p ∈ O, (∃ q ∈ I, q.1 = p.1) ∨ p.1 ∈ mv

/-- And what it asks of a state. -/
structure App (ops : Array Oper) (o : Oper) (e : EX) (g : Nat → Option AV) (T : Nat → Option Ob) : Prop where
  run : ∀ av us I y O mv, e = .run av us I y O mv → (o.guard = none ∨ ∃ j want d, o.guard = some (j, want) ∧ (ops[j]?).bind (·.dst) = some d ∧ g d = some (B want)) ∧
    (∀ x X, av x = some X → x ∈ o.op.operands → ∃ K Z, evF g x = some Z ∧ Z.kill K = X) ∧ (∀ p ∈ us ++ I, ∃ K Z, T p.1 = some Z ∧ Z.kill K = p.2) ∧ ∀ m ∈ mv, (∃ p ∈ I, p.1 = m) ∨ T m = none
  skip : e = .skip → ∃ j want d, o.guard = some (j, want) ∧ (ops[j]?).bind (·.dst) = some d ∧ (g d = some (B (!want)) ∨ g d = some (.tup []))

/-- Two instances that have nothing to do with each other. -/
structure Apart (ops : Array Oper) (o1 : Oper) (e1 : EX) (o2 : Oper) (e2 : EX) : Prop where
  s1 : ∀ t, o1.dst = some t → t ∉ namesOf ops o2
  s2 : ∀ t, o2.dst = some t → t ∉ namesOf ops o1
  t1 : ∀ q ∈ e1.tch, q ∉ e2.keys
  t2 : ∀ q ∈ e2.tch, q ∉ e1.keys
  k1 : ∀ q ∈ e1.ks, q ∉ e2.all o2
  k2 : ∀ q ∈ e2.ks, q ∉ e1.all o1

theorem EX.ks_tch {e : EX} {q : Nat} (h : q ∈ e.ks) : q ∈ e.tch := by
  rcases List.mem_append.1 h with h | h
  · exact List.mem_append_right _ (List.mem_append_right _ h)
  · unfold EX.drop droppedIds at h
    exact List.mem_append_left _ (List.mem_filter.1 h).1
theorem EX.tch_keys {e : EX} {q : Nat} (h : q ∈ e.tch) : q ∈ e.keys := by
  cases e with
  | skip => simp [EX.tch, EX.I, EX.O, EX.mv] at h
  | run av us I y O mv =>
    simp only [EX.tch, EX.I, EX.O, EX.mv, List.mem_append] at h
    simp only [EX.keys, List.mem_append]
    exact .inr h
theorem EX.tch_all {o : Oper} {e : EX} {q : Nat} (h : q ∈ e.tch) : q ∈ e.all o := by
  cases e with
  | skip => simp [EX.tch, EX.I, EX.O, EX.mv] at h
  | run av us I y O mv =>
    simp only [EX.tch, EX.I, EX.O, EX.mv, List.mem_append, List.mem_map] at h
    simp only [EX.all, List.mem_append]
    rcases h with ⟨p, hp, rfl⟩ | ⟨p, hp, rfl⟩ | h
    · exact .inr (.inl (mem_obIds hp).1)
    · exact .inr (.inr (.inl (mem_obIds hp).1))
    · exact .inr (.inr (.inr (.inl h)))

theorem B_of_kill {Z : AV} {K : List Nat} {b : Bool} (h : Z.kill K = B b) : Z = B b := by
  cases Z with
  | one x =>
    simp only [AV.kill, AV.one.injEq] at h
    unfold killL at h
    split at h
    · cases h
    · rw [h]
  | _ => simp [AV.kill] at h
theorem tup_of_kill {Z : AV} {K : List Nat} (h : Z.kill K = .tup []) : Z = .tup [] := by
  cases Z with
  | tup ys =>
    simp only [AV.kill, AV.tup.injEq] at h
    cases ys with
    | nil => rfl
    | cons y r => simp [AV.killT] at h
  | _ => simp [AV.kill] at h

section
variable {ops : Array Oper} {o1 o2 : Oper} {e1 e2 : EX} {g : Nat → Option AV} {T : Nat → Option Ob}
theorem guardTmp_mem {o : Oper} {j d : Nat} {want : Bool} (hg : o.guard = some (j, want)) (hj : (ops[j]?).bind (·.dst) = some d) : d ∈ namesOf ops o := by
  simp only [namesOf, guardTmp, hg, hj]; simp
/-- What can run behind another one that has nothing to do with it can run ahead of it. -/
theorem App.ahead (hap : Apart ops o1 e1 o2 e2) (h : App ops o2 e2 (gE o1 e1 g) (TE e1 T)) : App ops o2 e2 g T := by
  have hg0 : ∀ t ∈ namesOf ops o2, gE o1 e1 g t = (g t).map (·.kill e1.ks) := fun t ht => if_neg fun hd => hap.s1 t hd ht
  have hT0 : ∀ q ∈ e2.keys, TE e1 T q = (T q).map (·.kill e1.ks) := fun q hq => by
    have h1 : look e1.O q = none := look_none_of fun p hp hpe => hap.t1 q (by
      subst hpe; exact List.mem_append_right _ (List.mem_append_left _ (List.mem_map.2 ⟨p, hp, rfl⟩))) hq
    have h2 : q ∉ e1.drop := fun hd => hap.t1 q (EX.ks_tch (List.mem_append_right _ hd)) hq
    simp [TE, h1, h2]
  have hB : ∀ d b, d ∈ namesOf ops o2 → gE o1 e1 g d = some (B b) → g d = some (B b) := fun d b hd hh => by
    rw [hg0 d hd] at hh
    cases hz : g d with
    | none => rw [hz] at hh; simp at hh
    | some Z => rw [hz] at hh; simp at hh; rw [B_of_kill hh]
  have hU : ∀ d, d ∈ namesOf ops o2 → gE o1 e1 g d = some (.tup []) → g d = some (.tup []) := fun d hd hh => by
    rw [hg0 d hd] at hh
    cases hz : g d with
    | none => rw [hz] at hh; simp at hh
    | some Z => rw [hz] at hh; simp at hh; rw [tup_of_kill hh]
  refine ⟨fun av us I y O mv he => ?_, fun he => ?_⟩
  · obtain ⟨h1, h2, h3, h4⟩ := h.run av us I y O mv he
    subst he
    refine ⟨h1.imp id fun ⟨j, want, d, a, b, c⟩ => ⟨j, want, d, a, b, hB d want (guardTmp_mem a b) c⟩, fun x X hx hxm => ?_, fun p hp => ?_, fun m hm => (h4 m hm).imp id fun hn => ?_⟩
    · obtain ⟨K, Z, hz, hk⟩ := h2 x X hx hxm
      cases x with
      | tmp t =>
        have htn : t ∈ namesOf ops o2 := by simp only [namesOf, List.mem_append]; exact .inl (.inr (mem_opTmps hxm))
        simp only [evF] at hz ⊢
        rw [hg0 t htn] at hz
        cases hgt : g t with
        | none => rw [hgt] at hz; simp at hz
        | some Z0 =>
          rw [hgt] at hz; simp at hz
          exact ⟨e1.ks ++ K, Z0, rfl, by rw [← AV.kill_kill, hz, hk]⟩
      | _ => exact ⟨K, Z, hz, hk⟩
    · obtain ⟨K, Z, hz, hk⟩ := h3 p hp
      have hq : p.1 ∈ EX.keys (.run av us I y O mv) := by
        simp only [EX.keys, List.mem_append, List.mem_map]
        rcases List.mem_append.1 hp with hp | hp
        · exact .inl ⟨p, hp, rfl⟩
        · exact .inr (.inl ⟨p, hp, rfl⟩)
      rw [hT0 _ hq] at hz
      cases hgt : T p.1 with
      | none => rw [hgt] at hz; simp at hz
      | some Z0 =>
        rw [hgt] at hz; simp at hz
        exact ⟨e1.ks ++ K, Z0, rfl, by rw [← Ob.kill_kill, hz, hk]⟩
    · rw [hT0 m (by simp only [EX.keys, List.mem_append]; exact .inr (.inr (.inr hm)))] at hn
      simpa using hn
  · obtain ⟨j, want, d, a, b, c⟩ := h.skip he
    exact ⟨j, want, d, a, b, c.imp (hB d _ (guardTmp_mem a b)) (hU d (guardTmp_mem a b))⟩
/-- And the other one can run behind it. -/
theorem App.behind (hap : Apart ops o1 e1 o2 e2) (h : App ops o1 e1 g T) : App ops o1 e1 (gE o2 e2 g) (TE e2 T) := by
  have hg0 : ∀ t ∈ namesOf ops o1, gE o2 e2 g t = (g t).map (·.kill e2.ks) := fun t ht => if_neg fun hd => hap.s2 t hd ht
  have hT0 : ∀ q ∈ e1.keys, TE e2 T q = (T q).map (·.kill e2.ks) := fun q hq => by
    have h1 : look e2.O q = none := look_none_of fun p hp hpe => hap.t2 q (by
      subst hpe; exact List.mem_append_right _ (List.mem_append_left _ (List.mem_map.2 ⟨p, hp, rfl⟩))) hq
    have h2 : q ∉ e2.drop := fun hd => hap.t2 q (EX.ks_tch (List.mem_append_right _ hd)) hq
    simp [TE, h1, h2]
  have hB : ∀ d b, d ∈ namesOf ops o1 → g d = some (B b) → gE o2 e2 g d = some (B b) := fun d b hd hh => by rw [hg0 d hd, hh]; rfl
  have hU : ∀ d, d ∈ namesOf ops o1 → g d = some (.tup []) → gE o2 e2 g d = some (.tup []) := fun d hd hh => by rw [hg0 d hd, hh]; rfl
  refine ⟨fun av us I y O mv he => ?_, fun he => ?_⟩
  · obtain ⟨h1, h2, h3, h4⟩ := h.run av us I y O mv he
    subst he
    refine ⟨h1.imp id fun ⟨j, want, d, a, b, c⟩ => ⟨j, want, d, a, b, hB d want (guardTmp_mem a b) c⟩, fun x X hx hxm => ?_, fun p hp => ?_, fun m hm => (h4 m hm).imp id fun hn => ?_⟩
    · obtain ⟨K, Z, hz, hk⟩ := h2 x X hx hxm
      have hXd : X.kill e2.ks = X := AV.kill_id fun q hq hqk => hap.k2 q hqk (by
        simp only [EX.all, List.mem_append]; exact .inr (.inr (.inr (.inr (.inr (mem_rdIds (by simpa using hxm) hx q hq))))))
      cases x with
      | tmp t =>
        have htn : t ∈ namesOf ops o1 := by simp only [namesOf, List.mem_append]; exact .inl (.inr (mem_opTmps hxm))
        simp only [evF] at hz ⊢
        rw [hg0 t htn, hz]
        exact ⟨K, _, rfl, by rw [AV.kill_swap, hk, hXd]⟩
      | _ => exact ⟨K, Z, hz, hk⟩
    · obtain ⟨K, Z, hz, hk⟩ := h3 p hp
      have hq : p.1 ∈ EX.all o1 (.run av us I y O mv) ∧ ∀ q ∈ p.2.ids, q ∈ EX.all o1 (.run av us I y O mv) := by
        simp only [EX.all, List.mem_append]
        rcases List.mem_append.1 hp with hp | hp
        · exact ⟨.inl (mem_obIds hp).1, fun q hq => .inl ((mem_obIds hp).2 q hq)⟩
        · exact ⟨.inr (.inl (mem_obIds hp).1), fun q hq => .inr (.inl ((mem_obIds hp).2 q hq))⟩
      have hXd : p.2.kill e2.ks = p.2 := Ob.kill_id fun q hqq hqk => hap.k2 q hqk (hq.2 q hqq)
      have hq1 : p.1 ∈ EX.keys (.run av us I y O mv) := by
        simp only [EX.keys, List.mem_append, List.mem_map]
        rcases List.mem_append.1 hp with hp | hp
        · exact .inl ⟨p, hp, rfl⟩
        · exact .inr (.inl ⟨p, hp, rfl⟩)
      rw [hT0 _ hq1, hz]
      exact ⟨K, _, rfl, by rw [Ob.kill_swap, hk, hXd]⟩
    · rw [hT0 m (by simp only [EX.keys, List.mem_append]; exact .inr (.inr (.inr hm))), hn]; rfl
  · obtain ⟨j, want, d, a, b, c⟩ := h.skip he
    exact ⟨j, want, d, a, b, c.imp (hB d _ (guardTmp_mem a b)) (hU d (guardTmp_mem a b))⟩
theorem EX.y_all {o : Oper} {e : EX} : ∀ q ∈ e.y.ids, q ∈ e.all o := by
  intro q hq
  cases e with
  | skip => simp [EX.y, AV.ids, AV.idsT] at hq
  | run av us I y O mv => simp only [EX.all, List.mem_append]; exact .inr (.inr (.inr (.inr (.inl hq))))
theorem EX.O_all {o : Oper} {e : EX} {p : Nat × Ob} (hp : p ∈ e.O) : p.1 ∈ e.all o ∧ ∀ q ∈ p.2.ids, q ∈ e.all o := by
  cases e with
  | skip => cases hp
  | run av us I y O mv =>
    simp only [EX.all, List.mem_append]
    exact ⟨.inr (.inr (.inl (mem_obIds hp).1)), fun q hq => .inr (.inr (.inl ((mem_obIds hp).2 q hq)))⟩
theorem gE_swap (hap : Apart ops o1 e1 o2 e2) : gE o2 e2 (gE o1 e1 g) = gE o1 e1 (gE o2 e2 g) := by
  funext t
  have y1 : e1.y.kill e2.ks = e1.y := AV.kill_id fun q hq hk => hap.k2 q hk (EX.y_all q hq)
  have y2 : e2.y.kill e1.ks = e2.y := AV.kill_id fun q hq hk => hap.k1 q hk (EX.y_all q hq)
  by_cases h1 : o1.dst = some t
  · have h2 : o2.dst ≠ some t := fun h2 => hap.s1 t h1 (by simp [namesOf, h2])
    simp [gE, h1, h2, y1]
  · by_cases h2 : o2.dst = some t
    · simp [gE, h1, h2, y2]
    · simp only [gE, h1, h2, if_false]
      cases g t with
      | none => rfl
      | some Z => simp [AV.kill_swap e1.ks e2.ks Z]
theorem TE_swap (hap : Apart ops o1 e1 o2 e2) : TE e2 (TE e1 T) = TE e1 (TE e2 T) := by
  funext q
  have key : ∀ {oa ob : Oper} {ea eb : EX}, (∀ q ∈ ea.tch, q ∉ eb.keys) → (∀ q ∈ eb.ks, q ∉ ea.all oa) → ∀ X, look ea.O q = some X → look eb.O q = none ∧ q ∉ eb.drop ∧ X.kill eb.ks = X := by
    intro oa ob ea eb h1 h2 X hX
    have hm := look_mem hX
    have hq : q ∈ ea.tch := List.mem_append_right _ (List.mem_append_left _ (List.mem_map.2 ⟨_, hm, rfl⟩))
    refine ⟨look_none_of fun p hp hpe => h1 q hq ?_, fun hd => h1 q hq (EX.tch_keys (EX.ks_tch (List.mem_append_right _ hd))), Ob.kill_id fun r hr hk => h2 r hk ((EX.O_all hm).2 r hr)⟩
    subst hpe
    exact EX.tch_keys (List.mem_append_right _ (List.mem_append_left _ (List.mem_map.2 ⟨p, hp, rfl⟩)))
  cases h1 : look e1.O q with
  | some X =>
    obtain ⟨a, b, c⟩ := key (oa := o1) (ob := o2) hap.t1 hap.k2 X h1
    simp [TE, h1, a, b, c]
  | none =>
    cases h2 : look e2.O q with
    | some X =>
      obtain ⟨a, b, c⟩ := key (oa := o2) (ob := o1) hap.t2 hap.k1 X h2
      simp [TE, h1, h2, a, b, c]
    | none =>
      by_cases d1 : q ∈ e1.drop <;> by_cases d2 : q ∈ e2.drop <;> simp [TE, h1, h2, d1, d2]
      cases T q with
      | none => rfl
      | some Z => simp [Ob.kill_swap e1.ks e2.ks Z]
end

/-- Instances in a row, each of which can run behind those ahead of it. -/
inductive Chain (ops : Array Oper) : List (Nat × Oper × EX) → (Nat → Option AV) → (Nat → Option Ob) → (Nat → Option AV) → (Nat → Option Ob) → Prop
  | nil {g T} : Chain ops [] g T g T
  | cons {i o e r g T g' T'} : App ops o e g T → Chain ops r (gE o e g) (TE e T) g' T' → Chain ops ((i, o, e) :: r) g T g' T'

theorem Chain.front {ops : Array Oper} {x : Nat × Oper × EX} {B : List (Nat × Oper × EX)} : ∀ {A : List (Nat × Oper × EX)} {g T g' T'}, Chain ops (A ++ x :: B) g T g' T' → (∀ a ∈ A, Apart ops a.2.1 a.2.2 x.2.1 x.2.2) → Chain ops (x :: (A ++ B)) g T g' T'
  | [], _, _, _, _, h, _ => h
  | a :: A, g, T, g', T', h, hap => by
    obtain ⟨i, o, e⟩ := a
    obtain ⟨j, ox, ex⟩ := x
    cases h with
    | cons h1 h2 =>
      have ih := Chain.front h2 fun b hb => hap b (List.mem_cons_of_mem _ hb)
      cases ih with
      | cons h3 h4 =>
        have hp := hap (i, o, e) (List.mem_cons_self ..)
        rw [gE_swap hp, TE_swap hp] at h4
        exact .cons (h3.ahead hp) (.cons (h1.behind hp) h4)


section
variable {Γ : Cx} {P : Program} {ops : Array Oper} {o : Oper} {g : Nat → Option AV} {T : Nat → Option Ob}
theorem GrowX.simF {I O : List (Nat × Ob)} {mv : List Nat} {r : AV} {us : List (Nat × Ob)} {av : Operand → Option AV} {a : Act} {w w' : World} {S S' : Nat → Prop} {β β' : Nat → OLoc} {v : Value} (hG : GrowX w S β I O mv w' S' β') (hr : RepV w' S' β' r v) (hs : SimF Γ g T a w S β) (hd : o.dst.all (· < Γ.n) = true)
    (hI : ∀ p ∈ I, ∃ Z, T p.1 = some Z) (hlow : ∀ m ∈ mv, m < 2000) (hOin : ∀ p ∈ O, (∃ q ∈ I, q.1 = p.1) ∨ p.1 ∈ mv) (hmv : ∀ m ∈ mv, (∃ p ∈ I, p.1 = m) ∨ T m = none) : SimF Γ (gE o (.run av us I r O mv) g) (TE (.run av us I r O mv) T) (a.put o.dst v) w' S' β' := by
  have hpass : ∀ b, passOf I β b → ∃ p ∈ I, ∃ Z, T p.1 = some Z ∧ (β p.1).Own b := fun b ⟨p, hp, h1⟩ => by
    obtain ⟨Z, hZ⟩ := hI p hp
    exact ⟨p, hp, Z, hZ, h1⟩
  have hSn : ∀ b, S b → ¬ passOf I β b := by
    intro b hb hp
    obtain ⟨p, _, Z, hg, h1⟩ := hpass b hp
    exact (hs.mem.own p.1 Z hg b h1).2.1 hb
  have hk : ∀ b, S b → w'.heap[b]? = w.heap[b]? := fun b hb => hG.block b (hs.mem.lt b hb) (hSn b hb)
  have hβ : ∀ q, q ∉ mv ++ droppedIds I O → β' q = β q := fun q hq => hG.loc q fun h => hq (List.mem_append_left _ h)
  have hT : ∀ q X, TE (.run av us I r O mv) T q = some X → (q, X) ∈ O ∨ (q ∉ mv ∧ (∀ p ∈ I, p.1 ≠ q) ∧ ∃ Y, T q = some Y ∧ ∀ l : OLoc, (∀ b, l.Own b → w'.heap[b]? = w.heap[b]?) → ObRep w S β l Y → ObRep w' S' β' l X) := by
    intro q X hq
    have hq : (look O q).or (if q ∈ droppedIds I O then none else (T q).map (·.kill (mv ++ droppedIds I O))) = some X := hq
    cases hl : look O q with
    | some Y => rw [hl] at hq; simp at hq; subst hq; exact .inl (look_mem hl)
    | none =>
      rw [hl] at hq
      simp only [Option.none_or] at hq
      by_cases hnd : q ∈ droppedIds I O
      · rw [if_pos hnd] at hq; cases hq
      · rw [if_neg hnd] at hq
        cases hY : T q with
        | none => rw [hY] at hq; simp at hq
        | some Y =>
          rw [hY] at hq; simp at hq; subst hq
          have hnO : ∀ p ∈ O, p.1 ≠ q := fun p hp e => look_some_of_mem O hp (e ▸ hl)
          have hnI : ∀ p ∈ I, p.1 ≠ q := by
            intro p hp e
            refine hnd ?_
            simp only [droppedIds, List.mem_filter, List.mem_map, Bool.not_eq_true', List.any_eq_false, beq_iff_eq]
            exact ⟨⟨p, hp, e⟩, fun p' hp' => hnO p' hp'⟩
          refine .inr ⟨fun hm => ?_, hnI, Y, rfl, fun l hb hx => hx.killO hb hk hG.sub hβ⟩
          rcases hmv q hm with ⟨p, hp, e⟩ | h
          · exact hnI p hp e
          · rw [hY] at h; simp at h
  have hapart : ∀ q Y, T q = some Y → (∀ p ∈ I, p.1 ≠ q) → ∀ b, (β q).Own b → ¬ passOf I β b := by
    intro q Y hY hn b hh hp
    obtain ⟨p, hpI, Z, hg, h1⟩ := hpass _ hp
    exact hn p hpI (hs.mem.sep p.1 q _ _ hg hY b h1 hh)
  refine ⟨?_, ?_, fun i x hi => ?_, ⟨fun b hb => (hG.sup b hb).1, fun q X hq => ?_, fun q X hq b hh => ?_, fun q q' X X' hq hq' b hh hh' => ?_, hG.os.trans hs.mem.os, hG.tape.trans hs.mem.tape, hG.output.trans hs.mem.output, Nat.le_trans hs.mem.size hG.size, fun b hb hp => ?_, fun b hb => hG.sub b (hs.mem.sub b hb), fun b hb => ?_, fun q l hl => ?_, fun q X hq b hh => ?_, fun q q' X X' hq hq' b hh hh' => ?_⟩⟩
  · cases o.dst <;> simp [Act.put, hs.defers]
  · cases o.dst <;> simp [Act.put, hs.sz]
  · simp only [gE, EX.y, EX.ks, EX.mv, EX.drop, EX.I, EX.O] at hi
    by_cases hdi : o.dst = some i
    · rw [if_pos hdi] at hi
      simp at hi
      subst hi
      rw [hdi] at hd ⊢
      simp at hd
      exact ⟨v, by simp [Act.put, hs.sz, hd], hr⟩
    · rw [if_neg hdi] at hi
      cases hy : g i with
      | none => rw [hy] at hi; simp at hi
      | some y =>
        rw [hy] at hi; simp at hi; subst hi
        obtain ⟨u, hu, hur⟩ := hs.tm i y hy
        refine ⟨u, ?_, hur.killV hk hG.sub hβ⟩
        cases hdd : o.dst with
        | none => exact hu
        | some d =>
          simp only [Act.put]
          rw [Array.getElem?_setIfInBounds_ne (fun e => hdi (by rw [hdd, e]))]
          exact hu
  · rcases hT q X hq with hm | ⟨hnm, hnI, Y, hY, hYr⟩
    · exact hG.ob _ hm
    · rw [hG.loc q hnm]
      exact hYr _ (fun b hh => hG.block _ (hs.mem.own q Y hY b hh).1 (hapart q Y hY hnI b hh)) (hs.mem.ob q Y hY)
  · rcases hT q X hq with hm | ⟨hnm, hnI, Y, hY, hYr⟩
    · obtain ⟨h1, h2, h3⟩ := hG.own _ hm b hh
      refine ⟨h1, h2, ?_⟩
      rcases h3 with h3 | h3
      · exact .inl (Nat.le_trans hs.mem.size h3)
      · obtain ⟨p, _, Z, hg, h4⟩ := hpass _ h3
        exact (hs.mem.own p.1 Z hg b h4).2.2
    · rw [hG.loc q hnm] at hh
      obtain ⟨h1, h2, h3⟩ := hs.mem.own q Y hY b hh
      refine ⟨Nat.lt_of_lt_of_le h1 hG.size, fun hb => ?_, h3⟩
      rcases (hG.sup _ hb).2 with hb | hb | hb
      · exact h2 hb
      · omega
      · exact hapart q Y hY hnI b hh hb
  · have hmix : ∀ q q' X Y', (q, X) ∈ O → q' ∉ mv → (∀ p ∈ I, p.1 ≠ q') → T q' = some Y' → ∀ b, (β' q).Own b → (β' q').Own b → False := by
      intro q q' X Y' hm hnm hnI hY' b hh hh'
      rw [hG.loc q' hnm] at hh'
      rcases (hG.own _ hm b hh).2.2 with h3 | h3
      · have := (hs.mem.own q' Y' hY' b hh').1
        omega
      · exact hapart q' Y' hY' hnI b hh' h3
    rcases hT q X hq with hm | ⟨hnm, hnI, Y, hY, hYr⟩ <;> rcases hT q' X' hq' with hm' | ⟨hnm', hnI', Y', hY', hYr'⟩
    · exact hG.sep _ hm _ hm' b hh hh'
    · exact (hmix q q' X Y' hm hnm' hnI' hY' b hh hh').elim
    · exact (hmix q' q X' Y hm' hnm hnI hY b hh' hh).elim
    · rw [hG.loc q hnm] at hh
      rw [hG.loc q' hnm'] at hh'
      exact hs.mem.sep q q' Y Y' hY hY' b hh hh'
  · refine (hG.block b (Nat.lt_of_lt_of_le hb hs.mem.size) fun hpb => ?_).trans (hs.mem.block b hb hp)
    obtain ⟨p, _, Z, hg, h1⟩ := hpass b hpb
    rcases (hs.mem.own p.1 Z hg b h1).2.2 with h3 | h3
    · omega
    · exact hp h3
  · rcases (hG.sup b hb).2 with hb | hb | hb
    · exact hs.mem.sup b hb
    · exact .inr (.inl (Nat.le_trans hs.mem.size hb))
    · obtain ⟨p, _, Z, hg, h1⟩ := hpass b hb
      exact .inr (hs.mem.own p.1 Z hg b h1).2.2
  · obtain ⟨h1, h2⟩ := hs.mem.fix q l hl
    exact ⟨h1, (hG.loc q fun hm => by have := hlow q hm; omega).trans h2⟩
  · rcases hT q X hq with hm | ⟨hnm, hnI, Y, hY, hYr⟩
    · obtain ⟨h1, h3⟩ := hG.clm _ hm b hh
      refine ⟨h1, ?_⟩
      rcases h3 with h3 | h3 | h3
      · exact .inl (Nat.le_trans hs.mem.size h3)
      · obtain ⟨p, _, Z, hg, h4⟩ := hpass _ h3
        exact (hs.mem.own p.1 Z hg b h4).2.2.imp id .inl
      · obtain ⟨p, hp, h4⟩ := h3
        obtain ⟨Z, hZ⟩ := hI p hp
        exact (hs.mem.clm p.1 Z hZ b h4).2
    · rw [hG.loc q hnm] at hh
      obtain ⟨h1, h2⟩ := hs.mem.clm q Y hY b hh
      exact ⟨hG.sub b h1, h2⟩
  · have hmix : ∀ q q' X Y', (q, X) ∈ O → q' ∉ mv → (∀ p ∈ I, p.1 ≠ q') → T q' = some Y' → ∀ b, b ∈ (β' q).clm → b ∈ (β' q').clm → False := by
      intro q q' X Y' hm hnm hnI hY' b hh hh'
      rw [hG.loc q' hnm] at hh'
      have hSb := (hs.mem.clm q' Y' hY' b hh').1
      rcases (hG.clm _ hm b hh).2 with h3 | h3 | h3
      · have := hs.mem.lt b hSb
        omega
      · exact hSn b hSb h3
      · obtain ⟨p, hp, h4⟩ := h3
        obtain ⟨Z, hZ⟩ := hI p hp
        exact hnI p hp (hs.mem.sepc p.1 q' _ _ hZ hY' b h4 hh')
    rcases hT q X hq with hm | ⟨hnm, hnI, Y, hY, hYr⟩ <;> rcases hT q' X' hq' with hm' | ⟨hnm', hnI', Y', hY', hYr'⟩
    · exact hG.sepc _ hm _ hm' b hh hh'
    · exact (hmix q q' X Y' hm hnm' hnI' hY' b hh hh').elim
    · exact (hmix q' q X' Y hm' hnm hnI hY b hh' hh).elim
    · rw [hG.loc q hnm] at hh
      rw [hG.loc q' hnm'] at hh'
      exact hs.mem.sepc q q' Y Y' hY hY' b hh hh'

theorem killL_nil (x : At) : killL [] x = x := killL_id fun _ _ h => by cases h
theorem AV.kill_nil (x : AV) : x.kill [] = x := AV.kill_id fun _ _ h => by cases h
theorem Ob.kill_nil (X : Ob) : X.kill [] = X := Ob.kill_id fun _ _ h => by cases h

/-- One instance, run. -/
theorem OInst.step {e : EX} {a : Act} {w : World} {S : Nat → Prop} {β : Nat → OLoc} {l : List Oper} {K : Act → World → Prop} {Q : Exit → Act → World → Prop} {i : Nat} (hi : OInst Γ.n P o e) (ha : App l.toArray o e g T) (hs : SimF Γ g T a w S β) (ho : l.toArray[i]? = some o)
    (hK : ∀ a' w' S' β', SimF Γ (gE o e g) (TE e T) a' w' S' β' → K a' w') : wpOp P l.toArray Q i K a w := by
  unfold wpOp
  rw [ho]
  dsimp only
  have hyield : ∀ (j : Nat) (d : Nat) (b : Bool), (l.toArray[j]?).bind (·.dst) = some d → g d = some (B b) → yielded l.toArray a.tmps j = some b := by
    intro j d b hj hv
    obtain ⟨v, hv1, hv2⟩ := hs.tm d _ hv
    rw [hv2.bool_inv] at hv1
    simp only [yielded, hj, Option.bind_some, hv1]
  cases e with
  | skip =>
    obtain ⟨j, want, d, hg, hj, hv⟩ := ha.skip rfl
    have hw : Region.wanted o (yielded l.toArray a.tmps) = false := by
      rcases hv with hv | hv
      · have hy := hyield j d _ hj hv
        simp only [Region.wanted, hg, hy]; cases want <;> rfl
      · obtain ⟨v, hv1, hv2⟩ := hs.tm d _ hv
        obtain ⟨us, rfl, hu⟩ := hv2.tup_inv
        cases hu
        have hyl : yielded l.toArray a.tmps j = none := by simp only [yielded, hj, Option.bind_some, hv1]
        simp only [Region.wanted, hg, hyl]; rfl
    rw [hw, if_neg (by simp)]
    refine hK _ _ S β ?_
    have hG : GrowX w S β [] [] [] w S β := ⟨rfl, rfl, rfl, Nat.le_refl _, fun _ _ _ => rfl, fun _ h => h, fun b hb => ⟨hs.mem.lt b hb, .inl hb⟩, fun _ _ => rfl, by simp, by simp, by simp, by simp, by simp⟩
    have := GrowX.simF (us := []) (av := fun _ => none) (r := .tup []) (v := undef) hG (RepVs.tup .nil .nil) hs hi.dst (by simp) (by simp) (by simp) (by simp)
    exact this
  | run av us I y O mv =>
    obtain ⟨hop, hlow, hOin⟩ := hi.run av us I y O mv rfl
    obtain ⟨hg, hrd, hob, hmv⟩ := ha.run av us I y O mv rfl
    have hw : Region.wanted o (yielded l.toArray a.tmps) = true := by
      rcases hg with hg | ⟨j, want, d, hg, hj, hv⟩
      · simp [Region.wanted, hg]
      · have hy := hyield j d _ hj hv
        simp [Region.wanted, hg, hy]
    rw [hw, if_pos rfl]
    left
    have hob2 : ∀ p ∈ us ++ I, ∃ Z, T p.1 = some Z ∧ (ObRep w S β (β p.1) Z → ObRep w S β (β p.1) p.2) := fun p hp => by
      obtain ⟨K, Z, hz, hk⟩ := hob p hp
      exact ⟨Z, hz, fun h => hk ▸ h.killO (fun _ _ => rfl) (fun _ _ => rfl) (fun _ h => h) fun _ _ => rfl⟩
    refine hop a w S β hs.defers hs.sz hs.mem.lt (fun x X hx hxm => ?_) ⟨fun p hp => ?_, fun p hp b hh => ?_, fun p hp q hq b hh hh' => ?_, fun p hp b hh => ?_, fun p hp q hq b hh hh' => ?_⟩ _ _ fun v w' S' β' hG hy => hK _ _ S' β' (hG.simF hy hs hi.dst (fun p hp => ?_) hlow hOin hmv)
    · obtain ⟨K, Z, hz, hk⟩ := hrd x X hx hxm
      have hr : RepV w S β Z (a.eval x) := by
        cases x with
        | tmp t =>
          obtain ⟨v, hv, hr⟩ := hs.tm t Z hz
          have : a.eval (.tmp t) = v := by simp [Act.eval, Array.getD_eq_getD_getElem?, hv]
          rw [this]; exact hr
        | const v => exact constAV_rep hz
        | func f => simp only [evF, Option.some.injEq] at hz; subst hz; exact RepV.one (.d (.fn_ f))
        | global g => simp [evF] at hz
      rw [← hk]
      exact hr.killV (fun _ _ => rfl) (fun _ h => h) fun _ _ => rfl
    · obtain ⟨Z, hz, h⟩ := hob2 p hp
      exact h (hs.mem.ob p.1 Z hz)
    · obtain ⟨Z, hz, h⟩ := hob2 p hp
      exact ⟨(hs.mem.own p.1 Z hz b hh).1, (hs.mem.own p.1 Z hz b hh).2.1⟩
    · obtain ⟨Z, hz, _⟩ := hob2 p hp
      obtain ⟨Z', hz', _⟩ := hob2 q hq
      exact hs.mem.sep p.1 q.1 Z Z' hz hz' b hh hh'
    · obtain ⟨Z, hz, h⟩ := hob2 p hp
      exact (hs.mem.clm p.1 Z hz b hh).1
    · obtain ⟨Z, hz, _⟩ := hob2 p hp
      obtain ⟨Z', hz', _⟩ := hob2 q hq
      exact hs.mem.sepc p.1 q.1 Z Z' hz hz' b hh hh'
    · obtain ⟨Z, hz, _⟩ := hob2 p (List.mem_append_right _ hp)
      exact ⟨Z, hz⟩

/-- The objects of two instances are apart. -/
def TApart (o1 : Oper) (e1 : EX) (o2 : Oper) (e2 : EX) : Prop := (∀ q ∈ e1.tch, q ∉ e2.keys) ∧ (∀ q ∈ e2.tch, q ∉ e1.keys) ∧ (∀ q ∈ e1.ks, q ∉ e2.all o2) ∧ ∀ q ∈ e2.ks, q ∉ e1.all o1
def PairX (ops : Array Oper) (a x : Nat × Oper × EX) : Prop := reach ops ops.size x.1 a.1 = true ∨ TApart a.2.1 a.2.2 x.2.1 x.2.2
end

/-- A region of drawn order whose operations may write, by its run in the order of the text. -/
theorem awp_drawX {Γ : Cx} {P : Program} {l : List Oper} {s s' : St} {L : List (Nat × Oper × EX)} {id : Nat} {Q : Exit → St → Prop} (hm : P.follows .mixedOrders = true) (hok : drawOk l.toArray = true) (hL : L.map (fun x => x.1) = List.range l.length) (hLo : ∀ x ∈ L, l[x.1]? = some x.2.1) (hinst : ∀ x ∈ L, OInst Γ.n P x.2.1 x.2.2) (hpair : L.Pairwise (PairX l.toArray)) (hch : Chain l.toArray L s.get s.gob s'.get s'.gob) (hQ : Q .normal s') : awp Γ P (.region id l.toArray true) Q s := by
  intro a w S β hs
  have hn : l.toArray.size = l.length := by simp
  simp only [drawOk, List.all_eq_true, List.mem_range, hn] at hok
  have hlow : ∀ (i : Nat) (o : Oper), l[i]? = some o → ∀ e ∈ o.after, Region.binds .any e = true → e.on < i := by
    intro i o hi e he hb
    have h1 := hok i (List.getElem?_eq_some_iff.1 hi).1
    simp only [List.getElem?_toArray, hi, Bool.and_eq_true] at h1
    have h2 := Array.all_eq_true_iff_forall_mem.1 h1.1 e he
    simpa [hb] using h2
  have hord : ∀ (i j : Nat) (oi oj : Oper), l[i]? = some oi → l[j]? = some oj → j < i → reach l.toArray l.length i j = false → (∀ t, oj.dst = some t → t ∉ namesOf l.toArray oi) ∧ ∀ t, oi.dst = some t → t ∉ namesOf l.toArray oj := by
    intro i j oi oj hi hj hji hr
    have h1 := hok i (List.getElem?_eq_some_iff.1 hi).1
    simp only [List.getElem?_toArray, hi, Bool.and_eq_true, List.all_eq_true, List.mem_range] at h1
    have h2 := h1.2 j (List.getElem?_eq_some_iff.1 hj).1
    simp only [hj, Bool.or_eq_true, Bool.not_eq_true', decide_eq_false_iff_not, Bool.and_eq_true, List.all_eq_true, List.contains_eq_mem] at h2
    rcases h2 with (h2 | h2) | h2
    · exact absurd hji h2
    · exact ⟨fun t ht => h2.1 t (by simp [ht]), fun t ht => h2.2 t (by simp [ht])⟩
    · rw [hr] at h2; cases h2
  refine wp_region_any hm ?_
  have hready : ∀ (listed : Array Bool), listed.size = l.length → Region.ready .any l.toArray listed = [] → ∀ j, j < l.length → listed.getD j false = true := by
    intro listed hsz hr j hj
    apply Classical.byContradiction
    intro hne
    obtain ⟨m, ⟨hm1, hm2⟩, hmin⟩ := least (fun j => j < l.length ∧ listed.getD j false ≠ true) ⟨j, hj, hne⟩
    have hmem : m ∈ Region.ready .any l.toArray listed := by
      rw [mem_ready]
      refine ⟨?_, l[m], by simp [hm1], fun e he hb => ?_⟩
      · have : m < listed.size := by omega
        simp only [Array.getD_eq_getD_getElem?, Array.getElem?_eq_getElem this, Option.getD_some] at hm2 ⊢
        simpa using hm2
      · have hlt := hlow m l[m] (List.getElem?_eq_getElem hm1) e he hb
        apply Classical.byContradiction
        intro hn2
        have := hmin e.on ⟨by omega, hn2⟩
        omega
    rw [hr] at hmem
    simp at hmem
  have hsorted : L.Pairwise fun a b => a.1 < b.1 := by
    have : (L.map fun x => x.1).Pairwise (· < ·) := by rw [hL]; exact List.pairwise_lt_range
    exact List.pairwise_map.1 this
  have hhas : ∀ i, i < l.length → ∃ x ∈ L, x.1 = i := fun i hi => by
    have : i ∈ L.map fun x => x.1 := by rw [hL]; exact List.mem_range.2 hi
    obtain ⟨x, hx, e⟩ := List.mem_map.1 this
    exact ⟨x, hx, e⟩
  -- the end
  have hdone : ∀ (M : List (Nat × Oper × EX)) (listed : Array Bool) (g : Nat → Option AV) (T : Nat → Option Ob) (a : Act) (w : World) (S : Nat → Prop) (β : Nat → OLoc), M = L.filter (fun x => !listed.getD x.1 false) → Chain l.toArray M g T s'.get s'.gob → (∀ j, j < l.length → listed.getD j false = true) → SimF Γ g T a w S β → ∃ s' S' β', Q .normal s' ∧ Sim Γ s' a w S' β' := by
    intro M listed g T a w S β hM hc hall hsim
    have : M = [] := by
      rw [hM, List.filter_eq_nil_iff]
      intro x hx
      have : x.1 < l.length := List.mem_range.1 (hL ▸ List.mem_map.2 ⟨x, hx, rfl⟩)
      simp only [hall _ this]; simp
    subst this
    generalize hg' : s'.get = g' at hc
    generalize hT' : s'.gob = T' at hc
    cases hc
    subst hg'; subst hT'
    exact ⟨s', S, β, hQ, hsim⟩
  have key : ∀ (fuel : Nat) (listed : Array Bool) (M : List (Nat × Oper × EX)) (g : Nat → Option AV) (T : Nat → Option Ob) (a : Act) (w : World) (S : Nat → Prop) (β : Nat → OLoc), listed.size = l.length → Closed l.toArray (fun j => listed.getD j false) →
      M = L.filter (fun x => !listed.getD x.1 false) → Chain l.toArray M g T s'.get s'.gob → SimF Γ g T a w S β → M.length ≤ fuel →
      wpAny P .any l.toArray (fun e a' w' => ∃ s' S' β', Q e s' ∧ Sim Γ s' a' w' S' β') fuel listed a w := by
    intro fuel
    induction fuel with
    | zero =>
      intro listed M g T a w S β hsz hc hM hch hsim hfu
      have hnil := List.eq_nil_of_length_eq_zero (Nat.le_zero.1 hfu)
      have hall : ∀ j, j < l.length → listed.getD j false = true := by
        intro j hj
        obtain ⟨x, hx, rfl⟩ := hhas j hj
        rw [hnil] at hM
        have := List.filter_eq_nil_iff.1 hM.symm x hx
        simpa using this
      refine ⟨?_, hdone M listed g T a w S β hM hch hall hsim⟩
      simp only [Region.ready]
      rw [List.filter_eq_nil_iff]
      intro j hj
      simp only [List.mem_range, hn] at hj
      have h1 := hall j hj
      have h2 : listed.getD j true = true := by
        simp only [Array.getD_eq_getD_getElem?] at h1 ⊢
        cases hx : listed[j]? with
        | none => rw [hx] at h1; simp at h1
        | some b => rw [hx] at h1; simpa using h1
      simp [h2]
    | succ fuel ih =>
      intro listed M g T a w S β hsz hc hM hch hsim hfu
      refine ⟨fun hr => hdone M listed g T a w S β hM hch (hready listed hsz hr) hsim, fun i hi => ?_⟩
      rw [mem_ready] at hi
      obtain ⟨hil, o, ho, hpre⟩ := hi
      have ho' : l[i]? = some o := by simpa using ho
      have hin : i < l.length := (List.getElem?_eq_some_iff.1 ho').1
      have hisz : i < listed.size := by omega
      have hDi : listed.getD i false = false := by
        simp only [Array.getD_eq_getD_getElem?, Array.getElem?_eq_getElem hisz, Option.getD_some] at hil ⊢
        exact hil
      obtain ⟨x, hxL, hxi⟩ := hhas i hin
      have hxo : x.2.1 = o := by
        have := hLo x hxL
        rw [hxi, ho'] at this
        exact (Option.some.inj this).symm
      have hxM : x ∈ M := by rw [hM]; exact List.mem_filter.2 ⟨hxL, by simp [hxi, hDi]⟩
      obtain ⟨A, C, hAC⟩ := List.append_of_mem hxM
      have hMs : M.Pairwise fun a b => a.1 < b.1 := by rw [hM]; exact hsorted.filter _
      have hMp : M.Pairwise (PairX l.toArray) := by rw [hM]; exact hpair.filter _
      rw [hAC] at hch hMs hMp
      have hA : ∀ b ∈ A, Apart l.toArray b.2.1 b.2.2 x.2.1 x.2.2 := by
        intro b hb
        have hbM : b ∈ M := by rw [hAC]; simp [hb]
        rw [hM] at hbM
        obtain ⟨hbL, hbl⟩ := List.mem_filter.1 hbM
        have hlt : b.1 < x.1 := (List.pairwise_append.1 hMs).2.2 b hb x (by simp)
        have hnr : reach l.toArray l.length i b.1 = false := by
          cases hr : reach l.toArray l.length i b.1 with
          | false => rfl
          | true =>
            exfalso
            have := reach_closed hc _ i b.1 hr fun o' ho'' e he hb' => by
              rw [ho] at ho''; cases ho''
              exact hpre e he hb'
            simp [this] at hbl
        have hT : TApart b.2.1 b.2.2 x.2.1 x.2.2 := by
          rcases (List.pairwise_append.1 hMp).2.2 b hb x (by simp) with h | h
          · rw [hxi, hn, hnr] at h; cases h
          · exact h
        obtain ⟨h1, h2⟩ := hord x.1 b.1 _ _ (hLo x hxL) (hLo b hbL) hlt (by rw [hxi]; exact hnr)
        exact ⟨h1, h2, hT.1, hT.2.1, hT.2.2.1, hT.2.2.2⟩
      have hfr := Chain.front hch hA
      obtain ⟨xi, xo, xe⟩ := x
      subst hxi; subst hxo
      cases hfr with
      | cons happ hrest =>
        refine OInst.step (hinst _ hxL) happ hsim ho fun a' w' S' β' hsim' => ?_
        have hset : ∀ j, (listed.setIfInBounds xi true).getD j false = if j = xi then true else listed.getD j false := by
          intro j
          by_cases h : j = xi
          · subst h; simp [Array.getD_eq_getD_getElem?, hisz]
          · simp only [Array.getD_eq_getD_getElem?, if_neg h]; rw [Array.getElem?_setIfInBounds_ne (Ne.symm h)]
        refine ih _ (A ++ C) _ _ a' w' S' β' (by simpa using hsz) ?_ ?_ hrest hsim' (by rw [hAC] at hfu; simp at hfu ⊢; omega)
        · intro j oj hj hoj e' he' hb'
          dsimp only at hj ⊢
          rw [hset] at hj ⊢
          by_cases hji : j = xi
          · subst hji
            rw [ho] at hoj; cases hoj
            have := hpre e' he' hb'
            rw [this]; simp
          · rw [if_neg hji] at hj
            have := hc j oj hj hoj e' he' hb'
            dsimp only at this
            rw [this]; simp
        · have h1 : L.filter (fun y => !(listed.setIfInBounds xi true).getD y.1 false) = (L.filter fun y => !listed.getD y.1 false).filter fun y => y.1 != xi := by
            rw [List.filter_filter]
            apply List.filter_congr
            intro y hy
            rw [hset]
            by_cases h : y.1 = xi
            · simp [h]
            · simp [h]
          rw [h1, ← hM, hAC]
          have hneA : ∀ b ∈ A, b.1 ≠ xi := fun b hb e => by
            have := (List.pairwise_append.1 hMs).2.2 b hb (xi, xo, xe) (by simp)
            simp at this; omega
          have hneC : ∀ b ∈ C, b.1 ≠ xi := fun b hb e => by
            have := (List.pairwise_cons.1 (List.pairwise_append.1 hMs).2.1).1 b hb
            simp at this; omega
          rw [List.filter_append, List.filter_cons]
          rw [if_neg (by simp)]
          rw [List.filter_eq_self.2 fun b hb => by simpa using hneA b hb, List.filter_eq_self.2 fun b hb => by simpa using hneC b hb]
  have h0 : ∀ j, (Array.replicate l.length false).getD j false = false := by
    intro j
    simp only [Array.getD_eq_getD_getElem?, Array.getElem?_replicate]
    split <;> rfl
  rw [hn]
  refine key l.length (Array.replicate l.length false) L s.get s.gob a _ S β (by simp) (fun i o h => by dsimp only at h; rw [h0] at h; cases h) ?_ hch ?_ ?_
  · symm
    rw [List.filter_eq_self]
    intro x _
    rw [h0]; rfl
  · exact ⟨hs.defers, hs.sz, fun i x hi => by
      obtain ⟨v, hv, hr⟩ := hs.tm i x hi
      exact ⟨v, hv, hr.mono (fun _ _ => rfl) (fun _ h => h) fun _ _ => rfl⟩,
      ⟨hs.mem.lt, fun o X ho => (hs.mem.ob o X ho).mono (fun _ _ => rfl) (fun _ _ => rfl) (fun _ h => h) fun _ _ => rfl, hs.mem.own, hs.mem.sep, hs.mem.os, hs.mem.tape, hs.mem.output, hs.mem.size, hs.mem.block, hs.mem.sub, hs.mem.sup, hs.mem.fix, hs.mem.clm, hs.mem.sepc⟩⟩
  · have := congrArg List.length hL
    simp at this
    omega

end AM
end Go.Proofs.Ytfcmmpmdofejeaa
