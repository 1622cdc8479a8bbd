/- Calls that are handed lists and variables of the caller's own; no conditions. -/
import Derived.Test.YtbgpofimflnabaaEv4
set_option linter.unusedSimpArgs false
set_option linter.unusedVariables false
namespace Go.Proofs.Ytbgpofimflnabaa
namespace AM
open Go

def frzOne (s : St) (k : Nat) : St := match s.gob k with
  | some (.lst _ es xs) => if 0 < es then s.frz k xs else s
  | _ => s
def frzAll (s : St) : List Nat → St
  | [] => s
  | k :: r => frzAll (frzOne s k) r
theorem frzOne_sim {Γ : Cx} {s : St} {k : Nat} {a : Act} {w : World} {S : Nat → Prop} {β : Nat → OLoc} (hs : Sim Γ s a w S β) : ∃ S', Sim Γ (frzOne s k) a w S' β := by
  unfold frzOne
  split
  · rename_i E es xs hk
    split
    · rename_i h
      exact hs.frz hk h
    · exact ⟨S, hs⟩
  · exact ⟨S, hs⟩
theorem frzAll_sim {Γ : Cx} {a : Act} {w : World} {β : Nat → OLoc} : ∀ {ks : List Nat} {s : St} {S : Nat → Prop}, Sim Γ s a w S β → ∃ S', Sim Γ (frzAll s ks) a w S' β
  | [], _, S, hs => ⟨S, hs⟩
  | k :: r, s, S, hs => by
    obtain ⟨S', h⟩ := frzOne_sim (k := k) hs
    exact frzAll_sim (ks := r) h
theorem To.frzAll {s : St} {ks : List Nat} : To s (frzAll s ks) := fun _ _ _ S β hs => by
  obtain ⟨S', h⟩ := frzAll_sim hs
  exact ⟨S', β, h⟩

/-- Scalars alone. -/
def Da.flat : Da → Bool
  | .sl _ => false
  | _ => true
mutual
def AV.flat : AV → Bool
  | .one (.d x) => x.flat
  | .dat ds => ds.all Da.flat
  | .tup ys => AV.flatT ys
  | _ => false
def AV.flatT : List AV → Bool
  | [] => true
  | y :: r => y.flat && AV.flatT r
end
section
variable {w w' : World} {S S' : Nat → Prop} {β β' : Nat → OLoc}
theorem RepF.flatF {xs : List Da} {vs : List Value} {fp : List Nat} (h : RepF w xs vs fp) (hf : xs.all Da.flat = true) : RepF w' xs vs [] := by
  induction h with
  | nil => exact .nil
  | int _ ih => exact .int (ih (by simpa [Da.flat] using hf))
  | bool _ ih => exact .bool (ih (by simpa [Da.flat] using hf))
  | str hs _ ih => exact .str hs (ih (by simpa [Da.flat] using hf))
  | fn _ ih => exact .fn (ih (by simpa [Da.flat] using hf))
  | sl0 => simp [Da.flat] at hf
  | sl1 => simp [Da.flat] at hf
theorem RepDs.flatD {xs : List Da} {vs : List Value} (h : RepDs w S xs vs) (hf : xs.all Da.flat = true) : RepDs w' S' xs vs := by
  obtain ⟨fp, h, _⟩ := h
  exact ⟨[], h.flatF hf, by simp⟩
theorem RepVs.flatV {ys : List AV} {vs : List Value} (h : RepVs w S β ys vs) (hf : AV.flatT ys = true) : RepVs w' S' β' ys vs := by
  induction h with
  | nil => exact .nil
  | one h _ ih =>
    simp only [AV.flatT, Bool.and_eq_true] at hf
    refine .one ?_ (ih hf.2)
    cases h with
    | d h => exact .d (h.flatD (by simpa [AV.flat] using hf.1))
    | _ => simp [AV.flat] at hf
  | dat h _ ih =>
    simp only [AV.flatT, Bool.and_eq_true] at hf
    exact .dat (h.flatD (by simpa [AV.flat] using hf.1)) (ih hf.2)
  | agg _ _ _ => simp [AV.flatT, AV.flat] at hf
  | tup _ _ ih1 ih2 =>
    simp only [AV.flatT, Bool.and_eq_true] at hf
    exact .tup (ih1 (by simpa [AV.flat] using hf.1)) (ih2 hf.2)
theorem RepV.flatV {y : AV} {v : Value} (h : RepV w S β y v) (hf : y.flat = true) : RepV w' S' β' y v := RepVs.flatV h (by simpa [AV.flatT] using hf)
end

section
variable {Γ : Cx} {P : Program} {E : Env} {z : Prop} {o : Oper} {s s' sF : St}
theorem xop_of {y : AV} {nob : List (Nat × Ob)} (h : OpS P o s s y nob) (hd : o.dst.all (· < Γ.n) = true) (hf : s.fresh nob = true) : XOp Γ P o s (s.upd o.dst y nob) := by
  obtain ⟨us, h1, h2⟩ := h
  intro a w S β K' R hs hK
  exact h1 a w S β hs.mem.lt (fun x X hx _ => hs.eval hx) (fun p hp => hs.mem.ob _ _ (usOk_spec h2 p hp)) K' R fun v w' S' β' hG hy => hK _ _ _ _ (hs.upd hG hy hd hf)
theorem xop_to (ht : To s sF) (h : XOp Γ P o sF s') : XOp Γ P o s s' := by
  intro a w S β K' R hs hK
  obtain ⟨S', β', h'⟩ := ht Γ a w S β hs
  exact h a w S' β' K' R h' hK
/-- Lists lent to a call that gives scalars back. -/
theorem xop_lend {ks : List Nat} {y : AV} (h : OpS P o (frzAll s ks) (frzAll s ks) y []) (hy : y.flat = true) (hd : o.dst.all (· < Γ.n) = true) : XOp Γ P o s (s.upd o.dst y []) := by
  obtain ⟨us, h1, h2⟩ := h
  intro a w S β K' R hs hK
  obtain ⟨S', h'⟩ := frzAll_sim (ks := ks) hs
  refine h1 a w S' β h'.mem.lt (fun x X hx _ => h'.eval hx) (fun p hp => h'.mem.ob _ _ (usOk_spec h2 p hp)) K' R fun v w' S2 β' hG hyr => ?_
  have hβ : β' = β := funext fun o => hG.loc o (by simp)
  subst hβ
  have hG2 : Grow w S β' [] w' S β' := ⟨hG.os, hG.tape, hG.output, hG.size, hG.block, fun _ h => h, fun b hb => ⟨Nat.lt_of_lt_of_le (hs.mem.lt b hb) hG.size, .inl hb⟩, fun _ _ => rfl, by simp, by simp, by simp⟩
  refine hK _ _ S β' (hs.upd hG2 (hyr.flatV hy) hd (by simp [St.fresh]))
end

def addNew (l : List Nat) (x : Nat) : List Nat := if l.contains x then l else l ++ [x]
def addAll (l xs : List Nat) : List Nat := xs.foldl addNew l
/-- The objects that are reached from some numbers. -/
def reachOb (s : St) : Nat → List Nat → List Nat
  | 0, l => l
  | n + 1, l => reachOb s n (l.foldl (fun a k => match s.gob k with
    | some X => addAll a X.ids
    | none => a) l)
def numIds (n : Nat) : List Nat → List (Nat × Nat)
  | [] => []
  | k :: r => (k, n) :: numIds (n + 1) r
def getObs (s : St) : List Nat → Option (List (Nat × Ob))
  | [] => some []
  | k :: r => match s.gob k, getObs s r with
    | some X, some Y => some ((k, X) :: Y)
    | _, _ => none
theorem getObs_us {s : St} : ∀ {l : List Nat} {I : List (Nat × Ob)}, getObs s l = some I → usOk s I
  | [], I, h => by simp [getObs] at h; subst h; trivial
  | k :: r, I, h => by
    simp only [getObs] at h
    split at h
    · rename_i X Y h1 h2
      simp at h; subst h
      exact ⟨h1, getObs_us h2⟩
    · simp at h

/-- The shapes of what a variable holds behind a call: a list in it counts as new. -/
def shA (I : List (Nat × Ob)) : At → Nat → (At → List (Nat × Ob) → Nat → Prop) → Prop
  | .d (.int k _), n, K => ∃ m : Int, K (.d (.int k m)) [] n
  | .d (.bool _), n, K => ∃ b : Bool, K (.d (.bool b)) [] n
  | .d (.str _), n, K => ∃ q : ByteArray, K (.d (.str q)) [] n
  | .d (.sl _), n, K => ∃ xs : List (List Da), K (.d (.sl xs)) [] n
  | .ol o, n, K => match look I o with
    | some (.lst E es _) => ∃ xs : List (List Da), K (.ol n) [(n, .lst E es xs)] (n + 1)
    | _ => K (.ol o) [] n
  | x, n, K => K x [] n
def shAs (I : List (Nat × Ob)) : List At → Nat → (List At → List (Nat × Ob) → Nat → Prop) → Prop
  | [], n, K => K [] [] n
  | x :: r, n, K => shA I x n fun y O m => shAs I r m fun ys O' m' => K (y :: ys) (O ++ O') m'
def shO (I : List (Nat × Ob)) (dir : List Nat) : List (Nat × Ob) → Nat → (List (Nat × Ob) → List (Nat × Ob) → Prop) → Prop
  | [], n, K => K [] []
  | (k, .var cs) :: r, n, K => shAs I cs n fun ys O m => shO I dir r m fun Oi On => K ((k, .var ys) :: Oi) (O ++ On)
  | (k, .lst E es _) :: r, n, K => match dir.contains k with
    | true => ∃ xs : List (List Da), shO I dir r n fun Oi On => K ((k, .lst E es xs) :: Oi) On
    | false => shO I dir r n K
theorem shA_ex {I : List (Nat × Ob)} {x : At} {n : Nat} {K : At → List (Nat × Ob) → Nat → Prop} (h : shA I x n K) : ∃ y O m, K y O m := by
  unfold shA at h
  split at h
  · obtain ⟨m, h⟩ := h; exact ⟨_, _, _, h⟩
  · obtain ⟨m, h⟩ := h; exact ⟨_, _, _, h⟩
  · obtain ⟨m, h⟩ := h; exact ⟨_, _, _, h⟩
  · obtain ⟨m, h⟩ := h; exact ⟨_, _, _, h⟩
  · split at h
    · obtain ⟨m, h⟩ := h; exact ⟨_, _, _, h⟩
    · exact ⟨_, _, _, h⟩
  · exact ⟨_, _, _, h⟩
theorem shAs_ex {I : List (Nat × Ob)} : ∀ {cs : List At} {n : Nat} {K : List At → List (Nat × Ob) → Nat → Prop}, shAs I cs n K → ∃ ys O m, K ys O m
  | [], _, _, h => ⟨_, _, _, h⟩
  | x :: r, n, K, h => by
    obtain ⟨y, O, m, h⟩ := shA_ex h
    obtain ⟨ys, O', m', h⟩ := shAs_ex h
    exact ⟨_, _, _, h⟩
theorem shO_ex {I : List (Nat × Ob)} {dir : List Nat} : ∀ {J : List (Nat × Ob)} {n : Nat} {K : List (Nat × Ob) → List (Nat × Ob) → Prop}, shO I dir J n K → ∃ Oi On, K Oi On
  | [], _, _, h => ⟨_, _, h⟩
  | (k, .var cs) :: r, n, K, h => by
    obtain ⟨ys, O, m, h⟩ := shAs_ex h
    obtain ⟨Oi, On, h⟩ := shO_ex h
    exact ⟨_, _, h⟩
  | (k, .lst E es xs) :: r, n, K, h => by
    simp only [shO] at h
    split at h
    · obtain ⟨xs, h⟩ := h
      obtain ⟨Oi, On, h⟩ := shO_ex h
      exact ⟨_, _, h⟩
    · exact shO_ex h

/-- A call that is handed objects. -/
def vXCall (z : Prop) (P : Program) (E : Env) (o : Oper) (s : St) (f : FuncId) (zs : List AV) (k : St → Prop) : Prop :=
  chk z (E.fns.contains f) <| opt z (look E.sig f) fun sg => opt z (getObs s (reachOb s 8 (addAll [] (AV.idsT zs)))) fun I =>
    let l1 := numIds 2000 (I.map (·.1))
    let xs := AV.mapT (renAt l1) (zs.map AV.norm)
    let I' := renO l1 I
    rsh sg 0 fun r On m => shO I' (AV.idsT xs) I' m fun Oi On' =>
      let O := Oi ++ (On ++ On')
      let l2 := (Oi.map fun p => (p.1, ((I.drop (p.1 - 2000)).map (·.1)).headD 0)) ++ newMap (o.dst.getD 490) (On ++ On')
      chk z (renOk l1 l2 I O (mvOf O) && xok s I (renO l2 O) ((mvOf O).map fun m => (look l2 m).getD m)) <|
        XC P f xs I' r O ∧ k (s.xupd o.dst (r.map (renAt l2)) I (renO l2 O) ((mvOf O).map fun m => (look l2 m).getD m))

def RS.flat : RS → Bool
  | .c .l => false
  | .c _ => true
  | .d ks => ks.all fun c => decide (c ≠ .l)
  | .o _ _ => false
  | .t rs => go rs
where go : List RS → Bool
  | [] => true
  | r :: rs => r.flat && go rs

def olIds : List AV → List Nat
  | [] => []
  | .one (.ol k) :: r => k :: olIds r
  | .agg xs :: r => AV.idsL xs ++ olIds r
  | _ :: r => olIds r
def noIds (xs : List AV) : Bool := (AV.idsT xs).isEmpty

/-- A call, by what it is handed. -/
def vY (z : Prop) (P : Program) (E : Env) (n : Nat) (o : Oper) (s : St) (k : St → Prop) : Prop := match o.op with
  | .call c => match c.callee with
    | .value v => chk z (o.dst.all (· < n)) <| opt z (s.ev v) fun V => opt z (argsA s.ev c.args.toList) fun xs => match V with
      | .one (.d (.fn f)) => opt z (look E.sig f) fun sg =>
        match noIds xs with
        | true => vCall z P E (o.dst.getD 0) V xs fun y nob => chk z (s.fresh nob) (k (s.upd o.dst y nob))
        | false =>
          let ks := match E.obj.contains f with
            | true => []
            | false => olIds xs
          let sF := frzAll s ks
          opt z (argsA sF.ev c.args.toList) fun xs' => opt z (sF.ev v) fun V' => match noIds xs' with
            | true => match sg.flat with
              | true => vCall z P E 0 V' xs' fun y nob => chk z (y.flat && nob.isEmpty) (k (s.upd o.dst y []))
              | false => vCall z P E (o.dst.getD 0) V' xs' fun y nob => chk z (sF.fresh nob) (k (sF.upd o.dst y nob))
            | false => match V' with
              | .one (.d (.fn f')) => vXCall z P E o sF f' xs' k
              | _ => z
      | .one (.clo f caps) =>
          let ks := olIds xs
          let sF := frzAll s ks
          opt z (argsA sF.ev c.args.toList) fun xs' => opt z (sF.ev v) fun V' => match V' with
            | .one (.clo f' caps') => vXCall z P E o sF f' (xs' ++ caps'.map fun p => .one (.op p.1 p.2)) k
            | _ => z
      | _ => z
    | _ => z
  | _ => z

section
variable {Γ : Cx} {P : Program} {E : Env} {z : Prop} {o : Oper} {s : St} {k : St → Prop}
theorem vXCall_sound (hE : EnvOk P E) (hz : ¬ z) {c : Operand} {ag : List Operand} {ts : Array TypeId} {v : AV} {xs zs : List AV} {f : FuncId} (ho : o.op = .call { callee := .value c, args := ag.toArray, argTypes := ts }) (hd : o.dst.all (· < Γ.n) = true) (hc : s.ev c = some v) (has : argsA s.ev ag = some xs)
    (hv : (v = .one (.d (.fn f)) ∧ zs = xs) ∨ ∃ caps, v = .one (.clo f caps) ∧ zs = xs ++ caps.map fun p => .one (.op p.1 p.2)) (h : vXCall z P E o s f zs k) : ∃ s', XOp Γ P o s s' ∧ k s' := by
  unfold vXCall at h
  obtain ⟨hf, h⟩ := chk_inv hz h
  obtain ⟨sg, _, h⟩ := opt_inv hz h
  obtain ⟨I, hI, h⟩ := opt_inv hz h
  obtain ⟨r, On, m, h⟩ := rsh_ex sg h
  obtain ⟨Oi, On', h⟩ := shO_ex h
  obtain ⟨h1, h2, h⟩ := chk_inv hz h
  simp only [Bool.and_eq_true] at h1
  simp only [List.contains_iff_mem] at hf
  obtain ⟨fn, hfn, hb, hn⟩ := fnOk_spec (List.all_eq_true.1 hE.fns f hf)
  refine ⟨_, ?_, h⟩
  have hx := (xcall_ren _ _ h2.h rfl rfl rfl rfl rfl h1.1).norm
  refine os_vcall ?_ ho hc has hd (getObs_us hI) h1.2
  rcases hv with ⟨rfl, rfl⟩ | ⟨caps, rfl, rfl⟩
  · exact vcall_fn hx hfn hb hn
  · exact vcall_clo hx rfl hfn hb hn
theorem vY_sound (hE : EnvOk P E) (hz : ¬ z) (h : vY z P E Γ.n o s k) : ∃ s', XOp Γ P o s s' ∧ k s' := by
  unfold vY at h
  split at h
  · rename_i c ho
    obtain ⟨callee, args, ats⟩ := c
    simp only at h
    split at h
    · rename_i v
      obtain ⟨hd, h⟩ := chk_inv hz h
      obtain ⟨V, hV, h⟩ := opt_inv hz h
      obtain ⟨xs, hxs, h⟩ := opt_inv hz h
      have ho' : o.op = .call { callee := .value v, args := args.toList.toArray, argTypes := ats } := by simpa using ho
      split at h
      · rename_i f
        obtain ⟨sg, _, h⟩ := opt_inv hz h
        split at h
        · obtain ⟨y, nob, h1, h⟩ := vCall_sound (s0 := s) hE hz ho' hV hxs h
          obtain ⟨hf, h⟩ := chk_inv hz h
          exact ⟨_, xop_of h1 hd hf, h⟩
        · obtain ⟨xs', hxs', h⟩ := opt_inv hz h
          obtain ⟨V', hV', h⟩ := opt_inv hz h
          split at h
          · split at h
            · obtain ⟨y, nob, h1, h⟩ := vCall_sound (s0 := frzAll s _) hE hz ho' hV' hxs' h
              obtain ⟨hf, h⟩ := chk_inv hz h
              simp only [Bool.and_eq_true, List.isEmpty_iff] at hf
              rw [hf.2] at h1
              exact ⟨_, xop_lend h1 hf.1 hd, h⟩
            · obtain ⟨y, nob, h1, h⟩ := vCall_sound (s0 := frzAll s _) hE hz ho' hV' hxs' h
              obtain ⟨hf, h⟩ := chk_inv hz h
              exact ⟨_, xop_to To.frzAll (xop_of h1 hd hf), h⟩
          · split at h
            · obtain ⟨s', h1, h⟩ := vXCall_sound hE hz ho' hd hV' hxs' (.inl ⟨rfl, rfl⟩) h
              exact ⟨s', xop_to To.frzAll h1, h⟩
            · exact absurd h hz
      · obtain ⟨xs', hxs', h⟩ := opt_inv hz h
        obtain ⟨V', hV', h⟩ := opt_inv hz h
        split at h
        · obtain ⟨s', h1, h⟩ := vXCall_sound hE hz ho' hd hV' hxs' (.inr ⟨_, rfl, rfl⟩) h
          exact ⟨s', xop_to To.frzAll h1, h⟩
        · exact absurd h hz
      · exact absurd h hz
    · exact absurd h hz
  · exact absurd h hz
end

end AM
end Go.Proofs.Ytbgpofimflnabaa
