/- What one operation asks, all forms that write nothing; calls; no conditions. -/
import Derived.Test.YtfcmmpmdofejeaaEv2
set_option linter.unusedSimpArgs false
set_option linter.unusedVariables false
namespace Go.Proofs.Ytfcmmpmdofejeaa
namespace AM
open Go

/-- Arguments as data, wherever they are. -/
def AV.norm : AV → AV
  | .one .e0 => .one (.d (.sl []))
  | .agg xs => mkAggN xs
  | x => x
theorem RepV.norm {w : World} {S : Nat → Prop} {β : Nat → OLoc} {x : AV} {v : Value} (h : RepV w S β x v) : RepV w S β x.norm v := by
  unfold AV.norm
  split
  · have := h.one_inv
    cases this
    exact RepV.one (.d (RepDs.sl_nil _ _))
  · obtain ⟨cs, hv, h2⟩ := h.agg_inv
    rw [hv]; exact RepAs.mkN h2
  · exact h
theorem RepVs.norm {w : World} {S : Nat → Prop} {β : Nat → OLoc} {xs : List AV} {vs : List Value} (h : RepVs w S β xs vs) : RepVs w S β (xs.map AV.norm) vs := by
  induction h with
  | nil => exact .nil
  | one h _ ih => exact RepVs.cons (RepV.norm (RepVs.one h .nil)) ih
  | dat h _ ih => exact RepVs.cons (RepV.norm (RepVs.dat h .nil)) ih
  | agg h _ ih => exact RepVs.cons (RepV.norm (RepVs.agg h .nil)) ih
  | tup h _ _ ih => exact RepVs.cons (RepV.norm (RepVs.tup h .nil)) ih
theorem ACall.norm {P : Program} {f : FuncId} {xs : List AV} {r : AV} {nob : List (Nat × Ob)} (h : ACall P f (xs.map AV.norm) r nob) : ACall P f xs r nob := fun w S β vs hlt hr => h w S β vs hlt hr.norm
theorem XCall.norm {P : Program} {f : FuncId} {xs : List AV} {r : AV} {I O : List (Nat × Ob)} {mv : List Nat} (h : XCall P f (xs.map AV.norm) r I O mv) : XCall P f xs r I O mv := fun w S β vs hlt hr => h w S β vs hlt hr.norm

def mvOf (O : List (Nat × Ob)) : List Nat := (O.map (·.1)).filter fun k => decide (k < 2000)
/-- A function's contract: from its arguments and the objects handed in, to its result and the objects left; numbers below 2000 are new. -/
structure XC (P : Program) (f : FuncId) (xs : List AV) (I : List (Nat × Ob)) (r : AV) (O : List (Nat × Ob)) : Prop where
  h : XCall P f xs r I O (mvOf O)

/-- The caller's numbers for what a call made. -/
def newMap (d : Nat) : List (Nat × Ob) → List (Nat × Nat)
  | [] => []
  | (k, _) :: r => (k, d) :: newMap (d + 500) r
theorem RepVs.ren0 {w : World} {S : Nat → Prop} {β : Nat → OLoc} {xs : List AV} {vs : List Value} (h : RepVs w S β xs vs) : RepVs w S β (AV.mapT (renAt []) xs) vs := h.map (RepA.ren fun o k h => by simp [look] at h) fun _ _ h => h
/-- Arguments of a call that is handed data alone. -/
def argN (xs : List AV) : List AV := AV.mapT (renAt []) (xs.map AV.norm)
theorem ACall.arg0 {P : Program} {f : FuncId} {xs : List AV} {r : AV} {nob : List (Nat × Ob)} (h : ACall P f (argN xs) r nob) : ACall P f xs r nob := fun w S β vs hlt hr => h w S β vs hlt hr.norm.ren0

/-- The cells of a struct that holds lists of its own. -/
def rshK : List RK → Nat → (List At → List (Nat × Ob) → Nat → Prop) → Prop
  | [], n, K => K [] [] n
  | .k c :: r, n, K => shC c fun d => rshK r n fun ys O m => K (.d d :: ys) O m
  | .o E es :: r, n, K => ∃ xs : List (List Da), rshK r (n + 1) fun ys O m => K (.ol n :: ys) ((n, .tr E es xs) :: O) m
  | .e :: r, n, K => rshK r n fun ys O m => K (.e0 :: ys) O m
theorem rshK_ex : ∀ (r : List RK) {n : Nat} {K : List At → List (Nat × Ob) → Nat → Prop}, rshK r n K → ∃ y O m, K y O m
  | [], n, K, h => ⟨_, _, _, h⟩
  | .k c :: r, n, K, h => by
    obtain ⟨d, h⟩ := shC_ex h
    obtain ⟨y, O, m, h⟩ := rshK_ex r h
    exact ⟨_, _, _, h⟩
  | .o E es :: r, n, K, h => by
    obtain ⟨xs, h⟩ := h
    obtain ⟨y, O, m, h⟩ := rshK_ex r h
    exact ⟨_, _, _, h⟩
  | .e :: r, n, K, h => by
    obtain ⟨y, O, m, h⟩ := rshK_ex r (n := n) h
    exact ⟨_, _, _, h⟩
/-- The shapes of results; new objects are numbered from 0. -/
def rsh : RS → Nat → (AV → List (Nat × Ob) → Nat → Prop) → Prop
  | .c k, n, K => shC k fun d => K (.one (.d d)) [] n
  | .d ks, n, K => shp ks fun ds => K (.dat ds) [] n
  | .o E es, n, K => ∃ xs : List (List Da), K (.one (.ol n)) [(n, .tr E es xs)] (n + 1)
  | .b E es, n, K => ∃ xs : List (List Da), K (.one (.ol n)) [(n, .lst E es xs)] (n + 1)
  | .s ks, n, K => rshK ks n fun ys O m => K (.agg ys) O m
  | .p ks, n, K => rshK ks (n + 1) fun ys O m => K (.one (.op n 0)) ((n, .var ys) :: O) m
  | .t rs, n, K => go rs n fun ys O m => K (.tup ys) O m
where go : List RS → Nat → (List AV → List (Nat × Ob) → Nat → Prop) → Prop
  | [], n, K => K [] [] n
  | r :: rs, n, K => rsh r n fun y O m => go rs m fun ys O' m' => K (y :: ys) (O ++ O') m'
mutual
theorem rsh_ex : ∀ (r : RS) {n : Nat} {K : AV → List (Nat × Ob) → Nat → Prop}, rsh r n K → ∃ y O m, K y O m
  | .c k, n, K, h => by
    simp only [rsh] at h
    obtain ⟨d, h⟩ := shC_ex h
    exact ⟨_, _, _, h⟩
  | .d ks, n, K, h => by
    simp only [rsh] at h
    obtain ⟨ds, _, h⟩ := shp_ex h
    exact ⟨_, _, _, h⟩
  | .o E es, n, K, h => by
    simp only [rsh] at h
    obtain ⟨xs, h⟩ := h
    exact ⟨_, _, _, h⟩
  | .b E es, n, K, h => by
    simp only [rsh] at h
    obtain ⟨xs, h⟩ := h
    exact ⟨_, _, _, h⟩
  | .s ks, n, K, h => by
    simp only [rsh] at h
    obtain ⟨y, O, m, h⟩ := rshK_ex ks h
    exact ⟨_, _, _, h⟩
  | .p ks, n, K, h => by
    simp only [rsh] at h
    obtain ⟨y, O, m, h⟩ := rshK_ex ks h
    exact ⟨_, _, _, h⟩
  | .t rs, n, K, h => by
    simp only [rsh] at h
    obtain ⟨ys, O, m, h⟩ := rshL_ex rs h
    exact ⟨_, _, _, h⟩
theorem rshL_ex : ∀ (rs : List RS) {n : Nat} {K : List AV → List (Nat × Ob) → Nat → Prop}, rsh.go rs n K → ∃ ys O m, K ys O m
  | [], n, K, h => ⟨_, _, _, h⟩
  | r :: rs, n, K, h => by
    simp only [rsh.go] at h
    obtain ⟨y, O, m, h⟩ := rsh_ex r h
    obtain ⟨ys, O', m', h⟩ := rshL_ex rs h
    exact ⟨_, _, _, h⟩
end

/-- A call of a function with data alone. -/
def vCall (z : Prop) (P : Program) (E : Env) (d : Nat) (v : AV) (xs : List AV) (k : AV → List (Nat × Ob) → Prop) : Prop := match v with
  | .one (.d (.fn f)) => chk z ((AV.idsT xs).isEmpty && E.fns.contains f) <| opt z (look E.sig f) fun sg => rsh sg 0 fun r O _ =>
      chk z (renOk [] (newMap d O) [] O (mvOf O)) (XC P f (argN xs) [] r O ∧ k (r.map (renAt (newMap d O))) (renO (newMap d O) O))
  | _ => z

theorem opP_callV {P : Program} {o : Oper} {av : Operand → Option AV} {c : Operand} {f : FuncId} {fn : Func} {ag : List Operand} {ts : Array TypeId} {xs : List AV} {r : AV} {nob : List (Nat × Ob)} (ho : o.op = .call { callee := .value c, args := ag.toArray, argTypes := ts }) (hcv : av c = some (.one (.d (.fn f)))) (hf : P.funcs[f]? = some fn) (hb : fn.body.isNone = false) (hname : (fn.name == "runtime.NumGoroutine") = false)
    (has : argsA av ag = some xs) (hc : ACall P f xs r nob) : OpP P o av [] r nob := by
  intro a w S β hlt hr _ K Q hK
  have h1 := argsA_rep (w := w) (S := S) (β := β) (ρ := a.eval) ag xs (fun x X hx hm => hr x X hx (by simp [ho, Op.operands, Call.operands, hm])) has
  have h2 := (hr c _ hcv (by simp [ho, Op.operands, Call.operands])).fn_inv
  have he : (execOp a.eval o).run P w = .ok (.enter f (ag.map a.eval).toArray) w := by
    simp only [execOp, ho, resolve, h2, Deferred.ofValue, Sem.run_bind, Sem.run_pure, Result.andThen_ok, invoke, List.map_toArray]
    rw [show (#[] : Array Value) ++ (ag.map a.eval).toArray ++ #[] = (ag.map a.eval).toArray by simp]
    exact run_call_func hf hb hname _ _
  unfold Oper.wp
  rw [he, Oper.upon_enter]
  refine (hc w S β _ hlt h1).mono ?_
  rintro e w' ⟨v, S', β', rfl, hG, hrep⟩
  exact hK v w' S' β' hG hrep

theorem opP_sameS {P : Program} {o : Oper} {av : Operand → Option AV} {x : Operand} {src dst : TypeId} {q : ByteArray} (ho : o.op = .convert src dst x) (hs : P.underlying src = some .string) (hd : P.underlying dst = some .string) (hx : av x = some (T q)) : OpP P o av [] (T q) [] := by
  refine opP_val fun a w S β _ hr _ => ?_
  have h := hr x _ hx (by simp [ho, Op.operands])
  have h1 := h.str_inv
  refine ⟨.string q, ?_, RepV.str _ h1.2⟩
  simp [execOp, ho, h1.1, convert, run_underlying hs, run_underlying hd]

section
variable {P : Program} {E : Env} {z : Prop} {o : Oper} {s s0 : St}
theorem ACall.ren {f : FuncId} {xs : List AV} {r : AV} {O : List (Nat × Ob)} {l : List (Nat × Nat)} (hok : renOk [] l [] O (mvOf O) = true) (h : XC P f (argN xs) [] r O) : ACall P f xs (r.map (renAt l)) (renO l O) := by
  have := xcall_ren (ys := xs.map AV.norm) (I' := []) [] l h.h rfl rfl rfl rfl rfl hok
  refine ACall.norm ?_
  refine this.fresh ?_
  simp only [renOk, Bool.and_eq_true, List.all_eq_true] at hok
  rw [List.all_eq_true]
  intro m hm
  obtain ⟨k, hk, rfl⟩ := List.mem_map.1 hm
  obtain ⟨hk1, _⟩ := List.mem_filter.1 hk
  obtain ⟨p, hp, rfl⟩ := List.mem_map.1 hk1
  rw [renO_map, List.any_eq_true]
  exact ⟨_, List.mem_map.2 ⟨p, hp, rfl⟩, by simp⟩
theorem vCall_sound (hE : EnvOk P E) (hz : ¬ z) {c : Operand} {ag : List Operand} {ts : Array TypeId} {v : AV} {xs : List AV} {d : Nat} {k : AV → List (Nat × Ob) → Prop} (ho : o.op = .call { callee := .value c, args := ag.toArray, argTypes := ts }) (hc : s.ev c = some v) (has : argsA s.ev ag = some xs) (h : vCall z P E d v xs k) : ∃ y nob, OpS P o s s0 y nob ∧ k y nob := by
  unfold vCall at h
  split at h
  · rename_i f
    obtain ⟨h1, h⟩ := chk_inv hz h
    obtain ⟨sg, _, h⟩ := opt_inv hz h
    obtain ⟨r, O, m, h⟩ := rsh_ex sg h
    obtain ⟨h2, h3, h⟩ := chk_inv hz h
    simp only [Bool.and_eq_true, List.isEmpty_iff, List.contains_iff_mem] at h1
    obtain ⟨fn, hf, hb, hn⟩ := fnOk_spec (List.all_eq_true.1 hE.fns f h1.2)
    exact ⟨_, _, opS_of (opP_callV ho hc hf hb hn has (ACall.ren h2 h3)), h⟩
  · exact absurd h hz
end

/-- The place of a byte in a string. -/
def vExt (z : Prop) (s : St) (xs : List Operand) (k : AV → List (Nat × Ob) → Prop) : Prop := match xs with
  | [x, y] => opt z (s.ev x) fun X => opt z ((s.ev y).bind asI) fun p => match X with
    | .one (.d (.str q)) => chk z (decide (p.1 = .u8)) (k (Z (firstIdx q p.2.toNat.toUInt8)) [])
    | _ => z
  | _ => z
/-- Cells that name no block, as written out. -/
def At.flatO : At → Bool
  | .e0 => true
  | .d (.int _ _) => true
  | .d (.bool _) => true
  | .d (.str _) => true
  | _ => false
theorem flatO_spec : ∀ {out : List At} {ds : List Da}, out.all At.flatO = true → toDs out = some ds → ds.all Da.flat = true
  | [], ds, _, h => by simp [toDs] at h; subst h; rfl
  | x :: r, ds, hf, h => by
    simp only [List.all_cons, Bool.and_eq_true] at hf
    simp only [toDs] at h
    split at h
    · rename_i y ys hy hys
      simp at h; subst h
      simp only [List.all_cons, Bool.and_eq_true]
      refine ⟨?_, flatO_spec hf.2 hys⟩
      cases x with
      | d x => cases x <;> simp [At.flatO] at hf <;> simp [At.toD] at hy <;> subst hy <;> rfl
      | e0 => simp [At.toD] at hy; subst hy; rfl
      | _ => simp [At.flatO] at hf
    · cases h
theorem flatO_chunk {out : List At} {ds : List Da} {n m : Nat} (hf : out.all At.flatO = true) (h : toDs out = some ds) : flatRows (chunk n m ds) := by
  have h1 := flatO_spec hf h
  clear hf h
  induction m generalizing ds with
  | zero => intro y hy; cases hy
  | succ m ih =>
    have h2 : ds.take n ++ ds.drop n = ds := List.take_append_drop ..
    rw [← h2, List.all_append, Bool.and_eq_true] at h1
    intro y hy
    rcases List.mem_cons.1 hy with rfl | hy
    · exact h1.1
    · exact ih h1.2 y hy

/-- An operation that writes nothing; objects are read as they stand in s0. -/
def vS (z : Prop) (P : Program) (E : Env) (o : Oper) (s s0 : St) (k : AV → List (Nat × Ob) → Prop) : Prop := match o.op with
  | .move x => opt z (s.ev x) fun y => k y []
  | .assign x => opt z (s.ev x) fun y => k y []
  | .pick c a b => opt z ((s.ev c).bind asB) fun bb => ifB bb (opt z (s.ev a) fun y => k y []) (opt z (s.ev b) fun y => k y [])
  | .binOp op t x y t' => opt z (look E.tab t) fun i => opt z (s.ev x) fun X => opt z (s.ev y) fun Y => vBinS z E op t i.pr X Y fun r => k r []
  | .unOp op t x => opt z (s.ev x) fun X => match op, X with
    | .not, .one (.d (.bool b)) => k (B (!b)) []
    | .neg, .one (.d (.int kk n)) => k (I kk (kk.wrap (0 - n))) []
    | _, _ => z
  | .field t x q => opt z (look E.tab t) fun i => opt z (s.ev x) fun X => vField z i q X fun r => k r []
  | .fieldAddr t x q => opt z (look E.tab t) fun i => opt z (s.ev x) fun X => vFieldAddr z i q X fun r => k r []
  | .load t x => opt z (look E.tab t) fun i => opt z (s.ev x) fun X => vLoad z E (colOf E x) i s0 X fun r => k r []
  | .indexAddr t x y => opt z (look E.tab t) fun i => opt z (s.ev x) fun X => opt z ((s.ev y).bind asI) fun p => vIndexAddr z E i s0 X p.2 fun r => k r []
  | .index t x y => opt z (look E.tab t) fun i => opt z ((s.ev y).bind asI) fun p => opt z (s.ev x) fun X => match X with
    | .one (.d (.str q)) => chk z (decide (i.pr = 2)) <| ∃ (n : Nat) (b : UInt8), p.2 = (n : Int) ∧ q[n]? = some b ∧ k (I .u8 b.toNat) []
    | _ => z
  | .slice t x lo hi mx => match mx with
    | none => opt z (look E.tab t) fun i => opt z (s.ev x) fun X => vCut z E i s s0 X lo hi fun r => k r []
    | some m => opt z (look E.tab t) fun i => opt z (s.ev x) fun X => vCut3 z E i s X lo hi m fun r => k r []
  | .nilCheck x => opt z (s.ev x) fun X => match X with
    | .one (.op kk off) => k (.one (.op kk off)) []
    | _ => z
  | .convert src dst x => opt z (look E.tab src) fun i => opt z (look E.tab dst) fun i2 => opt z (s.ev x) fun X => vConvert z E i i2 s0 X fun r => k r []
  | .box t x => opt z o.dst fun d => opt z ((s.ev x).bind AV.cells) fun cs => chk z (!(AV.idsL cs).contains d) (k (.one (.op d 0)) [(d, .var cs)])
  | .alloc t => opt z o.dst fun d => opt z (look E.zer t) fun zz => k (.one (.op d 0)) [(d, .var zz.2.2)]
  | .build t ps => opt z (look E.tab t) fun i => opt z (look E.zer t) fun zz => opt z (partsA s.ev ps.toList) fun ps' => match decide (i.pr = 5) with
    | true => chk z (i.fs.all (·.isSome)) <| opt z (fillA (fun q => (i.fs[q]?).bind fun (f : Option (Nat × Nat × Bool)) => f.map fun f => (f.1, f.2.1)) zz.2.2 ps') fun out => k (mkAgg out) []
    | false => chk z (decide (10 ≤ i.pr)) <| opt z i.el fun e => opt z (look E.tab e) fun i2 => opt z (fillA (fun q => some (q * i2.n, i2.n)) zz.2.2 ps') fun out => k (mkAgg out) []
  | .buildSlice t m ps => opt z o.dst fun d => opt z (look E.tab t) fun i => opt z i.el fun e => opt z (look E.zer e) fun zz => chk z (decide (i.pr = 4 ∧ 0 < zz.1 ∧ m * zz.1 ≤ 16777216)) <| opt z (partsA s.ev ps.toList) fun ps' =>
      opt z (fillA (fun q => some (q * zz.1, zz.1)) (List.replicate m zz.2.2).flatten ps') fun out => opt z (toDs out) fun ds => k (.one (.ol d)) [(d, mkL (out.all At.flatO) e zz.1 (chunk zz.1 m ds))]
  | .makeSlice t x y => opt z o.dst fun d => opt z (look E.tab t) fun i => opt z i.el fun e => opt z (look E.zer e) fun zz => chk z (decide (i.pr = 4 ∧ 0 < zz.1)) <| opt z (toDs zz.2.2) fun zd => opt z ((s.ev x).bind asI) fun p => opt z ((s.ev y).bind asI) fun q =>
      ∃ l c : Nat, p.2 = (l : Int) ∧ q.2 = (c : Int) ∧ Do (l ≤ c ∧ zz.2.1 * c ≤ 281474976710656 ∧ c ≤ 281474976710656) ∧ k (.one (.ol d)) [(d, mkL (zd.all Da.flat) e zz.1 (List.replicate l zd))]
  | .extract x i => opt z (s.ev x) fun X => match X with
    | .tup ys => opt z (ys[i]?) fun y => k y []
    | _ => z
  | .makeFunc fn first cap => match fn, first.toList with
    | .func f, [] => match cap.toList with
      | [] => k (.one (.d (.fn f))) []
      | c => opt z (capsOf s.ev c) fun cs => k (.one (.clo f cs)) []
    | _, _ => z
  | .call c => match c.callee with
    | .builtin bi => match bi, c.args.toList, c.argTypes.toList with
      | .len, [x], [t] => opt z (look E.tab t) fun i => opt z (s.ev x) fun X => vLen z i s0 X fun r => k r []
      | .cap, [x], [t] => opt z (look E.tab t) fun i => opt z (s.ev x) fun X => vCap z i s0 X fun r => k r []
      | _, _, _ => z
    | .value v => match v with
      | .func f => match E.ext.contains f with
        | true => vExt z s c.args.toList k
        | false => opt z (argsA s.ev c.args.toList) fun xs => vCall z P E (o.dst.getD 0) (.one (.d (.fn f))) xs k
      | v => opt z (s.ev v) fun V => opt z (argsA s.ev c.args.toList) fun xs => vCall z P E (o.dst.getD 0) V xs k
    | _ => z
  | _ => z

theorem arr1 {α : Type} {xs : Array α} {a : α} (h : xs.toList = [a]) : xs = #[a] := by
  rw [← Array.toArray_toList (xs := xs), h]
theorem arr2' {α : Type} {xs : Array α} {a b : α} (h : xs.toList = [a, b]) : xs = #[a, b] := by
  rw [← Array.toArray_toList (xs := xs), h]
theorem arr0 {α : Type} {xs : Array α} (h : xs.toList = []) : xs = #[] := by
  rw [← Array.toArray_toList (xs := xs), h]
section
variable {P : Program} {E : Env} {z : Prop} {o : Oper} {s s0 : St} {k : AV → List (Nat × Ob) → Prop}
theorem vConvert_sound (hE : EnvOk P E) (hz : ¬ z) {src dst : TypeId} {x : Operand} {X : AV} {i i2 : TI} {k : AV → Prop} (ho : o.op = .convert src dst x) (ht : look E.tab src = some i) (ht2 : look E.tab dst = some i2) (hx : s.ev x = some X) (h : vConvert z E i i2 s0 X k) : ∃ r, OpS P o s s0 r [] ∧ k r := by
  unfold vConvert at h
  split at h
  · split at h
    · rename_i k' hk
      exact ⟨_, os_convInt hE.tab ho hx ht ht2 hk, h⟩
    · obtain ⟨hp, ⟨hs⟩, h⟩ := chk_inv hz h
      exact ⟨_, os_convStr hE.tab ho hx ht ht2 (of_decide_eq_true hp) hs, h⟩
  · obtain ⟨hp, h⟩ := chk_inv hz h
    obtain ⟨h1, h2⟩ := of_decide_eq_true hp
    obtain ⟨d1, j1, hd1, hj1, a1, a2, a3, a4, a5, a6, a7⟩ := tiOf_some (hE.tab src i ht)
    obtain ⟨d2, j2, hd2, hj2, b1, b2, b3, b4, b5, b6, b7⟩ := tiOf_some (hE.tab dst i2 ht2)
    have := string_of (a6.trans h1); subst this
    have := string_of (b6.trans h2); subst this
    exact ⟨_, opS_of (opP_sameS ho hd1 hd2 hx), h⟩
  · obtain ⟨Y, hY, h⟩ := opt_inv hz h
    obtain ⟨⟨tr, Ee, es, xs⟩, hp, h⟩ := opt_inv hz h
    have hp := asL_inv hp
    rw [hp] at hY
    dsimp only at h hY
    obtain ⟨e, he, h⟩ := opt_inv hz h
    obtain ⟨ie, hie, h⟩ := opt_inv hz h
    obtain ⟨hp, ns, hns, h⟩ := chk_inv hz h
    obtain ⟨h1, h2, h3, h4⟩ := of_decide_eq_true hp
    rw [hns, h3] at hY
    exact ⟨_, os_bytesO hE.tab ho hx hY ht h1 he hie h4 ht2 h2, h⟩
  · exact absurd h hz

theorem vS_sound (hE : EnvOk P E) (hz : ¬ z) (h : vS z P E o s s0 k) : ∃ y nob, OpS P o s s0 y nob ∧ k y nob := by
  have one : (∃ r, OpS P o s s0 r [] ∧ k r []) → ∃ y nob, OpS P o s s0 y nob ∧ k y nob := fun ⟨r, h1, h2⟩ => ⟨r, [], h1, h2⟩
  unfold vS at h
  split at h
  · rename_i x ho
    obtain ⟨y, hy, h⟩ := opt_inv hz h
    exact ⟨_, _, opS_of (opP_move ho hy), h⟩
  · rename_i x ho
    obtain ⟨y, hy, h⟩ := opt_inv hz h
    exact ⟨_, _, opS_of (opP_assign ho hy), h⟩
  · rename_i c a b ho
    obtain ⟨bb, hb, h⟩ := opt_inv hz h
    have hc : s.ev c = some (B bb) := by
      cases hx : s.ev c with
      | none => rw [hx] at hb; simp at hb
      | some X => rw [hx] at hb; exact congrArg some (asB_inv hb)
    cases bb with
    | true =>
      obtain ⟨y, hy, h⟩ := opt_inv hz h
      exact ⟨_, _, opS_of (opP_pickA ho hc rfl hy), h⟩
    | false =>
      obtain ⟨y, hy, h⟩ := opt_inv hz h
      exact ⟨_, _, opS_of (opP_pickF ho hc rfl hy), h⟩
  · rename_i op t x y t' ho
    obtain ⟨i, hi, h⟩ := opt_inv hz h
    obtain ⟨X, hX, h⟩ := opt_inv hz h
    obtain ⟨Y, hY, h⟩ := opt_inv hz h
    exact one (vBinS_sound hE hz ho hi hX hY h)
  · rename_i op t x ho
    obtain ⟨X, hX, h⟩ := opt_inv hz h
    split at h
    · exact ⟨_, _, opS_of (opP_not ho hX), h⟩
    · exact ⟨_, _, opS_of (opP_neg ho hX), h⟩
    · exact absurd h hz
  · rename_i t x q ho
    obtain ⟨i, hi, h⟩ := opt_inv hz h
    obtain ⟨X, hX, h⟩ := opt_inv hz h
    exact one (vField_sound hE.tab hz ho hi hX h)
  · rename_i t x q ho
    obtain ⟨i, hi, h⟩ := opt_inv hz h
    obtain ⟨X, hX, h⟩ := opt_inv hz h
    exact one (vFieldAddr_sound hE.tab hz ho hi hX h)
  · rename_i t x ho
    obtain ⟨i, hi, h⟩ := opt_inv hz h
    obtain ⟨X, hX, h⟩ := opt_inv hz h
    exact one (vLoad_sound hE.tab hz ho hi hX h)
  · rename_i t x y ho
    obtain ⟨i, hi, h⟩ := opt_inv hz h
    obtain ⟨X, hX, h⟩ := opt_inv hz h
    obtain ⟨p, hp, h⟩ := opt_inv hz h
    exact one (vIndexAddr_sound hE.tab hz ho hi hX (evI hp) h)
  · rename_i t x y ho
    obtain ⟨i, hi, h⟩ := opt_inv hz h
    obtain ⟨p, hp, h⟩ := opt_inv hz h
    obtain ⟨X, hX, h⟩ := opt_inv hz h
    split at h
    · obtain ⟨hl, n, b, hn, hb, h⟩ := chk_inv hz h
      exact ⟨_, _, os_indexS hE.tab ho hi (of_decide_eq_true hl) hX (by rw [← hn]; exact evI hp) hb, h⟩
    · exact absurd h hz
  · rename_i t x lo hi mx ho
    split at h
    · obtain ⟨i, hi, h⟩ := opt_inv hz h
      obtain ⟨X, hX, h⟩ := opt_inv hz h
      exact one (vCut_sound hE.tab hz ho hi hX h)
    · obtain ⟨i, hi, h⟩ := opt_inv hz h
      obtain ⟨X, hX, h⟩ := opt_inv hz h
      exact one (vCut3_sound hE.tab hz ho hi hX h)
  · rename_i x ho
    obtain ⟨X, hX, h⟩ := opt_inv hz h
    split at h
    · exact ⟨_, _, ⟨_, opP_nil ho hX, trivial⟩, h⟩
    · exact absurd h hz
  · rename_i src dst x ho
    obtain ⟨i, hi, h⟩ := opt_inv hz h
    obtain ⟨i2, hi2, h⟩ := opt_inv hz h
    obtain ⟨X, hX, h⟩ := opt_inv hz h
    exact one (vConvert_sound hE hz ho hi hi2 hX h)
  · rename_i t x ho
    obtain ⟨d, hd, h⟩ := opt_inv hz h
    obtain ⟨cs, hcs, h⟩ := opt_inv hz h
    obtain ⟨hc, h⟩ := chk_inv hz h
    cases hX : s.ev x with
    | none => rw [hX] at hcs; simp at hcs
    | some X =>
      rw [hX] at hcs
      exact ⟨_, _, os_box ho hd hX hcs (by simpa using hc), h⟩
  · rename_i t ho
    obtain ⟨d, hd, h⟩ := opt_inv hz h
    obtain ⟨zz, hzz, h⟩ := opt_inv hz h
    exact ⟨_, _, os_alloc (hE.zer t zz hzz) ho hd, h⟩
  · rename_i t ps ho
    obtain ⟨i, hi, h⟩ := opt_inv hz h
    obtain ⟨zz, hzz, h⟩ := opt_inv hz h
    obtain ⟨ps', has, h⟩ := opt_inv hz h
    have ho' : o.op = .build t ps.toList.toArray := by simpa using ho
    split at h
    · rename_i hp
      obtain ⟨hf, h⟩ := chk_inv hz h
      obtain ⟨out, hout, h⟩ := opt_inv hz h
      exact ⟨_, _, os_build hE.tab (hE.zer t zz hzz) ho' hi (of_decide_eq_true hp) hf has hout, h⟩
    · obtain ⟨hf, h⟩ := chk_inv hz h
      obtain ⟨e, he, h⟩ := opt_inv hz h
      obtain ⟨i2, hi2, h⟩ := opt_inv hz h
      obtain ⟨out, hout, h⟩ := opt_inv hz h
      have := of_decide_eq_true hf
      exact ⟨_, _, os_buildA (m := i.pr - 10) hE.tab (hE.zer t zz hzz) ho' hi he (by omega) hi2 has hout, h⟩
  · rename_i t m ps ho
    obtain ⟨d, hd, h⟩ := opt_inv hz h
    obtain ⟨i, hi, h⟩ := opt_inv hz h
    obtain ⟨e, he, h⟩ := opt_inv hz h
    obtain ⟨zz, hzz, h⟩ := opt_inv hz h
    obtain ⟨hl, h⟩ := chk_inv hz h
    obtain ⟨ps', has, h⟩ := opt_inv hz h
    obtain ⟨out, hout, h⟩ := opt_inv hz h
    obtain ⟨ds, hds, h⟩ := opt_inv hz h
    obtain ⟨h1, h2, h3⟩ := of_decide_eq_true hl
    exact ⟨_, _, os_buildSlice hE.tab (hE.zer e zz hzz) (by simpa using ho) hd hi h1 he h2 h3 has hout hds |>.up fun hb => flatO_chunk hb hds, h⟩
  · rename_i t x y ho
    obtain ⟨d, hd, h⟩ := opt_inv hz h
    obtain ⟨i, hi, h⟩ := opt_inv hz h
    obtain ⟨e, he, h⟩ := opt_inv hz h
    obtain ⟨zz, hzz, h⟩ := opt_inv hz h
    obtain ⟨hl, h⟩ := chk_inv hz h
    obtain ⟨zd, hzd, h⟩ := opt_inv hz h
    obtain ⟨p, hp, h⟩ := opt_inv hz h
    obtain ⟨q, hq, h⟩ := opt_inv hz h
    obtain ⟨l, c, hl2, hc, ⟨h3, h4, h5⟩, h⟩ := h
    obtain ⟨h1, h2⟩ := of_decide_eq_true hl
    exact ⟨_, _, os_make hE.tab (hE.zer e zz hzz) ho hd hi h1 he h2 hzd (by rw [← hl2]; exact evI hp) (by rw [← hc]; exact evI hq) h3 h4 h5 |>.up flat_replicate, h⟩
  · rename_i x i ho
    obtain ⟨X, hX, h⟩ := opt_inv hz h
    split at h
    · obtain ⟨y, hy, h⟩ := opt_inv hz h
      exact ⟨_, _, opS_of (opP_extract ho hX hy), h⟩
    · exact absurd h hz
  · rename_i fn first cap ho
    split at h
    · rename_i f hf
      have hf := arr0 hf
      subst hf
      split at h
      · rename_i hc
        have hc := arr0 hc
        subst hc
        exact ⟨_, _, os_makeFunc0 ho, h⟩
      · obtain ⟨cs, hcs, h⟩ := opt_inv hz h
        exact ⟨_, _, os_makeFunc (cap := cap.toList) (by simpa using ho) hcs, h⟩
    · exact absurd h hz
  · rename_i c ho
    obtain ⟨callee, args, ats⟩ := c
    simp only at h
    split at h
    · split at h
      · rename_i x t h1 h2
        have h1 := arr1 h1
        have h2 := arr1 h2
        subst h1; subst h2
        obtain ⟨i, hi, h⟩ := opt_inv hz h
        obtain ⟨X, hX, h⟩ := opt_inv hz h
        exact one (vLen_sound hE.tab hz ho hi hX h)
      · rename_i x t h1 h2
        have h1 := arr1 h1
        have h2 := arr1 h2
        subst h1; subst h2
        obtain ⟨i, hi, h⟩ := opt_inv hz h
        obtain ⟨X, hX, h⟩ := opt_inv hz h
        exact one (vCap_sound hE.tab hz ho hi hX h)
      · exact absurd h hz
    · split at h
      · rename_i f
        split at h
        · rename_i hext
          unfold vExt at h
          split at h
          · rename_i x y hxy
            have hxy := arr2' hxy
            subst hxy
            obtain ⟨X, hX, h⟩ := opt_inv hz h
            obtain ⟨p, hp, h⟩ := opt_inv hz h
            split at h
            · obtain ⟨hl, h⟩ := chk_inv hz h
              have hl := of_decide_eq_true hl
              obtain ⟨fn, h1, h2, h3, h4, h5⟩ := hE.ext f (by simpa using hext)
              have hy := evI hp
              rw [hl] at hy
              exact ⟨_, _, opS_of (opP_indexByte ho h1 h2 h3 h4 h5 hX hy), h⟩
            · exact absurd h hz
          · exact absurd h hz
        · obtain ⟨xs, hxs, h⟩ := opt_inv hz h
          exact vCall_sound (ag := args.toList) hE hz (by simpa using ho) rfl hxs h
      · obtain ⟨V, hV, h⟩ := opt_inv hz h
        obtain ⟨xs, hxs, h⟩ := opt_inv hz h
        exact vCall_sound (ag := args.toList) hE hz (by simpa using ho) hV hxs h
    · exact absurd h hz
  · exact absurd h hz
end

end AM
end Go.Proofs.Ytfcmmpmdofejeaa
