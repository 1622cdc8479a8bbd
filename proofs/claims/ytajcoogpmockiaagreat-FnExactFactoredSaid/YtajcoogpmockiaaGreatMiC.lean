/- A part of the proof of the law that the last of these texts states, for every input; no conditions. -/
import Derived.Test.YtajcoogpmockiaaGreatMiB
set_option linter.unusedVariables false
set_option linter.unusedSimpArgs false
namespace Go.Proofs.YtajcoogpmockiaaGreat
namespace AM
open Go
def AV.norm : AV → AV
 | .one .e0 => .one (.d (.sl []))
 | .agg xs => a2Cq xs
 | x => x
theorem RepV.norm {w : World} {S : Nat → Prop} {β : Nat → OLoc} {x : AV} {v : Value} (h : RepV w S β x v) : RepV w S β x.norm v := by
 unfold AV.norm
 split
 ·have := h.one_inv
  cases this
  exact RepV.one (.d (RepDs.sl_nil _ _))
 ·obtain ⟨cs, hv, h2⟩ := h.agg_inv
  rw [hv]; exact RepAs.mkN h2
 ·exact h
theorem RepVs.norm {w : World} {S : Nat → Prop} {β : Nat → OLoc} {xs : List AV} {vs : List Value} (h : RepVs w S β xs vs) : RepVs w S β (xs.map AV.norm) vs := by
 induction h with
 | nil => exact .nil
 | one h _ ih => exact RepVs.cons (RepV.norm (RepVs.one h .nil)) ih
 | dat h _ ih => exact RepVs.cons (RepV.norm (RepVs.dat h .nil)) ih
 | agg h _ ih => exact RepVs.cons (RepV.norm (RepVs.agg h .nil)) ih
 | tup h _ _ ih => exact RepVs.cons (RepV.norm (RepVs.tup h .nil)) ih
theorem ACall.norm {P : Program} {f : FuncId} {xs : List AV} {r : AV} {nob : List (Nat × Ob)} (h : ACall P f (xs.map AV.norm) r nob) : ACall P f xs r nob := fun w S β vs hlt hr => h w S β vs hlt hr.norm
theorem XCall.norm {P : Program} {f : FuncId} {xs : List AV} {r : AV} {I O : List (Nat × Ob)} {mv : List Nat} (h : XCall P f (xs.map AV.norm) r I O mv) : XCall P f xs r I O mv := fun w S β vs hlt hr => h w S β vs hlt hr.norm
def A1q (O : List (Nat × Ob)) : List Nat := (O.map (·.1)).filter fun k => decide (k < 2000)
structure XC (P : Program) (f : FuncId) (xs : List AV) (I : List (Nat × Ob)) (r : AV) (O : List (Nat × Ob)) : Prop where
 h : XCall P f xs r I O (A1q O)
def a1iq (d : Nat) : List (Nat × Ob) → List (Nat × Nat)
 | [] => []
 | (k, _) :: r => (k, d) :: a1iq (d + 500) r
def argN (xs : List AV) : List AV := AV.mapT (k6q []) (xs.map AV.norm)
def rshK : List RK → Nat → (List At → List (Nat × Ob) → Nat → Prop) → Prop
 | [], n, K => K [] [] n
 | .k c :: r, n, K => shC c fun d => rshK r n fun ys O m => K (.d d :: ys) O m
 | .o E es :: r, n, K => ∃ xs : List (List Da), rshK r (n + 1) fun ys O m => K (.ol n :: ys) ((n, .tr E es xs) :: O) m
 | .e :: r, n, K => rshK r n fun ys O m => K (.e0 :: ys) O m
theorem a3dq : ∀ (r : List RK) {n : Nat} {K : List At → List (Nat × Ob) → Nat → Prop}, rshK r n K → ∃ y O m, K y O m
 | [], n, K, h => ⟨_, _, _, h⟩
 | .k c :: r, n, K, h => by
  obtain ⟨d, h⟩ := a9aq h
  obtain ⟨y, O, m, h⟩ := a3dq r h
  exact ⟨_, _, _, h⟩
 | .o E es :: r, n, K, h => by
  obtain ⟨xs, h⟩ := h
  obtain ⟨y, O, m, h⟩ := a3dq r h
  exact ⟨_, _, _, h⟩
 | .e :: r, n, K, h => by
  obtain ⟨y, O, m, h⟩ := a3dq r (n := n) h
  exact ⟨_, _, _, h⟩
def rsh : RS → Nat → (AV → List (Nat × Ob) → Nat → Prop) → Prop
 | .c k, n, K => shC k fun d => K (.one (.d d)) [] n
 | .d ks, n, K => shp ks fun ds => K (.dat ds) [] n
 | .o E es, n, K => ∃ xs : List (List Da), K (.one (.ol n)) [(n, .tr E es xs)] (n + 1)
 | .b E es, n, K => ∃ xs : List (List Da), K (.one (.ol n)) [(n, .lst E es xs)] (n + 1)
 | .s ks, n, K => rshK ks n fun ys O m => K (.agg ys) O m
 | .t rs, n, K => go rs n fun ys O m => K (.tup ys) O m
where go : List RS → Nat → (List AV → List (Nat × Ob) → Nat → Prop) → Prop
 | [], n, K => K [] [] n
 | r :: rs, n, K => rsh r n fun y O m => go rs m fun ys O' m' => K (y :: ys) (O ++ O') m'
mutual
theorem a2zq : ∀ (r : RS) {n : Nat} {K : AV → List (Nat × Ob) → Nat → Prop}, rsh r n K → ∃ y O m, K y O m
 | .c k, n, K, h => by
  simp only [rsh] at h
  obtain ⟨d, h⟩ := a9aq h
  exact ⟨_, _, _, h⟩
 | .d ks, n, K, h => by
  simp only [rsh] at h
  obtain ⟨ds, _, h⟩ := C1q h
  exact ⟨_, _, _, h⟩
 | .o E es, n, K, h => by
  simp only [rsh] at h
  obtain ⟨xs, h⟩ := h
  exact ⟨_, _, _, h⟩
 | .b E es, n, K, h => by
  simp only [rsh] at h
  obtain ⟨xs, h⟩ := h
  exact ⟨_, _, _, h⟩
 | .s ks, n, K, h => by
  simp only [rsh] at h
  obtain ⟨y, O, m, h⟩ := a3dq ks h
  exact ⟨_, _, _, h⟩
 | .t rs, n, K, h => by
  simp only [rsh] at h
  obtain ⟨ys, O, m, h⟩ := rshL_ex rs h
  exact ⟨_, _, _, h⟩
theorem rshL_ex : ∀ (rs : List RS) {n : Nat} {K : List AV → List (Nat × Ob) → Nat → Prop}, rsh.go rs n K → ∃ ys O m, K ys O m
 | [], n, K, h => ⟨_, _, _, h⟩
 | r :: rs, n, K, h => by
  simp only [rsh.go] at h
  obtain ⟨y, O, m, h⟩ := a2zq r h
  obtain ⟨ys, O', m', h⟩ := rshL_ex rs h
  exact ⟨_, _, _, h⟩
end
def a0fq (z : Prop) (P : Program) (E : Env) (d : Nat) (v : AV) (xs : List AV) (k : AV → List (Nat × Ob) → Prop) : Prop := match v with
 | .one (.d (.fn f)) => chk z ((AV.idsT xs).isEmpty && E.fns.contains f) <| opt z (a4q E.sig f) fun sg => rsh sg 0 fun r O _ =>
   chk z (B7q [] (a1iq d O) [] O (A1q O)) (XC P f (argN xs) [] r O ∧ k (r.map (k6q (a1iq d O))) (m8q (a1iq d O) O))
 | _ => z
theorem aduq {P : Program} {o : Oper} {av : Operand → Option AV} {c : Operand} {f : FuncId} {fn : Func} {ag : List Operand} {ts : Array TypeId} {xs : List AV} {r : AV} {nob : List (Nat × Ob)} (ho : o.op = .call { callee := .value c, args := ag.toArray, argTypes := ts }) (hcv : av c = some (.one (.d (.fn f)))) (hf : P.funcs[f]? = some fn) (hb : fn.body.isNone = false) (hname : (fn.name == "runtime.NumGoroutine") = false)
  (has : o5q av ag = some xs) (hc : ACall P f xs r nob) : OpP P o av [] r nob := by
 intro a w S β hlt hr _ K Q hK
 have h1 := a2Zq (w := w) (S := S) (β := β) (ρ := a.eval) ag xs (fun x X hx hm => hr x X hx (by simp [ho, Op.operands, Call.operands, hm])) has
 have h2 := (hr c _ hcv (by simp [ho, Op.operands, Call.operands])).fn_inv
 have he : (execOp a.eval o).run P w = .ok (.enter f (ag.map a.eval).toArray) w := by
  simp only [execOp, ho, resolve, h2, Deferred.ofValue, Sem.run_bind, Sem.run_pure, Result.andThen_ok, invoke, List.map_toArray]
  rw [show (#[] : Array Value) ++ (ag.map a.eval).toArray ++ #[] = (ag.map a.eval).toArray by simp]
  exact S2q hf hb hname _ _
 unfold Oper.wp
 rw [he, Oper.upon_enter]
 refine (hc w S β _ hlt h1).mono ?_
 rintro e w' ⟨v, S', β', rfl, hG, hrep⟩
 exact hK v w' S' β' hG hrep
theorem addq {P : Program} {o : Oper} {av : Operand → Option AV} {x : Operand} {src dst : TypeId} {q : ByteArray} (ho : o.op = .convert src dst x) (hs : P.underlying src = some .string) (hd : P.underlying dst = some .string) (hx : av x = some (T q)) : OpP P o av [] (T q) [] := by
 refine b9q fun a w S β _ hr _ => ?_
 have h := hr x _ hx (by simp [ho, Op.operands])
 have h1 := h.str_inv
 refine ⟨.string q, ?_, RepV.str _ h1.2⟩
 simp [execOp, ho, h1.1, convert, run_underlying hs, run_underlying hd]
section
variable {P : Program} {E : Env} {z : Prop} {o : Oper} {s s0 : St}
theorem ACall.ren {f : FuncId} {xs : List AV} {r : AV} {O : List (Nat × Ob)} {l : List (Nat × Nat)} (hok : B7q [] l [] O (A1q O) = true) (h : XC P f (argN xs) [] r O) : ACall P f xs (r.map (k6q l)) (m8q l O) := by
 have := a2Yq (ys := xs.map AV.norm) (I' := []) [] l h.h rfl rfl rfl rfl rfl hok
 refine ACall.norm ?_
 refine this.fresh ?_
 simp only [B7q, Bool.and_eq_true, List.all_eq_true] at hok
 rw [List.all_eq_true]
 intro m hm
 obtain ⟨k, hk, rfl⟩ := List.mem_map.1 hm
 obtain ⟨hk1, _⟩ := List.mem_filter.1 hk
 obtain ⟨p, hp, rfl⟩ := List.mem_map.1 hk1
 rw [k3q, List.any_eq_true]
 exact ⟨_, List.mem_map.2 ⟨p, hp, rfl⟩, by simp⟩
theorem B0q (hE : EnvOk P E) (hz : ¬ z) {c : Operand} {ag : List Operand} {ts : Array TypeId} {v : AV} {xs : List AV} {d : Nat} {k : AV → List (Nat × Ob) → Prop} (ho : o.op = .call { callee := .value c, args := ag.toArray, argTypes := ts }) (hc : s.ev c = some v) (has : o5q s.ev ag = some xs) (h : a0fq z P E d v xs k) : ∃ y nob, OpS P o s s0 y nob ∧ k y nob := by
 unfold a0fq at h
 split at h
 ·rename_i f
  obtain ⟨h1, h⟩ := a7q hz h
  obtain ⟨sg, _, h⟩ := a0q hz h
  obtain ⟨r, O, m, h⟩ := a2zq sg h
  obtain ⟨h2, h3, h⟩ := a7q hz h
  simp only [Bool.and_eq_true, List.isEmpty_iff, List.contains_iff_mem] at h1
  obtain ⟨fn, hf, hb, hn⟩ := a0aq (List.all_eq_true.1 hE.fns f h1.2)
  exact ⟨_, _, c9q (aduq ho hc hf hb hn has (ACall.ren h2 h3)), h⟩
 ·exact absurd h hz
end
def vExt (z : Prop) (s : St) (xs : List Operand) (k : AV → List (Nat × Ob) → Prop) : Prop := match xs with
 | [x, y] => opt z (s.ev x) fun X => opt z ((s.ev y).bind asI) fun p => match X with
  | .one (.d (.str q)) => chk z (decide (p.1 = .u8)) (k (Z (firstIdx q p.2.toNat.toUInt8)) [])
  | _ => z
 | _ => z
def At.flatO : At → Bool
 | .e0 => true
 | .d (.int _ _) => true
 | .d (.bool _) => true
 | .d (.str _) => true
 | _ => false
theorem a4Yq : ∀ {out : List At} {ds : List Da}, out.all At.flatO = true → toDs out = some ds → ds.all Da.flat = true
 | [], ds, _, h => by simp [toDs] at h; subst h; rfl
 | x :: r, ds, hf, h => by
  simp only [List.all_cons, Bool.and_eq_true] at hf
  simp only [toDs] at h
  split at h
  ·rename_i y ys hy hys
   simp at h; subst h
   simp only [List.all_cons, Bool.and_eq_true]
   refine ⟨?_, a4Yq hf.2 hys⟩
   cases x with
   | d x => cases x <;> simp [At.flatO] at hf <;> simp [At.toD] at hy <;> subst hy <;> rfl
   | e0 => simp [At.toD] at hy; subst hy; rfl
   | _ => simp [At.flatO] at hf
  ·cases h
theorem aaWq {out : List At} {ds : List Da} {n m : Nat} (hf : out.all At.flatO = true) (h : toDs out = some ds) : k0q (w2q n m ds) := by
 have h1 := a4Yq hf h
 clear hf h
 induction m generalizing ds with
 | zero => intro y hy; cases hy
 | succ m ih =>
  have h2 : ds.take n ++ ds.drop n = ds := List.take_append_drop ..
  rw [← h2, List.all_append, Bool.and_eq_true] at h1
  intro y hy
  rcases List.mem_cons.1 hy with rfl | hy
  ·exact h1.1
  ·exact ih h1.2 y hy
def vS (z : Prop) (P : Program) (E : Env) (o : Oper) (s s0 : St) (k : AV → List (Nat × Ob) → Prop) : Prop := match o.op with
 | .move x => opt z (s.ev x) fun y => k y []
 | .assign x => opt z (s.ev x) fun y => k y []
 | .pick c a b => opt z ((s.ev c).bind asB) fun bb => ifB bb (opt z (s.ev a) fun y => k y []) (opt z (s.ev b) fun y => k y [])
 | .binOp op t x y t' => opt z (a4q E.tab t) fun i => opt z (s.ev x) fun X => opt z (s.ev y) fun Y => acSq z E op t i.pr X Y fun r => k r []
 | .unOp op t x => opt z (s.ev x) fun X => match op, X with
  | .not, .one (.d (.bool b)) => k (B (!b)) []
  | .neg, .one (.d (.int kk n)) => k (I kk (kk.wrap (0 - n))) []
  | _, _ => z
 | .field t x q => opt z (a4q E.tab t) fun i => opt z (s.ev x) fun X => adHq z i q X fun r => k r []
 | .fieldAddr t x q => opt z (a4q E.tab t) fun i => opt z (s.ev x) fun X => a5mq z i q X fun r => k r []
 | .load t x => opt z (a4q E.tab t) fun i => opt z (s.ev x) fun X => ac8q z E (a0gq E x) i s0 X fun r => k r []
 | .indexAddr t x y => opt z (a4q E.tab t) fun i => opt z (s.ev x) fun X => opt z ((s.ev y).bind asI) fun p => a5Jq z E i s0 X p.2 fun r => k r []
 | .index t x y => opt z (a4q E.tab t) fun i => opt z ((s.ev y).bind asI) fun p => opt z (s.ev x) fun X => match X with
  | .one (.d (.str q)) => chk z (decide (i.pr = 2)) <| ∃ (n : Nat) (b : UInt8), p.2 = (n : Int) ∧ q[n]? = some b ∧ k (I .u8 b.toNat) []
  | _ => z
 | .slice t x lo hi mx => match mx with
  | none => opt z (a4q E.tab t) fun i => opt z (s.ev x) fun X => vCut z E i s s0 X lo hi fun r => k r []
  | some m => opt z (a4q E.tab t) fun i => opt z (s.ev x) fun X => ac4q z E i s X lo hi m fun r => k r []
 | .convert src dst x => opt z (a4q E.tab src) fun i => opt z (a4q E.tab dst) fun i2 => opt z (s.ev x) fun X => a48q z E i i2 s0 X fun r => k r []
 | .box t x => opt z o.dst fun d => opt z ((s.ev x).bind AV.cells) fun cs => chk z (!(AV.idsL cs).contains d) (k (.one (.op d 0)) [(d, .var cs)])
 | .alloc t => opt z o.dst fun d => opt z (a4q E.zer t) fun zz => k (.one (.op d 0)) [(d, .var zz.2.2)]
 | .build t ps => opt z (a4q E.tab t) fun i => opt z (a4q E.zer t) fun zz => opt z (r2q s.ev ps.toList) fun ps' => match decide (i.pr = 5) with
  | true => chk z (i.fs.all (·.isSome)) <| opt z (x9q (fun q => (i.fs[q]?).bind fun (f : Option (Nat × Nat × Bool)) => f.map fun f => (f.1, f.2.1)) zz.2.2 ps') fun out => k (v2q out) []
  | false => chk z (decide (10 ≤ i.pr)) <| opt z i.el fun e => opt z (a4q E.tab e) fun i2 => opt z (x9q (fun q => some (q * i2.n, i2.n)) zz.2.2 ps') fun out => k (v2q out) []
 | .buildSlice t m ps => opt z o.dst fun d => opt z (a4q E.tab t) fun i => opt z i.el fun e => opt z (a4q E.zer e) fun zz => chk z (decide (i.pr = 4 ∧ 0 < zz.1 ∧ m * zz.1 ≤ 16777216)) <| opt z (r2q s.ev ps.toList) fun ps' =>
   opt z (x9q (fun q => some (q * zz.1, zz.1)) (List.replicate m zz.2.2).flatten ps') fun out => opt z (toDs out) fun ds => k (.one (.ol d)) [(d, mkL (out.all At.flatO) e zz.1 (w2q zz.1 m ds))]
 | .makeSlice t x y => opt z o.dst fun d => opt z (a4q E.tab t) fun i => opt z i.el fun e => opt z (a4q E.zer e) fun zz => chk z (decide (i.pr = 4 ∧ 0 < zz.1)) <| opt z (toDs zz.2.2) fun zd => opt z ((s.ev x).bind asI) fun p => opt z ((s.ev y).bind asI) fun q =>
   ∃ l c : Nat, p.2 = (l : Int) ∧ q.2 = (c : Int) ∧ Do (l ≤ c ∧ zz.2.1 * c ≤ 281474976710656 ∧ c ≤ 281474976710656) ∧ k (.one (.ol d)) [(d, mkL (zd.all Da.flat) e zz.1 (List.replicate l zd))]
 | .extract x i => opt z (s.ev x) fun X => match X with
  | .tup ys => opt z (ys[i]?) fun y => k y []
  | _ => z
 | .makeFunc fn first cap => match fn, first.toList with
  | .func f, [] => match cap.toList with
   | [] => k (.one (.d (.fn f))) []
   | c => opt z (a1jq s.ev c) fun cs => k (.one (.clo f cs)) []
  | _, _ => z
 | .call c => match c.callee with
  | .builtin bi => match bi, c.args.toList, c.argTypes.toList with
   | .len, [x], [t] => opt z (a4q E.tab t) fun i => opt z (s.ev x) fun X => vLen z i s0 X fun r => k r []
   | .cap, [x], [t] => opt z (a4q E.tab t) fun i => opt z (s.ev x) fun X => vCap z i s0 X fun r => k r []
   | _, _, _ => z
  | .value v => match v with
   | .func f => match E.ext.contains f with
    | true => vExt z s c.args.toList k
    | false => opt z (o5q s.ev c.args.toList) fun xs => a0fq z P E (o.dst.getD 0) (.one (.d (.fn f))) xs k
   | v => opt z (s.ev v) fun V => opt z (o5q s.ev c.args.toList) fun xs => a0fq z P E (o.dst.getD 0) V xs k
  | _ => z
 | _ => z
theorem arr1 {α : Type} {xs : Array α} {a : α} (h : xs.toList = [a]) : xs = #[a] := by
 rw [← Array.toArray_toList (xs := xs), h]
theorem ahaq {α : Type} {xs : Array α} {a b : α} (h : xs.toList = [a, b]) : xs = #[a, b] := by
 rw [← Array.toArray_toList (xs := xs), h]
theorem arr0 {α : Type} {xs : Array α} (h : xs.toList = []) : xs = #[] := by
 rw [← Array.toArray_toList (xs := xs), h]
section
variable {P : Program} {E : Env} {z : Prop} {o : Oper} {s s0 : St} {k : AV → List (Nat × Ob) → Prop}
theorem a7aq (hE : EnvOk P E) (hz : ¬ z) {src dst : TypeId} {x : Operand} {X : AV} {i i2 : TI} {k : AV → Prop} (ho : o.op = .convert src dst x) (ht : a4q E.tab src = some i) (ht2 : a4q E.tab dst = some i2) (hx : s.ev x = some X) (h : a48q z E i i2 s0 X k) : ∃ r, OpS P o s s0 r [] ∧ k r := by
 unfold a48q at h
 split at h
 ·split at h
  ·rename_i k' hk
   exact ⟨_, ac7q hE.tab ho hx ht ht2 hk, h⟩
  ·obtain ⟨hp, ⟨hs⟩, h⟩ := a7q hz h
   exact ⟨_, abOq hE.tab ho hx ht ht2 (of_decide_eq_true hp) hs, h⟩
 ·obtain ⟨hp, h⟩ := a7q hz h
  obtain ⟨h1, h2⟩ := of_decide_eq_true hp
  obtain ⟨d1, j1, hd1, hj1, a1, a2, a3, a4, a5, a6, a7⟩ := b2q (hE.tab src i ht)
  obtain ⟨d2, j2, hd2, hj2, b1, b2, b3, b4, b5, b6, b7⟩ := b2q (hE.tab dst i2 ht2)
  have := D7q (a6.trans h1); subst this
  have := D7q (b6.trans h2); subst this
  exact ⟨_, c9q (addq ho hd1 hd2 hx), h⟩
 ·obtain ⟨Y, hY, h⟩ := a0q hz h
  obtain ⟨⟨tr, Ee, es, xs⟩, hp, h⟩ := a0q hz h
  have hp := H5q hp
  rw [hp] at hY
  dsimp only at h hY
  obtain ⟨e, he, h⟩ := a0q hz h
  obtain ⟨ie, hie, h⟩ := a0q hz h
  obtain ⟨hp, ns, hns, h⟩ := a7q hz h
  obtain ⟨h1, h2, h3, h4⟩ := of_decide_eq_true hp
  rw [hns, h3] at hY
  exact ⟨_, adkq hE.tab ho hx hY ht h1 he hie h4 ht2 h2, h⟩
 ·exact absurd h hz
theorem a4aq (hE : EnvOk P E) (hz : ¬ z) (h : vS z P E o s s0 k) : ∃ y nob, OpS P o s s0 y nob ∧ k y nob := by
 have one : (∃ r, OpS P o s s0 r [] ∧ k r []) → ∃ y nob, OpS P o s s0 y nob ∧ k y nob := fun ⟨r, h1, h2⟩ => ⟨r, [], h1, h2⟩
 unfold vS at h
 split at h
 ·rename_i x ho
  obtain ⟨y, hy, h⟩ := a0q hz h
  exact ⟨_, _, c9q (afhq ho hy), h⟩
 ·rename_i x ho
  obtain ⟨y, hy, h⟩ := a0q hz h
  exact ⟨_, _, c9q (acaq ho hy), h⟩
 ·rename_i c a b ho
  obtain ⟨bb, hb, h⟩ := a0q hz h
  have hc : s.ev c = some (B bb) := by
   cases hx : s.ev c with
   | none => rw [hx] at hb; simp at hb
   | some X => rw [hx] at hb; exact congrArg some (abAq hb)
  cases bb with
  | true =>
   obtain ⟨y, hy, h⟩ := a0q hz h
   exact ⟨_, _, c9q (adnq ho hc rfl hy), h⟩
  | false =>
   obtain ⟨y, hy, h⟩ := a0q hz h
   exact ⟨_, _, c9q (adfq ho hc rfl hy), h⟩
 ·rename_i op t x y t' ho
  obtain ⟨i, hi, h⟩ := a0q hz h
  obtain ⟨X, hX, h⟩ := a0q hz h
  obtain ⟨Y, hY, h⟩ := a0q hz h
  exact one (aaGq hE hz ho hi hX hY h)
 ·rename_i op t x ho
  obtain ⟨X, hX, h⟩ := a0q hz h
  split at h
  ·exact ⟨_, _, c9q (afUq ho hX), h⟩
  ·exact ⟨_, _, c9q (afEq ho hX), h⟩
  ·exact absurd h hz
 ·rename_i t x q ho
  obtain ⟨i, hi, h⟩ := a0q hz h
  obtain ⟨X, hX, h⟩ := a0q hz h
  exact one (a9lq hE.tab hz ho hi hX h)
 ·rename_i t x q ho
  obtain ⟨i, hi, h⟩ := a0q hz h
  obtain ⟨X, hX, h⟩ := a0q hz h
  exact one (a4rq hE.tab hz ho hi hX h)
 ·rename_i t x ho
  obtain ⟨i, hi, h⟩ := a0q hz h
  obtain ⟨X, hX, h⟩ := a0q hz h
  exact one (aaZq hE.tab hz ho hi hX h)
 ·rename_i t x y ho
  obtain ⟨i, hi, h⟩ := a0q hz h
  obtain ⟨X, hX, h⟩ := a0q hz h
  obtain ⟨p, hp, h⟩ := a0q hz h
  exact one (a4sq hE.tab hz ho hi hX (evI hp) h)
 ·rename_i t x y ho
  obtain ⟨i, hi, h⟩ := a0q hz h
  obtain ⟨p, hp, h⟩ := a0q hz h
  obtain ⟨X, hX, h⟩ := a0q hz h
  split at h
  ·obtain ⟨hl, n, b, hn, hb, h⟩ := a7q hz h
   exact ⟨_, _, admq hE.tab ho hi (of_decide_eq_true hl) hX (by rw [← hn]; exact evI hp) hb, h⟩
  ·exact absurd h hz
 ·rename_i t x lo hi mx ho
  split at h
  ·obtain ⟨i, hi, h⟩ := a0q hz h
   obtain ⟨X, hX, h⟩ := a0q hz h
   exact one (acwq hE.tab hz ho hi hX h)
  ·obtain ⟨i, hi, h⟩ := a0q hz h
   obtain ⟨X, hX, h⟩ := a0q hz h
   exact one (aaSq hE.tab hz ho hi hX h)
 ·rename_i src dst x ho
  obtain ⟨i, hi, h⟩ := a0q hz h
  obtain ⟨i2, hi2, h⟩ := a0q hz h
  obtain ⟨X, hX, h⟩ := a0q hz h
  exact one (a7aq hE hz ho hi hi2 hX h)
 ·rename_i t x ho
  obtain ⟨d, hd, h⟩ := a0q hz h
  obtain ⟨cs, hcs, h⟩ := a0q hz h
  obtain ⟨hc, h⟩ := a7q hz h
  cases hX : s.ev x with
  | none => rw [hX] at hcs; simp at hcs
  | some X =>
   rw [hX] at hcs
   exact ⟨_, _, agSq ho hd hX hcs (by simpa using hc), h⟩
 ·rename_i t ho
  obtain ⟨d, hd, h⟩ := a0q hz h
  obtain ⟨zz, hzz, h⟩ := a0q hz h
  exact ⟨_, _, aeKq (hE.zer t zz hzz) ho hd, h⟩
 ·rename_i t ps ho
  obtain ⟨i, hi, h⟩ := a0q hz h
  obtain ⟨zz, hzz, h⟩ := a0q hz h
  obtain ⟨ps', has, h⟩ := a0q hz h
  have ho' : o.op = .build t ps.toList.toArray := by simpa using ho
  split at h
  ·rename_i hp
   obtain ⟨hf, h⟩ := a7q hz h
   obtain ⟨out, hout, h⟩ := a0q hz h
   exact ⟨_, _, aegq hE.tab (hE.zer t zz hzz) ho' hi (of_decide_eq_true hp) hf has hout, h⟩
  ·obtain ⟨hf, h⟩ := a7q hz h
   obtain ⟨e, he, h⟩ := a0q hz h
   obtain ⟨i2, hi2, h⟩ := a0q hz h
   obtain ⟨out, hout, h⟩ := a0q hz h
   have := of_decide_eq_true hf
   exact ⟨_, _, acUq (m := i.pr - 10) hE.tab (hE.zer t zz hzz) ho' hi he (by omega) hi2 has hout, h⟩
 ·rename_i t m ps ho
  obtain ⟨d, hd, h⟩ := a0q hz h
  obtain ⟨i, hi, h⟩ := a0q hz h
  obtain ⟨e, he, h⟩ := a0q hz h
  obtain ⟨zz, hzz, h⟩ := a0q hz h
  obtain ⟨hl, h⟩ := a7q hz h
  obtain ⟨ps', has, h⟩ := a0q hz h
  obtain ⟨out, hout, h⟩ := a0q hz h
  obtain ⟨ds, hds, h⟩ := a0q hz h
  obtain ⟨h1, h2, h3⟩ := of_decide_eq_true hl
  exact ⟨_, _, a7Jq hE.tab (hE.zer e zz hzz) (by simpa using ho) hd hi h1 he h2 h3 has hout hds |>.up fun hb => aaWq hb hds, h⟩
 ·rename_i t x y ho
  obtain ⟨d, hd, h⟩ := a0q hz h
  obtain ⟨i, hi, h⟩ := a0q hz h
  obtain ⟨e, he, h⟩ := a0q hz h
  obtain ⟨zz, hzz, h⟩ := a0q hz h
  obtain ⟨hl, h⟩ := a7q hz h
  obtain ⟨zd, hzd, h⟩ := a0q hz h
  obtain ⟨p, hp, h⟩ := a0q hz h
  obtain ⟨q, hq, h⟩ := a0q hz h
  obtain ⟨l, c, hl2, hc, ⟨h3, h4, h5⟩, h⟩ := h
  obtain ⟨h1, h2⟩ := of_decide_eq_true hl
  exact ⟨_, _, afuq hE.tab (hE.zer e zz hzz) ho hd hi h1 he h2 hzd (by rw [← hl2]; exact evI hp) (by rw [← hc]; exact evI hq) h3 h4 h5 |>.up a67q, h⟩
 ·rename_i x i ho
  obtain ⟨X, hX, h⟩ := a0q hz h
  split at h
  ·obtain ⟨y, hy, h⟩ := a0q hz h
   exact ⟨_, _, c9q (ab4q ho hX hy), h⟩
  ·exact absurd h hz
 ·rename_i fn first cap ho
  split at h
  ·rename_i f hf
   have hf := arr0 hf
   subst hf
   split at h
   ·rename_i hc
    have hc := arr0 hc
    subst hc
    exact ⟨_, _, a9bq ho, h⟩
   ·obtain ⟨cs, hcs, h⟩ := a0q hz h
    exact ⟨_, _, abfq (cap := cap.toList) (by simpa using ho) hcs, h⟩
  ·exact absurd h hz
 ·rename_i c ho
  obtain ⟨callee, args, ats⟩ := c
  simp only at h
  split at h
  ·split at h
   ·rename_i x t h1 h2
    have h1 := arr1 h1
    have h2 := arr1 h2
    subst h1; subst h2
    obtain ⟨i, hi, h⟩ := a0q hz h
    obtain ⟨X, hX, h⟩ := a0q hz h
    exact one (ackq hE.tab hz ho hi hX h)
   ·rename_i x t h1 h2
    have h1 := arr1 h1
    have h2 := arr1 h2
    subst h1; subst h2
    obtain ⟨i, hi, h⟩ := a0q hz h
    obtain ⟨X, hX, h⟩ := a0q hz h
    exact one (acLq hE.tab hz ho hi hX h)
   ·exact absurd h hz
  ·split at h
   ·rename_i f
    split at h
    ·rename_i hext
     unfold vExt at h
     split at h
     ·rename_i x y hxy
      have hxy := ahaq hxy
      subst hxy
      obtain ⟨X, hX, h⟩ := a0q hz h
      obtain ⟨p, hp, h⟩ := a0q hz h
      split at h
      ·obtain ⟨hl, h⟩ := a7q hz h
       have hl := of_decide_eq_true hl
       obtain ⟨fn, h1, h2, h3, h4, h5⟩ := hE.ext f (by simpa using hext)
       have hy := evI hp
       rw [hl] at hy
       exact ⟨_, _, c9q (a8yq ho h1 h2 h3 h4 h5 hX hy), h⟩
      ·exact absurd h hz
     ·exact absurd h hz
    ·obtain ⟨xs, hxs, h⟩ := a0q hz h
     exact B0q (ag := args.toList) hE hz (by simpa using ho) rfl hxs h
   ·obtain ⟨V, hV, h⟩ := a0q hz h
    obtain ⟨xs, hxs, h⟩ := a0q hz h
    exact B0q (ag := args.toList) hE hz (by simpa using ho) hV hxs h
  ·exact absurd h hz
 ·exact absurd h hz
end
structure i1q (rg ix : Nat) : Prop where
 h : False
theorem f1q {a b : Nat} : ¬ i1q a b := fun h => h.h
def sealL (s : St) : List Nat → St
 | [] => s
 | k :: r => match s.gob k with
  | some (.tr _ _ xs) => match decide (k < 2000) with
   | true => sealL (s.seal k xs) r
   | false => sealL s r
  | _ => sealL s r
theorem To.sealL : ∀ {ks : List Nat} {s : St}, To s (sealL s ks)
 | [], s => To.refl s
 | k :: r, s => by
  simp only [AM.sealL]
  split
  ·rename_i hk
   split
   ·rename_i hl
    exact To.trans (fun Γ a w S β hs => hs.seal hk (of_decide_eq_true hl)) To.sealL
   ·exact To.sealL
  ·exact To.sealL
def ndB : List Nat → Bool
 | [] => true
 | k :: r => !r.contains k && ndB r
theorem a4nq : ∀ {l : List Nat}, ndB l = true → l.Nodup
 | [], _ => List.nodup_nil
 | k :: r, h => by
  simp only [ndB, Bool.and_eq_true, Bool.not_eq_true', List.contains_eq_mem, decide_eq_false_iff_not] at h
  exact List.nodup_cons.2 ⟨h.1, a4nq h.2⟩
def ad3q : Option (List CK) → Bool
 | some ks => ks.all fun c => decide (c ≠ .l ∧ c ≠ .f)
 | none => false
def a8Jq (z : Prop) (E : Env) (s : St) (e kk n : Nat) (tr : Bool) (Y : AV) (K : Bool → List Nat → List (List Da) → Prop) : Prop := match Y with
 | .one (.d (.sl ys)) => Do (∀ y ∈ ys, y.length = n) ∧ match tr && ad3q (a4q E.cks e) with
  | true => Do (k0q ys) ∧ K true [] ys
  | false => K false [] ys
 | .one (.ol k2) => opt z (s.gob k2) fun B => opt z (asL B) fun p => chk z (decide (p.2.2.1 = n)) <| match tr && p.1 with
  | true => chk z (decide (k2 ≠ kk)) (K true [k2] p.2.2.2)
  | false => K false [] p.2.2.2
 | .one .e0 => K tr [] []
 | .one (.ps k2 es2 lo2 n2) => opt z (s.gob k2) fun B => match B with
  | .lst Ee es xs => chk z (decide (es = n) && decide (es2 = n)) (Do (lo2 + n2 ≤ xs.length) ∧ Do (∀ y ∈ xs, y.length = n) ∧ K false [] ((xs.drop lo2).take n2))
  | .tr Ee es xs => chk z (decide (es = n) && decide (es2 = n)) (Do (lo2 + n2 ≤ xs.length) ∧ Do (∀ y ∈ xs, y.length = n) ∧ K false [] ((xs.drop lo2).take n2))
  | _ => z
 | _ => z
theorem a7mq {z : Prop} (hz : ¬ z) {E : Env} {s : St} {e kk n : Nat} {tr : Bool} {y : Operand} {Y : AV} {K : Bool → List Nat → List (List Da) → Prop} (hY : s.ev y = some Y) (h : a8Jq z E s e kk n tr Y K) :
  ∃ tr' ks ys, K tr' ks ys ∧ SrcA s y tr' kk n ys ks ∧ (tr' = true → tr = true) ∧ ((∀ y ∈ ys, y.length = n) ∨ ∃ k2 tr2 E2, s.gob k2 = some (mkL tr2 E2 n ys)) := by
 unfold a8Jq at h
 split at h
 ·obtain ⟨h1, h⟩ := h
  split at h
  ·rename_i hb
   simp only [Bool.and_eq_true] at hb
   exact ⟨true, [], _, h.2, .d hY (.inr h.1.h), fun _ => hb.1, .inl h1.h⟩
  ·exact ⟨false, [], _, h, .d hY (.inl rfl), by simp, .inl h1.h⟩
 ·rename_i k2
  obtain ⟨B, hB, h⟩ := a0q hz h
  obtain ⟨⟨tr2, E2, es2, ys⟩, hp, h⟩ := a0q hz h
  have hp := H5q hp
  rw [hp] at hB
  dsimp only at h hB
  obtain ⟨hn, h⟩ := a7q hz h
  have hn := of_decide_eq_true hn
  rw [hn] at hB
  split at h
  ·rename_i hb
   simp only [Bool.and_eq_true] at hb
   obtain ⟨hne, h⟩ := a7q hz h
   rw [hb.2] at hB
   exact ⟨true, _, _, h, .t hY hB (of_decide_eq_true hne), fun _ => hb.1, .inr ⟨k2, true, E2, hB⟩⟩
  ·exact ⟨false, _, _, h, .o hY hB (.inl rfl), by simp, .inr ⟨k2, tr2, E2, hB⟩⟩
 ·refine ⟨_, _, _, h, .s fun Γ a w S β hs => ?_, fun e => e, .inl (by simp)⟩
  have h1 := (hs.eval hY).one_inv
  generalize hv : a.eval y = v at h1
  cases h1
  exact ⟨by simp, .inl ⟨none, 0, rfl, rfl, RowR.nil⟩⟩
 ·obtain ⟨B, hB, h⟩ := a0q hz h
  split at h
  ·rename_i Ee es xs
   obtain ⟨hl, ⟨h1⟩, ⟨h2⟩, h⟩ := a7q hz h
   simp only [Bool.and_eq_true, decide_eq_true_eq] at hl
   obtain ⟨e1, e2⟩ := hl
   rw [e2] at hY
   rw [e1] at hB
   refine ⟨false, _, _, h, .s fun Γ a w S β hs => ?_, by simp, .inl fun r hr => h2 r (List.mem_of_mem_drop (List.mem_of_mem_take hr))⟩
   exact Src.of_part (c := none) (hs.mem.ob _ _ hB) (hs.eval hY).one_inv h1
  ·rename_i Ee es xs
   obtain ⟨hl, ⟨h1⟩, ⟨h2⟩, h⟩ := a7q hz h
   simp only [Bool.and_eq_true, decide_eq_true_eq] at hl
   obtain ⟨e1, e2⟩ := hl
   rw [e2] at hY
   rw [e1] at hB
   refine ⟨false, _, _, h, .s fun Γ a w S β hs => ?_, by simp, .inl fun r hr => h2 r (List.mem_of_mem_drop (List.mem_of_mem_take hr))⟩
   exact Src.of_part (c := none) (hs.mem.ob _ _ hB).lst_of_tr (hs.eval hY).one_inv h1
  ·exact absurd h hz
 ·exact absurd h hz
def sealStore (s : St) (x y : Operand) : St := match s.ev x with
 | some (.one (.op kk _)) => match s.gob kk with
  | some (.tr _ _ _) => match (s.ev y).bind AV.cells with
   | some zs => sealL s (AV.idsL zs)
   | none => s
  | _ => s
 | _ => s
theorem To.sealStore {s : St} {x y : Operand} : To s (sealStore s x y) := by
 unfold AM.sealStore
 split
 ·split
  ·split
   ·exact To.sealL
   ·exact To.refl s
  ·exact To.refl s
 ·exact To.refl s
def a9nq (z : Prop) (E : Env) (o : Oper) (s : St) (k : St → Prop) : Prop := match o.op with
 | .store t x y => opt z (a4q E.tab t) fun i => opt z (s.ev x) fun X => opt z ((s.ev y).bind AV.cells) fun zs => chk z o.dst.isNone <| match X with
  | .one (.op kk off) => opt z (s.gob kk) fun Y => match Y with
   | .var cs => chk z (decide (i.n = zs.length) && decide (off + zs.length ≤ cs.length) && a1aq zs) (k (s.setOb kk (.var (cs.take off ++ zs ++ cs.drop (off + zs.length)))))
   | Y => opt z (asL Y) fun p => opt z (a4q E.cks p.2.1) fun ck => match p.1, k5q s zs with
    | true, some q => chk z (decide (i.n = q.1.length ∧ 0 < q.1.length ∧ q.1.length ≤ p.2.2.1) && ndB q.2 && !q.2.contains kk && (q.2.isEmpty || decide (kk < 2000))) <|
     orH (a0gq E x) (fun c0 => ∃ m : Nat, off = m * p.2.2.1 + c0 ∧ shp ck fun c => p.2.2.2[m]? = some c ∧ chk z (decide (c0 + q.1.length ≤ c.length)) (k (s.mv (killL q.2) kk q.2 (.tr p.2.1 p.2.2.1 (p.2.2.2.set m (c.take c0 ++ q.1 ++ c.drop (c0 + q.1.length))))))) (p.2.2.1 + 1 - q.1.length) 0
    | _, _ => opt z (toDs zs) fun ds => chk z (decide (i.n = ds.length ∧ 0 < ds.length ∧ ds.length ≤ p.2.2.1)) <|
     orH (a0gq E x) (fun c0 => ∃ m : Nat, off = m * p.2.2.1 + c0 ∧ shp ck fun c => p.2.2.2[m]? = some c ∧ chk z (decide (c0 + ds.length ≤ c.length)) (k ((s.setOb kk (.lst p.2.1 p.2.2.1 p.2.2.2)).setOb kk (.lst p.2.1 p.2.2.1 (p.2.2.2.set m (c.take c0 ++ ds ++ c.drop (c0 + ds.length))))))) (p.2.2.1 + 1 - ds.length) 0
  | _ => z
 | _ => z
def a6Eq (z : Prop) (E : Env) (o : Oper) (s : St) (k : St → Prop) : Prop := match o.op with
 | .store t x y => opt z (a4q E.tab t) fun i => opt z (s.ev x) fun X => opt z ((s.ev y).bind AV.cells) fun zs => opt z (toDs zs) fun ds => chk z (o.dst.isNone && ds.all Da.flat) <| match X with
  | .one (.op kk off) => opt z (s.gob kk) fun Y => match Y with
   | .mt Ee es xs => opt z (a4q E.cks Ee) fun ck => chk z (decide (i.n = ds.length ∧ 0 < ds.length ∧ ds.length ≤ es)) <|
     orH (a0gq E x) (fun c0 => ∃ m : Nat, off = m * es + c0 ∧ shp ck fun c => xs[m]? = some c ∧ chk z (decide (c0 + ds.length ≤ c.length) && ((c.drop c0).take ds.length).all Da.flat) (k (s.mv (killL []) kk [] (.mt Ee es (xs.set m (c.take c0 ++ ds ++ c.drop (c0 + ds.length))))))) (es + 1 - ds.length) 0
   | _ => z
  | _ => z
 | _ => z
def a9Nq (z : Prop) (E : Env) (n : Nat) (o : Oper) (s : St) (k : St → Prop) : Prop := match o.op with
 | .load t x => opt z (a4q E.tab t) fun i => opt z o.dst fun d => opt z (s.ev x) fun X => chk z (!i.agg && decide (d < n)) <| match X with
  | .one (.op kk off) => opt z (s.gob kk) fun Y => match Y with
   | .mt Ee es xs => opt z (a4q E.cks Ee) fun ck =>
     orH (a0gq E x) (fun c0 => ∃ m : Nat, off = m * es + c0 ∧ shp ck fun c => xs[m]? = some c ∧ match c[c0]? with
      | some (.sl ys) => ∀ (a : Option Addr) (l r : Nat), k ((s.setOb kk (.mu Ee es xs m c0 a l r)).upd (some d) (.one (.raw a l r)) [])
      | _ => False) es 0
   | _ => z
  | _ => z
 | _ => z
def vNil (z : Prop) (E : Env) (n : Nat) (o : Oper) (s : St) (k : St → Prop) : Prop := match o.op with
 | .binOp .eql t x y _ => opt z (a4q E.tab t) fun i => opt z o.dst fun d => opt z (s.ev x) fun X => chk z (decide (i.pr = 4) && i.el.isSome && decide (d < n)) <| match X with
  | .one (.d (.sl xs)) => (xs.flatten = [] → k (s.upd (some d) (B true) [])) ∧ k (s.upd (some d) (B false) [])
  | _ => z
 | _ => z
def a9Qq (s : St) (x y : Operand) : Bool := match s.ev x, s.ev y with
 | some (.one (.d (.sl _))), some (.one .e0) => true
 | _, _ => false
def isMt (s : St) (x : Operand) : Bool := match s.ev x with
 | some (.one (.op kk _)) => match s.gob kk with
  | some (.mt _ _ _) => true
  | _ => false
 | _ => false
def vLit (z : Prop) (E : Env) (n : Nat) (o : Oper) (s : St) (k : St → Prop) : Prop := match o.op with
 | .buildSlice t m ps => opt z o.dst fun d => opt z (a4q E.tab t) fun i => opt z i.el fun e => opt z (a4q E.zer e) fun zz => chk z (decide (i.pr = 4 ∧ 0 < zz.1 ∧ m * zz.1 ≤ 16777216 ∧ d < n)) <| opt z (r2q s.ev ps.toList) fun ps' =>
   opt z (x9q (fun q => some (q * zz.1, zz.1)) (List.replicate m zz.2.2).flatten ps') fun out => opt z (k5q s out) fun p => chk z (ndB p.2 && s.fresh [(d, .lst e zz.1 [])]) (k (s.appd (some d) d p.2 (.tr e zz.1 (w2q zz.1 m p.1))))
 | _ => z
def a4Kq (s : St) (o : Oper) : List Nat := match o.op with
 | .buildSlice _ _ ps => match r2q s.ev ps.toList with
  | some ps' => AV.idsL (ps'.map (·.2)).flatten
  | none => []
 | _ => []
def srcP (z : Prop) (s : St) (n : Nat) (zd : Option (List Da)) (Y : AV) (K : List (List Da) → Prop) : Prop := match Y with
 | .one (.d (.sl ys)) => chk z zd.isNone (Do (∀ y ∈ ys, y.length = n) ∧ K ys)
 | .one (.d (.int _ m)) => opt z zd fun zd => ∃ q : Nat, m = (q : Int) ∧ K (List.replicate q zd)
 | .one (.ol k2) => opt z (s.gob k2) fun B => opt z (asL B) fun p => chk z (zd.isNone && decide (p.2.2.1 = n)) (K p.2.2.2)
 | .one (.ps k2 es2 lo2 n2) => opt z (s.gob k2) fun B => match B with
  | .lst Ee es xs => chk z (zd.isNone && decide (es = n) && decide (es2 = n)) (Do (lo2 + n2 ≤ xs.length) ∧ K ((xs.drop lo2).take n2))
  | .fu Ee es xs c => chk z (zd.isNone && decide (es = n) && decide (es2 = n)) (Do (lo2 + n2 ≤ xs.length) ∧ K ((xs.drop lo2).take n2))
  | _ => z
 | _ => z
structure a8Xq (s : St) (z : Operand) (es : Nat) (ys : List (List Da)) : Prop where
 h : ∀ (Γ : Cx) (a : Act) (w : World) (S : Nat → Prop) (β : Nat → OLoc), Sim Γ s a w S β → (∀ y ∈ ys, y.length = es) ∧ Src w (RepDs w S ys.flatten) es ys.length (a.eval z)
theorem a3Sq {s : St} {y : Operand} {k E es lo n : Nat} {c : Option Nat} {xs : List (List Da)} (hy : s.ev y = some (.one (.ps k es lo n))) (hk : s.gob k = some (mkP c E es xs)) (hl : lo + n ≤ xs.length) : a8Xq s y es ((xs.drop lo).take n) := ⟨fun Γ a w S β hs => by
 have hX := hs.mem.ob k _ hk
 obtain ⟨hp, _⟩ := o3q.1 hX
 exact ⟨fun r hr => hp.2.2.1 r (List.mem_of_mem_drop (List.mem_of_mem_take hr)), Src.of_part hX (hs.eval hy).one_inv hl⟩⟩
theorem a1Kq {z : Prop} (hz : ¬ z) {s : St} {n : Nat} {zd : Option (List Da)} {y : Operand} {Y : AV} {K : List (List Da) → Prop} (hpos : 0 < n) (hY : s.ev y = some Y) (h : srcP z s n zd Y K) :
  ∃ ys, K ys ∧ ((zd = none ∧ a8Xq s y n ys) ∨ ∃ d kq q, zd = some d ∧ s.ev y = some (I kq ((q : Nat) : Int)) ∧ ys = List.replicate q d) := by
 unfold srcP at h
 split at h
 ·obtain ⟨h0, h1, h⟩ := a7q hz h
  refine ⟨_, h, .inl ⟨by simpa using h0, ⟨fun Γ a w S β hs => ⟨h1.h, ?_⟩⟩⟩⟩
  have h2 := (hs.eval hY).one_inv
  generalize hv : a.eval y = v at h2
  cases h2 with | d h2 => exact Src.of_data hpos h2 h1.h
 ·rename_i kq m
  obtain ⟨d, hd, q, hq, h2⟩ := a0q hz h
  subst hq
  exact ⟨_, h2, .inr ⟨d, kq, q, hd, hY, rfl⟩⟩
 ·rename_i k2
  obtain ⟨B, hB, h⟩ := a0q hz h
  obtain ⟨⟨tr2, E2, es2, ys⟩, hp, h⟩ := a0q hz h
  have hp := H5q hp
  rw [hp] at hB
  dsimp only at h hB
  obtain ⟨hn, h3⟩ := a7q hz h
  simp only [Bool.and_eq_true, decide_eq_true_eq] at hn
  obtain ⟨h0, rfl⟩ := hn
  refine ⟨_, h3, .inl ⟨by simpa using h0, ⟨fun Γ a w S β hs => ⟨(a14q (hs.mem.ob k2 _ hB)).2, ?_⟩⟩⟩⟩
  have h2 := (hs.eval hY).one_inv
  generalize hv : a.eval y = v at h2
  cases h2
  exact (Src.of_own (hs.mem.ob k2 _ hB)).mono fun us hr => hr.ds
 ·rename_i k2 es2 lo2 n2
  obtain ⟨B, hB, h⟩ := a0q hz h
  split at h
  ·rename_i Ee es xs
   obtain ⟨hn, h1, h3⟩ := a7q hz h
   simp only [Bool.and_eq_true, decide_eq_true_eq] at hn
   obtain ⟨⟨h0, rfl⟩, e2⟩ := hn
   rw [e2] at hY
   exact ⟨_, h3, .inl ⟨by simpa using h0, a3Sq (c := none) hY hB h1.h⟩⟩
  ·rename_i Ee es xs c
   obtain ⟨hn, h1, h3⟩ := a7q hz h
   simp only [Bool.and_eq_true, decide_eq_true_eq] at hn
   obtain ⟨⟨h0, rfl⟩, e2⟩ := hn
   rw [e2] at hY
   exact ⟨_, h3, .inl ⟨by simpa using h0, a3Sq (c := some c) hY hB h1.h⟩⟩
  ·exact absurd h hz
 ·exact absurd h hz
def asP : Ob → Option (Option Nat × Nat × Nat × List (List Da))
 | .lst E es xs => some (none, E, es, xs)
 | .fu E es xs c => some (some c, E, es, xs)
 | _ => none
theorem a0Rq {X : Ob} {p : Option Nat × Nat × Nat × List (List Da)} (h : asP X = some p) : X = mkP p.1 p.2.1 p.2.2.1 p.2.2.2 := by
 cases X <;> simp [asP] at h <;> subst h <;> rfl
def zdOf (E : Env) (t' : TypeId) (zc : List At) : Option (Option (List Da)) := match a4q E.tab t' with
 | some i => match i.ik with
  | some _ => (toDs zc).map some
  | none => if i.pr = 4 ∧ i.el.isSome then some none else none
 | none => none
def srcC (z : Prop) (s : St) (n m : Nat) (Y : AV) (K : Nat → List (List Da) → Prop) : Prop :=
 let other := srcP z s n none Y fun ys => K ys.length (ys.take (min ys.length m))
 match Y with
 | .one (.ps k2 es2 lo2 n2) => opt z (s.gob k2) fun B => match B with
  | .fu Ee es xs c => chk z (decide (es = n) && decide (es2 = n)) (Do (lo2 + min n2 m ≤ xs.length) ∧ K n2 ((xs.drop lo2).take (min n2 m)))
  | _ => other
 | _ => other
structure afqq (s : St) (z : Operand) (es m nn : Nat) (ys : List (List Da)) : Prop where
 len : ys.length = min nn m
 h : ∀ (Γ : Cx) (a : Act) (w : World) (S : Nat → Prop) (β : Nat → OLoc), Sim Γ s a w S β → (∀ y ∈ ys, y.length = es) ∧ ∃ us, us.length = min nn m * es ∧ RepDs w S ys.flatten us ∧ ∀ P : Program, (Builtin.lenOf (a.eval z)).run P w = .ok nn w ∧ (Builtin.firstCells es (min nn m) (a.eval z)).run P w = .ok us.toArray w
theorem af1q {z : Prop} (hz : ¬ z) {s : St} {n m : Nat} {y : Operand} {Y : AV} {K : Nat → List (List Da) → Prop} (hpos : 0 < n) (hY : s.ev y = some Y) (h : srcC z s n m Y K) : ∃ nn ys, K nn ys ∧ afqq s y n m nn ys := by
 have other : srcP z s n none Y (fun ys => K ys.length (ys.take (min ys.length m))) → ∃ nn ys, K nn ys ∧ afqq s y n m nn ys := fun h => by
  obtain ⟨ys, h, hsrc⟩ := a1Kq hz hpos hY h
  obtain ⟨_, hsrc⟩ := hsrc.resolve_right (by rintro ⟨_, _, _, h, _⟩; cases h)
  refine ⟨_, _, h, by rw [List.length_take]; omega, fun Γ a w S β hs => ?_⟩
  obtain ⟨h1, h2⟩ := hsrc.h Γ a w S β hs
  obtain ⟨us, g1, g2, g3⟩ := h2.first h1 (Nat.min_le_left ys.length m)
  exact ⟨fun y hy => h1 y (List.mem_of_mem_take hy), us, g1, g2, g3⟩
 unfold srcC at h
 dsimp only at h
 split at h
 ·obtain ⟨B, hB, h⟩ := a0q hz h
  split at h
  ·rename_i Ee es xs c
   obtain ⟨hl, ⟨h1⟩, h'⟩ := a7q hz h
   clear h
   simp only [Bool.and_eq_true, decide_eq_true_eq] at hl
   obtain ⟨rfl, rfl⟩ := hl
   refine ⟨_, _, h', by rw [List.length_take, List.length_drop]; omega, fun Γ a w S β hs => ?_⟩
   have hX := hs.mem.ob _ _ hB
   obtain ⟨hp, _⟩ := (o3q (c := some c)).1 hX
   obtain ⟨us, g1, g2, g3⟩ := abQq (c := some c) hX (hs.eval hY).one_inv h1
   exact ⟨fun r hr => hp.2.2.1 r (List.mem_of_mem_drop (List.mem_of_mem_take hr)), us, g1, g2, fun P => ⟨(g3 P).1, (g3 P).2 (Nat.min_le_left _ _)⟩⟩
  ·exact other h
 ·exact other h
def vPt (z : Prop) (E : Env) (n : Nat) (o : Oper) (s : St) (k : St → Prop) : Prop := match o.op with
 | .call c => match c.callee, c.args.toList, c.argTypes.toList with
  | .builtin .copy, [x, y], [t, t'] => chk z (o.dst.all (· < n)) <| opt z (a4q E.tab t) fun i => opt z i.el fun e => opt z (a4q E.tab e) fun i2 => opt z (s.ev x) fun X => opt z (s.ev y) fun Y => match X with
   | .one (.ps kk es lo m) => opt z (s.gob kk) fun A => opt z (asP A) fun p => chk z (decide (i.pr = 4 ∧ p.2.1 = e ∧ p.2.2.1 = es ∧ i2.n = es ∧ 0 < es)) <| srcC z s es m Y fun nn ys =>
     let K := k ((s.setOb kk (mkP p.1 e es (p.2.2.2.take lo ++ ys ++ p.2.2.2.drop (lo + min nn m)))).upd o.dst (Z ((min nn m : Nat) : Int)) [])
     match p.1 with
     | none => Do (lo + min nn m ≤ p.2.2.2.length) ∧ K
     | some _ => Do (lo ≤ p.2.2.2.length ∧ lo + min nn m ≤ 281474976710656) ∧ K
   | _ => z
  | .builtin .clear, [x], [t] => chk z (o.dst.all (· < n)) <| opt z (a4q E.tab t) fun i => opt z i.el fun e => opt z (a4q E.zer e) fun zz => opt z (toDs zz.2.2) fun zd => opt z (s.ev x) fun X => match X with
   | .one (.ps kk es lo m) => opt z (s.gob kk) fun A => opt z (asP A) fun p => chk z (decide (i.pr = 4 ∧ p.2.1 = e ∧ p.2.2.1 = es ∧ zz.1 = es ∧ 0 < es)) <|
     Do (lo + m ≤ p.2.2.2.length) ∧ k ((s.setOb kk (mkP p.1 e es (p.2.2.2.take lo ++ List.replicate m zd ++ p.2.2.2.drop (lo + m)))).upd o.dst (.tup []) [])
   | _ => z
  | .builtin .append, [x, y], [t, t'] => chk z (o.dst.all (· < n)) <| opt z o.dst fun d => opt z (a4q E.tab t) fun i => opt z i.el fun e => opt z (a4q E.zer e) fun zz => opt z (zdOf E t' zz.2.2) fun zd => opt z (s.ev x) fun X => opt z (s.ev y) fun Y => chk z (decide (i.pr = 4 ∧ 0 < zz.1 ∧ 0 < zz.2.1)) <| match X with
   | .one .e0 => chk z (s.fresh [(d, .lst e zz.1 [])]) <| srcP z s zz.1 zd Y fun ys => Do (ys.length * zz.2.1 ≤ 140737488355328) ∧ k (s.upd (some d) (.one (.ol d)) [(d, .lst e zz.1 ys)])
   | .one (.ps kk es lo m) => opt z (s.gob kk) fun A => match A with
    | .lst Ee es' xs => chk z (decide (Ee = e ∧ es' = es ∧ zz.1 = es)) <| srcP z s es zd Y fun ys =>
      Do (lo + m + ys.length ≤ xs.length ∧ ys.length * zz.2.1 ≤ 140737488355328) ∧ k ((s.setOb kk (.lst e es (xs.take (lo + m) ++ ys ++ xs.drop (lo + m + ys.length)))).upd (some d) (.one (.ps kk es lo (m + ys.length))) [])
    | .fu Ee es' xs c => chk z (decide (Ee = e ∧ es' = es ∧ zz.1 = es) && s.fresh [(d, .lst e es [])]) <| srcP z s es zd Y fun ys =>
      Do (lo + m ≤ xs.length ∧ (lo + m + ys.length) * zz.2.1 ≤ 140737488355328) ∧ ifB (decide (lo + m + ys.length ≤ c))
       (k ((s.setOb kk (.fu e es (xs.take (lo + m) ++ ys ++ xs.drop (lo + m + ys.length)) c)).upd (some d) (.one (.ps kk es lo (m + ys.length))) []))
       (k (s.upd (some d) (.one (.ol d)) [(d, .lst e es ((xs.drop lo).take m ++ ys))]))
    | _ => z
   | _ => z
  | _, _, _ => z
 | _ => z
def isPt (E : Env) (s : St) (c : Call) : Bool := match c.args.toList, c.argTypes.toList with
 | [x, _], [t, t'] => decide (t ≠ t') || (match s.ev x with
  | some (.one (.ps _ _ _ _)) => true
  | _ => false)
 | _, _ => false
def vA (z : Prop) (E : Env) (n : Nat) (o : Oper) (s : St) (k : St → Prop) : Prop := match o.op with
  | .store _ x y => a9nq z E o (sealStore s x y) k
  | .buildSlice _ _ _ => vLit z E n o (sealL s (a4Kq s o)) k
  | .call c => match isPt E s c || (match c.callee with | .builtin .append => false | _ => true) with
   | true => vPt z E n o s k
   | false => match c.callee, c.args.toList, c.argTypes.toList with
    | .builtin .append, [x, y], [t, t'] => chk z (decide (t = t') && o.dst.all (· < n)) <| opt z (a4q E.tab t) fun i => opt z i.el fun e => opt z (a4q E.zer e) fun zz => chk z (decide (i.pr = 4 ∧ 0 < zz.1 ∧ 0 < zz.2.1)) <| opt z (s.ev x) fun X => opt z (s.ev y) fun Y => match X with
      | .one (.ol kk) => opt z (s.gob kk) fun A => opt z (asL A) fun p => chk z (decide (p.2.1 = e ∧ p.2.2.1 = zz.1 ∧ kk < 2000)) <| a8Jq z E s e kk zz.1 p.1 Y fun tr' ks ys =>
          Do ((p.2.2.2.length + ys.length) * zz.2.1 ≤ 140737488355328) ∧ k (s.appd o.dst kk ks (mkL tr' e zz.1 (p.2.2.2 ++ ys)))
      | .one .e0 => opt z o.dst fun d => chk z (decide (d < 2000) && s.fresh [(d, .lst e zz.1 [])]) <| a8Jq z E s e d zz.1 true Y fun tr' ks ys =>
          Do (ys.length * zz.2.1 ≤ 140737488355328) ∧ k (s.appd o.dst d ks (mkL tr' e zz.1 ys))
      | _ => z
    | _, _, _ => z
  | _ => z
def Step (n : Nat) (P : Program) (o : Oper) (s s' : St) : Prop := ∀ Γ : Cx, Γ.n = n → ∀ (ops : Array Oper) (rest : List Oper) (K : St → Prop), o.guard = none → d5q Γ P ops rest K s' → d5q Γ P ops (o :: rest) K s
theorem arr2 {α : Type} {xs : Array α} {a b : α} (h : xs.toList = [a, b]) : xs = #[a, b] := by
 rw [← Array.toArray_toList (xs := xs), h]
theorem a0nq {a b c : Nat} (hb : 0 < b) (h : a * b ≤ c) : a ≤ c := Nat.le_trans (Nat.le_mul_of_pos_right a hb) h
section
variable {Γ : Cx} {P : Program} {E : Env} {z : Prop} {ops : Array Oper} {rest : List Oper} {o : Oper} {s : St} {k K : St → Prop}
theorem Step.sound {s' : St} (h : Step Γ.n P o s s') (hg : o.guard = none) (hr : d5q Γ P ops rest K s') : d5q Γ P ops (o :: rest) K s := h Γ rfl ops rest K hg hr
theorem ab1q {n : Nat} (hE : EnvOk P E) (hz : ¬ z) (h : a9nq z E o s k) : ∃ s', Step n P o s s' ∧ k s' := by
  unfold a9nq at h
  split at h
  · rename_i t x y ho
    obtain ⟨i, hi, h⟩ := a0q hz h
    obtain ⟨X, hX, h⟩ := a0q hz h
    obtain ⟨zs, hzs, h⟩ := a0q hz h
    obtain ⟨hd, h⟩ := a7q hz h
    have hd : o.dst = none := by simpa using hd
    obtain ⟨Z, hZ, hc⟩ : ∃ Z, s.ev y = some Z ∧ Z.cells = some zs := by
      cases hy : s.ev y with
      | none => rw [hy] at hzs; simp at hzs
      | some Z => rw [hy] at hzs; exact ⟨Z, rfl, hzs⟩
    obtain ⟨d1, j1, hdd, hj, g1, g2, g3, g4, g5, g6, g7⟩ := b2q (hE.tab t i hi)
    obtain ⟨kk, off, rfl⟩ : ∃ kk off, X = .one (.op kk off) := by
      split at h
      · exact ⟨_, _, rfl⟩
      · exact absurd h hz
    dsimp only at h
    obtain ⟨Y, hY, h⟩ := a0q hz h
    by_cases hv : ∃ cs, Y = .var cs
    · obtain ⟨cs, rfl⟩ := hv
      dsimp only at h
      obtain ⟨hl, h⟩ := a7q hz h
      simp only [Bool.and_eq_true, decide_eq_true_eq] at hl
      exact ⟨_, fun Γ hn ops rest K hg h => aeDq hE.tab ho hg hd hX hZ hc hY hi hl.1.1 hl.1.2 hl.2 h, h⟩
    · have hlst : ∀ (tr : Bool) (Ee es : Nat) (xs : List (List Da)) (ck : List CK), Y = mkL tr Ee es xs → (opt z (toDs zs) fun ds => chk z (decide (i.n = ds.length ∧ 0 < ds.length ∧ ds.length ≤ es)) <|
          orH (a0gq E x) (fun c0 => ∃ m : Nat, off = m * es + c0 ∧ shp ck fun c => xs[m]? = some c ∧ chk z (decide (c0 + ds.length ≤ c.length)) (k ((s.setOb kk (.lst Ee es xs)).setOb kk (.lst Ee es (xs.set m (c.take c0 ++ ds ++ c.drop (c0 + ds.length))))))) (es + 1 - ds.length) 0) → ∃ s', Step n P o s s' ∧ k s' := by
        intro tr Ee es xs ck hp h
        rw [hp] at hY
        obtain ⟨ds, hds, h⟩ := a0q hz h
        obtain ⟨hl, h⟩ := a7q hz h
        obtain ⟨h1, h2, h3⟩ := of_decide_eq_true hl
        obtain ⟨q, m, hoff, h⟩ := a2Wq h
        obtain ⟨c, _, hm, h⟩ := C1q h
        obtain ⟨hq, h⟩ := a7q hz h
        have hq := of_decide_eq_true hq
        have hT : To s (s.setOb kk (.lst Ee es xs)) := fun Γ a w S β hs => ⟨S, β, hs.setX hY fun hX => by
          cases tr with
          | true => exact ObRep.lst_of_tr hX
          | false => exact hX⟩
        have hX' : (s.setOb kk (.lst Ee es xs)).ev x = some (.one (.op kk off)) := by cases x <;> exact hX
        have hZ' : (s.setOb kk (.lst Ee es xs)).ev y = some Z := by cases y <;> exact hZ
        exact ⟨_, fun Γ hn ops rest K hg h => a3kq hT (adJq hE.tab ho hg hd hX' hZ' hc hds (by rw [a33q, if_pos rfl]) hi h1 hm hoff hq h2 h), h⟩
      have h' : opt z (asL Y) fun p => opt z (a4q E.cks p.2.1) fun ck => match p.1, k5q s zs with
        | true, some q => chk z (decide (i.n = q.1.length ∧ 0 < q.1.length ∧ q.1.length ≤ p.2.2.1) && ndB q.2 && !q.2.contains kk && (q.2.isEmpty || decide (kk < 2000))) <|
          orH (a0gq E x) (fun c0 => ∃ m : Nat, off = m * p.2.2.1 + c0 ∧ shp ck fun c => p.2.2.2[m]? = some c ∧ chk z (decide (c0 + q.1.length ≤ c.length)) (k (s.mv (killL q.2) kk q.2 (.tr p.2.1 p.2.2.1 (p.2.2.2.set m (c.take c0 ++ q.1 ++ c.drop (c0 + q.1.length))))))) (p.2.2.1 + 1 - q.1.length) 0
        | _, _ => opt z (toDs zs) fun ds => chk z (decide (i.n = ds.length ∧ 0 < ds.length ∧ ds.length ≤ p.2.2.1)) <|
          orH (a0gq E x) (fun c0 => ∃ m : Nat, off = m * p.2.2.1 + c0 ∧ shp ck fun c => p.2.2.2[m]? = some c ∧ chk z (decide (c0 + ds.length ≤ c.length)) (k ((s.setOb kk (.lst p.2.1 p.2.2.1 p.2.2.2)).setOb kk (.lst p.2.1 p.2.2.1 (p.2.2.2.set m (c.take c0 ++ ds ++ c.drop (c0 + ds.length))))))) (p.2.2.1 + 1 - ds.length) 0 := by
        cases Y with
        | var cs => exact absurd ⟨cs, rfl⟩ hv
        | _ => exact h
      clear h
      obtain ⟨⟨tr, Ee, es, xs⟩, hp, h⟩ := a0q hz h'
      have hp := H5q hp
      dsimp only at h hp
      obtain ⟨ck, hck, h⟩ := a0q hz h
      cases tr with
      | false => exact hlst false Ee es xs ck hp h
      | true =>
        cases hqq : k5q s zs with
        | none => rw [hqq] at h; exact hlst true Ee es xs ck hp h
        | some q =>
          rw [hqq] at h
          rw [hp] at hY
          obtain ⟨hl, h⟩ := a7q hz h
          simp only [Bool.and_eq_true, decide_eq_true_eq, Bool.not_eq_true', List.contains_eq_mem, decide_eq_false_iff_not, Bool.or_eq_true, List.isEmpty_iff] at hl
          obtain ⟨⟨⟨⟨h1, h2, h3⟩, h4⟩, h5⟩, h6⟩ := hl
          obtain ⟨c0, m, hoff, h⟩ := a2Wq h
          obtain ⟨c, _, hm, h⟩ := C1q h
          obtain ⟨hq, h⟩ := a7q hz h
          exact ⟨_, fun Γ hn ops rest K hg h => aayq ho hg hd hX hZ hc hqq (a4nq h4) h5 h6 hY hj (g2.trans h1) hm hoff (of_decide_eq_true hq) h2 h, h⟩
  · exact absurd h hz
theorem a7zq (hE : EnvOk P E) (hz : ¬ z) (hg : o.guard = none) (hk : ∀ s', k s' → d5q Γ P ops rest K s') (h : a6Eq z E o s k) : d5q Γ P ops (o :: rest) K s := by
 unfold a6Eq at h
 split at h
 ·rename_i t x y ho
  obtain ⟨i, hi, h⟩ := a0q hz h
  obtain ⟨X, hX, h⟩ := a0q hz h
  obtain ⟨zs, hzs, h⟩ := a0q hz h
  obtain ⟨ds, hds, h⟩ := a0q hz h
  obtain ⟨hd, h⟩ := a7q hz h
  simp only [Bool.and_eq_true, Option.isNone_iff_eq_none] at hd
  obtain ⟨Zv, hZ, hc⟩ : ∃ Z, s.ev y = some Z ∧ Z.cells = some zs := by
   cases hy : s.ev y with
   | none => rw [hy] at hzs; simp at hzs
   | some Z => rw [hy] at hzs; exact ⟨Z, rfl, hzs⟩
  obtain ⟨d1, j1, hdd, hj, g1, g2, g3, g4, g5, g6, g7⟩ := b2q (hE.tab t i hi)
  split at h
  ·obtain ⟨Y, hY, h⟩ := a0q hz h
   split at h
   ·obtain ⟨ck, hck, h⟩ := a0q hz h
    obtain ⟨hl, h⟩ := a7q hz h
    obtain ⟨h1, h2, h3⟩ := of_decide_eq_true hl
    obtain ⟨c0, m, hoff, h⟩ := a2Wq h
    obtain ⟨c, _, hm, h⟩ := C1q h
    obtain ⟨hq, h⟩ := a7q hz h
    simp only [Bool.and_eq_true] at hq
    exact aaKq ho hg hd.1 hX hZ hc hds hd.2 hY hj (g2.trans h1) hm hoff (of_decide_eq_true hq.1) hq.2 h2 (hk _ h)
   ·exact absurd h hz
  ·exact absurd h hz
 ·exact absurd h hz
theorem aaiq (hE : EnvOk P E) (hz : ¬ z) (hg : o.guard = none) (hk : ∀ s', k s' → d5q Γ P ops rest K s') (h : a9Nq z E Γ.n o s k) : d5q Γ P ops (o :: rest) K s := by
 unfold a9Nq at h
 split at h
 ·rename_i t x ho
  obtain ⟨i, hi, h⟩ := a0q hz h
  obtain ⟨d, hd, h⟩ := a0q hz h
  obtain ⟨X, hX, h⟩ := a0q hz h
  obtain ⟨hl, h⟩ := a7q hz h
  simp only [Bool.and_eq_true, Bool.not_eq_true', decide_eq_true_eq] at hl
  obtain ⟨d1, j1, hdd, hj, g1, g2, g3, g4, g5, g6, g7⟩ := b2q (hE.tab t i hi)
  split at h
  ·obtain ⟨Y, hY, h⟩ := a0q hz h
   split at h
   ·obtain ⟨ck, hck, h⟩ := a0q hz h
    obtain ⟨c0, m, hoff, h⟩ := a2Wq h
    obtain ⟨c, _, hm, h⟩ := C1q h
    cases hcc : c[c0]? with
    | none => rw [hcc] at h; exact h.elim
    | some x0 =>
     rw [hcc] at h
     cases x0 with
     | sl ys => exact acsq ho hg hd hl.2 hdd (g1.trans hl.1) hX hY hm hcc hoff fun a l r => hk _ (h a l r)
     | _ => exact h.elim
   ·exact absurd h hz
  ·exact absurd h hz
 ·exact absurd h hz
theorem abPq (hE : EnvOk P E) (hz : ¬ z) (hg : o.guard = none) (hk : ∀ s', k s' → d5q Γ P ops rest K s') {t t' : TypeId} {x y : Operand} (ho : o.op = .binOp .eql t x y t') (hy : a9Qq s x y = true) (h : vNil z E Γ.n o s k) : d5q Γ P ops (o :: rest) K s := by
 unfold vNil at h
 rw [ho] at h
 dsimp only at h
 obtain ⟨i, hi, h⟩ := a0q hz h
 obtain ⟨d, hd, h⟩ := a0q hz h
 obtain ⟨X, hX, h⟩ := a0q hz h
 obtain ⟨hl, h⟩ := a7q hz h
 simp only [Bool.and_eq_true, decide_eq_true_eq, Option.isSome_iff_exists] at hl
 obtain ⟨⟨h1, e, he⟩, h2⟩ := hl
 obtain ⟨d1, j1, hdd, hj, g1, g2, g3, g4, g5, g6, g7⟩ := b2q (hE.tab t i hi)
 have := h0q (g4.trans he) (g6.trans h1); subst this
 unfold a9Qq at hy
 split at hy
 ·rename_i xs hx hz0
  rw [hx] at hX
  cases hX
  exact adwq ho hg hd h2 hdd hx hz0 (fun hn => hk _ (h.1 hn)) (hk _ h.2)
 ·cases hy
theorem ad2q {n : Nat} (hE : EnvOk P E) (hz : ¬ z) (h : vLit z E n o s k) : ∃ s', Step n P o s s' ∧ k s' := by
 unfold vLit at h
 split at h
 ·rename_i t m ps ho
  obtain ⟨d, hd, h⟩ := a0q hz h
  obtain ⟨i, hi, h⟩ := a0q hz h
  obtain ⟨e, he, h⟩ := a0q hz h
  obtain ⟨⟨zn, zb, zc⟩, hzz, h⟩ := a0q hz h
  obtain ⟨hl, h⟩ := a7q hz h
  obtain ⟨h1, h2, h3, h4⟩ := of_decide_eq_true hl
  obtain ⟨ps', has, h⟩ := a0q hz h
  obtain ⟨out, hout, h⟩ := a0q hz h
  obtain ⟨p, hp, h⟩ := a0q hz h
  obtain ⟨hl, h⟩ := a7q hz h
  simp only [Bool.and_eq_true] at hl
  obtain ⟨j, zv, z1, z2, z3, z4, z5, z6⟩ := hE.zer e _ hzz
  obtain ⟨d1, j1, hdd, hj, g1, g2, g3, g4, g5, g6, g7⟩ := b2q (hE.tab t i hi)
  have := h0q (g4.trans he) (g6.trans h1); subst this
  dsimp only at z2 h2 h3 hout hl h
  subst z2
  exact ⟨_, fun Γ hn ops rest K hg h => aeUq (by simpa using ho) hg hd (by rw [hn]; exact h4) hdd z1 z4 z5 h2 z6 h3 has hout hp (a4nq hl.1) hl.2 h, h⟩
 ·exact absurd h hz
theorem Y2q {n : Nat} {s' : St} (h : ∀ Γ : Cx, Γ.n = n → XOp Γ P o s s') : Step n P o s s' := fun Γ hn ops rest K hg hr => st_x (h Γ hn) hg hr
theorem a1Iq {t' : TypeId} {e es b : Nat} {zc : List At} {zd : Option (List Da)} {zv : Value} {y : Operand} {ys : List (List Da)} (hE : EnvOk P E) (hpos : 0 < es) (hzd : zdOf E t' zc = some zd) (z5 : zv.cells.size = es) (z6 : n1q zv.cells.toList = some zc)
  (hs : (zd = none ∧ a8Xq s y es ys) ∨ ∃ d kq q, zd = some d ∧ s.ev y = some (I kq ((q : Nat) : Int)) ∧ ys = List.replicate q d) : a15q P s t' e es zv y ys := by
 unfold zdOf at hzd
 split at hzd
 ·rename_i i hi
  obtain ⟨d1, j1, hd, hj, a1, a2, a3, a4, a5, a6, a7⟩ := b2q (hE.tab t' i hi)
  split at hzd
  ·rename_i kk hk
   have := a9Uq (a7.trans hk); subst this
   cases hq : toDs zc with
   | none => rw [hq] at hzd; simp at hzd
   | some d0 =>
    rw [hq] at hzd
    simp at hzd
    rcases hs with ⟨h1, _⟩ | ⟨d, kq, q, h1, h2, rfl⟩
    ·rw [h1] at hzd; cases hzd
    ·rw [h1] at hzd
     cases hzd
     exact a9Aq (b := b) hd z5 hpos z6 hq h2
  ·split at hzd
   ·rename_i hc
    simp at hzd
    obtain ⟨h1, h2⟩ := hc
    obtain ⟨e', he'⟩ := Option.isSome_iff_exists.1 h2
    have := h0q (a4.trans he') (a6.trans h1); subst this
    rcases hs with ⟨_, h⟩ | ⟨d, kq, q, h3, _⟩
    ·exact adiq hd h.h
    ·rw [h3] at hzd; cases hzd
   ·cases hzd
 ·cases hzd
theorem afYq {c : Prop} [Decidable c] {p q : Prop} (h : ifB (decide c) p q) : (c ∧ p) ∨ (¬ c ∧ q) := by
 by_cases hc : c
 ·rw [decide_eq_true hc] at h; exact .inl ⟨hc, h⟩
 ·rw [decide_eq_false hc] at h; exact .inr ⟨hc, h⟩
theorem aeMq {n : Nat} (hE : EnvOk P E) (hz : ¬ z) (h : vPt z E n o s k) : ∃ s', Step n P o s s' ∧ k s' := by
 unfold vPt at h
 split at h
 ·rename_i c ho
  obtain ⟨callee, args, ats⟩ := c
  simp only at h
  split at h
  ·rename_i x y t t' ha1 ha2
   have ha1 := arr2 ha1
   have ha2 := arr2 ha2
   subst ha1; subst ha2
   obtain ⟨hd, h⟩ := a7q hz h
   obtain ⟨i, hi, h⟩ := a0q hz h
   obtain ⟨e, he, h⟩ := a0q hz h
   obtain ⟨i2, hi2, h⟩ := a0q hz h
   obtain ⟨X, hX, h⟩ := a0q hz h
   obtain ⟨Y, hY, h⟩ := a0q hz h
   split at h
   ·rename_i kk es lo m
    obtain ⟨A, hA, h⟩ := a0q hz h
    obtain ⟨⟨cc, Ee, es', xs⟩, hp, h⟩ := a0q hz h
    have hp := a0Rq hp
    rw [hp] at hA
    dsimp only at h hA
    obtain ⟨hl, h⟩ := a7q hz h
    obtain ⟨p1, rfl, rfl, p4, p5⟩ := of_decide_eq_true hl
    obtain ⟨nn, ys, h, hsrc⟩ := af1q hz p5 hY h
    obtain ⟨d1, j1, hdd, hj, a1, a2, a3, a4, a5, a6, a7⟩ := b2q (hE.tab t i hi)
    obtain ⟨d2, j2, hdd2, hj2, b1, b2, b3, _⟩ := b2q (hE.tab _ i2 hi2)
    have := h0q (a4.trans he) (a6.trans p1); subst this
    cases cc with
    | none =>
     obtain ⟨⟨q1⟩, h⟩ := h
     refine ⟨_, Y2q fun Γ hn => ?_, h⟩
     intro a w S β K' R hs hK
     have hlen := ((o3q (c := none)).1 (hs.mem.ob _ _ hA)).1.2.1.1
     exact a7iq (c := none) ho (by rw [hn]; exact hd) hdd hj2 (b2.trans p4) hX hA (hsrc.h Γ) hsrc.len (by omega) (fun _ => q1) (by omega) a w S β K' R hs hK
    | some c =>
     obtain ⟨⟨q1, q2⟩, h⟩ := h
     exact ⟨_, Y2q fun Γ hn => a7iq (c := some _) ho (by rw [hn]; exact hd) hdd hj2 (b2.trans p4) hX hA (hsrc.h Γ) hsrc.len q1 (by simp) q2, h⟩
   ·exact absurd h hz
  ·rename_i x t ha1 ha2
   have ha1 := arr1 ha1
   have ha2 := arr1 ha2
   subst ha1; subst ha2
   obtain ⟨hd, h⟩ := a7q hz h
   obtain ⟨i, hi, h⟩ := a0q hz h
   obtain ⟨e, he, h⟩ := a0q hz h
   obtain ⟨⟨zn, zb, zc⟩, hzz, h⟩ := a0q hz h
   obtain ⟨zd, hzd, h⟩ := a0q hz h
   obtain ⟨X, hX, h⟩ := a0q hz h
   split at h
   ·rename_i kk es lo m
    obtain ⟨A, hA, h⟩ := a0q hz h
    obtain ⟨⟨cc, Ee, es', xs⟩, hp, h⟩ := a0q hz h
    have hp := a0Rq hp
    rw [hp] at hA
    dsimp only at h hA
    obtain ⟨hl, ⟨q1⟩, h⟩ := a7q hz h
    obtain ⟨p1, rfl, rfl, rfl, p5⟩ := of_decide_eq_true hl
    obtain ⟨d1, j1, hdd, hj, a1, a2, a3, a4, a5, a6, a7⟩ := b2q (hE.tab t i hi)
    have := h0q (a4.trans he) (a6.trans p1); subst this
    exact ⟨_, Y2q fun Γ hn => aciq (hE.zer _ _ hzz) hzd p5 ho (by rw [hn]; exact hd) hdd hX hA q1, h⟩
   ·exact absurd h hz
  ·rename_i x y t t' ha1 ha2
   have ha1 := arr2 ha1
   have ha2 := arr2 ha2
   subst ha1; subst ha2
   obtain ⟨hd, h⟩ := a7q hz h
   obtain ⟨d, hdst, h⟩ := a0q hz h
   obtain ⟨i, hi, h⟩ := a0q hz h
   obtain ⟨e, he, h⟩ := a0q hz h
   obtain ⟨⟨zn, zb, zc⟩, hzz, h⟩ := a0q hz h
   obtain ⟨zd, hzd, h⟩ := a0q hz h
   obtain ⟨X, hX, h⟩ := a0q hz h
   obtain ⟨Y, hY, h⟩ := a0q hz h
   obtain ⟨hl, h⟩ := a7q hz h
   obtain ⟨p1, p2, p3⟩ := of_decide_eq_true hl
   obtain ⟨j, zv, z1, z2, z3, z4, z5, z6⟩ := hE.zer e _ hzz
   obtain ⟨d1, j1, hdd, hj, a1, a2, a3, a4, a5, a6, a7⟩ := b2q (hE.tab t i hi)
   have := h0q (a4.trans he) (a6.trans p1); subst this
   dsimp only at z2 z3 z5 z6 p2 p3 hzd h
   split at h
   ·obtain ⟨hf, h⟩ := a7q hz h
    obtain ⟨ys, ⟨⟨q1⟩, h⟩, hsrc⟩ := a1Kq hz p2 hY h
    rw [← hdst] at h
    have hsm : ys.length ≤ 281474976710656 := Nat.le_trans (a0nq p3 q1) (by decide)
    exact ⟨_, Y2q fun Γ hn => (aelq ho hdd z1 z2 z4 z5 hX (a1Iq (b := zb) hE p2 hzd z5 z6 hsrc) p2 hsm (by rw [z3]; exact q1)).xop (by rw [hn]; exact hd) hf, h⟩
   ·rename_i kk es lo m
    obtain ⟨A, hA, h⟩ := a0q hz h
    split at h
    ·rename_i Ee es' xs
     obtain ⟨hl, h⟩ := a7q hz h
     obtain ⟨rfl, rfl, rfl⟩ := of_decide_eq_true hl
     obtain ⟨ys, ⟨⟨q1, q2⟩, h⟩, hsrc⟩ := a1Kq hz p2 hY h
     rw [← hdst] at h
     refine ⟨_, Y2q fun Γ hn => ?_, h⟩
     intro a w S β K' R hs hK
     have hlen := ((o3q (c := none)).1 (hs.mem.ob _ _ hA)).1.2.1.1
     exact a7gq (b := zb) (c := none) ho (by rw [hn]; exact hd) hdd z1 z2 z4 hX hA (a1Iq (b := zb) hE p2 hzd z5 z6 hsrc) (by omega) p2 q1 (by omega) (by rw [z3]; omega) a w S β K' R hs hK
    ·rename_i Ee es' xs c
     obtain ⟨hl, h⟩ := a7q hz h
     simp only [Bool.and_eq_true, decide_eq_true_eq] at hl
     obtain ⟨⟨rfl, rfl, rfl⟩, hf⟩ := hl
     obtain ⟨ys, ⟨⟨q1, q2⟩, h⟩, hsrc⟩ := a1Kq hz p2 hY h
     rw [← hdst] at h
     have hs1 := a0nq p3 q2
     have hs2 : ys.length * zb ≤ 140737488355328 := by refine Nat.le_trans ?_ q2; exact Nat.mul_le_mul_right _ (Nat.le_add_left _ _)
     obtain ⟨hc, h⟩ | ⟨hc, h⟩ := afYq h
     ·exact ⟨_, Y2q fun Γ hn => a7gq (b := zb) (c := some _) ho (by rw [hn]; exact hd) hdd z1 z2 z4 hX hA (a1Iq (b := zb) hE p2 hzd z5 z6 hsrc) q1 p2 hc (by omega) (by rw [z3]; omega), h⟩
     ·exact ⟨_, Y2q fun Γ hn => (achq ho hdd z1 z2 z4 z5 hX hA (a1Iq (b := zb) hE p2 hzd z5 z6 hsrc) q1 p2 (by omega) (by omega) (by rw [z3]; refine Nat.le_trans (Nat.mul_le_mul_right _ ?_) q2; omega)).xop (by rw [hn]; exact hd) hf, h⟩
    ·exact absurd h hz
   ·exact absurd h hz
  ·exact absurd h hz
 ·exact absurd h hz
theorem abtq {n : Nat} (hE : EnvOk P E) (hz : ¬ z) (h : vA z E n o s k) : ∃ s', Step n P o s s' ∧ k s' := by
 unfold vA at h
 split at h
 ·obtain ⟨s', h1, h⟩ := ab1q (n := n) hE hz h
  exact ⟨s', fun Γ hn ops rest K hg h => a3kq To.sealStore (h1 Γ hn ops rest K hg h), h⟩
 ·obtain ⟨s', h1, h⟩ := ad2q hE hz h
  exact ⟨s', fun Γ hn ops rest K hg h => a3kq To.sealL (h1 Γ hn ops rest K hg h), h⟩
 ·rename_i c ho
  obtain ⟨callee, args, ats⟩ := c
  simp only at h
  split at h
  ·exact aeMq hE hz h
  split at h
  ·rename_i x y t t' ha1 ha2 _
   have ha1 := arr2 ha1
   have ha2 := arr2 ha2
   subst ha1; subst ha2
   obtain ⟨hl, h⟩ := a7q hz h
   simp only [Bool.and_eq_true, decide_eq_true_eq] at hl
   obtain ⟨htt, hd⟩ := hl
   rw [← htt] at ho
   obtain ⟨i, hi, h⟩ := a0q hz h
   obtain ⟨e, he, h⟩ := a0q hz h
   obtain ⟨⟨zn, zb, zc⟩, hzz, h⟩ := a0q hz h
   obtain ⟨hl, h⟩ := a7q hz h
   obtain ⟨h1, h2, h3⟩ := of_decide_eq_true hl
   obtain ⟨X, hX, h⟩ := a0q hz h
   obtain ⟨Y, hY, h⟩ := a0q hz h
   have hzer := hE.zer e _ hzz
   dsimp only at h h2 h3 hzer
   split at h
   ·rename_i kk
    obtain ⟨A, hA, h⟩ := a0q hz h
    obtain ⟨⟨tr0, Ee, es, xs⟩, hp, h⟩ := a0q hz h
    have hp := H5q hp
    rw [hp] at hA
    dsimp only at h hA
    obtain ⟨hl, h⟩ := a7q hz h
    obtain ⟨e1, e2, h4⟩ := of_decide_eq_true hl
    rw [e1, e2] at hA
    obtain ⟨tr', ks, ys, h, hsrc, htr, hle⟩ := a7mq hz hY h
    refine ⟨_, fun Γ hn ops rest K hg hr => ?_, h.2⟩
    have fin : (∀ y ∈ ys, y.length = zn) → d5q Γ P ops (o :: rest) K s := fun hyes =>
     adtq hE.tab hzer ho hg (by rw [hn]; exact hd) hi h1 he h2 (.inl ⟨tr0, hA, htr, hX⟩) hsrc hyes h.1.h (Nat.le_trans (a0nq h3 h.1.h) (by decide)) hr h4
    rcases hle with hle | ⟨k2, tr2, E2, hB⟩
    ·exact fin hle
    ·exact a9wq hB fun _ hyes => fin hyes
   ·obtain ⟨d, hdd, h⟩ := a0q hz h
    obtain ⟨hl, h⟩ := a7q hz h
    simp only [Bool.and_eq_true, decide_eq_true_eq] at hl
    obtain ⟨h4, hf⟩ := hl
    obtain ⟨tr', ks, ys, h, hsrc, htr, hle⟩ := a7mq hz hY h
    refine ⟨_, fun Γ hn ops rest K hg hr => ?_, h.2⟩
    have fin : (∀ y ∈ ys, y.length = zn) → d5q Γ P ops (o :: rest) K s := fun hyes =>
     adtq (xs := []) hE.tab hzer ho hg (by rw [hn]; exact hd) hi h1 he h2 (.inr ⟨hX, rfl, hf⟩) hsrc hyes (by simpa using h.1.h) (by simpa using Nat.le_trans (a0nq h3 h.1.h) (by decide)) hr h4
    rcases hle with hle | ⟨k2, tr2, E2, hB⟩
    ·exact fin hle
    ·exact a9wq hB fun _ hyes => fin hyes
   ·exact absurd h hz
  ·exact absurd h hz
 ·exact absurd h hz
theorem Z8q (hE : EnvOk P E) (hz : ¬ z) (hg : o.guard = none) (hk : ∀ s', k s' → d5q Γ P ops rest K s') (h : vA z E Γ.n o s k) : d5q Γ P ops (o :: rest) K s := by
 obtain ⟨s', h1, h⟩ := abtq hE hz h
 exact h1.sound hg (hk _ h)
end
def St.nilAgD (s : St) (t : Nat) (cs : List At) : St := ⟨(t, (AV.agg cs).norm) :: s.tm, s.ob⟩
theorem To.nilAgD {s : St} {t : Nat} {cs : List At} (ht : s.get t = some (.agg cs)) : To s (s.nilAgD t cs) := by
 intro Γ a w S β hs
 refine ⟨S, β, hs.defers, hs.sz, fun i x hi => ?_, hs.mem⟩
 simp only [St.nilAgD, St.get, a4q] at hi
 by_cases e : t = i
 ·subst e
  simp at hi
  subst hi
  obtain ⟨v, hv, hr⟩ := hs.tm t _ ht
  exact ⟨_, hv, hr.norm⟩
 ·simp [e] at hi; exact hs.tm i x hi
def St.nilAgg (s : St) (t q d E es : Nat) (cs : List At) : St := { tm := (t, .agg (cs.set q (.ol d))) :: s.tm, ob := (d, .tr E es []) :: s.ob }
theorem To.nilAgg {s : St} {t q d E es : Nat} {cs : List At} (ht : s.get t = some (.agg cs)) (hc : cs[q]? = some .e0) (hf : s.fresh [(d, .lst E es [])] = true) : To s (s.nilAgg t q d E es cs) := by
 intro Γ a w S β hs
 let l0 : OLoc := ⟨0, none, 0, 0, false, [], []⟩
 have hl0 : ∀ b, ¬ l0.Own b := fun b hb => by rcases hb with ⟨h, _⟩ | h <;> simp [l0] at h
 let β' : Nat → OLoc := fun o => if o = d then l0 else β o
 have hlow := G9q hf _ (List.mem_singleton.2 rfl)
 have hβ : ∀ o, o ≠ d → β' o = β o := fun o ho => if_neg ho
 have hd : β' d = l0 := if_pos rfl
 have hT : ∀ q' X, (s.nilAgg t q d E es cs).gob q' = some X → (q' = d ∧ X = .tr E es []) ∨ (q' ≠ d ∧ s.gob q' = some X) := by
  intro q' X hq
  simp only [St.nilAgg, St.gob, a4q] at hq
  by_cases e : d = q'
  ·subst e; simp at hq; exact .inl ⟨rfl, hq.symm⟩
  ·simp [e] at hq; exact .inr ⟨fun h => e h.symm, hq⟩
 refine ⟨S, β', hs.defers, hs.sz, fun i x hi => ?_, ⟨hs.mem.lt, fun q' X hq => ?_, fun q' X hq b hh => ?_, fun q1 q2 X X' hq hq' b hh hh' => ?_, hs.mem.os, hs.mem.tape, hs.mem.output, hs.mem.size, hs.mem.block, hs.mem.sub, hs.mem.sup, fun q' l hl => ?_, fun q' X hq b hh => ?_, fun q1 q2 X X' hq hq' b hh hh' => ?_⟩⟩
 ·have key : ∀ j y, s.get j = some y → ∃ v, a.tmps[j]? = some v ∧ RepV w S β' y v := by
   intro j y hy
   obtain ⟨v, hv, hr⟩ := hs.tm j y hy
   exact ⟨v, hv, hr.mono (fun _ _ => rfl) (fun _ h => h) fun o ho => hβ o fun e => N6q hf hy o ho _ (List.mem_singleton.2 rfl) e.symm⟩
  simp only [St.nilAgg, St.get, a4q] at hi
  by_cases e : t = i
  ·subst e
   simp at hi
   subst hi
   obtain ⟨v, hv, hr⟩ := key t _ ht
   refine ⟨_, hv, ?_⟩
   obtain ⟨vs, rfl, hrs⟩ := hr.agg_inv
   refine RepVs.agg (RepAs.setAt (z := .e0) (fun v hv => ?_) hrs hc) .nil
   cases hv
   have : (.slice none 0 0 : Value) = (β' d).sv := by rw [hd]; rfl
   rw [this]; exact .ol
  ·simp [e] at hi; exact key i x hi
 ·rcases hT q' X hq with ⟨rfl, rfl⟩ | ⟨hne, hq⟩
  ·rw [hd]
   exact .inl ⟨rfl, by simp, by simp, [], [], ⟨by simp, .inl ⟨rfl, rfl⟩⟩, .nil, by simp, by simp⟩
  ·rw [hβ q' hne]
   exact (hs.mem.ob q' X hq).mono (fun _ _ => rfl) (fun _ _ => rfl) (fun _ h => h) fun o ho => hβ o fun e => (t8q hf hq).2 o ho _ (List.mem_singleton.2 rfl) e.symm
 ·rcases hT q' X hq with ⟨rfl, rfl⟩ | ⟨hne, hq⟩
  ·rw [hd] at hh; exact (hl0 b hh).elim
  ·rw [hβ q' hne] at hh; exact hs.mem.own q' X hq b hh
 ·rcases hT q1 X hq with ⟨rfl, rfl⟩ | ⟨hne, hq⟩
  ·rw [hd] at hh; exact (hl0 b hh).elim
  ·rcases hT q2 X' hq' with ⟨rfl, rfl⟩ | ⟨hne', hq'⟩
   ·rw [hd] at hh'; exact (hl0 b hh').elim
   ·rw [hβ q1 hne] at hh; rw [hβ q2 hne'] at hh'
    exact hs.mem.sep q1 q2 X X' hq hq' b hh hh'
 ·obtain ⟨h1, h2⟩ := hs.mem.fix q' l hl
  exact ⟨h1, (hβ q' (by omega)).trans h2⟩
 ·rcases hT q' X hq with ⟨rfl, rfl⟩ | ⟨hne, hq⟩
  ·rw [hd] at hh; cases hh
  ·rw [hβ q' hne] at hh; exact hs.mem.clm q' X hq b hh
 ·rcases hT q1 X hq with ⟨rfl, rfl⟩ | ⟨hne, hq⟩
  ·rw [hd] at hh; cases hh
  ·rcases hT q2 X' hq' with ⟨rfl, rfl⟩ | ⟨hne', hq'⟩
   ·rw [hd] at hh'; cases hh'
   ·rw [hβ q1 hne] at hh; rw [hβ q2 hne'] at hh'
    exact hs.mem.sepc q1 q2 X X' hq hq' b hh hh'
def frzOne (s : St) (k : Nat) : St := match s.gob k with
 | some (.lst _ es xs) => if 0 < es then s.frz k xs else s
 | some (.tr _ es xs) => if 0 < es then s.frz k xs else s
 | some (.tk xs) => s.frz k xs
 | some (.mt _ _ xs) => s.frz k xs
 | _ => s
def frzAll (s : St) : List Nat → St
 | [] => s
 | k :: r => frzAll (frzOne s k) r
theorem a54q {Γ : Cx} {s : St} {k : Nat} {a : Act} {w : World} {S : Nat → Prop} {β : Nat → OLoc} (hs : Sim Γ s a w S β) : ∃ S', (∀ b, S b → S' b) ∧ Sim Γ (frzOne s k) a w S' β := by
 unfold frzOne
 split
 ·rename_i E es xs hk
  split
  ·rename_i h
   exact hs.frz (tr := false) hk h
  ·exact ⟨S, fun _ h => h, hs⟩
 ·rename_i E es xs hk
  split
  ·rename_i h
   exact hs.frz (tr := true) hk h
  ·exact ⟨S, fun _ h => h, hs⟩
 ·rename_i xs hk
  exact hs.frzK (.inl hk)
 ·rename_i xs hk
  exact hs.frzK (.inr ⟨_, _, hk⟩)
 ·exact ⟨S, fun _ h => h, hs⟩
theorem V7q {Γ : Cx} {a : Act} {w : World} {β : Nat → OLoc} : ∀ {ks : List Nat} {s : St} {S : Nat → Prop}, Sim Γ s a w S β → ∃ S', (∀ b, S b → S' b) ∧ Sim Γ (frzAll s ks) a w S' β
 | [], _, S, hs => ⟨S, fun _ h => h, hs⟩
 | k :: r, s, S, hs => by
  obtain ⟨S', h0, h⟩ := a54q (k := k) hs
  obtain ⟨S2, h1, h2⟩ := V7q (ks := r) h
  exact ⟨S2, fun b hb => h1 b (h0 b hb), h2⟩
theorem To.frzAll {s : St} {ks : List Nat} : To s (frzAll s ks) := fun _ _ _ S β hs => by
 obtain ⟨S', _, h⟩ := V7q hs
 exact ⟨S', β, h⟩
def I3q (s : St) : List Nat → St
 | [] => s
 | k :: r => match s.gob k with
  | some (.tk xs) => I3q (s.frz k xs) r
  | _ => I3q s r
theorem B1q {Γ : Cx} {a : Act} {w : World} {S : Nat → Prop} {β : Nat → OLoc} : ∀ {ks : List Nat} {s : St}, Sim Γ s a w S β → Sim Γ (I3q s ks) a w S β
 | [], _, hs => hs
 | k :: r, s, hs => by
  simp only [I3q]
  split
  ·rename_i hk
   exact B1q (hs.view hk)
  ·exact B1q hs
def sealAll (s : St) : List Nat → St
 | [] => s
 | k :: r => match s.gob k with
  | some (.tr _ _ xs) => match decide (k < 2000) with
   | true => sealAll (s.seal k xs) r
   | false => sealAll (frzOne s k) r
  | some (.tk _) => sealAll s r
  | _ => sealAll (frzOne s k) r
theorem To.frzOne {s : St} {k : Nat} : To s (frzOne s k) := fun _ _ _ S β hs => by
 obtain ⟨S', _, h⟩ := a54q hs
 exact ⟨S', β, h⟩
theorem To.sealAll : ∀ {ks : List Nat} {s : St}, To s (sealAll s ks)
 | [], s => To.refl s
 | k :: r, s => by
  simp only [AM.sealAll]
  split
  ·rename_i hk
   split
   ·rename_i hl
    exact To.trans (fun Γ a w S β hs => hs.seal hk (of_decide_eq_true hl)) To.sealAll
   ·exact To.frzOne.trans To.sealAll
  ·exact To.sealAll
  ·exact To.frzOne.trans To.sealAll
def Da.flatF : Da → Bool
 | .sl _ => false
 | .tg _ _ => false
 | _ => true
mutual
def AV.flat : AV → Bool
 | .one (.d x) => x.flatF
 | .dat ds => ds.all Da.flatF
 | .tup ys => AV.flatT ys
 | _ => false
def AV.flatT : List AV → Bool
 | [] => true
 | y :: r => y.flat && AV.flatT r
end
section
variable {w w' : World} {S S' : Nat → Prop} {β β' : Nat → OLoc}
theorem RepF.flatF {xs : List Da} {vs : List Value} {fp : List Nat} (h : RepF w xs vs fp) (hf : xs.all Da.flatF = true) : RepF w' xs vs [] := by
 induction h with
 | nil => exact .nil
 | int _ ih => exact .int (ih (by simpa [Da.flatF] using hf))
 | bool _ ih => exact .bool (ih (by simpa [Da.flatF] using hf))
 | str hs _ ih => exact .str hs (ih (by simpa [Da.flatF] using hf))
 | fn _ ih => exact .fn (ih (by simpa [Da.flatF] using hf))
 | sl0 => simp [Da.flatF] at hf
 | sl1 => simp [Da.flatF] at hf
 | tg => simp [Da.flatF] at hf
theorem RepDs.flatD {xs : List Da} {vs : List Value} (h : RepDs w S xs vs) (hf : xs.all Da.flatF = true) : RepDs w' S' xs vs := by
 obtain ⟨fp, h, _⟩ := h
 exact ⟨[], h.flatF hf, by simp⟩
theorem RepVs.flatV {ys : List AV} {vs : List Value} (h : RepVs w S β ys vs) (hf : AV.flatT ys = true) : RepVs w' S' β' ys vs := by
 induction h with
 | nil => exact .nil
 | one h _ ih =>
  simp only [AV.flatT, Bool.and_eq_true] at hf
  refine .one ?_ (ih hf.2)
  cases h with
  | d h => exact .d (h.flatD (by simpa [AV.flat] using hf.1))
  | _ => simp [AV.flat] at hf
 | dat h _ ih =>
  simp only [AV.flatT, Bool.and_eq_true] at hf
  exact .dat (h.flatD (by simpa [AV.flat] using hf.1)) (ih hf.2)
 | agg _ _ _ => simp [AV.flatT, AV.flat] at hf
 | tup _ _ ih1 ih2 =>
  simp only [AV.flatT, Bool.and_eq_true] at hf
  exact .tup (ih1 (by simpa [AV.flat] using hf.1)) (ih2 hf.2)
theorem RepV.flatV {y : AV} {v : Value} (h : RepV w S β y v) (hf : y.flat = true) : RepV w' S' β' y v := RepVs.flatV h (by simpa [AV.flatT] using hf)
end
mutual
def At.closed : At → Bool
 | .d x => x.flatF
 | .e0 => true
 | .ol _ => true
 | _ => false
def AV.closed : AV → Bool
 | .one x => x.closed
 | .dat ds => ds.all Da.flatF
 | .agg xs => xs.all At.closed
 | .tup ys => AV.closedT ys
def AV.closedT : List AV → Bool
 | [] => true
 | y :: r => y.closed && AV.closedT r
end
def isTr : Ob → Bool
 | .tr _ _ _ => true
 | _ => false
section
variable {w w' : World} {S S' : Nat → Prop} {β β' : Nat → OLoc}
theorem RepA.closedA {x : At} {v : Value} (h : RepA w S β x v) (hc : x.closed = true) (hβ : ∀ o, (β' o).sv = (β o).sv) : RepA w' S' β' x v := by
 cases h with
 | d h => exact .d (h.flatD (by simpa [At.closed] using hc))
 | e0 => exact .e0
 | @ol o => rw [← hβ o]; exact .ol
 | _ => simp [At.closed] at hc
theorem RepAs.closedA {xs : List At} {vs : List Value} (h : RepAs w S β xs vs) (hc : xs.all At.closed = true) (hβ : ∀ o, (β' o).sv = (β o).sv) : RepAs w' S' β' xs vs := by
 induction h with
 | nil => exact .nil
 | cons h _ ih =>
  simp only [List.all_cons, Bool.and_eq_true] at hc
  exact .cons (h.closedA hc.1 hβ) (ih hc.2)
theorem RepVs.closedV {ys : List AV} {vs : List Value} (h : RepVs w S β ys vs) (hf : AV.closedT ys = true) (hβ : ∀ o, (β' o).sv = (β o).sv) : RepVs w' S' β' ys vs := by
 induction h with
 | nil => exact .nil
 | one h _ ih =>
  simp only [AV.closedT, Bool.and_eq_true] at hf
  exact .one (h.closedA (by simpa [AV.closed] using hf.1) hβ) (ih hf.2)
 | dat h _ ih =>
  simp only [AV.closedT, Bool.and_eq_true] at hf
  exact .dat (h.flatD (by simpa [AV.closed] using hf.1)) (ih hf.2)
 | agg h _ ih =>
  simp only [AV.closedT, Bool.and_eq_true] at hf
  exact .agg (h.closedA (by simpa [AV.closed] using hf.1) hβ) (ih hf.2)
 | tup _ _ ih1 ih2 =>
  simp only [AV.closedT, Bool.and_eq_true] at hf
  exact .tup (ih1 (by simpa [AV.closed] using hf.1)) (ih2 hf.2)
theorem RepV.closedV {y : AV} {v : Value} (h : RepV w S β y v) (hf : y.closed = true) (hβ : ∀ o, (β' o).sv = (β o).sv) : RepV w' S' β' y v := RepVs.closedV h (by simpa [AV.closedT] using hf) hβ
end
def thaw : List (Nat × Ob) → List (Nat × Ob)
 | [] => []
 | (k, .tr E es xs) :: r => (k, .mt E es xs) :: thaw r
 | p :: r => p :: thaw r
def OLoc.thaw (l : OLoc) : OLoc := { l with has := false, sub := l.blkL ++ (l.sub ++ l.clm), clm := [] }
section
variable {Γ : Cx} {P : Program} {E : Env} {z : Prop} {o : Oper} {s s' sF : St}
theorem a2rq (ht : To s sF) (h : XOp Γ P o sF s') : XOp Γ P o s s' := by
 intro a w S β K' R hs hK
 obtain ⟨S', β', h'⟩ := ht Γ a w S β hs
 exact h a w S' β' K' R h' hK
theorem adeq {y : AV} {nob : List (Nat × Ob)} (h : OpS P o s s y nob) : OpL P o s y nob := by
 obtain ⟨us, h1, h2⟩ := h
 intro Γ a w S β hs K R hK
 exact h1 a w S β hs.mem.lt (fun x X hx _ => hs.eval hx) (fun p hp => hs.mem.ob _ _ (p1q h2 p hp)) K R hK
theorem a9Vq {ks : List Nat} {y : AV} {nob : List (Nat × Ob)} (h : OpS P o (frzAll s ks) (frzAll s ks) y nob) (hy : y.closed = true) (htr : (nob.all fun p => isTr p.2) = true) : OpL P o s y nob := by
 obtain ⟨us, h1, h2⟩ := h
 intro Γ a w S β hs K' R hK
 obtain ⟨S1, hS1, h'⟩ := V7q (ks := ks) hs
 refine h1 a w S1 β h'.mem.lt (fun x X hx _ => h'.eval hx) (fun p hp => h'.mem.ob _ _ (p1q h2 p hp)) K' R fun v w' S2 β' hG hyr => ?_
 let S' : Nat → Prop := fun b => S b ∨ ∃ p ∈ nob, b ∈ (β' p.1).clm
 have hS2 : ∀ b, S' b → S2 b := fun b hb => by
  rcases hb with hb | ⟨p, hp, hb⟩
  ·exact hG.sub b (hS1 b hb)
  ·exact (hG.clm p hp b hb).1
 have hG2 : Grow w S β nob w' S' β' := by
  refine ⟨hG.os, hG.tape, hG.output, hG.size, hG.block, fun _ h => .inl h, fun b hb => ⟨(hG.sup b (hS2 b hb)).1, ?_⟩, hG.loc, fun p hp => ?_, fun p hp b hb => ?_, hG.sep, fun p hp b hb => ⟨.inr ⟨p, hp, hb⟩, (hG.clm p hp b hb).2⟩, hG.sepc⟩
  ·rcases hb with hb | ⟨p, hp, hb⟩
   ·exact .inl hb
   ·exact .inr (hG.clm p hp b hb).2
  ·have h3 := hG.ob p hp
   have h4 := List.all_eq_true.1 htr p hp
   obtain ⟨k, X⟩ := p
   cases X <;> simp [isTr] at h4
   rcases h3 with ⟨a1, a2, a3, vs, fp, a4, a5, a6, a7⟩ | h3
   rotate_left
   ·exact .inr h3
   exact .inl ⟨a1, a2, a3, vs, fp, a4, a5, fun b hb => ⟨.inr ⟨_, hp, (a6 b hb).2⟩, (a6 b hb).2⟩, a7⟩
  ·obtain ⟨m1, m2, m3⟩ := hG.own p hp b hb
   exact ⟨m1, m2, fun hh => m3 (hS2 b hh)⟩
 exact hK _ _ S' β' hG2 (hyr.closedV hy fun _ => rfl)
theorem a7nq {ks : List Nat} {y : AV} {nob : List (Nat × Ob)} (h : OpS P o (frzAll s ks) (frzAll s ks) y nob) (hy : y.closed = true) (htr : (nob.all fun p => isTr p.2) = true) : OpL P o s y (thaw nob) := by
 obtain ⟨us, h1, h2⟩ := h
 intro Γ a w S β hs K' R hK
 obtain ⟨S1, hS1, h'⟩ := V7q (ks := ks) hs
 refine h1 a w S1 β h'.mem.lt (fun x X hx _ => h'.eval hx) (fun p hp => h'.mem.ob _ _ (p1q h2 p hp)) K' R fun v w' S2 β' hG hyr => ?_
 let β2 : Nat → OLoc := fun q => if nob.any (·.1 == q) then (β' q).thaw else β' q
 have hb2 : ∀ q, (∃ p ∈ nob, p.1 = q) → β2 q = (β' q).thaw := fun q ⟨p, hp, e⟩ => if_pos (List.any_eq_true.2 ⟨p, hp, by simpa using e⟩)
 have hb3 : ∀ q, (∀ p ∈ nob, p.1 ≠ q) → β2 q = β' q := fun q hn => if_neg fun h => by
  obtain ⟨p, hp, e⟩ := List.any_eq_true.1 h
  exact hn p hp (by simpa using e)
 have hth : ∀ {l : List (Nat × Ob)}, (l.all fun p => isTr p.2) = true → ∀ q ∈ thaw l, ∃ E es xs, (q.1, Ob.tr E es xs) ∈ l ∧ q.2 = .mt E es xs := by
  intro l
  induction l with
  | nil => simp [thaw]
  | cons p r ih =>
   intro hl q hq
   obtain ⟨k, X⟩ := p
   simp only [List.all_cons, Bool.and_eq_true] at hl
   obtain ⟨hl0, hl⟩ := hl
   cases X <;> simp [isTr] at hl0
   rename_i E es xs
   simp only [thaw, List.mem_cons] at hq
   rcases hq with rfl | hq
   ·exact ⟨E, es, xs, by simp, rfl⟩
   ·obtain ⟨E', es', xs', h5, h6⟩ := ih hl q hq
    exact ⟨E', es', xs', by simp [h5], h6⟩
 have hkeys : ∀ {l : List (Nat × Ob)}, (l.all fun p => isTr p.2) = true → ∀ p ∈ l, ∃ q ∈ thaw l, q.1 = p.1 := by
  intro l
  induction l with
  | nil => simp
  | cons p r ih =>
   intro hl q hq
   obtain ⟨k, X⟩ := p
   simp only [List.all_cons, Bool.and_eq_true] at hl
   obtain ⟨hl0, hl⟩ := hl
   cases X <;> simp [isTr] at hl0
   simp only [thaw]
   rcases List.mem_cons.1 hq with rfl | hq
   ·exact ⟨_, List.mem_cons_self .., rfl⟩
   ·obtain ⟨q', h5, h6⟩ := ih hl q hq
    exact ⟨q', List.mem_cons_of_mem _ h5, h6⟩
 have hblk : ∀ (l : OLoc) b, b ∈ l.blkL → l.has = true ∧ l.blk = b := by
  intro l b hb
  unfold OLoc.blkL at hb
  split at hb
  ·rename_i h; exact ⟨h, by simpa using Eq.symm (by simpa using hb)⟩
  ·cases hb
 have hown2 : ∀ k, (∃ p ∈ nob, p.1 = k) → ∀ b, (β2 k).Own b → (β' k).Own b ∨ b ∈ (β' k).clm := by
  intro k hk b hb
  rw [hb2 k hk] at hb
  rcases hb with ⟨h5, _⟩ | hb
  ·cases h5
  ·rcases List.mem_append.1 hb with hb | hb
   ·exact .inl (.inl (hblk _ b hb))
   ·rcases List.mem_append.1 hb with hb | hb
    ·exact .inl (.inr hb)
    ·exact .inr hb
 have hfreshb : ∀ p ∈ nob, ∀ b, (β' p.1).Own b ∨ b ∈ (β' p.1).clm → w.heap.size ≤ b ∧ b < w'.heap.size := by
  intro p hp b hb
  rcases hb with hb | hb
  ·obtain ⟨m1, m2, _⟩ := hG.own p hp b hb; exact ⟨m1, m2⟩
  ·obtain ⟨m1, m2⟩ := hG.clm p hp b hb; exact ⟨m2, (hG.sup b m1).1⟩
 have hG2 : Grow w S β (thaw nob) w' S β2 := by
  refine ⟨hG.os, hG.tape, hG.output, hG.size, hG.block, fun _ h => h, fun b hb => ⟨Nat.lt_of_lt_of_le (hs.mem.lt b hb) hG.size, .inl hb⟩, fun q hq => ?_, fun q hq => ?_, fun q hq b hb => ?_, fun q hq r hr b hb hb' => ?_, fun q hq b hb => ?_, fun q hq r hr b hb hb' => ?_⟩
  ·have hn : ∀ p ∈ nob, p.1 ≠ q := fun p hp e => by
    obtain ⟨q', h5, h6⟩ := hkeys htr p hp
    exact hq q' h5 (h6.trans e)
   rw [hb3 q hn]; exact hG.loc q hn
  ·obtain ⟨E', es', xs', h5, h6⟩ := hth htr q hq
   rw [hb2 q.1 ⟨_, h5, rfl⟩, h6]
   have h7 := hG.ob _ h5
   obtain ⟨fp, t1, t2, t3⟩ := a7vq h7
   refine ⟨rfl, (a14q (tr := true) h7).1, (a14q (tr := true) h7).2, fun a n c hsv hn => ?_, fp, t1, fun b hb => ?_, t3 fun hh b hb e => ?_⟩
   ·have hsv : (β' q.1).sv = .slice (some a) n c := hsv
    rcases h7 with ⟨a1, _, _, vs, fp0, a4, _⟩ | ⟨_, h0, ad, hz0⟩
    ·rw [hsv] at a1 a4
     rcases a4.2 with ⟨e, _⟩ | ⟨g, cap, cur, e, _⟩
     ·cases e
     ·cases e
      simp only [Value.ownBlock] at a1
      split at a1
      ·simp at a1; rw [a1]; rfl
      ·simp at a1
    ·rw [hsv] at hz0; cases hz0; omega
   ·rcases t2 b hb with ⟨_, h8⟩ | ⟨h8, h9⟩
    ·exact List.mem_append_right _ (List.mem_append_right _ h8)
    ·exact List.mem_append_left _ (by simp [OLoc.blkL, h8, h9])
   ·exact (hG.own _ h5 b (.inl ⟨hh, e.symm⟩)).2.2 (hG.clm _ h5 b hb).1
  ·obtain ⟨E', es', xs', h5, h6⟩ := hth htr q hq
   obtain ⟨m1, m2⟩ := hfreshb _ h5 b (hown2 q.1 ⟨_, h5, rfl⟩ b hb)
   exact ⟨m1, m2, fun hS => by have := hs.mem.lt b hS; omega⟩
  ·obtain ⟨_, _, _, h5, _⟩ := hth htr q hq
   obtain ⟨_, _, _, h6, _⟩ := hth htr r hr
   have a1 := hown2 q.1 ⟨_, h5, rfl⟩ b hb
   have a2 := hown2 r.1 ⟨_, h6, rfl⟩ b hb'
   rcases a1 with a1 | a1 <;> rcases a2 with a2 | a2
   ·have h7 := hG.sep _ h5 _ h6 b a1 a2; exact h7
   ·exact ((hG.own _ h5 b a1).2.2 (hG.clm _ h6 b a2).1).elim
   ·exact ((hG.own _ h6 b a2).2.2 (hG.clm _ h5 b a1).1).elim
   ·have h7 := hG.sepc _ h5 _ h6 b a1 a2; exact h7
  ·obtain ⟨_, _, _, h5, _⟩ := hth htr q hq
   rw [hb2 q.1 ⟨_, h5, rfl⟩] at hb
   cases hb
  ·obtain ⟨_, _, _, h5, _⟩ := hth htr q hq
   rw [hb2 q.1 ⟨_, h5, rfl⟩] at hb
   cases hb
 refine hK _ _ S β2 hG2 (hyr.closedV hy fun q => ?_)
 show (β2 q).sv = (β' q).sv
 simp only [β2]
 split <;> rfl
theorem afiq {y : AV} {nob : List (Nat × Ob)} (hV : ∀ a w S β, Sim Γ s a w S β → Sim Γ sF a w S β) (h : OpS P o sF sF y nob) (hd : o.dst.all (· < Γ.n) = true) (hf : s.fresh nob = true) : XOp Γ P o s (s.upd o.dst y nob) := by
 obtain ⟨us, h1, h2⟩ := h
 intro a w S β K' R hs hK
 have h' := hV a w S β hs
 exact h1 a w S β h'.mem.lt (fun x X hx _ => h'.eval hx) (fun p hp => h'.mem.ob _ _ (p1q h2 p hp)) K' R fun v w' S' β' hG hy => hK _ _ _ _ (hs.upd hG hy hd hf)
end
def agOq (l : List Nat) (x : Nat) : List Nat := if l.contains x then l else l ++ [x]
def C3q (l xs : List Nat) : List Nat := xs.foldl agOq l
def O4q (s : St) : Nat → List Nat → List Nat
 | 0, l => l
 | n + 1, l => O4q s n (l.foldl (fun a k => match s.gob k with
  | some X => C3q a X.ids
  | none => a) l)
def a2Iq (n : Nat) : List Nat → List (Nat × Nat)
 | [] => []
 | k :: r => (k, n) :: a2Iq (n + 1) r
def a12q (s : St) : List Nat → Option (List (Nat × Ob))
 | [] => some []
 | k :: r => match s.gob k, a12q s r with
  | some X, some Y => some ((k, X) :: Y)
  | _, _ => none
theorem a2mq {s : St} : ∀ {l : List Nat} {I : List (Nat × Ob)}, a12q s l = some I → usOk s I
 | [], I, h => by simp [a12q] at h; subst h; trivial
 | k :: r, I, h => by
  simp only [a12q] at h
  split at h
  ·rename_i X Y h1 h2
   simp at h; subst h
   exact ⟨h1, a2mq h2⟩
  ·simp at h
def shA (I : List (Nat × Ob)) : At → Nat → (At → List (Nat × Ob) → Nat → Prop) → Prop
 | .d (.int k _), n, K => ∃ m : Int, K (.d (.int k m)) [] n
 | .d (.bool _), n, K => ∃ b : Bool, K (.d (.bool b)) [] n
 | .d (.str _), n, K => ∃ q : ByteArray, K (.d (.str q)) [] n
 | .d (.sl _), n, K => ∃ xs : List (List Da), K (.d (.sl xs)) [] n
 | .ol o, n, K => match a4q I o with
  | some (.lst E es _) => ∃ xs : List (List Da), K (.ol n) [(n, .lst E es xs)] (n + 1)
  | some (.tr E es _) => ∃ xs : List (List Da), K (.ol n) [(n, .tr E es xs)] (n + 1)
  | some (.tk xs) => K (.ol o) [(o, .tk xs)] n
  | _ => K (.ol o) [] n
 | x, n, K => K x [] n
def shAs (I : List (Nat × Ob)) : List At → Nat → (List At → List (Nat × Ob) → Nat → Prop) → Prop
 | [], n, K => K [] [] n
 | x :: r, n, K => shA I x n fun y O m => shAs I r m fun ys O' m' => K (y :: ys) (O ++ O') m'
def shO (I : List (Nat × Ob)) (dir : List Nat) : List (Nat × Ob) → Nat → (List (Nat × Ob) → List (Nat × Ob) → Prop) → Prop
 | [], n, K => K [] []
 | (k, .var cs) :: r, n, K => shAs I cs n fun ys O m => shO I dir r m fun Oi On => K ((k, .var ys) :: Oi) (O ++ On)
 | (k, .lst E es _) :: r, n, K => match dir.contains k with
  | true => ∃ xs : List (List Da), shO I dir r n fun Oi On => K ((k, .lst E es xs) :: Oi) On
  | false => shO I dir r n K
 | (k, .tr E es _) :: r, n, K => match dir.contains k with
  | true => ∃ xs : List (List Da), shO I dir r n fun Oi On => K ((k, .tr E es xs) :: Oi) On
  | false => shO I dir r n K
 | (k, .mt E es _) :: r, n, K => ∃ xs : List (List Da), shO I dir r n fun Oi On => K ((k, .mt E es xs) :: Oi) On
 | (_, .mu _ _ _ _ _ _ _ _) :: r, n, K => shO I dir r n K
 | (k, .tk _) :: r, n, K => shO I dir r n K
 | (_, .fu _ _ _ _) :: r, n, K => shO I dir r n K
theorem agDq {I : List (Nat × Ob)} {x : At} {n : Nat} {K : At → List (Nat × Ob) → Nat → Prop} (h : shA I x n K) : ∃ y O m, K y O m := by
 unfold shA at h
 split at h
 ·obtain ⟨m, h⟩ := h; exact ⟨_, _, _, h⟩
 ·obtain ⟨m, h⟩ := h; exact ⟨_, _, _, h⟩
 ·obtain ⟨m, h⟩ := h; exact ⟨_, _, _, h⟩
 ·obtain ⟨m, h⟩ := h; exact ⟨_, _, _, h⟩
 ·split at h
  ·obtain ⟨m, h⟩ := h; exact ⟨_, _, _, h⟩
  ·obtain ⟨m, h⟩ := h; exact ⟨_, _, _, h⟩
  ·exact ⟨_, _, _, h⟩
  ·exact ⟨_, _, _, h⟩
 ·exact ⟨_, _, _, h⟩
theorem abmq {I : List (Nat × Ob)} : ∀ {cs : List At} {n : Nat} {K : List At → List (Nat × Ob) → Nat → Prop}, shAs I cs n K → ∃ ys O m, K ys O m
 | [], _, _, h => ⟨_, _, _, h⟩
 | x :: r, n, K, h => by
  obtain ⟨y, O, m, h⟩ := agDq h
  obtain ⟨ys, O', m', h⟩ := abmq h
  exact ⟨_, _, _, h⟩
theorem D0q {I : List (Nat × Ob)} {dir : List Nat} : ∀ {J : List (Nat × Ob)} {n : Nat} {K : List (Nat × Ob) → List (Nat × Ob) → Prop}, shO I dir J n K → ∃ Oi On, K Oi On
 | [], _, _, h => ⟨_, _, h⟩
 | (k, .var cs) :: r, n, K, h => by
  obtain ⟨ys, O, m, h⟩ := abmq h
  obtain ⟨Oi, On, h⟩ := D0q h
  exact ⟨_, _, h⟩
 | (k, .lst E es xs) :: r, n, K, h => by
  simp only [shO] at h
  split at h
  ·obtain ⟨xs, h⟩ := h
   obtain ⟨Oi, On, h⟩ := D0q h
   exact ⟨_, _, h⟩
  ·exact D0q h
 | (k, .tr E es xs) :: r, n, K, h => by
  simp only [shO] at h
  split at h
  ·obtain ⟨xs, h⟩ := h
   obtain ⟨Oi, On, h⟩ := D0q h
   exact ⟨_, _, h⟩
  ·exact D0q h
 | (k, .mu E es xs m q a n' c) :: r, n, K, h => by
  simp only [shO] at h
  exact D0q h
 | (k, .mt E es xs) :: r, n, K, h => by
  simp only [shO] at h
  obtain ⟨xs, h⟩ := h
  obtain ⟨Oi, On, h⟩ := D0q h
  exact ⟨_, _, h⟩
 | (k, .tk xs) :: r, n, K, h => by
  simp only [shO] at h
  exact D0q h
 | (k, .fu _ _ _ _) :: r, n, K, h => by
  simp only [shO] at h
  exact D0q h
def a2Jq (z : Prop) (P : Program) (E : Env) (o : Oper) (s sV : St) (f : FuncId) (zs : List AV) (k : St → Prop) : Prop :=
 chk z (E.fns.contains f) <| opt z (a4q E.sig f) fun sg => opt z (a12q s (O4q s 8 (C3q [] (AV.idsT zs)))) fun I =>
  let l1 := a2Iq 2000 (I.map (·.1))
  let xs := AV.mapT (k6q l1) (zs.map AV.norm)
  let I' := m8q l1 I
  rsh sg 0 fun r On m => shO I' (AV.idsT xs) I' m fun Oi On' =>
   let O := Oi ++ (On ++ On')
   let l2 := (l1.map fun p => (p.2, p.1)) ++ a1iq (o.dst.getD 490) (On ++ On')
   chk z (B7q l1 l2 I O (A1q O) && xok s I (m8q l2 O) ((A1q O).map fun m => (a4q l2 m).getD m)) <|
    XC P f xs I' r O ∧ k (s.xupd o.dst (r.map (k6q l2)) I (m8q l2 O) ((A1q O).map fun m => (a4q l2 m).getD m))
def RS.closed : RS → Bool
 | .c .l => false
 | .c .f => false
 | .c _ => true
 | .d ks => ks.all fun c => decide (c ≠ .l ∧ c ≠ .f)
 | .o _ _ => true
 | .b _ _ => false
 | .s ks => ks.all fun c => match c with
  | .k .l => false
  | .k .f => false
  | _ => true
 | .t rs => go rs
where go : List RS → Bool
 | [] => true
 | r :: rs => r.closed && go rs
def P2q : List AV → List Nat
 | [] => []
 | .one (.ol k) :: r => k :: P2q r
 | .agg xs :: r => AV.idsL xs ++ P2q r
 | _ :: r => P2q r
def a0hq (xs : List AV) : Bool := (AV.idsT xs).isEmpty
def muOf : List (Nat × Ob) → Option (Nat × Nat × Nat × List (List Da) × Nat × Nat × Option Addr × Nat × Nat)
 | [] => none
 | (k, .mu E es xs m q a n c) :: _ => some (k, E, es, xs, m, q, a, n, c)
 | _ :: r => muOf r
def a9zq (z : Prop) (P : Program) (E : Env) (n : Nat) (o : Oper) (s : St) (k : St → Prop) : Prop := match o.op with
 | .call c => match c.callee with
  | .value v => chk z (o.dst.all (· < n)) <| opt z (s.ev v) fun V => opt z (o5q s.ev c.args.toList) fun xs => opt z (muOf s.ob) fun p => opt z c.argTypes[0]? fun t => opt z (a4q E.tab t) fun i => opt z i.el fun e => opt z (a4q E.zer e) fun zz => match V, xs with
   | .one (.d (.fn f)), .one (.raw a l r) :: zs => opt z (a4q E.sig f) fun sg => opt z (a4q E.cks p.2.1) fun ck => opt z (s.gob p.1) fun Y => match Y with
    | .mu Ee es rows m q a' l' r' => chk z (E.fns.contains f && a0hq zs) <| (a = a' ∧ l = l' ∧ r = r') ∧ shp ck fun row => rows[m]? = some row ∧ match row[q]? with
     | some (.sl ys) => Do (∀ y ∈ ys, y.length = zz.1) ∧ ∃ ys1 : List (List Da), rsh sg 0 fun y On _ => chk z (y.flat && On.isEmpty) <| XC P f (.one (.ol 2000) :: zs) [(2000, .mt e zz.1 ys)] y [(2000, .mt e zz.1 ys1)] ∧ k ((s.mv (killL []) p.1 [] (.mt Ee es (rows.set m (row.take q ++ [.sl ys1] ++ row.drop (q + 1))))).upd o.dst y [])
     | _ => False
    | _ => z
   | _, _ => z
  | _ => z
 | _ => z
theorem a9Xq {Γ : Cx} {P : Program} {E : Env} {z : Prop} {ops : Array Oper} {rest : List Oper} {o : Oper} {s : St} {k K : St → Prop} (hE : EnvOk P E) (hz : ¬ z) (hg : o.guard = none) (hk : ∀ s', k s' → d5q Γ P ops rest K s') (h : a9zq z P E Γ.n o s k) : d5q Γ P ops (o :: rest) K s := by
 unfold a9zq at h
 split at h
 ·rename_i c ho
  obtain ⟨callee, args, ats⟩ := c
  simp only at h
  split at h
  ·rename_i v
   obtain ⟨hd, h⟩ := a7q hz h
   obtain ⟨V, hV, h⟩ := a0q hz h
   obtain ⟨xs, hxs, h⟩ := a0q hz h
   obtain ⟨p, hp, h⟩ := a0q hz h
   obtain ⟨t, _, h⟩ := a0q hz h
   obtain ⟨i, _, h⟩ := a0q hz h
   obtain ⟨e, _, h⟩ := a0q hz h
   obtain ⟨zz, _, h⟩ := a0q hz h
   have ho' : o.op = .call { callee := .value v, args := args.toList.toArray, argTypes := ats } := by simpa using ho
   split at h
   ·rename_i f a l r zs
    obtain ⟨sg, _, h⟩ := a0q hz h
    obtain ⟨ck, _, h⟩ := a0q hz h
    obtain ⟨Y, hY, h⟩ := a0q hz h
    split at h
    ·rename_i Ee es rows m q a' l' r'
     obtain ⟨hl, he3, h⟩ := a7q hz h
     rw [he3.1, he3.2.1, he3.2.2] at hxs
     simp only [Bool.and_eq_true, List.contains_iff_mem, a0hq, List.isEmpty_iff] at hl
     obtain ⟨row, _, hm, h⟩ := C1q h
     cases hq : row[q]? with
     | none => rw [hq] at h; exact h.elim
     | some x0 =>
      rw [hq] at h
      cases x0 with
      | sl ys =>
       obtain ⟨hes, ys1, h⟩ := h
       obtain ⟨y, On, _, h⟩ := a2zq sg h
       obtain ⟨hc, hx, h⟩ := a7q hz h
       simp only [Bool.and_eq_true] at hc
       obtain ⟨fn, hfn, hb, hn⟩ := a0aq (List.all_eq_true.1 hE.fns _ hl.1)
       exact acdq ho' hg hd hV hxs hl.2 hY hm hq hes.h hfn hb hn hx.h (fun _ _ _ _ _ _ _ hr => hr.flatV hc.1) (hk _ h)
      | _ => exact h.elim
    ·exact absurd h hz
   ·exact absurd h hz
  ·exact absurd h hz
 ·exact absurd h hz
def agQq (s : St) (c : Call) : Bool := match c.args.toList with
 | x :: _ => match s.ev x with
  | some (.one (.raw _ _ _)) => true
  | _ => false
 | _ => false
def degrAll (s : St) : List Nat → St
 | [] => s
 | k :: r => match s.gob k with
  | some (.tr e es xs) => degrAll (s.setOb k (.lst e es xs)) r
  | _ => degrAll s r
theorem To.degrAll : ∀ {l : List Nat} {s : St}, To s (degrAll s l)
 | [], s => To.refl s
 | k :: r, s => by
  simp only [AM.degrAll]
  split
  ·rename_i hk
   exact To.trans (fun Γ a w S β hs => ⟨S, β, hs.setX hk ObRep.lst_of_tr⟩) To.degrAll
  ·exact To.degrAll
def ahfq (E : Env) : Operand → Bool
 | .func f => E.ovl.contains f
 | _ => false
def vOvl (z : Prop) (E : Env) (n : Nat) (o : Oper) (s : St) (k : St → Prop) : Prop := match o.op with
 | .call c => match c.callee, c.args.toList with
  | .value (.func f), [x, y] => chk z (o.dst.all (· < n) && E.ovl.contains f) <| opt z (s.ev x) fun X => opt z (s.ev y) fun Y => match X, Y with
   | .one (.ol k1), .one (.ps k2 es2 _ _) => opt z (s.gob k1) fun A => opt z (asP A) fun p => opt z (s.gob k2) fun A2 => opt z (asP A2) fun q => chk z (p.1.isNone && decide (k1 ≠ k2 ∧ q.2.2.1 = es2 ∧ 0 < es2)) (k (s.upd o.dst (B false) []))
   | _, _ => z
  | _, _ => z
 | _ => z
theorem acCq {Γ : Cx} {P : Program} {E : Env} {z : Prop} {o : Oper} {s : St} {k : St → Prop} (hE : EnvOk P E) (hz : ¬ z) (h : vOvl z E Γ.n o s k) : ∃ s', XOp Γ P o s s' ∧ k s' := by
 unfold vOvl at h
 split at h
 ·rename_i c ho
  obtain ⟨callee, args, ats⟩ := c
  simp only at h
  split at h
  ·rename_i f x y ha
   have ha := arr2 ha
   subst ha
   obtain ⟨hd, h⟩ := a7q hz h
   simp only [Bool.and_eq_true, List.contains_iff_mem] at hd
   obtain ⟨X, hX, h⟩ := a0q hz h
   obtain ⟨Y, hY, h⟩ := a0q hz h
   split at h
   ·obtain ⟨A, hA, h⟩ := a0q hz h
    obtain ⟨⟨cc, Ee, es, xs⟩, hp, h⟩ := a0q hz h
    have hp := a0Rq hp
    rw [hp] at hA
    obtain ⟨A2, hA2, h⟩ := a0q hz h
    obtain ⟨⟨cc2, Ee2, es', xs2⟩, hp2, h⟩ := a0q hz h
    have hp2 := a0Rq hp2
    rw [hp2] at hA2
    dsimp only at h hA hA2
    obtain ⟨hl, h3⟩ := a7q hz h
    simp only [Bool.and_eq_true, Option.isNone_iff_eq_none, decide_eq_true_eq] at hl
    obtain ⟨rfl, p1, p2, p3⟩ := hl
    rw [p2] at hA2
    exact ⟨_, (aglq (lo1 := 0) (n1 := 0) (hE.ovl f hd.2) ho hA hA2 p1 (.inr ⟨hX, rfl⟩) hY p3).xop hd.1 rfl, h3⟩
   ·exact absurd h hz
  ·exact absurd h hz
 ·exact absurd h hz
def afpq (s : St) (pos : Nat) (xs : List AV) : List Nat := match xs[pos]? with
 | some (.one (.ol k)) => match s.gob k with
  | some (.lst _ _ _) => [k]
  | some (.tr _ _ _) => [k]
  | _ => []
 | _ => []
def rsB : RS → RS
 | .o E es => .b E es
 | r => r
def ahgq (E : Env) (s : St) (tk : List Nat) (sg : RS) : RS := match tk with
 | k :: _ => match s.gob k with
  | some (.lst _ _ _) => rsB sg
  | _ => sg
 | [] => match sg with
  | .o e _ => match ad3q (a4q E.cks e) with
   | true => sg
   | false => rsB sg
  | _ => rsB sg
def a5Yq (z : Prop) (P : Program) (E : Env) (o : Oper) (s0 s : St) (tk : List Nat) (f : FuncId) (zs : List AV) (k : St → Prop) : Prop :=
 chk z (E.fns.contains f) <| opt z (a4q E.sig f) fun sg0 => opt z (a12q s (O4q s 8 (C3q [] (AV.idsT zs)))) fun I =>
  let sg := ahgq E s0 tk sg0
  let l1 := a2Iq 2000 (I.map (·.1))
  let xs := AV.mapT (k6q l1) zs
  let I' := m8q l1 I
  let tk' := tk.map fun q => (a4q l1 q).getD q
  rsh sg 0 fun r On m => shO I' ((AV.idsT xs).filter fun q => !tk'.contains q) I' m fun Oi On' =>
   let O := Oi ++ (On ++ On')
   let l2 := (l1.map fun p => (p.2, p.1)) ++ a1iq (o.dst.getD 490) (On ++ On')
   chk z (B7q l1 l2 I O (A1q O) && xok s I (m8q l2 O) ((A1q O).map fun m => (a4q l2 m).getD m)) <|
    XC P f xs I' r O ∧ k (s.xupd o.dst (r.map (k6q l2)) I (m8q l2 O) ((A1q O).map fun m => (a4q l2 m).getD m))
theorem a2sq {P : Program} {E : Env} {z : Prop} {o : Oper} {s s0 sV : St} {k : St → Prop} {tk : List Nat} {n : Nat} (hV : ∀ Γ a w S β, Sim Γ s a w S β → Sim Γ sV a w S β) (hE : EnvOk P E) (hz : ¬ z) {c : Operand} {ag : List Operand} {ts : Array TypeId} {zs : List AV} {f : FuncId} (ho : o.op = .call { callee := .value c, args := ag.toArray, argTypes := ts }) (hd : o.dst.all (· < n) = true) (hc : sV.ev c = some (.one (.d (.fn f)))) (has : o5q sV.ev ag = some zs)
  (h : a5Yq z P E o s0 s tk f zs k) : ∃ s', (∀ Γ : Cx, Γ.n = n → XOp Γ P o s s') ∧ k s' := by
 unfold a5Yq at h
 obtain ⟨hf, h⟩ := a7q hz h
 obtain ⟨sg, _, h⟩ := a0q hz h
 obtain ⟨I, hI, h⟩ := a0q hz h
 obtain ⟨r, On, m, h⟩ := a2zq _ h
 obtain ⟨Oi, On', h⟩ := D0q h
 obtain ⟨h1, h2, h⟩ := a7q hz h
 simp only [Bool.and_eq_true] at h1
 simp only [List.contains_iff_mem] at hf
 obtain ⟨fn, hfn, hb, hn⟩ := a0aq (List.all_eq_true.1 hE.fns f hf)
 refine ⟨_, fun Γ hΓ => ?_, h⟩
 have hx := a2Yq _ _ h2.h rfl rfl rfl rfl rfl h1.1
 exact a90q (hV Γ) (a9Wq hx hfn hb hn) ho hc has (by rw [hΓ]; exact hd) (a2mq hI) h1.2
def vY (z : Prop) (P : Program) (E : Env) (n : Nat) (o : Oper) (s : St) (k : St → Prop) : Prop := match o.op with
  | .call c => match c.callee with
    | .value v => chk z (o.dst.all (· < n)) <| opt z (s.ev v) fun V => opt z (o5q s.ev c.args.toList) fun xs => match V with
      | .one (.d (.fn f)) => match a4q E.tkn f with
       | some pos =>
         match decide (pos < 100) with
         | true =>
           let tk := afpq s pos xs
           let s1 := degrAll s ((AV.idsT xs).filter fun q => !tk.contains q)
           opt z (o5q s1.ev c.args.toList) fun xs1 => opt z (s1.ev v) fun V1 => match V1 with
            | .one (.d (.fn f1)) => a5Yq z P E o s s1 tk f1 xs1 k
            | _ => z
         | false =>
           let tk := afpq s (pos - 100) xs
           let ks := (AV.idsT xs).filter fun q => !tk.contains q
           let s1 := sealAll s ks
           let sV := I3q s1 ks
           opt z (o5q sV.ev c.args.toList) fun xs1 => opt z (sV.ev v) fun V1 => match V1 with
            | .one (.d (.fn f1)) => a5Yq z P E o s s1 tk f1 xs1 k
            | _ => z
       | none => opt z (a4q E.sig f) fun sg => match E.obj.contains f with
        | true => a2Jq z P E o s s f xs k
        | false => match a0hq xs && !(E.lw && sg.closed) with
          | true => a0fq z P E (o.dst.getD 0) V xs fun y nob => chk z (s.fresh nob) (k (s.upd o.dst y nob))
          | false =>
            let ks := P2q xs
            let sF := frzAll s ks
            opt z (o5q sF.ev c.args.toList) fun xs' => opt z (sF.ev v) fun V' => match a0hq xs' && sg.closed with
              | true => a0fq z P E (o.dst.getD 0) V' xs' fun y nob => chk z (y.closed && (nob.all fun p => isTr p.2)) <| match E.lw with
                | true => chk z (s.fresh (thaw nob)) (k (s.upd o.dst y (thaw nob)))
                | false => chk z (s.fresh nob) (k (s.upd o.dst y nob))
              | false =>
                let s1 := sealAll s ks
                let sV := I3q s1 ks
                opt z (o5q sV.ev c.args.toList) fun xs2 => opt z (sV.ev v) fun V2 => match a0hq xs2 with
                  | true => a0fq z P E (o.dst.getD 0) V2 xs2 fun y nob => chk z (s1.fresh nob) (k (s1.upd o.dst y nob))
                  | false => match V2 with
                    | .one (.d (.fn f')) => a2Jq z P E o s1 sV f' xs2 k
                    | _ => z
      | .one (.clo f caps) =>
          let ks := P2q xs
          let s1 := sealAll s ks
          let sV := I3q s1 ks
          opt z (o5q sV.ev c.args.toList) fun xs' => opt z (sV.ev v) fun V' => match V' with
            | .one (.clo f' caps') => a2Jq z P E o s1 sV f' (xs' ++ caps'.map fun p => .one (.op p.1 p.2)) k
            | _ => z
      | _ => z
    | _ => z
  | _ => z
section
variable {Γ : Cx} {P : Program} {E : Env} {z : Prop} {o : Oper} {s : St} {k : St → Prop}
theorem X8q {n : Nat} {sV : St} (hV : ∀ Γ a w S β, Sim Γ s a w S β → Sim Γ sV a w S β) (hE : EnvOk P E) (hz : ¬ z) {c : Operand} {ag : List Operand} {ts : Array TypeId} {v : AV} {xs zs : List AV} {f : FuncId} (ho : o.op = .call { callee := .value c, args := ag.toArray, argTypes := ts }) (hd : o.dst.all (· < n) = true) (hc : sV.ev c = some v) (has : o5q sV.ev ag = some xs)
  (hv : (v = .one (.d (.fn f)) ∧ zs = xs) ∨ ∃ caps, v = .one (.clo f caps) ∧ zs = xs ++ caps.map fun p => .one (.op p.1 p.2)) (h : a2Jq z P E o s sV f zs k) : ∃ s', (∀ Γ : Cx, Γ.n = n → XOp Γ P o s s') ∧ k s' := by
 unfold a2Jq at h
 obtain ⟨hf, h⟩ := a7q hz h
 obtain ⟨sg, _, h⟩ := a0q hz h
 obtain ⟨I, hI, h⟩ := a0q hz h
 obtain ⟨r, On, m, h⟩ := a2zq sg h
 obtain ⟨Oi, On', h⟩ := D0q h
 obtain ⟨h1, h2, h⟩ := a7q hz h
 simp only [Bool.and_eq_true] at h1
 simp only [List.contains_iff_mem] at hf
 obtain ⟨fn, hfn, hb, hn⟩ := a0aq (List.all_eq_true.1 hE.fns f hf)
 refine ⟨_, fun Γ hΓ => ?_, h⟩
 have hx := (a2Yq _ _ h2.h rfl rfl rfl rfl rfl h1.1).norm
 refine a90q (hV Γ) ?_ ho hc has (by rw [hΓ]; exact hd) (a2mq hI) h1.2
 rcases hv with ⟨rfl, rfl⟩ | ⟨caps, rfl, rfl⟩
 ·exact a9Wq hx hfn hb hn
 ·exact acZq hx rfl hfn hb hn
theorem abyq {n : Nat} (hE : EnvOk P E) (hz : ¬ z) (h : vY z P E n o s k) : ∃ s', (∀ Γ : Cx, Γ.n = n → XOp Γ P o s s') ∧ k s' := by
 unfold vY at h
 split at h
 ·rename_i c ho
  obtain ⟨callee, args, ats⟩ := c
  simp only at h
  split at h
  ·rename_i v
   obtain ⟨hd, h⟩ := a7q hz h
   obtain ⟨V, hV, h⟩ := a0q hz h
   obtain ⟨xs, hxs, h⟩ := a0q hz h
   have ho' : o.op = .call { callee := .value v, args := args.toList.toArray, argTypes := ats } := by simpa using ho
   split at h
   ·rename_i f
    split at h
    ·split at h
     ·obtain ⟨xs1, hxs1, h⟩ := a0q hz h
      obtain ⟨V1, hV1, h⟩ := a0q hz h
      split at h
      ·obtain ⟨s', h1, h⟩ := a2sq (fun _ _ _ _ _ h => h) hE hz ho' hd hV1 hxs1 h
       exact ⟨s', fun Γ hn => a2rq To.degrAll (h1 Γ hn), h⟩
      ·exact absurd h hz
     ·obtain ⟨xs1, hxs1, h⟩ := a0q hz h
      obtain ⟨V1, hV1, h⟩ := a0q hz h
      split at h
      ·obtain ⟨s', h1, h⟩ := a2sq (fun _ _ _ _ _ h => B1q h) hE hz ho' hd hV1 hxs1 h
       exact ⟨s', fun Γ hn => a2rq To.sealAll (h1 Γ hn), h⟩
      ·exact absurd h hz
    obtain ⟨sg, _, h⟩ := a0q hz h
    split at h
    ·exact X8q (fun _ _ _ _ _ h => h) hE hz ho' hd hV hxs (.inl ⟨rfl, rfl⟩) h
    ·split at h
     ·obtain ⟨y, nob, h1, h⟩ := B0q (s0 := s) hE hz ho' hV hxs h
      obtain ⟨hf, h⟩ := a7q hz h
      exact ⟨_, fun Γ hn => (adeq h1).xop (by rw [hn]; exact hd) hf, h⟩
     ·obtain ⟨xs', hxs', h⟩ := a0q hz h
      obtain ⟨V', hV', h⟩ := a0q hz h
      split at h
      ·obtain ⟨y, nob, h1, h⟩ := B0q (s0 := frzAll s _) hE hz ho' hV' hxs' h
       obtain ⟨hc, h⟩ := a7q hz h
       simp only [Bool.and_eq_true] at hc
       split at h
       ·obtain ⟨hf, h⟩ := a7q hz h
        exact ⟨_, fun Γ hn => (a7nq h1 hc.1 hc.2).xop (by rw [hn]; exact hd) hf, h⟩
       ·obtain ⟨hf, h⟩ := a7q hz h
        exact ⟨_, fun Γ hn => (a9Vq h1 hc.1 hc.2).xop (by rw [hn]; exact hd) hf, h⟩
      ·obtain ⟨xs2, hxs2, h⟩ := a0q hz h
       obtain ⟨V2, hV2, h⟩ := a0q hz h
       split at h
       ·obtain ⟨y, nob, h1, h⟩ := B0q (s0 := I3q _ _) hE hz ho' hV2 hxs2 h
        obtain ⟨hf, h⟩ := a7q hz h
        exact ⟨_, fun Γ hn => a2rq To.sealAll (afiq (fun _ _ _ _ h => B1q h) h1 (by rw [hn]; exact hd) hf), h⟩
       ·split at h
        ·obtain ⟨s', h1, h⟩ := X8q (fun _ _ _ _ _ h => B1q h) hE hz ho' hd hV2 hxs2 (.inl ⟨rfl, rfl⟩) h
         exact ⟨s', fun Γ hn => a2rq To.sealAll (h1 Γ hn), h⟩
        ·exact absurd h hz
   ·obtain ⟨xs', hxs', h⟩ := a0q hz h
    obtain ⟨V', hV', h⟩ := a0q hz h
    split at h
    ·obtain ⟨s', h1, h⟩ := X8q (fun _ _ _ _ _ h => B1q h) hE hz ho' hd hV' hxs' (.inr ⟨_, rfl, rfl⟩) h
     exact ⟨s', fun Γ hn => a2rq To.sealAll (h1 Γ hn), h⟩
    ·exact absurd h hz
   ·exact absurd h hz
  ·exact absurd h hz
 ·exact absurd h hz
theorem a9Lq (hE : EnvOk P E) (hz : ¬ z) (h : vY z P E Γ.n o s k) : ∃ s', XOp Γ P o s s' ∧ k s' := by
 obtain ⟨s', h1, h⟩ := abyq hE hz h
 exact ⟨s', h1 Γ rfl, h⟩
end
def j5q (l2 : List (Nat × Nat)) (β : Nat → OLoc) (o : Nat) : OLoc := match a4q l2 o with | some k => β k | none => β o
section
variable {w w' : World} {S S' : Nat → Prop} {β βf : Nat → OLoc} {I' O : List (Nat × Ob)} {mv : List Nat} {r : AV} {v : Value} {l1 l2 : List (Nat × Nat)}
theorem af5q (hok : B7q l1 l2 I' O mv = true) (hin : R9q w S β I') : R9q w S (j5q l2 β) (m8q l1 I') := by
 simp only [B7q, Bool.and_eq_true, List.all_eq_true, beq_iff_eq, Bool.or_eq_true, bne_iff_ne, ne_eq] at hok
 obtain ⟨⟨⟨⟨k1, k2⟩, k3⟩, k4⟩, k5⟩ := hok
 have hinj : ∀ a b k, a4q l2 a = some k → a4q l2 b = some k → a = b := by
  intro a b k ha hb
  rcases k2 (a, k) (f6q ha) (b, k) (f6q hb) with h | h
  ·exact absurd rfl h
  ·exact h
 have hc : ∀ o k, a4q l1 o = some k → (j5q l2 β) k = β o := by
  intro o k ho
  have := k1 (o, k) (f6q ho)
  simp only [j5q, this]
 have hloc : ∀ p ∈ I', ∃ k, a4q l1 p.1 = some k ∧ (j5q l2 β) k = β p.1 := by
  intro p hp
  obtain ⟨k, hk⟩ := Option.isSome_iff_exists.1 (k4 p hp)
  exact ⟨k, hk, hc _ _ hk⟩
 have hpass : ∀ b, i5q (m8q l1 I') (j5q l2 β) b ↔ i5q I' β b := by
  intro b
  rw [k3q]
  constructor
  ·rintro ⟨q, hq, h1⟩
   obtain ⟨p, hp, rfl⟩ := List.mem_map.1 hq
   obtain ⟨k, hk, hkb⟩ := hloc p hp
   simp only [hk, Option.getD_some, hkb] at h1
   exact ⟨p, hp, h1⟩
  ·rintro ⟨p, hp, h1⟩
   obtain ⟨k, hk, hkb⟩ := hloc p hp
   exact ⟨_, List.mem_map.2 ⟨p, hp, rfl⟩, by simp only [hk, Option.getD_some, hkb]; exact h1⟩
 have hpc : ∀ b, B3q (m8q l1 I') (j5q l2 β) b ↔ B3q I' β b := by
  intro b
  rw [k3q]
  constructor
  ·rintro ⟨q, hq, h1⟩
   obtain ⟨p, hp, rfl⟩ := List.mem_map.1 hq
   obtain ⟨k, hk, hkb⟩ := hloc p hp
   simp only [hk, Option.getD_some, hkb] at h1
   exact ⟨p, hp, h1⟩
  ·rintro ⟨p, hp, h1⟩
   obtain ⟨k, hk, hkb⟩ := hloc p hp
   exact ⟨_, List.mem_map.2 ⟨p, hp, rfl⟩, by simp only [hk, Option.getD_some, hkb]; exact h1⟩
 have hin' : R9q w S (j5q l2 β) (m8q l1 I') := by
  rw [k3q]
  refine ⟨fun q hq => ?_, fun q hq => ?_, fun q hq q' hq' => ?_, fun q hq => ?_, fun q hq q' hq' => ?_⟩
  ·obtain ⟨p, hp, rfl⟩ := List.mem_map.1 hq
   obtain ⟨k, hk, hkb⟩ := hloc p hp
   simp only [hk, Option.getD_some, hkb]
   exact (hin.ob p hp).ren hc
  ·obtain ⟨p, hp, rfl⟩ := List.mem_map.1 hq
   obtain ⟨k, hk, hkb⟩ := hloc p hp
   simp only [hk, Option.getD_some, hkb]
   exact hin.own p hp
  ·obtain ⟨p, hp, rfl⟩ := List.mem_map.1 hq
   obtain ⟨p', hp', rfl⟩ := List.mem_map.1 hq'
   obtain ⟨k, hk, hkb⟩ := hloc p hp
   obtain ⟨k', hk', hkb'⟩ := hloc p' hp'
   simp only [hk, hk', Option.getD_some, hkb, hkb']
   intro b h1 h2
   have := hin.sep p hp p' hp' b h1 h2
   rw [this, hk'] at hk
   simpa using hk.symm
  ·obtain ⟨p, hp, rfl⟩ := List.mem_map.1 hq
   obtain ⟨k, hk, hkb⟩ := hloc p hp
   simp only [hk, Option.getD_some, hkb]
   exact hin.clm p hp
  ·obtain ⟨p, hp, rfl⟩ := List.mem_map.1 hq
   obtain ⟨p', hp', rfl⟩ := List.mem_map.1 hq'
   obtain ⟨k, hk, hkb⟩ := hloc p hp
   obtain ⟨k', hk', hkb'⟩ := hloc p' hp'
   simp only [hk, hk', Option.getD_some, hkb, hkb']
   intro b h1 h2
   have := hin.sepc p hp p' hp' b h1 h2
   rw [this, hk'] at hk
   simpa using hk.symm
 exact hin'
theorem adOq (hok : B7q l1 l2 I' O mv = true) (hG : GrowX w S (j5q l2 β) (m8q l1 I') O mv w' S' βf) (hrep : RepV w' S' βf r v) : ∃ β2, GrowX w S β I' (m8q l2 O) (mv.map fun m => (a4q l2 m).getD m) w' S' β2 ∧ RepV w' S' β2 (r.map (k6q l2)) v := by
 simp only [B7q, Bool.and_eq_true, List.all_eq_true, beq_iff_eq, Bool.or_eq_true, bne_iff_ne, ne_eq] at hok
 obtain ⟨⟨⟨⟨k1, k2⟩, k3⟩, k4⟩, k5⟩ := hok
 have hinj : ∀ a b k, a4q l2 a = some k → a4q l2 b = some k → a = b := by
  intro a b k ha hb
  rcases k2 (a, k) (f6q ha) (b, k) (f6q hb) with h | h
  ·exact absurd rfl h
  ·exact h
 have hc : ∀ o k, a4q l1 o = some k → (j5q l2 β) k = β o := by
  intro o k ho
  have := k1 (o, k) (f6q ho)
  simp only [j5q, this]
 have hloc : ∀ p ∈ I', ∃ k, a4q l1 p.1 = some k ∧ (j5q l2 β) k = β p.1 := by
  intro p hp
  obtain ⟨k, hk⟩ := Option.isSome_iff_exists.1 (k4 p hp)
  exact ⟨k, hk, hc _ _ hk⟩
 have hpass : ∀ b, i5q (m8q l1 I') (j5q l2 β) b ↔ i5q I' β b := by
  intro b
  rw [k3q]
  constructor
  ·rintro ⟨q, hq, h1⟩
   obtain ⟨p, hp, rfl⟩ := List.mem_map.1 hq
   obtain ⟨k, hk, hkb⟩ := hloc p hp
   simp only [hk, Option.getD_some, hkb] at h1
   exact ⟨p, hp, h1⟩
  ·rintro ⟨p, hp, h1⟩
   obtain ⟨k, hk, hkb⟩ := hloc p hp
   exact ⟨_, List.mem_map.2 ⟨p, hp, rfl⟩, by simp only [hk, Option.getD_some, hkb]; exact h1⟩
 have hpc : ∀ b, B3q (m8q l1 I') (j5q l2 β) b ↔ B3q I' β b := by
  intro b
  rw [k3q]
  constructor
  ·rintro ⟨q, hq, h1⟩
   obtain ⟨p, hp, rfl⟩ := List.mem_map.1 hq
   obtain ⟨k, hk, hkb⟩ := hloc p hp
   simp only [hk, Option.getD_some, hkb] at h1
   exact ⟨p, hp, h1⟩
  ·rintro ⟨p, hp, h1⟩
   obtain ⟨k, hk, hkb⟩ := hloc p hp
   exact ⟨_, List.mem_map.2 ⟨p, hp, rfl⟩, by simp only [hk, Option.getD_some, hkb]; exact h1⟩
 let β2 : Nat → OLoc := fun k => match mv.find? fun m => a4q l2 m == some k with | some m => βf m | none => β k
 have hf : ∀ o k, a4q l2 o = some k → β2 k = βf o := by
  intro o k ho
  simp only [β2]
  split
  ·rename_i m hm
   have h1 := List.find?_some hm
   simp only [beq_iff_eq] at h1
   rw [hinj _ _ _ h1 ho]
  ·rename_i hm
   have hom : o ∉ mv := by
    intro hmem
    have := List.find?_eq_none.1 hm o hmem
    simp [ho] at this
   rw [hG.loc o hom]
   simp only [j5q, ho]
 have hlocO : ∀ p ∈ O, ∃ k, a4q l2 p.1 = some k ∧ β2 k = βf p.1 := by
  intro p hp
  obtain ⟨k, hk⟩ := Option.isSome_iff_exists.1 (k5 p hp)
  exact ⟨k, hk, hf _ _ hk⟩
 refine ⟨β2, ⟨hG.os, hG.tape, hG.output, hG.size, fun b hb hp => hG.block b hb fun h => hp ((hpass b).1 h), hG.sub, fun b hb => ⟨(hG.sup b hb).1, (hG.sup b hb).2.imp id fun h => h.imp id (hpass b).1⟩, fun k hk => ?_, fun q hq => ?_, fun q hq => ?_, fun q hq q' hq' => ?_, fun q hq => ?_, fun q hq q' hq' => ?_⟩, hrep.map (RepA.ren hf) fun _ _ h => h⟩
 ·simp only [β2]
  split
  ·rename_i m hm
   have h1 := List.find?_some hm
   have h2 := List.mem_of_find?_eq_some hm
   simp only [beq_iff_eq] at h1
   exact absurd (List.mem_map.2 ⟨m, h2, by simp [h1]⟩) hk
  ·rfl
 ·rw [k3q] at hq
  obtain ⟨p, hp, rfl⟩ := List.mem_map.1 hq
  obtain ⟨k, hk, hkb⟩ := hlocO p hp
  simp only [hk, Option.getD_some, hkb]
  exact (hG.ob p hp).ren hf
 ·rw [k3q] at hq
  obtain ⟨p, hp, rfl⟩ := List.mem_map.1 hq
  obtain ⟨k, hk, hkb⟩ := hlocO p hp
  simp only [hk, Option.getD_some, hkb]
  intro b hh
  obtain ⟨h1, h2, h3⟩ := hG.own p hp b hh
  exact ⟨h1, h2, h3.imp id (hpass _).1⟩
 ·rw [k3q] at hq hq'
  obtain ⟨p, hp, rfl⟩ := List.mem_map.1 hq
  obtain ⟨p', hp', rfl⟩ := List.mem_map.1 hq'
  obtain ⟨k, hk, hkb⟩ := hlocO p hp
  obtain ⟨k', hk', hkb'⟩ := hlocO p' hp'
  simp only [hk, hk', Option.getD_some, hkb, hkb']
  intro b h1 h2
  have := hG.sep p hp p' hp' b h1 h2
  rw [this, hk'] at hk
  simpa using hk.symm
 ·rw [k3q] at hq
  obtain ⟨p, hp, rfl⟩ := List.mem_map.1 hq
  obtain ⟨k, hk, hkb⟩ := hlocO p hp
  simp only [hk, Option.getD_some, hkb]
  intro b hh
  obtain ⟨h1, h3⟩ := hG.clm p hp b hh
  exact ⟨h1, h3.imp id (Or.imp (hpass _).1 (hpc _).1)⟩
 ·rw [k3q] at hq hq'
  obtain ⟨p, hp, rfl⟩ := List.mem_map.1 hq
  obtain ⟨p', hp', rfl⟩ := List.mem_map.1 hq'
  obtain ⟨k, hk, hkb⟩ := hlocO p hp
  obtain ⟨k', hk', hkb'⟩ := hlocO p' hp'
  simp only [hk, hk', Option.getD_some, hkb, hkb']
  intro b h1 h2
  have := hG.sepc p hp p' hp' b h1 h2
  rw [this, hk'] at hk
  simpa using hk.symm
end
section
variable {n : Nat} {P : Program} {o : Oper} {y : AV} {nob us I : List (Nat × Ob)} {ts : List (Nat × AV)}
theorem Grow.toX {w w' : World} {S S' : Nat → Prop} {β β' : Nat → OLoc} (h : Grow w S β nob w' S' β') : GrowX w S β [] nob (nob.map (·.1)) w' S' β' :=
 ⟨h.os, h.tape, h.output, h.size, fun b hb _ => h.block b hb, h.sub, fun b hb => ⟨(h.sup b hb).1, (h.sup b hb).2.imp id .inl⟩, fun q hq => h.loc q fun p hp e => hq (List.mem_map.2 ⟨p, hp, e⟩), h.ob,
  fun p hp b hb => ⟨(h.own p hp b hb).2.1, (h.own p hp b hb).2.2, .inl (h.own p hp b hb).1⟩, h.sep, fun p hp b hb => ⟨(h.clm p hp b hb).1, .inl (h.clm p hp b hb).2⟩, h.sepc⟩
def D9q (s : St) : List Operand → List (Nat × AV)
 | [] => []
 | .tmp t :: r => match s.get t with
  | some x => (t, x) :: D9q s r
  | none => D9q s r
 | _ :: r => D9q s r
theorem H9q {s : St} {t : Nat} {x : AV} : ∀ {l : List Operand}, a4q (D9q s l) t = some x → s.get t = some x ∧ .tmp t ∈ l
 | [], h => by simp [D9q, a4q] at h
 | .tmp t' :: r, h => by
  simp only [D9q] at h
  split at h
  ·rename_i x' hx
   simp only [a4q] at h
   split at h
   ·rename_i e
    simp only [beq_iff_eq] at e
    subst e
    simp at h; subst h
    exact ⟨hx, by simp⟩
   ·obtain ⟨h1, h2⟩ := H9q h
    exact ⟨h1, by simp [h2]⟩
  ·obtain ⟨h1, h2⟩ := H9q h
   exact ⟨h1, by simp [h2]⟩
 | .const _ :: r, h => by obtain ⟨h1, h2⟩ := H9q (l := r) h; exact ⟨h1, by simp [h2]⟩
 | .func _ :: r, h => by obtain ⟨h1, h2⟩ := H9q (l := r) h; exact ⟨h1, by simp [h2]⟩
 | .global _ :: r, h => by obtain ⟨h1, h2⟩ := H9q (l := r) h; exact ⟨h1, by simp [h2]⟩
theorem a7jq {a : Act} {w : World} {S : Nat → Prop} {β : Nat → OLoc} {fx : Nat → OLoc → Prop} {ob : List (Nat × Ob)} {pa pc : Nat → Prop} (hd : a.defers = []) (hn : a.tmps.size = n) (hlt : ∀ b, S b → b < w.heap.size) (htm : ∀ t x, a4q ts t = some x → ∃ v, a.tmps[t]? = some v ∧ RepV w S β x v) (hin : R9q w S β ob)
  (hpa : ∀ p ∈ ob, ∀ b, (β p.1).Own b → pa b) (hpc : ∀ p ∈ ob, ∀ b ∈ (β p.1).clm, pc b) (hfx : ∀ q l, fx q l → 2000 ≤ q ∧ β q = l) : Sim ⟨n, w, S, pa, fx, pc⟩ ⟨ts, ob⟩ a w S β := by
 have hgob : ∀ q X, (⟨ts, ob⟩ : St).gob q = some X → (q, X) ∈ ob := fun q X hq => f6q hq
 refine ⟨hd, hn, htm, ⟨hlt, fun q X hq => hin.ob (q, X) (hgob q X hq), fun q X hq b hh => ?_, fun q q' X X' hq hq' b hh hh' => hin.sep (q, X) (hgob q X hq) (q', X') (hgob q' X' hq') b hh hh', rfl, rfl, rfl, Nat.le_refl _, fun _ _ _ => rfl, fun _ h => h, fun _ h => .inl h, hfx, fun q X hq b hh => ?_, fun q q' X X' hq hq' b hh hh' => hin.sepc (q, X) (hgob q X hq) (q', X') (hgob q' X' hq') b hh hh'⟩⟩
 ·obtain ⟨h1, h2⟩ := hin.own (q, X) (hgob q X hq) b hh
  exact ⟨h1, h2, .inr (hpa (q, X) (hgob q X hq) b hh)⟩
 ·exact ⟨hin.clm (q, X) (hgob q X hq) b hh, .inr (.inr (hpc (q, X) (hgob q X hq) b hh))⟩
def tsB (n : Nat) (o : Oper) (ts : List (Nat × AV)) : Bool := ts.all fun p => decide (p.1 < n) && (a19q o).contains p.1
theorem acjq {o : Oper} {t : Nat} (h : t ∈ a19q o) : Operand.tmp t ∈ o.op.operands := by
 simp only [a19q, List.mem_filterMap] at h
 obtain ⟨x, h1, h2⟩ := h
 cases x with
 | tmp t' => simp at h2; subst h2; simpa using h1
 | _ => simp at h2
theorem aakq {a : Act} {w : World} {S : Nat → Prop} {β : Nat → OLoc} {ob : List (Nat × Ob)} (h : tsB n o ts = true) (hn : a.tmps.size = n) (hr : ∀ x X, (⟨ts, ob⟩ : St).ev x = some X → x ∈ o.op.operands → RepV w S β X (a.eval x)) : ∀ t x, a4q ts t = some x → ∃ v, a.tmps[t]? = some v ∧ RepV w S β x v := by
 intro t x hx
 have := List.all_eq_true.1 h _ (f6q hx)
 simp only [Bool.and_eq_true, decide_eq_true_eq, List.contains_iff_mem] at this
 have h1 := hr (.tmp t) x hx (acjq this.2)
 have hlt : t < a.tmps.size := by omega
 refine ⟨a.tmps[t], Array.getElem?_eq_getElem hlt, ?_⟩
 have : a.eval (.tmp t) = a.tmps[t] := by simp [Act.eval, Array.getD_eq_getD_getElem?, Array.getElem?_eq_getElem hlt]
 rw [← this]; exact h1
theorem ag7q (h : OpL P o ⟨ts, us⟩ y nob) (hts : tsB n o ts = true) : OpX n P o (St.ev ⟨ts, us⟩) us [] y nob (nob.map (·.1)) := by
 intro a w S β hd hn hlt hr hin K Q hK
 rw [List.append_nil] at hin
 refine h ⟨n, w, S, i5q us β, fun _ _ => False, B3q us β⟩ a w S β ?_ K Q fun v w' S' β' hG hy => hK v w' S' β' hG.toX hy
 exact a7jq hd hn hlt (aakq hts hn hr) hin (fun p hp b hb => ⟨p, hp, hb⟩) (fun p hp b hb => ⟨p, hp, hb⟩) (fun _ _ h => h.elim)
def Oper.ng (o : Oper) : Oper := { o with guard := none }
theorem afJq {a : Act} {w : World} {K0 K : Act → World → Prop} {R Q : Exit → Act → World → Prop} (hR : ∀ e a w, R e a w → e = .normal) (h : (Oper.ng o).wp P a w K0 R) (hdef : ∀ a' w', K0 a' w' → a'.defers = []) (hK : ∀ v w', K0 (a.put o.dst v) w' → K (a.put o.dst v) w') : o.wp P a w K Q := by
 unfold Oper.wp at *
 have he : execOp a.eval (Oper.ng o) = execOp a.eval o := rfl
 rw [he] at h
 generalize (execOp a.eval o).run P w = r at *
 have hlet : ¬ LetsOut R := fun ⟨_, _, hl⟩ => absurd (hR _ _ _ hl) (by simp)
 cases r with
 | ok m w' =>
  cases m with
  | value v => exact hK v w' h
  | skip => exact hK _ w' h
  | defer d =>
   have := hdef _ _ h
   cases hdd : o.dst <;> simp [Oper.ng, Act.put, hdd] at this
  | enter f args =>
   exact Calls.mono h fun e w'' he => by
    cases e with
    | returned v => exact hK v w'' he
    | panicked ch => exact absurd (hR _ _ _ he) (by simp)
    | outgrown => exact absurd he hlet
  | row rw args => exact Rows.mono h fun v w'' he => hK v w'' he
  | _ => exact h
 | halt x w' =>
  cases x with
  | panic v => exact absurd (hR _ _ _ h) (by simp)
  | _ => exact h
def afnq (O : List (Nat × Ob)) (mv : List Nat) (r : AV) : Bool :=
 (r.ids ++ (O.map fun p => p.1 :: p.2.ids).flatten).all fun o => mv.contains o || decide (2000 ≤ o)
def a8Gq (d : Option Nat) (s' : St) : Option AV := match d with
 | some d => s'.get d
 | none => some (.tup [])
theorem aehq {s' : St} {y0 : AV} {O0 : List (Nat × Ob)} {mv0 : List Nat} {l1 l2 : List (Nat × Nat)} (h : Step n P (Oper.ng o) ⟨W3q (k6q l1) ts, m8q l1 I⟩ s') (hts : tsB n o ts = true) (hd : o.dst.all (· < n) = true) (hy : a8Gq o.dst s' = some y0) (hO : usOk s' O0) (hids : afnq O0 mv0 y0 = true) (hok : B7q l1 l2 I O0 mv0 = true) :
  OpX n P o (St.ev ⟨ts, I⟩) [] I (y0.map (k6q l2)) (m8q l2 O0) (mv0.map fun m => (a4q l2 m).getD m) := by
 intro a w S β hdf hn hlt hr hin K Q hK
 rw [List.nil_append] at hin
 have hin' := af5q hok hin
 have k1 : ∀ q k, a4q l1 q = some k → j5q l2 β k = β q := by
  intro q k hq
  have hok := hok
  simp only [B7q, Bool.and_eq_true, List.all_eq_true, beq_iff_eq] at hok
  have := hok.1.1.1.1 (q, k) (f6q hq)
  simp only [j5q, this]
 have htm : ∀ t x, a4q (W3q (k6q l1) ts) t = some x → ∃ v, a.tmps[t]? = some v ∧ RepV w S (j5q l2 β) x v := by
  intro t x hx
  rw [q4q] at hx
  cases hz : a4q ts t with
  | none => rw [hz] at hx; simp at hx
  | some z =>
   rw [hz] at hx; simp at hx; subst hx
   obtain ⟨v, hv, hrv⟩ := aakq (ob := I) hts hn hr t z hz
   exact ⟨v, hv, hrv.map (RepA.ren k1) fun _ _ h => h⟩
 have hsim := a7jq (ts := W3q (k6q l1) ts) (fx := fun q l => 2000 ≤ q ∧ j5q l2 β q = l) (pa := i5q (m8q l1 I) (j5q l2 β)) (pc := B3q (m8q l1 I) (j5q l2 β)) hdf hn hlt htm hin' (fun p hp b hb => ⟨p, hp, hb⟩) (fun p hp b hb => ⟨p, hp, hb⟩) fun q l h => h
 let Γ : Cx := ⟨n, w, S, i5q (m8q l1 I) (j5q l2 β), fun q l => 2000 ≤ q ∧ j5q l2 β q = l, B3q (m8q l1 I) (j5q l2 β)⟩
 let R : Exit → Act → World → Prop := fun e a' w' => e = .normal ∧ ∃ S' β', Sim Γ s' a' w' S' β'
 have hwl := h Γ rfl #[Oper.ng o] [] (fun s => s = s') rfl (a9qq rfl) a w S (j5q l2 β) R hsim (fun a' w' s1 S' β' e hs' => by subst e; exact ⟨rfl, S', β', hs'⟩)
 unfold wpList at hwl
 rw [if_pos (by simp [Region.wanted, Oper.ng])] at hwl
 have hwp : (Oper.ng o).wp P a w (wpList P #[Oper.ng o] R []) R := by
  rcases hwl with h | ⟨_, _, _, hl⟩
  ·exact h
  ·exact absurd hl.1 (by simp)
 refine afJq (fun e a w h => h.1) hwp (fun a' w' h => h.2.elim fun S' h => h.elim fun β' h => h.defers) fun v w' hk => ?_
 obtain ⟨_, S', βf, hs'⟩ := hk
 obtain ⟨u, hu1, hu2⟩ : ∃ u, a.put o.dst v = a.put o.dst u ∧ RepV w' S' βf y0 u := by
  cases hdd : o.dst with
  | none =>
   rw [hdd] at hy
   simp only [a8Gq, Option.some.injEq] at hy
   subst hy
   exact ⟨.tuple #[], rfl, RepVs.tup .nil .nil⟩
  | some d =>
   rw [hdd] at hy hd hs'
   simp only [a8Gq] at hy
   obtain ⟨u, hu, hrep⟩ := hs'.tm d _ hy
   simp at hd
   refine ⟨u, ?_, hrep⟩
   have : (a.put (some d) v).tmps[d]? = some v := by simp [Act.put, hn, hd]
   rw [this] at hu
   cases hu
   rfl
 rw [hu1]
 let βg : Nat → OLoc := fun q => if q ∈ mv0 then βf q else j5q l2 β q
 have hin2 : ∀ q ∈ y0.ids ++ (O0.map fun p => p.1 :: p.2.ids).flatten, βg q = βf q := by
  intro q hq
  have := List.all_eq_true.1 hids q hq
  simp only [Bool.or_eq_true, List.contains_iff_mem, decide_eq_true_eq] at this
  by_cases hm : q ∈ mv0
  ·exact if_pos hm
  ·rcases this with h | h
   ·exact absurd h hm
   ·show (if q ∈ mv0 then βf q else j5q l2 β q) = βf q
    rw [if_neg hm]
    exact ((hs'.mem.fix q (j5q l2 β q) ⟨h, rfl⟩).2).symm
 have kO : ∀ p ∈ O0, s'.gob p.1 = some p.2 ∧ βg p.1 = βf p.1 ∧ ∀ q ∈ p.2.ids, βg q = βf q := fun p hp =>
  ⟨p1q hO p hp, hin2 _ (List.mem_append_right _ (List.mem_flatten.2 ⟨_, List.mem_map.2 ⟨p, hp, rfl⟩, by simp⟩)), fun q hq => hin2 _ (List.mem_append_right _ (List.mem_flatten.2 ⟨_, List.mem_map.2 ⟨p, hp, rfl⟩, by simp [hq]⟩))⟩
 have hG : GrowX w S (j5q l2 β) (m8q l1 I) O0 mv0 w' S' βg := by
  refine ⟨hs'.mem.os, hs'.mem.tape, hs'.mem.output, hs'.mem.size, fun b hb hp => hs'.mem.block b hb hp, hs'.mem.sub, fun b hb => ⟨hs'.mem.lt b hb, hs'.mem.sup b hb⟩, fun q hq => if_neg hq, fun p hp => ?_, fun p hp b hh => ?_, fun p hp q hq b hh hh' => ?_, fun p hp b hh => ?_, fun p hp q hq b hh hh' => ?_⟩
  ·obtain ⟨h1, h2, h3⟩ := kO p hp
   rw [h2]
   exact (hs'.mem.ob p.1 p.2 h1).mono (fun _ _ => rfl) (fun _ _ => rfl) (fun _ h => h) h3
  ·obtain ⟨h1, h2, h3⟩ := kO p hp
   rw [h2] at hh
   exact hs'.mem.own p.1 p.2 h1 b hh
  ·obtain ⟨h1, h2, h3⟩ := kO p hp
   obtain ⟨g1, g2, g3⟩ := kO q hq
   rw [h2] at hh
   rw [g2] at hh'
   exact hs'.mem.sep p.1 q.1 _ _ h1 g1 b hh hh'
  ·obtain ⟨h1, h2, h3⟩ := kO p hp
   rw [h2] at hh
   exact hs'.mem.clm p.1 p.2 h1 b hh
  ·obtain ⟨h1, h2, h3⟩ := kO p hp
   obtain ⟨g1, g2, g3⟩ := kO q hq
   rw [h2] at hh
   rw [g2] at hh'
   exact hs'.mem.sepc p.1 q.1 _ _ h1 g1 b hh hh'
 obtain ⟨β2, hG2, hr2⟩ := adOq hok hG (hu2.mono (fun _ _ => rfl) (fun _ h => h) fun q hq => hin2 q (List.mem_append_left _ hq))
 exact hK u w' S' β2 hG2 hr2
end
def a50q (ks : List Nat) : List (Nat × AV) → List (Nat × AV)
 | [] => []
 | (i, x) :: r => (i, x.kill ks) :: a50q ks r
def a3nq (ks : List Nat) : List (Nat × Ob) → List (Nat × Ob)
 | [] => []
 | (i, x) :: r => (i, x.kill ks) :: a3nq ks r
theorem a3Jq (ks : List Nat) (l : List (Nat × AV)) (i : Nat) : a4q (a50q ks l) i = (a4q l i).map (·.kill ks) := by
 induction l with
 | nil => rfl
 | cons p l ih => obtain ⟨k, x⟩ := p; simp only [a50q, a4q]; split <;> simp [ih]
theorem a9jq (ks : List Nat) (l : List (Nat × Ob)) (i : Nat) : a4q (a3nq ks l) i = (a4q l i).map (·.kill ks) := by
 induction l with
 | nil => rfl
 | cons p l ih => obtain ⟨k, x⟩ := p; simp only [a3nq, a4q]; split <;> simp [ih]
def St.xd (s : St) (dst : Option Nat) (e : EX) : St := match e.I with
 | [] => s.upd dst e.y e.O
 | _ :: _ => ⟨(match dst with | some d => [(d, e.y)] | none => []) ++ a50q e.ks s.tm, e.O ++ D6q (a3nq e.ks s.ob) e.drop⟩
theorem agMq {s : St} {o : Oper} {e : EX} (hf : e.I = [] → ∀ i x, s.get i = some x → x.kill e.ks = x) : (s.xd o.dst e).get = gE o e s.get := by
 funext i
 unfold St.xd
 split
 ·rename_i hI
  rw [y5q]
  unfold gE
  by_cases h : o.dst = some i
  ·simp [h]
  ·simp only [h, if_false]
   cases hx : s.get i with
   | none => rfl
   | some x => simp [hf hI i x hx]
 ·unfold gE
  cases hd : o.dst with
  | none => simp [St.get, a3Jq]
  | some d =>
   simp only [St.get, List.singleton_append, a4q, Option.some.injEq]
   by_cases h : d = i
   ·simp [h]
   ·simp [h, a3Jq]
theorem agYq {s : St} {o : Oper} {e : EX} (hf : e.I = [] → ∀ q X, s.gob q = some X → X.kill e.ks = X) : (s.xd o.dst e).gob = TE e s.gob := by
 funext q
 unfold St.xd
 split
 ·rename_i hI
  rw [I0q]
  unfold TE
  have hdr : e.drop = [] := by simp [EX.drop, hI, i7q]
  rw [hdr]
  simp only [List.not_mem_nil, if_false]
  cases hx : s.gob q with
  | none => rfl
  | some x => simp [hf hI q x hx]
 ·unfold TE
  simp only [St.gob, a0Cq, F9q, a9jq]
def q0q (s : St) : List Nat → List (Nat × Ob)
 | [] => []
 | k :: r => match s.gob k with
  | some X => (k, X) :: q0q s r
  | none => q0q s r
theorem C7q {s : St} : ∀ {l : List Nat} {p : Nat × Ob}, p ∈ q0q s l → s.gob p.1 = some p.2
 | k :: r, p, h => by
  simp only [q0q] at h
  split at h
  ·rename_i X hX
   rcases List.mem_cons.1 h with rfl | h
   ·exact hX
   ·exact C7q h
  ·exact C7q h
def ahkq (I : List (Nat × Ob)) (k : Nat) : Bool := match a4q I k with
 | some (.var _) => false
 | some _ => decide (k < 2000)
 | none => false
def lowI (o : Oper) (I : List (Nat × Ob)) : List (Nat × Ob) := match o.op with
 | .call c => (match c.callee with
  | .builtin .copy => []
  | .builtin .clear => []
  | _ => I)
 | _ => I
def mkL1 (I : List (Nat × Ob)) : Nat → List Nat → List (Nat × Nat)
 | _, [] => []
 | n, k :: r => match ahkq I k with
  | true => (k, k) :: mkL1 I n r
  | false => (k, n) :: mkL1 I (n + 1) r
def ded (ob : List (Nat × Ob)) : List (Nat × Ob) → List Nat → List (Nat × Ob)
 | [], _ => []
 | (k, _) :: r, seen => match seen.contains k with
  | true => ded ob r seen
  | false => match a4q ob k with
   | some X => (k, X) :: ded ob r (k :: seen)
   | none => ded ob r seen
theorem a5Fq {s : St} : ∀ {l : List (Nat × Ob)} {seen : List Nat}, usOk s (ded s.ob l seen)
 | [], _ => trivial
 | (k, X) :: r, seen => by
  simp only [ded]
  split
  ·exact a5Fq
  ·split
   ·rename_i X hX
    exact ⟨hX, a5Fq⟩
   ·exact a5Fq
def ahlq (l : List (Nat × Nat)) : List (Nat × Nat) := l.map fun p => (p.2, p.1)
def newL (l1 : List (Nat × Nat)) (O : List (Nat × Ob)) : List Nat := (O.map (·.1)).filter fun k => !l1.any fun p => p.2 == k
def lowL (l1 : List (Nat × Nat)) : List Nat := (l1.map (·.2)).filter fun k => decide (k < 2000)
def mvB (s : St) (I O : List (Nat × Ob)) (mv : List Nat) : Bool :=
 (mv.all fun m => decide (m < 2000) && (I.any (·.1 == m) || (s.gob m).isNone)) && O.all fun p => I.any (·.1 == p.1) || mv.contains p.1
def O6q (n : Nat) (k : Nat → Prop) : Prop := match n with
 | 0 => k 0
 | m + 1 => k (Nat.succ m)
def frcL : List Nat → (List Nat → Prop) → Prop
 | [], k => k []
 | x :: r, k => O6q x fun x => frcL r fun r => k (x :: r)
def frcP : List (Nat × Nat) → (List (Nat × Nat) → Prop) → Prop
 | [], k => k []
 | (x, y) :: r, k => O6q x fun x => O6q y fun y => frcP r fun r => k ((x, y) :: r)
def frcA (a : At) (k : At → Prop) : Prop := match a with
 | .d x => k (.d x)
 | .e0 => k .e0
 | .ol o => O6q o fun o => k (.ol o)
 | .op o off => O6q o fun o => k (.op o off)
 | .ep cs => k (.ep cs)
 | .clo f caps => k (.clo f caps)
 | .raw a n c => k (.raw a n c)
 | .ps o es lo n => O6q o fun o => k (.ps o es lo n)
 | .junk => k .junk
def a5Sq : List At → (List At → Prop) → Prop
 | [], k => k []
 | x :: r, k => frcA x fun x => a5Sq r fun r => k (x :: r)
mutual
def frcV : AV → (AV → Prop) → Prop
 | .one x, k => frcA x fun x => k (.one x)
 | .dat xs, k => k (.dat xs)
 | .agg xs, k => a5Sq xs fun xs => k (.agg xs)
 | .tup ys, k => frcVs ys fun ys => k (.tup ys)
def frcVs : List AV → (List AV → Prop) → Prop
 | [], k => k []
 | y :: r, k => frcV y fun y => frcVs r fun r => k (y :: r)
end
def frcO (X : Ob) (k : Ob → Prop) : Prop := match X with
 | .var cs => a5Sq cs fun cs => k (.var cs)
 | .lst E es xs => k (.lst E es xs)
 | .tr E es xs => k (.tr E es xs)
 | .tk xs => k (.tk xs)
 | .mt E es xs => k (.mt E es xs)
 | .mu E es xs m q a n c => k (.mu E es xs m q a n c)
 | .fu E es xs c => k (.fu E es xs c)
def a38q : List (Nat × AV) → (List (Nat × AV) → Prop) → Prop
 | [], k => k []
 | (i, x) :: r, k => O6q i fun i => frcV x fun x => a38q r fun r => k ((i, x) :: r)
def P5q : List (Nat × Ob) → (List (Nat × Ob) → Prop) → Prop
 | [], k => k []
 | (i, x) :: r, k => O6q i fun i => frcO x fun x => P5q r fun r => k ((i, x) :: r)
theorem W8q (n : Nat) (k : Nat → Prop) : O6q n k = k n := by cases n <;> rfl
theorem a3sq : ∀ (l : List Nat) (k : List Nat → Prop), frcL l k = k l
 | [], k => rfl
 | x :: r, k => by simp only [frcL, W8q, a3sq r]
theorem a39q : ∀ (l : List (Nat × Nat)) (k : List (Nat × Nat) → Prop), frcP l k = k l
 | [], k => rfl
 | (x, y) :: r, k => by simp only [frcP, W8q, a39q r]
theorem aboq (a : At) (k : At → Prop) : frcA a k = k a := by cases a <;> simp only [frcA, W8q]
theorem a41q : ∀ (l : List At) (k : List At → Prop), a5Sq l k = k l
 | [], k => rfl
 | x :: r, k => by simp only [a5Sq, aboq, a41q r]
mutual
theorem a6Vq : ∀ (y : AV) (k : AV → Prop), frcV y k = k y
 | .one x, k => by simp only [frcV, aboq]
 | .dat xs, k => rfl
 | .agg xs, k => by simp only [frcV, a41q]
 | .tup ys, k => by simp only [frcV, frcVs_eq ys]
theorem frcVs_eq : ∀ (l : List AV) (k : List AV → Prop), frcVs l k = k l
 | [], k => rfl
 | y :: r, k => by simp only [frcVs, a6Vq y, frcVs_eq r]
end
theorem afPq (X : Ob) (k : Ob → Prop) : frcO X k = k X := by cases X <;> simp only [frcO, a41q]
theorem a1Bq : ∀ (l : List (Nat × AV)) (k : List (Nat × AV) → Prop), a38q l k = k l
 | [], k => rfl
 | (i, x) :: r, k => by simp only [a38q, W8q, a6Vq, a1Bq r]
theorem a00q : ∀ (l : List (Nat × Ob)) (k : List (Nat × Ob) → Prop), P5q l k = k l
 | [], k => rfl
 | (i, x) :: r, k => by simp only [P5q, W8q, afPq, a00q r]
def abXq (z : Prop) (P : Program) (E : Env) (o : Oper) (s : St) (k : AV → List (Nat × Ob) → Prop) : Prop := match o.op with
 | .call c => match c.callee with
  | .value v => opt z (o5q s.ev c.args.toList) fun xs =>
   let sF := frzAll s (P2q xs)
   opt z (o5q sF.ev c.args.toList) fun xs' => opt z (sF.ev v) fun V' => a0fq z P E (o.dst.getD 0) V' xs' fun y nob => chk z (y.closed && (nob.all fun p => isTr p.2)) <| match E.lw with
    | true => k y (thaw nob)
    | false => k y nob
  | _ => z
 | _ => z
def ah5q (E : Env) (s : St) (o : Oper) : Nat := match o.op with
 | .store _ _ _ => 2
 | .buildSlice _ _ _ => match (a4Kq s o).isEmpty with
  | true => 0
  | false => 2
 | .call c => match c.callee with
  | .value v => match isExtV E v with
   | true => 0
   | false => match s.ev v, o5q s.ev c.args.toList with
    | some (.one (.d (.fn f))), some xs => match (E.obj.contains f && !a0hq xs) || (a4q E.tkn f).isSome with
     | true => 3
     | false => match a4q E.sig f with
      | some sg => match a0hq xs && !(E.lw && sg.closed) with
       | true => 0
       | false => match sg.closed, o5q (frzAll s (P2q xs)).ev c.args.toList with
        | true, some xs' => match a0hq xs' with
         | true => 1
         | false => 3
        | _, _ => 3
      | none => 0
    | _, _ => 3
  | .builtin .append => 2
  | .builtin .copy => 2
  | .builtin .clear => 2
  | _ => 0
 | _ => 0
where isExtV (E : Env) : Operand → Bool
 | .func f => E.ext.contains f
 | _ => false
def agWq (o : Oper) : Nat := match o.op with
 | .call c => match c.callee with
  | .value _ => 2
  | _ => 1
 | .move _ => 0
 | .assign _ => 0
 | .fieldAddr _ _ _ => 0
 | .extract _ _ => 0
 | .makeFunc _ _ _ => 0
 | .build _ _ => 0
 | _ => 1
def storeVar (s : St) (o : Oper) : Option Nat := match o.op with
 | .store _ x _ => match s.ev x with
  | some (.one (.op k _)) => match s.gob k with
   | some (.var _) => some k
   | _ => none
  | _ => none
 | _ => none
def dFin (z : Prop) (o : Oper) (s : St) (ts : List (Nat × AV)) (I : List (Nat × Ob)) (l1 : List (Nat × Nat)) (k : EX → Prop) (s' : St) : Prop :=
 opt z (a8Gq o.dst s') fun y0 => P5q (ded s'.ob s'.ob []) fun O0 => frcL (newL l1 O0) fun nw => frcP (ahlq l1 ++ nw.map fun k => (k, k)) fun l2 => frcL (lowL l1 ++ nw) fun mv0 => frcL (mv0.map fun m => (a4q l2 m).getD m) fun mv => P5q (m8q l2 O0) fun O => frcV (y0.map (k6q l2)) fun y =>
  chk z (afnq O0 mv0 y0 && B7q l1 l2 I O0 mv0 && mvB s I O mv && (!I.isEmpty || (s.fresh O && mv.all fun m => O.any (·.1 == m)))) (k (.run (St.ev ⟨ts, I⟩) [] I y O mv))
def abWq (z : Prop) (P : Program) (E : Env) (n : Nat) (o : Oper) (s : St) (y3 : Bool) (ts : List (Nat × AV)) (I : List (Nat × Ob)) (k : EX → Prop) : Prop :=
 frcP (mkL1 (lowI o I) 2000 (C3q (C3q [] (AV.idsT (ts.map (·.2)))) (F8q I))) fun l1 => a38q (W3q (k6q l1) ts) fun tm => P5q (m8q l1 I) fun ob => match y3 with
  | true => vY z P E n (Oper.ng o) ⟨tm, ob⟩ (dFin z o s ts I l1 k)
  | false => vA z E n (Oper.ng o) ⟨tm, ob⟩ (dFin z o s ts I l1 k)
def a8Dq (l : List Nat) : List (Nat × Ob) → List Nat
 | [] => []
 | (k, .var cs) :: r => match (AV.idsL cs).any l.contains with
  | true => k :: a8Dq l r
  | false => a8Dq l r
 | _ :: r => a8Dq l r
def ag8q (s : St) (o : Oper) (l : List Nat) : List Nat := match o.op with
 | .store _ _ _ => C3q l (a8Dq l s.ob)
 | _ => l
def dX (z : Prop) (P : Program) (E : Env) (n : Nat) (o : Oper) (s : St) (k : EX → Prop) : Prop :=
 a38q (D9q s o.op.operands.toList) fun ts => frcL (C3q [] (AV.idsT (ts.map (·.2)))) fun ids =>
 chk z (o.dst.all (· < n) && tsB n o ts) <| match ah5q E s o with
  | 0 => P5q (q0q s (match agWq o with | 0 => [] | 1 => ids | _ => O4q s 8 ids)) fun us =>
   vS z P E o ⟨ts, us⟩ ⟨ts, us⟩ fun y nob => chk z (s.fresh nob) (k (.run (St.ev ⟨ts, us⟩) us [] y nob (nob.map (·.1))))
  | 1 => P5q (q0q s (O4q s 8 ids)) fun us =>
   abXq z P E o ⟨ts, us⟩ fun y nob => chk z (s.fresh nob) (k (.run (St.ev ⟨ts, us⟩) us [] y nob (nob.map (·.1))))
  | q => P5q (q0q s (match storeVar s o with | some q => [q] | none => ag8q s o (O4q s 8 ids))) fun I => abWq z P E n o s (q == 3) ts I k
def G0q : List Nat → Nat
 | [] => 0
 | x :: r => Nat.lor (Nat.pow 2 x) (G0q r)
def disj (a b : Nat) : Bool := Nat.beq (Nat.land a b) 0
structure Msk where
 tc : Nat
 ke : Nat
 ks : Nat
 al : Nat
def v3q (o : Oper) (e : EX) : Msk := ⟨G0q e.tch, G0q e.keys, G0q e.ks, G0q (e.all o)⟩
def frcM (m : Msk) (k : Msk → Prop) : Prop := O6q m.tc fun tc => O6q m.ke fun ke => O6q m.ks fun ks => O6q m.al fun al => k ⟨tc, ke, ks, al⟩
theorem afTq (m : Msk) (k : Msk → Prop) : frcM m k = k m := by simp only [frcM, W8q]
def Msk.off (a b : Msk) : Bool := disj a.tc b.ke && disj b.tc a.ke && disj a.ks b.al && disj b.ks a.al
def A6q (m : Nat) (x : Msk) : List (Nat × Msk) → Bool
 | [] => true
 | (j, y) :: r => match y.off x with
  | true => A6q m x r
  | false => m.testBit j && A6q m x r
def afCq : EX → Bool
 | .run _ [] [] _ [] _ => false
 | .run _ _ _ _ _ _ => true
 | .skip => false
def frcS (s : St) (e : EX) (k : St → Prop) : Prop := match afCq e with
 | false => k s
 | true => a38q s.tm fun tm => P5q s.ob fun ob => k ⟨tm, ob⟩
theorem agcq (s : St) (e : EX) (k : St → Prop) : frcS s e k = k s := by
 unfold frcS
 split
 ·rfl
 ·simp only [a1Bq, a00q]
def vDX (P : Program) (E : Env) (n rg : Nat) (ops : Array Oper) (ms : List Nat) : List Oper → Nat → St → List (Nat × Msk) → (St → Prop) → Prop
 | [], _, s, _, k => k s
 | o :: r, ix, s, acc, k =>
  let nx := fun (s : St) (e : EX) => frcM (v3q o e) fun mk => chk (i1q rg ix) (A6q (ms.getD ix 0) mk acc) (frcS (s.xd o.dst e) e fun s' => vDX P E n rg ops ms r (ix + 1) s' ((ix, mk) :: acc) k)
  match o.guard with
  | none => dX (i1q rg ix) P E n o s (nx s)
  | some jw => opt (i1q rg ix) ((ops[jw.1]?).bind (·.dst)) fun d => opt (i1q rg ix) (s.get d) fun g => match g with
   | .one (.d (.bool b)) =>
    let gd := fun (bb : Bool) => let s1 := s.upd (some d) (B bb) []; match bb == jw.2 with
     | true => dX (i1q rg ix) P E n o s1 (nx s1)
     | false => chk (i1q rg ix) (o.dst.all (· < n)) (nx s1 .skip)
    ifB b (gd true) (gd false)
   | .tup ys => chk (i1q rg ix) (ys.isEmpty && o.dst.all (· < n)) (nx s .skip)
   | _ => i1q rg ix
section
variable {Γ : Cx} {P : Program} {E : Env} {z : Prop} {o : Oper} {s : St} {n : Nat} {ops : Array Oper}
structure Runs (n : Nat) (P : Program) (s : St) (o : Oper) (e : EX) : Prop where
 inst : OInst n P o e
 isRun : ∃ av us I y O mv, e = .run av us I y O mv ∧ (∀ x X, av x = some X → x ∈ o.op.operands → ∃ K Z, evF s.get x = some Z ∧ Z.kill K = X) ∧ (∀ p ∈ us ++ I, ∃ K Z, s.gob p.1 = some Z ∧ Z.kill K = p.2) ∧ ∀ m ∈ mv, (∃ p ∈ I, p.1 = m) ∨ s.gob m = none
 frT : e.I = [] → ∀ i x, s.get i = some x → x.kill e.ks = x
 frO : e.I = [] → ∀ q X, s.gob q = some X → X.kill e.ks = X
theorem a93q {ob : List (Nat × Ob)} {l : List Operand} : ∀ x X, (St.ev ⟨D9q s l, ob⟩) x = some X → ∃ K Z, evF s.get x = some Z ∧ Z.kill K = X := by
 intro x X hx
 refine ⟨[], X, ?_, AV.kill_nil X⟩
 cases x with
 | tmp t => exact (H9q hx).1
 | const v => exact hx
 | func f => exact hx
 | global g => exact hx
theorem ad9q {us nob : List (Nat × Ob)} {y : AV} (h : OpL P o ⟨D9q s o.op.operands.toList, us⟩ y nob) (hd : o.dst.all (· < n) = true) (hts : tsB n o (D9q s o.op.operands.toList) = true) (hus : ∀ p ∈ us, s.gob p.1 = some p.2) (hf : s.fresh nob = true) :
  Runs n P s o (.run (St.ev ⟨D9q s o.op.operands.toList, us⟩) us [] y nob (nob.map (·.1))) := by
 have hks : ∀ q, q ∈ (EX.run (St.ev ⟨D9q s o.op.operands.toList, us⟩) us [] y nob (nob.map (·.1))).ks → ∃ p ∈ nob, p.1 = q := fun q hq => by
  rcases List.mem_append.1 hq with h | h
  ·obtain ⟨p, hp, e⟩ := List.mem_map.1 h; exact ⟨p, hp, e⟩
  ·simp [EX.drop, i7q, EX.I] at h
 refine ⟨⟨hd, fun av us' I y' O mv e => ?_⟩, ⟨_, _, _, _, _, _, rfl, fun x X hx _ => a93q x X hx, fun p hp => ?_, fun m hm => .inr ?_⟩, fun _ i x hx => ?_, fun _ q X hq => ?_⟩
 ·cases e
  exact ⟨ag7q h hts, fun m hm => by obtain ⟨p, hp, rfl⟩ := List.mem_map.1 hm; exact G9q hf p hp, fun p hp => .inr (List.mem_map.2 ⟨p, hp, rfl⟩)⟩
 ·rw [List.append_nil] at hp
  exact ⟨[], _, hus p hp, Ob.kill_nil _⟩
 ·obtain ⟨p, hp, rfl⟩ := List.mem_map.1 hm
  cases hX : s.gob p.1 with
  | none => rfl
  | some X => exact absurd rfl ((t8q hf hX).1 p hp)
 ·exact AV.kill_id fun q hq hk => by
   obtain ⟨p, hp, e⟩ := hks q hk
   exact N6q hf hx q hq p hp e
 ·exact Ob.kill_id fun r hr hk => by
   obtain ⟨p, hp, e⟩ := hks r hk
   exact (t8q hf hq).2 r hr p hp e
theorem aaTq {k : AV → List (Nat × Ob) → Prop} (hE : EnvOk P E) (hz : ¬ z) (h : abXq z P E o s k) : ∃ y nob, OpL P o s y nob ∧ k y nob := by
 unfold abXq at h
 split at h
 ·rename_i c ho
  obtain ⟨callee, args, ats⟩ := c
  simp only at h
  split at h
  ·rename_i v
   obtain ⟨xs, hxs, h⟩ := a0q hz h
   obtain ⟨xs', hxs', h⟩ := a0q hz h
   obtain ⟨V', hV', h⟩ := a0q hz h
   have ho' : o.op = .call { callee := .value v, args := args.toList.toArray, argTypes := ats } := by simpa using ho
   obtain ⟨y, nob, h1, h⟩ := B0q (s0 := frzAll s _) hE hz ho' hV' hxs' h
   obtain ⟨hc, h⟩ := a7q hz h
   simp only [Bool.and_eq_true] at hc
   split at h
   ·exact ⟨_, _, a7nq h1 hc.1 hc.2, h⟩
   ·exact ⟨_, _, a9Vq h1 hc.1 hc.2, h⟩
  ·exact absurd h hz
 ·exact absurd h hz
theorem adgq {s' : St} (h : ∀ Γ : Cx, Γ.n = n → XOp Γ P o s s') : Step n P o s s' := fun Γ hn ops rest K hg hr => st_x (h Γ hn) hg hr
theorem aaYq {k : EX → Prop} {y3 : Bool} {ids : List Nat} (hE : EnvOk P E) (hz : ¬ z) (hd : o.dst.all (· < n) = true) (hts : tsB n o (D9q s o.op.operands.toList) = true) (h : abWq z P E n o s y3 (D9q s o.op.operands.toList) (q0q s ids) k) : ∃ e, Runs n P s o e ∧ k e := by
 unfold abWq at h
 simp only [a39q, a1Bq, a00q] at h
 generalize mkL1 (lowI o (q0q s ids)) 2000 (C3q (C3q [] (AV.idsT ((D9q s o.op.operands.toList).map (·.2)))) (F8q (q0q s ids))) = l1 at h
 have fin : ∀ (s' : St), Step n P (Oper.ng o) ⟨W3q (k6q l1) (D9q s o.op.operands.toList), m8q l1 (q0q s ids)⟩ s' → dFin z o s (D9q s o.op.operands.toList) (q0q s ids) l1 k s' → ∃ e, Runs n P s o e ∧ k e := by
  intro s' hstep h
  unfold dFin at h
  obtain ⟨y0, hy, h⟩ := a0q hz h
  simp only [a00q, a3sq, a39q, a6Vq] at h
  obtain ⟨hc, h⟩ := a7q hz h
  rw [Bool.and_eq_true] at hc
  obtain ⟨hc, c5⟩ := hc
  simp only [Bool.and_eq_true, mvB, List.all_eq_true, Bool.or_eq_true, decide_eq_true_eq, List.any_eq_true, beq_iff_eq, List.contains_iff_mem, Option.isNone_iff_eq_none] at hc
  obtain ⟨⟨c1, c2⟩, c3, c4⟩ := hc
  have hfr : ∀ mv O, q0q s ids = [] → (!(q0q s ids).isEmpty || (s.fresh O && mv.all fun m => O.any (·.1 == m))) = true → ∀ q ∈ mv ++ i7q (q0q s ids) O, s.fresh O = true ∧ ∃ p ∈ O, p.1 = q := by
   intro mv O hI hh q hq
   rw [hI] at hh hq
   simp only [List.isEmpty_nil, Bool.not_true, Bool.false_or, Bool.and_eq_true, List.all_eq_true, List.any_eq_true, beq_iff_eq] at hh
   simp only [i7q, List.map_nil, List.filter_nil, List.append_nil] at hq
   exact ⟨hh.1, hh.2 q hq⟩
  refine ⟨_, ⟨⟨hd, fun av us' I y' O mv e => ?_⟩, ⟨_, _, _, _, _, _, rfl, fun x X hx _ => a93q x X hx, fun p hp => ?_, fun m hm => (c3 m hm).2⟩, fun hI i x hx => AV.kill_id fun q hq hk => ?_, fun hI q0 X hX => Ob.kill_id fun q hq hk => ?_⟩, h⟩
  ·cases e
   exact ⟨aehq hstep hts hd hy a5Fq c1 c2, fun m hm => (c3 m hm).1, c4⟩
  ·rw [List.nil_append] at hp
   exact ⟨[], _, C7q hp, Ob.kill_nil _⟩
  ·obtain ⟨h1, p, hp, e⟩ := hfr _ _ hI c5 q hk
   exact N6q h1 hx q hq p hp e
  ·obtain ⟨h1, p, hp, e⟩ := hfr _ _ hI c5 q hk
   exact (t8q h1 hX).2 q hq p hp e
 cases y3 with
 | true =>
  obtain ⟨s', h1, h⟩ := abyq hE hz h
  exact fin s' (adgq h1) h
 | false =>
  obtain ⟨s', h1, h⟩ := abtq hE hz h
  exact fin s' h1 h
theorem aa1q {k : EX → Prop} (hE : EnvOk P E) (hz : ¬ z) (h : dX z P E n o s k) : ∃ e, Runs n P s o e ∧ k e := by
 unfold dX at h
 simp only [a1Bq, a3sq, a00q] at h
 obtain ⟨hc, h⟩ := a7q hz h
 simp only [Bool.and_eq_true] at hc
 obtain ⟨hd, hts⟩ := hc
 split at h
 ·obtain ⟨y, nob, h1, h⟩ := a4aq hE hz h
  obtain ⟨hf, h⟩ := a7q hz h
  exact ⟨_, ad9q (adeq h1) hd hts (fun p hp => C7q hp) hf, h⟩
 ·obtain ⟨y, nob, h1, h⟩ := aaTq hE hz h
  obtain ⟨hf, h⟩ := a7q hz h
  exact ⟨_, ad9q h1 hd hts (fun p hp => C7q hp) hf, h⟩
 ·exact aaYq hE hz hd hts h
theorem R8q {q : Nat} : ∀ {a : List Nat}, q ∈ a → (G0q a).testBit q = true
 | x :: r, h => by
  have e : G0q (x :: r) = 2 ^ x ||| G0q r := rfl
  rw [e, Nat.testBit_or]
  rcases List.mem_cons.1 h with rfl | h
  ·rw [Nat.testBit_two_pow_self]; rfl
  ·rw [R8q h]; simp
theorem a3bq {a b : List Nat} (h : disj (G0q a) (G0q b) = true) : ∀ q ∈ a, q ∉ b := by
 intro q ha hb
 have h0 : G0q a &&& G0q b = 0 := Nat.eq_of_beq_eq_true h
 have := congrArg (fun m => m.testBit q) h0
 simp only [Nat.testBit_and, R8q ha, R8q hb, Nat.zero_testBit] at this
 cases this
theorem agsq {o1 o2 : Oper} {e1 e2 : EX} (h : (v3q o1 e1).off (v3q o2 e2) = true) : a9Bq o1 e1 o2 e2 := by
 simp only [Msk.off, v3q, Bool.and_eq_true] at h
 exact ⟨a3bq h.1.1.1, a3bq h.1.1.2, a3bq h.1.2, a3bq h.2⟩
def J3q (acc : List (Nat × Oper × EX)) : List (Nat × Msk) := acc.map fun a => (a.1, v3q a.2.1 a.2.2)
theorem a7fq {ix : Nat} {e : EX} (hix : ix < ops.size) : ∀ {acc : List (Nat × Oper × EX)}, A6q ((p3q ops.toList []).getD ix 0) (v3q o e) (J3q acc) = true → ∀ a ∈ acc, a3gq ops a (ix, o, e)
 | [], _, a, ha => by cases ha
 | (j, o', e') :: r, h, a, ha => by
  have h : A6q ((p3q ops.toList []).getD ix 0) (v3q o e) ((j, v3q o' e') :: J3q r) = true := h
  have h2 : (((p3q ops.toList []).getD ix 0).testBit j = true ∨ (v3q o' e').off (v3q o e) = true) ∧ A6q ((p3q ops.toList []).getD ix 0) (v3q o e) (J3q r) = true := by
   simp only [A6q] at h
   cases h1 : (v3q o' e').off (v3q o e) with
   | true =>
    rw [h1] at h
    exact ⟨.inr rfl, h⟩
   | false =>
    rw [h1] at h
    simp only [Bool.and_eq_true] at h
    exact ⟨.inl h.1, h.2⟩
  rcases List.mem_cons.1 ha with rfl | ha
  ·exact h2.1.imp (fun hb => a1pq (ops := ops) ops.toList [] [] (by simp) rfl (by simp) ix j hb _ hix) agsq
  ·exact a7fq hix h2.2 a ha
structure XRun (n : Nat) (P : Program) (ops : Array Oper) (l : List Oper) (ix : Nat) (s : St) (acc : List (Nat × Oper × EX)) (L : List (Nat × Oper × EX)) (s' : St) : Prop where
 chain : Chain ops L s.get s.gob s'.get s'.gob
 ixs : L.map (fun x => x.1) = List.range' ix l.length
 opsL : ∀ x ∈ L, l[x.1 - ix]? = some x.2.1
 inst : ∀ x ∈ L, OInst n P x.2.1 x.2.2
 pair : L.Pairwise (a3gq ops)
 apart : ∀ a ∈ acc, ∀ x ∈ L, a3gq ops a x
theorem XRun.cons {o : Oper} {r : List Oper} {ix : Nat} {acc L : List (Nat × Oper × EX)} {s' : St} {e : EX} (hi : OInst n P o e) (ha : App ops o e s.get s.gob) (hT : e.I = [] → ∀ i x, s.get i = some x → x.kill e.ks = x) (hO : e.I = [] → ∀ q X, s.gob q = some X → X.kill e.ks = X)
  (hp : ∀ a ∈ acc, a3gq ops a (ix, o, e)) (h : XRun n P ops r (ix + 1) (s.xd o.dst e) ((ix, o, e) :: acc) L s') : XRun n P ops (o :: r) ix s acc ((ix, o, e) :: L) s' := by
 obtain ⟨h1, h2, h3, h4, h5, h6⟩ := h
 rw [agMq hT, agYq hO] at h1
 have hge : ∀ x ∈ L, ix + 1 ≤ x.1 := fun x hx => by
  have : x.1 ∈ List.range' (ix + 1) r.length := h2 ▸ List.mem_map.2 ⟨x, hx, rfl⟩
  exact (List.mem_range'_1.1 this).1
 refine ⟨.cons ha h1, by simp [h2, List.range'_succ], fun x hx => ?_, fun x hx => ?_, List.pairwise_cons.2 ⟨fun x hx => h6 _ (by simp) x hx, h5⟩, fun a hac x hx => ?_⟩
 ·rcases List.mem_cons.1 hx with rfl | hx
  ·simp
  ·have hg := hge x hx
   have := h3 x hx
   rw [show x.1 - ix = (x.1 - (ix + 1)) + 1 by omega]
   simpa using this
 ·rcases List.mem_cons.1 hx with rfl | hx
  ·exact hi
  ·exact h4 x hx
 ·rcases List.mem_cons.1 hx with rfl | hx
  ·exact hp a hac
  ·exact h6 a (by simp [hac]) x hx
theorem XRun.same {l : List Oper} {ix d : Nat} {x : AV} {acc L : List (Nat × Oper × EX)} {s' : St} (hx : s.get d = some x) (h : XRun n P ops l ix (s.upd (some d) x []) acc L s') : XRun n P ops l ix s acc L s' := by
 have e1 : (s.upd (some d) x []).get = s.get := funext fun i => by
  rw [y5q]
  split
  ·rename_i e; simp at e; subst e; exact hx.symm
  ·rfl
 have e2 : (s.upd (some d) x []).gob = s.gob := funext fun i => by rw [I0q]; simp [a4q]
 obtain ⟨h1, h2, h3, h4, h5, h6⟩ := h
 rw [e1, e2] at h1
 exact ⟨h1, h2, h3, h4, h5, h6⟩
theorem a7sq {k : St → Prop} {rg : Nat} (hE : EnvOk P E) : ∀ {l : List Oper} {ix : Nat} {s : St} {acc : List (Nat × Oper × EX)}, ix + l.length ≤ ops.size → vDX P E n rg ops (p3q ops.toList []) l ix s (J3q acc) k → ∃ L s', XRun n P ops l ix s acc L s' ∧ k s'
 | [], ix, s, acc, _, h => ⟨[], s, ⟨.nil, rfl, by simp, by simp, .nil, by simp⟩, h⟩
 | o :: r, ix, s, acc, hl, h => by
  simp only [List.length_cons] at hl
  have nx : ∀ (s : St) (e : EX), OInst n P o e → App ops o e s.get s.gob → (e.I = [] → ∀ i x, s.get i = some x → x.kill e.ks = x) → (e.I = [] → ∀ q X, s.gob q = some X → X.kill e.ks = X) →
    (frcM (v3q o e) fun mk => chk (i1q rg ix) (A6q ((p3q ops.toList []).getD ix 0) mk (J3q acc)) (frcS ((s).xd o.dst e) e fun s' => vDX P E n rg ops (p3q ops.toList []) r (ix + 1) s' ((ix, mk) :: J3q acc) k)) → ∃ L s', XRun n P ops (o :: r) ix s acc L s' ∧ k s' := by
   intro s e hi ha hT hO h
   simp only [afTq, agcq] at h
   obtain ⟨h1, h⟩ := a7q f1q h
   obtain ⟨L, s', hx, h⟩ := a7sq (acc := (ix, o, e) :: acc) hE (by omega) h
   exact ⟨_, s', XRun.cons hi ha hT hO (a7fq (by omega) h1) hx, h⟩
  have run : ∀ (s : St) (e : EX), Runs n P s o e → (o.guard = none ∨ ∃ j want d, o.guard = some (j, want) ∧ (ops[j]?).bind (·.dst) = some d ∧ s.get d = some (B want)) →
    (frcM (v3q o e) fun mk => chk (i1q rg ix) (A6q ((p3q ops.toList []).getD ix 0) mk (J3q acc)) (frcS ((s).xd o.dst e) e fun s' => vDX P E n rg ops (p3q ops.toList []) r (ix + 1) s' ((ix, mk) :: J3q acc) k)) → ∃ L s', XRun n P ops (o :: r) ix s acc L s' ∧ k s' := by
   intro s e hr hg h
   refine nx s e hr.inst ⟨fun av us I y O mv he => ?_, fun he => ?_⟩ hr.frT hr.frO h
   ·obtain ⟨av', us', I', y', O', mv', he', h1, h2, h3⟩ := hr.isRun
    rw [he] at he'
    cases he'
    exact ⟨hg, h1, h2, h3⟩
   ·obtain ⟨av', us', I', y', O', mv', he', _⟩ := hr.isRun
    rw [he] at he'; cases he'
  have skip : ∀ (s : St), o.dst.all (· < n) = true → (∃ j want d, o.guard = some (j, want) ∧ (ops[j]?).bind (·.dst) = some d ∧ (s.get d = some (B (!want)) ∨ s.get d = some (.tup []))) →
    (frcM (v3q o EX.skip) fun mk => chk (i1q rg ix) (A6q ((p3q ops.toList []).getD ix 0) mk (J3q acc)) (frcS ((s).xd o.dst EX.skip) EX.skip fun s' => vDX P E n rg ops (p3q ops.toList []) r (ix + 1) s' ((ix, mk) :: J3q acc) k)) → ∃ L s', XRun n P ops (o :: r) ix s acc L s' ∧ k s' := by
   intro s hd hg h
   exact nx s .skip ⟨hd, fun _ _ _ _ _ _ e => nomatch e⟩ ⟨fun _ _ _ _ _ _ e => (nomatch e), fun _ => hg⟩ (fun _ i x _ => AV.kill_nil x) (fun _ q X _ => Ob.kill_nil X) h
  simp only [vDX] at h
  split at h
  ·rename_i hg
   obtain ⟨e, hr, h⟩ := aa1q hE f1q h
   exact run s e hr (.inl hg) h
  ·rename_i jw hg
   obtain ⟨j, want⟩ := jw
   obtain ⟨d, hd, h⟩ := a0q f1q h
   obtain ⟨g, hgd, h⟩ := a0q f1q h
   split at h
   ·rename_i b
    have gd : ∀ bb : Bool, s.get d = some (B bb) → (match bb == want with
     | true => dX (i1q rg ix) P E n o (s.upd (some d) (B bb) []) fun e => (frcM (v3q o e) fun mk => chk (i1q rg ix) (A6q ((p3q ops.toList []).getD ix 0) mk (J3q acc)) (frcS (((s.upd (some d) (B bb) [])).xd o.dst e) e fun s' => vDX P E n rg ops (p3q ops.toList []) r (ix + 1) s' ((ix, mk) :: J3q acc) k))
     | false => chk (i1q rg ix) (o.dst.all (· < n)) ((frcM (v3q o EX.skip) fun mk => chk (i1q rg ix) (A6q ((p3q ops.toList []).getD ix 0) mk (J3q acc)) (frcS (((s.upd (some d) (B bb) [])).xd o.dst EX.skip) EX.skip fun s' => vDX P E n rg ops (p3q ops.toList []) r (ix + 1) s' ((ix, mk) :: J3q acc) k)))) → ∃ L s', XRun n P ops (o :: r) ix s acc L s' ∧ k s' := by
     intro bb hbb hh
     have hget : (s.upd (some d) (B bb) []).get d = some (B bb) := by rw [y5q]; simp
     have key : ∃ L s', XRun n P ops (o :: r) ix (s.upd (some d) (B bb) []) acc L s' ∧ k s' := by
      by_cases e : bb = want
      ·subst e
       simp only [beq_self_eq_true] at hh
       obtain ⟨e, hr, hh⟩ := aa1q hE f1q hh
       exact run _ e hr (.inr ⟨j, bb, d, hg, hd, hget⟩) hh
      ·have e2 : bb = !want := by cases bb <;> cases want <;> simp_all
       subst e2
       have e3 : ((!want) == want) = false := by cases want <;> rfl
       rw [e3] at hh
       obtain ⟨h1, hh⟩ := a7q f1q hh
       exact skip _ h1 ⟨j, want, d, hg, hd, .inl hget⟩ hh
     obtain ⟨L, s', hx, hk⟩ := key
     exact ⟨L, s', XRun.same hbb hx, hk⟩
    cases b with
    | true => exact gd true hgd h
    | false => exact gd false hgd h
   ·rename_i ys
    obtain ⟨h1, h⟩ := a7q f1q h
    simp only [Bool.and_eq_true, List.isEmpty_iff] at h1
    obtain ⟨h2, h3⟩ := h1
    rw [h2] at hgd
    exact skip s h3 ⟨j, want, d, hg, hd, .inr hgd⟩ h
   ·exact absurd h f1q
theorem afGq {k : St → Prop} {N : St → Prop} {Ex : Exit → St → Prop} {rg id : Nat} {l : List Oper} (hE : EnvOk P E) (hm : P.follows .mixedOrders = true) (hok : J4q l.toArray = true) (hN : ∀ s, k s → N s) (h : vDX P E Γ.n rg l.toArray (p3q l []) l 0 s [] k) : W Γ P (.region id l.toArray true) N Ex s := by
 obtain ⟨L, s', hx, hk⟩ := a7sq (ops := l.toArray) (l := l) (ix := 0) (acc := []) hE (by simp) h
 have hixs : L.map (fun x => x.1) = List.range l.length := by rw [hx.ixs, List.range_eq_range']
 exact adXq hm hok hixs (fun x hxL => by simpa using hx.opsL x hxL) hx.inst hx.pair hx.chain (hN _ hk)
end
def vSu (z : Prop) (P : Program) (E : Env) (n : Nat) (o : Oper) (s : St) (k : St → Prop) : Prop :=
 vS z P E o s s fun y nob => chk z (o.dst.all (· < n) && s.fresh nob) (k (s.upd o.dst y nob))
def afjq (E : Env) : Operand → Bool
 | .func f => E.ext.contains f
 | _ => false
def aheq (s : St) (o : Oper) : Bool := match o.op with
 | .buildSlice _ _ ps => match r2q s.ev ps.toList with
  | some ps' => (ps'.map (·.2)).flatten.any fun x => match x with
   | .d (.sl _) => true
   | _ => false
  | none => false
 | _ => false
def vOp (z : Prop) (P : Program) (E : Env) (n : Nat) (o : Oper) (s : St) (k : St → Prop) : Prop := match o.op with
 | .store _ x _ => match isMt s x with
  | true => a6Eq z E o s k
  | false => vA z E n o s k
 | .binOp .eql _ x y _ => match a9Qq s x y with
  | true => vNil z E n o s k
  | false => vSu z P E n o s k
 | .load _ x => match isMt s x with
  | true => a9Nq z E n o s k
  | false => vSu z P E n o s k
 | .buildSlice _ _ _ => match (a4Kq s o).isEmpty || aheq s o with
  | true => vSu z P E n o (frzAll s (a4Kq s o)) k
  | false => vA z E n o s k
 | .call c => match c.callee with
  | .value v => match afjq E v with
   | true => vSu z P E n o s k
   | false => match ahfq E v with
    | true => vOvl z E n o s k
    | false => match agQq s c with
     | true => a9zq z P E n o s k
     | false => vY z P E n o s k
  | .builtin .append => vA z E n o s k
  | .builtin .copy => vA z E n o s k
  | .builtin .clear => vA z E n o s k
  | _ => vSu z P E n o s k
 | _ => vSu z P E n o s k
def vOpG (z : Prop) (P : Program) (E : Env) (n : Nat) (o : Oper) (s : St) (k : St → Prop) : Prop := match o.op with
 | .call c => match c.callee with
  | .value v => match afjq E v with
   | true => vSu z P E n o s k
   | false => vY z P E n o s k
  | _ => vSu z P E n o s k
 | _ => vSu z P E n o s k
def vOps (P : Program) (E : Env) (n rg : Nat) (ops : Array Oper) : List Oper → Nat → St → (St → Prop) → Prop
 | [], _, s, k => k s
 | o :: r, ix, s, k => match o.guard with
  | none => vOp (i1q rg ix) P E n o s fun s' => vOps P E n rg ops r (ix + 1) s' k
  | some jw => opt (i1q rg ix) ((ops[jw.1]?).bind (·.dst)) fun d => opt (i1q rg ix) (s.get d) fun g => match g with
   | .one (.d (.bool b)) =>
    let gd := fun (bb : Bool) => let s1 := s.upd (some d) (B bb) []; match bb == jw.2 with
     | true => vOpG (i1q rg ix) P E n o s1 fun s' => vOps P E n rg ops r (ix + 1) s' k
     | false => chk (i1q rg ix) (o.dst.all (· < n)) (vOps P E n rg ops r (ix + 1) (s1.upd o.dst (.tup []) []) k)
    ifB b (gd true) (gd false)
   | .tup ys => chk (i1q rg ix) (ys.isEmpty && o.dst.all (· < n)) (vOps P E n rg ops r (ix + 1) (s.upd o.dst (.tup []) []) k)
   | _ => i1q rg ix
def W2q (P : Program) (E : Env) (n rg : Nat) (s0 : St) (ops : Array Oper) : List Oper → Nat → St → (St → Prop) → Prop
 | [], _, s, k => k s
 | o :: r, ix, s, k =>
  let go := fun (s : St) => vS (i1q rg ix) P E o s s0 fun y nob => chk (i1q rg ix) (o.dst.all (· < n) && s.fresh nob && s0.fresh nob && B8q s0 y nob) (W2q P E n rg s0 ops r (ix + 1) (s.upd o.dst y nob) k)
  match o.guard with
  | none => go s
  | some jw => opt (i1q rg ix) ((ops[jw.1]?).bind (·.dst)) fun d => opt (i1q rg ix) (s.get d) fun g => match g with
   | .one (.d (.bool b)) =>
    let gd := fun (bb : Bool) => let s1 := s.upd (some d) (B bb) []; match bb == jw.2 with
     | true => go s1
     | false => chk (i1q rg ix) (o.dst.all (· < n)) (W2q P E n rg s0 ops r (ix + 1) (s1.upd o.dst (.tup []) []) k)
    ifB b (gd true) (gd false)
   | .tup ys => chk (i1q rg ix) (ys.isEmpty && o.dst.all (· < n)) (W2q P E n rg s0 ops r (ix + 1) (s.upd o.dst (.tup []) []) k)
   | _ => i1q rg ix
section
variable {Γ : Cx} {P : Program} {E : Env} {z : Prop} {o : Oper} {s s0 : St} {k K : St → Prop} {ops : Array Oper} {rest : List Oper} {rg : Nat}
theorem a31q (hE : EnvOk P E) (hz : ¬ z) (h : vSu z P E Γ.n o s k) : ∃ y nob, OpS P o s s y nob ∧ o.dst.all (· < Γ.n) = true ∧ s.fresh nob = true ∧ k (s.upd o.dst y nob) := by
 obtain ⟨y, nob, h1, h⟩ := a4aq hE hz h
 obtain ⟨h2, h⟩ := a7q hz h
 simp only [Bool.and_eq_true] at h2
 exact ⟨y, nob, h1, h2.1, h2.2, h⟩
theorem adYq (hE : EnvOk P E) (hz : ¬ z) (hg : o.guard = none) (hk : ∀ s', k s' → d5q Γ P ops rest K s') (h : vOp z P E Γ.n o s k) : d5q Γ P ops (o :: rest) K s := by
 have su : vSu z P E Γ.n o s k → d5q Γ P ops (o :: rest) K s := fun h => by
  obtain ⟨y, nob, h1, h2, h3, h⟩ := a31q hE hz h
  exact afkq h1 hg h2 h3 (hk _ h)
 unfold vOp at h
 split at h
 ·split at h
  ·exact a7zq hE hz hg hk h
  ·exact Z8q hE hz hg hk h
 ·rename_i ho
  split at h
  ·rename_i hq
   exact abPq hE hz hg hk ho hq h
  ·exact su h
 ·split at h
  ·exact aaiq hE hz hg hk h
  ·exact su h
 ·split at h
  ·obtain ⟨y, nob, h1, h2, h3, h⟩ := a31q hE hz h
   exact a3kq To.frzAll (afkq h1 hg h2 h3 (hk _ h))
  ·exact Z8q hE hz hg hk h
 ·split at h
  ·split at h
   ·exact su h
   ·split at h
    ·obtain ⟨s', h1, h⟩ := acCq hE hz h
     exact st_x h1 hg (hk _ h)
    ·split at h
     ·exact a9Xq hE hz hg hk h
     ·obtain ⟨s', h1, h⟩ := a9Lq hE hz h
      exact st_x h1 hg (hk _ h)
  ·exact Z8q hE hz hg hk h
  ·exact Z8q hE hz hg hk h
  ·exact Z8q hE hz hg hk h
  ·exact su h
 ·exact su h
theorem acEq (hE : EnvOk P E) (hz : ¬ z) {j d : Nat} {want : Bool} (hg : o.guard = some (j, want)) (hj : (ops[j]?).bind (·.dst) = some d) (hb : s.get d = some (B want)) (hk : ∀ s', k s' → d5q Γ P ops rest K s') (h : vOpG z P E Γ.n o s k) : d5q Γ P ops (o :: rest) K s := by
 have su : vSu z P E Γ.n o s k → d5q Γ P ops (o :: rest) K s := fun h => by
  obtain ⟨y, nob, h1, h2, h3, h⟩ := a31q hE hz h
  exact agFq h1 hg hj hb h2 h3 (hk _ h)
 unfold vOpG at h
 split at h
 ·split at h
  ·split at h
   ·exact su h
   ·obtain ⟨s', h1, h⟩ := a9Lq hE hz h
    exact ah9q h1 hg hj hb rfl (hk _ h)
  ·exact su h
 ·exact su h
theorem K0q (hE : EnvOk P E) (hk : ∀ s, k s → K s) : ∀ {l : List Oper} {ix : Nat} {s : St}, vOps P E Γ.n rg ops l ix s k → d5q Γ P ops l K s
 | [], _, _, h => a9qq (hk _ h)
 | o :: r, ix, s, h => by
  simp only [vOps] at h
  split at h
  ·rename_i hg
   exact adYq hE f1q hg (fun s' h => K0q hE hk h) h
  ·rename_i jw hg
   obtain ⟨j, want⟩ := jw
   obtain ⟨d, hd, h⟩ := a0q f1q h
   obtain ⟨g, hgd, h⟩ := a0q f1q h
   split at h
   ·rename_i b
    have gd : ∀ bb : Bool, (match bb == want with
     | true => vOpG (i1q rg ix) P E Γ.n o (s.upd (some d) (B bb) []) fun s' => vOps P E Γ.n rg ops r (ix + 1) s' k
     | false => chk (i1q rg ix) (o.dst.all (· < Γ.n)) (vOps P E Γ.n rg ops r (ix + 1) ((s.upd (some d) (B bb) []).upd o.dst (.tup []) []) k)) → d5q Γ P ops (o :: r) K (s.upd (some d) (B bb) []) := by
     intro bb hh
     have hget : (s.upd (some d) (B bb) []).get d = some (B bb) := by rw [y5q]; simp
     by_cases e : bb = want
     ·subst e
      simp only [beq_self_eq_true] at hh
      exact acEq hE f1q hg hd hget (fun s' h => K0q hE hk h) hh
     ·have e2 : bb = !want := by cases bb <;> cases want <;> simp_all
      subst e2
      have e3 : ((!want) == want) = false := by cases want <;> rfl
      rw [e3] at hh
      obtain ⟨h1, hh⟩ := a7q f1q hh
      exact aexq hg hd hget h1 (K0q hE hk hh)
    refine adsq hg hd hgd (fun e => ?_) fun e => ?_
    ·subst e; exact gd true h
    ·subst e; exact gd false h
   ·rename_i ys
    obtain ⟨h1, h⟩ := a7q f1q h
    simp only [Bool.and_eq_true, List.isEmpty_iff] at h1
    obtain ⟨h2, h3⟩ := h1
    rw [h2] at hgd
    exact aeWq hg hd hgd h3 (K0q hE hk h)
   ·exact absurd h f1q
theorem P3q (hE : EnvOk P E) (hk : ∀ s, k s → K s) : ∀ {l : List Oper} {ix : Nat} {s : St}, W2q P E Γ.n rg s0 ops l ix s k → PR Γ P ops s0 l s K
 | [], _, _, h => agAq (hk _ h)
 | o :: r, ix, s, h => by
  have go : ∀ (s : St) (h : vS (i1q rg ix) P E o s s0 fun y nob => chk (i1q rg ix) (o.dst.all (· < Γ.n) && s.fresh nob && s0.fresh nob && B8q s0 y nob) (W2q P E Γ.n rg s0 ops r (ix + 1) (s.upd o.dst y nob) k)),
   ∃ y nob, OpS P o s s0 y nob ∧ o.dst.all (· < Γ.n) = true ∧ s.fresh nob = true ∧ s0.fresh nob = true ∧ B8q s0 y nob = true ∧ PR Γ P ops s0 r (s.upd o.dst y nob) K := by
   intro s h
   obtain ⟨y, nob, h1, h⟩ := a4aq hE f1q h
   obtain ⟨h2, h⟩ := a7q f1q h
   simp only [Bool.and_eq_true] at h2
   exact ⟨y, nob, h1, h2.1.1.1, h2.1.1.2, h2.1.2, h2.2, P3q hE hk h⟩
  simp only [W2q] at h
  split at h
  ·rename_i hg
   obtain ⟨y, nob, h1, h2, h3, h4, h5, h⟩ := go s h
   exact ahjq h1 hg h2 h3 h4 h5 h
  ·rename_i jw hg
   obtain ⟨j, want⟩ := jw
   obtain ⟨d, hd, h⟩ := a0q f1q h
   obtain ⟨g, hgd, h⟩ := a0q f1q h
   split at h
   ·rename_i b
    have gd : ∀ bb : Bool, (match bb == want with
     | true => vS (i1q rg ix) P E o (s.upd (some d) (B bb) []) s0 fun y nob => chk (i1q rg ix) (o.dst.all (· < Γ.n) && (s.upd (some d) (B bb) []).fresh nob && s0.fresh nob && B8q s0 y nob) (W2q P E Γ.n rg s0 ops r (ix + 1) ((s.upd (some d) (B bb) []).upd o.dst y nob) k)
     | false => chk (i1q rg ix) (o.dst.all (· < Γ.n)) (W2q P E Γ.n rg s0 ops r (ix + 1) ((s.upd (some d) (B bb) []).upd o.dst (.tup []) []) k)) → PR Γ P ops s0 (o :: r) (s.upd (some d) (B bb) []) K := by
     intro bb hh
     have hget : (s.upd (some d) (B bb) []).get d = some (B bb) := by rw [y5q]; simp
     by_cases e : bb = want
     ·subst e
      simp only [beq_self_eq_true] at hh
      obtain ⟨y, nob, h1, h2, h3, h4, h5, hh⟩ := go _ hh
      exact agBq h1 hg hd hget rfl h2 h3 h4 h5 hh
     ·have e2 : bb = !want := by cases bb <;> cases want <;> simp_all
      subst e2
      have e3 : ((!want) == want) = false := by cases want <;> rfl
      rw [e3] at hh
      obtain ⟨h1, hh⟩ := a7q f1q hh
      exact abqq hg hd (.inl hget) h1 (P3q hE hk hh)
    refine agvq hgd (fun e => ?_) fun e => ?_
    ·subst e; exact gd true h
    ·subst e; exact gd false h
   ·rename_i ys
    obtain ⟨h1, h⟩ := a7q f1q h
    simp only [Bool.and_eq_true, List.isEmpty_iff] at h1
    obtain ⟨h2, h3⟩ := h1
    rw [h2] at hgd
    exact abqq hg hd (.inr hgd) h3 (P3q hE hk h)
   ·exact absurd h f1q
end
structure Hint where
 ts : List Nat
 fz : List Nat
 nl : List (Nat × Nat × Nat)
 nc : List (Nat × Nat × Nat × Nat)
 na : List (Nat × Nat × Nat × Nat) := []
 dg : List Nat := []
 sl : List Nat := []
structure a8q where
 loops : List (Nat × Hint)
 joins : List (Nat × Hint)
def a9iq (s : St) : List Nat → List Nat
 | [] => []
 | t :: r => match s.get t with
  | some x => x.ids ++ a9iq s r
  | none => a9iq s r
def N9q (s : St) : List Nat → List Nat
 | [] => []
 | t :: r => match s.get t with
  | some (.one (.op k _)) => (match s.gob k with
   | some (.var cs) => P2q [.agg cs]
   | _ => []) ++ N9q s r
  | some x => P2q [x] ++ N9q s r
  | none => N9q s r
def nilAll (s : St) : List (Nat × Nat × Nat) → St
 | [] => s
 | (t, e, es) :: r => match s.get t with
  | some (.one .e0) => match s.fresh [(1400 + t, .lst e es [])] with
   | true => nilAll (s.nilOb t (1400 + t) e es) r
   | false => nilAll s r
  | _ => nilAll s r
theorem To.nilAll : ∀ {l : List (Nat × Nat × Nat)} {s : St}, To s (nilAll s l)
 | [], s => To.refl s
 | (t, e, es) :: r, s => by
  simp only [AM.nilAll]
  split
  ·rename_i ht
   split
   ·rename_i hf
    exact (To.nilOb ht hf).trans To.nilAll
   ·exact To.nilAll
  ·exact To.nilAll
def a9Fq : List (Nat × Ob) → List Nat
 | [] => []
 | (_, .var cs) :: r => P2q [.agg cs] ++ a9Fq r
 | _ :: r => a9Fq r
def aguq (s : St) (k : Nat) : Bool := match s.gob k with
 | some (.lst _ _ _) => true
 | some (.tr _ _ _) => true
 | _ => false
def a9Kq (keep : Nat → Bool) : Nat → List Nat → List (Nat × Nat)
 | _, [] => []
 | n, k :: r => match decide (2000 ≤ k) && keep k with
  | true => (k, k) :: a9Kq keep n r
  | false => (k, n) :: a9Kq keep (n + 1) r
def canonR (s : St) (ts : List Nat) (l : List (Nat × Nat)) : St := match a1mq l with
 | true => s.ren l ts
 | false => s
def nilCells (s : St) : List (Nat × Nat × Nat × Nat) → St
 | [] => s
 | (t, q, e, es) :: r => match s.get t with
  | some (.one (.op k _)) => match s.gob k with
   | some (.var cs) => match cs[q]? with
    | some .e0 => match s.fresh [(1600 + t + 29 * q, .lst e es [])] with
     | true => nilCells (s.nilCell k q (1600 + t + 29 * q) e es cs) r
     | false => nilCells s r
    | _ => nilCells s r
   | _ => nilCells s r
  | _ => nilCells s r
theorem To.nilCells : ∀ {l : List (Nat × Nat × Nat × Nat)} {s : St}, To s (nilCells s l)
 | [], s => To.refl s
 | (t, q, e, es) :: r, s => by
  simp only [AM.nilCells]
  split
  ·split
   ·rename_i cs hk
    split
    ·rename_i hc
     split
     ·rename_i hf
      exact (To.nilCell hk hc hf).trans To.nilCells
     ·exact To.nilCells
    ·exact To.nilCells
   ·exact To.nilCells
  ·exact To.nilCells
def nilDats (s : St) : List Nat → St
 | [] => s
 | t :: r => match s.get t with
  | some (.one .e0) => nilDats (s.nilDat t) r
  | some (.agg cs) => nilDats (s.nilAgD t cs) r
  | _ => nilDats s r
theorem To.nilDats : ∀ {l : List Nat} {s : St}, To s (nilDats s l)
 | [], s => To.refl s
 | t :: r, s => by
  simp only [AM.nilDats]
  split
  ·rename_i ht
   exact (To.nilDat ht).trans To.nilDats
  ·rename_i ht
   exact (To.nilAgD ht).trans To.nilDats
  ·exact To.nilDats
def nilAggs (s : St) : List (Nat × Nat × Nat × Nat) → St
 | [] => s
 | (t, q, e, es) :: r => match s.get t with
  | some (.agg cs) => match cs[q]? with
   | some .e0 => match s.fresh [(1100 + t + 61 * q, .lst e es [])] with
    | true => nilAggs (s.nilAgg t q (1100 + t + 61 * q) e es cs) r
    | false => nilAggs s r
   | _ => nilAggs s r
  | _ => nilAggs s r
theorem To.nilAggs : ∀ {l : List (Nat × Nat × Nat × Nat)} {s : St}, To s (nilAggs s l)
 | [], s => To.refl s
 | (t, q, e, es) :: r, s => by
  simp only [AM.nilAggs]
  split
  ·rename_i ht
   split
   ·rename_i hc
    split
    ·rename_i hf
     exact (To.nilAgg ht hc hf).trans To.nilAggs
    ·exact To.nilAggs
   ·exact To.nilAggs
  ·exact To.nilAggs
def canon (h : Hint) (s : St) : St :=
 let s0 := nilAggs (nilCells (nilAll s h.nl) h.nc) h.na
 let s1 := nilDats (frzAll s0 (N9q s0 h.fz)) h.fz
 let s2 := degrAll s1 (N9q s1 h.dg)
 let s3 := sealAll s2 (N9q s2 h.sl)
 canonR s3 h.ts (a9Kq (fun k => !((a9Fq s3.ob).contains k && aguq s3 k)) 1900 (O4q s3 8 (C3q [] (a9iq s3 h.ts))))
theorem To.canonR {s : St} {ts : List Nat} {l : List (Nat × Nat)} : To s (canonR s ts l) := by
 unfold AM.canonR
 split
 ·rename_i h; exact To.ren h
 ·exact To.refl s
theorem To.canon {h : Hint} {s : St} : To s (canon h s) := To.nilAll.trans (To.nilCells.trans (To.nilAggs.trans (To.frzAll.trans (To.nilDats.trans (To.degrAll.trans (To.sealAll.trans To.canonR))))))
def canonO (h : Option Hint) (s : St) : St := match h with
 | some h => canon h s
 | none => s
theorem To.canonO {h : Option Hint} {s : St} : To s (canonO h s) := by
 cases h with
 | some h => exact To.canon
 | none => exact To.refl s
def D8q : Code → Nat
 | .region id _ _ => id
 | .seq a _ => D8q a
 | .block _ c => D8q c
 | .loop c => D8q c
 | _ => 100000
structure CL (n : Nat) (P : Program) (c : Code) (N : St → Prop) (E : Exit → St → Prop) (s : St) : Prop where
 h : ∀ Γ : Cx, Γ.n = n → WL Γ P c N E s
structure CW (n : Nat) (P : Program) (c : Code) (N : St → Prop) (E : Exit → St → Prop) (s : St) : Prop where
 h : ∀ Γ : Cx, Γ.n = n → W Γ P c N E s
def abRq : List Oper → Bool
 | [] => false
 | o :: r => (match o.op with
  | .store _ _ _ => true
  | .call c => (match c.callee with
   | .value _ => true
   | .builtin .append => true
   | .builtin .copy => true
   | .builtin .clear => true
   | _ => false)
  | _ => false) || abRq r
def vC (P : Program) (E : Env) (hs : a8q) (n : Nat) : Code → St → (St → Prop) → (Exit → St → Prop) → Prop
 | .skip, s, kn, _ => kn s
 | .region id ops draw, s, kn, _ => frcP (Q0q E ops.toList []) fun cols => match draw with
  | false => vOps P { E with cols := cols } n id ops ops.toList 0 s kn
  | true => chk (i1q id 1000) (a6Xq ops) (match abRq ops.toList with
   | true => frcL (p3q ops.toList []) fun ms => vDX P { E with cols := cols } n id ops ms ops.toList 0 s [] kn
   | false => W2q P { E with cols := cols } n id s ops ops.toList 0 s kn)
 | .seq a b, s, kn, ke => vC P E hs n a s (fun s' => match a4q hs.joins (D8q b) with
  | some h => CW n P b kn ke (canon h s')
  | none => vC P E hs n b s' kn ke) ke
 | .cond c a b, s, kn, ke => opt (i1q 0 0) ((s.ev c).bind asB) fun bb => ifB bb (vC P E hs n a s kn ke) (vC P E hs n b s kn ke)
 | .block id c, s, kn, ke => vC P E hs n c s kn (a5Rq id kn ke)
 | .loop c, s, kn, ke => CL n P c kn ke (canonO (a4q hs.loops (D8q c)) s)
 | .exit id, s, _, ke => ke (.exit id) s
 | .ret, s, _, ke => ke .ret s
 | _, _, _, _ => i1q 0 1
theorem C4q {P : Program} {E : Env} {hs : a8q} (hE : EnvOk P E) (hm : P.follows .mixedOrders = true) {n : Nat} : ∀ (c : Code) {s : St} {kn : St → Prop} {ke : Exit → St → Prop}, vC P E hs n c s kn ke → ∀ Γ : Cx, Γ.n = n → W Γ P c kn ke s
 | .skip, s, kn, ke, h, Γ, hn => agXq h
 | .region id ops draw, s, kn, ke, h, Γ, hn => by
  subst hn
  simp only [vC, a39q] at h
  have hE := hE.cols (Q0q E ops.toList [])
  cases draw with
  | false =>
   have := K0q (Γ := Γ) (K := kn) hE (fun _ h => h) h
   have h2 := af4q (E := ke) (id := id) (l := ops.toList) (by simpa using this)
   simpa using h2
  | true =>
   obtain ⟨h1, h⟩ := a7q f1q h
   cases hX : abRq ops.toList with
   | true =>
    rw [hX] at h
    simp only [a3sq] at h
    have h2 := afGq (Γ := Γ) (Ex := ke) (N := kn) (id := id) (l := ops.toList) hE hm (by simpa using a7uq h1) (fun _ h => h) (by simpa using h)
    simpa using h2
   | false =>
    rw [hX] at h
    have := P3q (Γ := Γ) (K := kn) hE (fun _ h => h) h
    have h2 := afRq (E := ke) (id := id) (l := ops.toList) hm (by simpa using a7uq h1) (by simpa using this)
    simpa using h2
 | .seq a b, s, kn, ke, h, Γ, hn => by
  refine ahdq (a5aq (C4q hE hm a h Γ hn) (fun s' h => ?_) fun _ _ h => h)
  split at h
  ·exact W_to To.canon (h.h Γ hn)
  ·exact C4q hE hm b h Γ hn
 | .cond c a b, s, kn, ke, h, Γ, hn => by
  obtain ⟨bb, hb, h⟩ := a0q f1q h
  have hb : s.ev c = some (B bb) := by
   cases hx : s.ev c with
   | none => rw [hx] at hb; simp at hb
   | some X => rw [hx] at hb; exact congrArg some (abAq hb)
  refine agUq hb (fun e => ?_) fun e => ?_
  ·subst e; exact C4q hE hm a h Γ hn
  ·subst e; exact C4q hE hm b h Γ hn
 | .block id c, s, kn, ke, h, Γ, hn => agjq (C4q hE hm c h Γ hn)
 | .loop c, s, kn, ke, h, Γ, hn => W_loop' h.h hn
 | .exit id, s, kn, ke, h, Γ, hn => agwq h
 | .ret, s, kn, ke, h, Γ, hn => ahbq h
 | .rangeFunc .., s, kn, ke, h, Γ, hn => absurd h f1q
 | .scope _, s, kn, ke, h, Γ, hn => absurd h f1q
 | .label _, s, kn, ke, h, Γ, hn => absurd h f1q
 | .goto _, s, kn, ke, h, Γ, hn => absurd h f1q
 | .refuse _, s, kn, ke, h, Γ, hn => absurd h f1q
where W_loop' {Γ : Cx} {P : Program} {c : Code} {kn : St → Prop} {ke : Exit → St → Prop} {s : St} {n : Nat} {h : Option Hint} (h1 : ∀ Γ : Cx, Γ.n = n → WL Γ P c kn ke (canonO h s)) (hn : Γ.n = n) : W Γ P (.loop c) kn ke s := W_to To.canonO (afVq (h1 Γ hn))
theorem c2q {P : Program} {E : Env} {hs : a8q} (hE : EnvOk P E) (hm : P.follows .mixedOrders = true) {n : Nat} {c : Code} {s : St} {kn : St → Prop} {ke : Exit → St → Prop} (h : vC P E hs n c s (fun s' => CL n P c kn ke (canonO (a4q hs.loops (D8q c)) s')) ke) : CL n P c kn ke s :=
 ⟨fun Γ hn => aetq (a5aq (C4q hE hm c h Γ hn) (fun s' h => ah0q To.canonO (h.h Γ hn)) fun _ _ h => h)⟩
def a5pq (E : Env) (s : St) : ResultVar → Option AV
 | .tmp t => s.get t
 | .cell t ty => match s.get t, a4q E.tab ty with
  | some (.one (.op k 0)), some i => match s.gob k with
   | some (.var cs) => if i.agg = true ∧ cs.length = i.n then some (v2q cs) else none
   | _ => none
  | _, _ => none
def W5q (E : Env) (s : St) : List ResultVar → Option (List AV)
 | [] => some []
 | v :: r => match a5pq E s v, W5q E s r with
  | some x, some xs => some (x :: xs)
  | _, _ => none
def a5Vq (E : Env) (s : St) : List ResultVar → Option AV
 | [v] => a5pq E s v
 | rs => (W5q E s rs).map .tup
def a0Xq (tmps : Array Value) : ResultVar → Sem Value
 | .tmp t => pure (tmps.getD t undef)
 | .cell a t => do loadVar t (← asAddr (tmps.getD a undef))
theorem a3Tq {fn : Func} {tmps : Array Value} : results fn tmps = (do
 let vs ← fn.results.mapM (a0Xq tmps)
 pure (if h : vs.size = 1 then vs[0] else .tuple vs)) := rfl
theorem a5Hq {P : Program} {E : Env} (hE : EnvOk P E) {s : St} {v : ResultVar} {y : AV} (h : a5pq E s v = some y) {Γ : Cx} {a : Act} {w : World} {S : Nat → Prop} {β : Nat → OLoc} (hs : Sim Γ s a w S β) : ∃ u, (a0Xq a.tmps v).run P w = .ok u w ∧ RepV w S β y u := by
 cases v with
 | tmp t =>
  obtain ⟨u, hu, hr⟩ := hs.tm t y h
  exact ⟨u, by simp [a0Xq, Array.getD_eq_getD_getElem?, hu], hr⟩
 | cell t ty =>
  simp only [a5pq] at h
  split at h
  ·rename_i k i ht hi
   split at h
   ·rename_i cs hk
    split at h
    ·rename_i hc
     obtain ⟨d1, j1, hd1, hj1, a1, a2, a3, a4, a5, a6, a7⟩ := b2q (hE.tab ty i hi)
     simp at h; subst h
     obtain ⟨v, hv, hrep⟩ := hs.tm t _ ht
     cases hrep.one_inv
     obtain ⟨hh, ar, E', hg, hrp⟩ := hs.mem.ob k _ hk
     have hlen := hrp.len
     simp only [Array.length_toList] at hlen
     refine ⟨.agg ar, ?_, ?_⟩
     ·have hld := run_loadCells_list (P := P) w ⟨(β k).blk, 0, none⟩ ar.toList (fun q u hu => by
       rw [n3q, n7q hg, ← Array.getElem?_toList, Nat.zero_add]; exact hu)
      simp only [Array.length_toList] at hld
      have hl := hc.2.trans a2.symm
      have hsz : ar.size = j1.size := by omega
      rw [hsz] at hld
      simp [a0Xq, hv, asAddr, loadVar, n2q hd1, a1.trans hc.1, sizeOf, typeInfo, hj1, hld]
     ·have h2 := hrp.mk
      simp only [Array.toArray_toList] at h2
      exact h2
    ·simp at h
   ·simp at h
  ·simp at h
theorem a3Oq {P : Program} {E : Env} (hE : EnvOk P E) {s : St} {Γ : Cx} {a : Act} {w : World} {S : Nat → Prop} {β : Nat → OLoc} (hs : Sim Γ s a w S β) : ∀ {rs : List ResultVar} {xs : List AV}, W5q E s rs = some xs → ∃ us, (rs.mapM (a0Xq a.tmps)).run P w = .ok us w ∧ RepVs w S β xs us ∧ us.length = rs.length
 | [], xs, h => by simp [W5q] at h; subst h; exact ⟨[], by simp, .nil, rfl⟩
 | v :: r, xs, h => by
  simp only [W5q] at h
  split at h
  ·rename_i x ys h1 h2
   simp at h; subst h
   obtain ⟨u, hu, hr⟩ := a5Hq hE h1 hs
   obtain ⟨us, hus, hrs, hl⟩ := a3Oq hE hs h2
   refine ⟨u :: us, ?_, RepVs.cons hr hrs, by simp [hl]⟩
   simp only [List.mapM_cons, Sem.run_bind, hu, hus, Result.andThen_ok, Sem.run_pure]
  ·simp at h
theorem aekq {P : Program} {E : Env} (hE : EnvOk P E) {fn : Func} {s : St} {rs : List ResultVar} {y : AV} (hr : fn.results = rs.toArray) (h : a5Vq E s rs = some y) : ResOk P fn s y := by
 intro Γ a w S β hs
 unfold a5Vq at h
 split at h
 ·rename_i v
  obtain ⟨u, hu, hrep⟩ := a5Hq hE h hs
  refine ⟨u, ?_, hrep⟩
  rw [a3Tq, hr, List.mapM_toArray]
  simp only [List.mapM_cons, List.mapM_nil, map_bind, map_pure, Sem.run_bind, hu, Result.andThen_ok, Sem.run_pure]
  simp
 ·rename_i hne
  cases hx : W5q E s rs with
  | none => rw [hx] at h; simp at h
  | some xs =>
   rw [hx] at h
   simp at h; subst h
   obtain ⟨us, hus, hrs, hl⟩ := a3Oq hE hs hx
   refine ⟨.tuple us.toArray, ?_, RepVs.tup hrs .nil⟩
   have hl1 : us.toArray.size ≠ 1 := by
    intro h1
    simp only [List.size_toArray] at h1
    rw [hl] at h1
    match rs, h1 with
    | [v], _ => exact hne v rfl
   rw [a3Tq, hr, List.mapM_toArray]
   have e1 : ((List.toArray <$> rs.mapM (a0Xq a.tmps)) : Sem (Array Value)).run P w = .ok us.toArray w := by
    rw [map_eq_pure_bind, Sem.run_bind, hus]
    simp only [Result.andThen_ok, Sem.run_pure, Function.comp]
   rw [Sem.run_bind, e1]
   simp only [Result.andThen_ok, Sem.run_pure]
   rw [dif_neg hl1]
def AV.normR : AV → AV
 | .tup ys => .tup (ys.map AV.norm)
 | x => x.norm
theorem RepV.normR {w : World} {S : Nat → Prop} {β : Nat → OLoc} {x : AV} {v : Value} (h : RepV w S β x v) : RepV w S β x.normR v := by
 unfold AV.normR
 split
 ·obtain ⟨us, hv, h2⟩ := h.tup_inv
  rw [hv]; exact RepVs.tup h2.norm .nil
 ·exact h.norm
theorem ResOk.normR {P : Program} {fn : Func} {s : St} {r : AV} (h : ResOk P fn s r) : ResOk P fn s r.normR := by
 intro Γ a w S β hs
 obtain ⟨v, h1, h2⟩ := h Γ a w S β hs
 exact ⟨v, h1, h2.normR⟩
def a8Iq : List RK → List At → List Nat
 | .k _ :: ks, x :: xs => x.ids ++ a8Iq ks xs
 | .o _ _ :: ks, _ :: xs => a8Iq ks xs
 | .e :: ks, _ :: xs => a8Iq ks xs
 | _, _ => []
mutual
def fzOf : RS → AV → List Nat
 | .c _, .one x => x.ids
 | .d _, .agg xs => AV.idsL xs
 | .s ks, .agg xs => a8Iq ks xs
 | .t rs, .tup ys => fzOfL rs ys
 | _, _ => []
def fzOfL : List RS → List AV → List Nat
 | r :: rs, y :: ys => fzOf r y ++ fzOfL rs ys
 | _, _ => []
end
def nlOf (s : St) : List ResultVar → List RS → List (Nat × Nat × Nat)
 | .tmp t :: r, .o e es :: rs => (t, e, es) :: nlOf s r rs
 | .tmp t :: r, .b e es :: rs => (t, e, es) :: nlOf s r rs
 | _ :: r, _ :: rs => nlOf s r rs
 | _, _ => []
def a5fq (t : Nat) : List RK → Nat → List (Nat × Nat × Nat × Nat)
 | [], _ => []
 | .k _ :: ks, q => a5fq t ks (q + 1)
 | .o e es :: ks, q => (t, q, e, es) :: a5fq t ks (q + 1)
 | .e :: ks, q => a5fq t ks (q + 1)
def naOf : List ResultVar → List RS → List (Nat × Nat × Nat × Nat)
 | .tmp t :: r, .s ks :: rs => a5fq t ks 0 ++ naOf r rs
 | _ :: r, _ :: rs => naOf r rs
 | _, _ => []
def ncOf : List ResultVar → List RS → List (Nat × Nat × Nat × Nat)
 | .cell t _ :: r, .s ks :: rs => a5fq t ks 0 ++ ncOf r rs
 | _ :: r, _ :: rs => ncOf r rs
 | _, _ => []
def dgOf : List ResultVar → List RS → List Nat
 | .tmp t :: r, .b _ _ :: rs => t :: dgOf r rs
 | _ :: r, _ :: rs => dgOf r rs
 | _, _ => []
def rsL : RS → List RS
 | .t rs => rs
 | r => [r]
def a1Lq : List ResultVar → List Nat
 | [] => []
 | .tmp t :: r => t :: a1Lq r
 | .cell t _ :: r => t :: a1Lq r
def a5yq : Ob → Bool
 | .var _ => true
 | _ => false
def a5Qq : List (Nat × Ob) → Bool
 | [] => true
 | (k, _) :: r => !(r.map (·.1)).contains k && a5Qq r
theorem a3Wq {k : Nat} {X : Ob} : ∀ {l : List (Nat × Ob)}, a5Qq l = true → (k, X) ∈ l → a4q l k = some X
 | [], _, h => by simp at h
 | (j, Y) :: r, hn, h => by
  simp only [a5Qq, Bool.and_eq_true, Bool.not_eq_true', List.contains_eq_mem, decide_eq_false_iff_not] at hn
  rcases List.mem_cons.1 h with h | h
  ·cases h; simp [a4q]
  ·have : j ≠ k := by
    rintro rfl
    exact hn.1 (List.mem_map.2 ⟨_, h, rfl⟩)
   simp only [a4q]
   rw [if_neg (by simpa using this)]
   exact a3Wq hn.2 h
theorem abpq {s : St} : ∀ {O : List (Nat × Ob)}, (∀ p ∈ O, s.gob p.1 = some p.2) → usOk s O
 | [], _ => trivial
 | (k, X) :: r, h => ⟨h (k, X) (by simp), abpq fun p hp => h p (by simp [hp])⟩
def aahq (s : St) : List Nat → List Nat
 | [] => []
 | k :: r => match s.gob k with
  | some (.var cs) => AV.idsL cs ++ aahq s r
  | _ => aahq s r
def a3fq (s : St) : List ResultVar → List Nat
 | [] => []
 | .tmp _ :: r => a3fq s r
 | .cell t _ :: r => match s.get t with
  | some (.one (.op k _)) => k :: a3fq s r
  | _ => a3fq s r
def a8Zq (ks : List (Nat × Bool)) (O : List (Nat × Ob)) (mv : List Nat) (r : AV) : Bool :=
 (r.ids ++ (O.map fun p => p.1 :: p.2.ids).flatten).all fun o => mv.contains o || (decide (2000 ≤ o) && ks.any (·.1 == o))
theorem acYq {ks : List (Nat × Bool)} {I O : List (Nat × Ob)} {mv : List Nat} {r : AV} (hk : I.map (fun p => (p.1, a5yq p.2)) = ks) (h : a8Zq ks O mv r = true) : a8Fq I O mv r = true := by
 subst hk
 unfold a8Fq
 unfold a8Zq at h
 simpa [List.any_map, Function.comp_def] using h
def ah3q (s : St) (ts : List Nat) : St := degrAll s (N9q s ts)
def hasE : RS → Bool
 | .s ks => ks.any fun k => match k with
  | .e => true
  | _ => false
 | _ => false
def nrR (rs : RS) (y : AV) : AV := match hasE rs with
 | true => y
 | false => y.normR
theorem ResOk.nrR {P : Program} {fn : Func} {s : St} {r : AV} (h : ResOk P fn s r) (rs : RS) : ResOk P fn s (nrR rs r) := by
 unfold AM.nrR
 split
 ·exact h
 ·exact h.normR
def c7q (E : Env) (res : List ResultVar) (rs : RS) (ks : List (Nat × Bool)) (dir : List Nat) (r : AV) (O : List (Nat × Ob)) (s : St) : Prop :=
 opt (i1q 1 0) (a5Vq E s res) fun y0 =>
  let s1 := frzAll s (fzOf rs y0)
  let s2 := ah3q (nilCells (nilAggs (nilAll s1 (nlOf s1 res (rsL rs))) (naOf res (rsL rs))) (ncOf res (rsL rs))) (dgOf res (rsL rs))
  opt (i1q 1 1) (a5Vq E s2 res) fun y1 =>
   let fix := (ks.filter fun p => p.2 || dir.contains p.1).map (·.1)
   let ids := (C3q fix (y1.ids ++ aahq s2 fix)).drop fix.length
   let l := fix.map (fun k => (k, k)) ++ (a2Iq 0 ids ++ a2Iq 1300 ((a3fq s2 res).filter fun k => !(fix ++ ids).contains k))
   let s3 := s2.ren l (a1Lq res)
   let ob := s3.ob.filter fun p => !(decide (1300 ≤ p.1) && decide (p.1 < 2000))
   chk (i1q 1 2) (a1mq l) <| opt (i1q 1 3) (a5Vq E s3 res) fun y2 =>
    chk (i1q 1 4) (a8Zq ks ob (A1q ob) (nrR rs y2) && a5Qq s3.ob) (nrR rs y2 = r ∧ ob = O)
theorem a1oq {P : Program} {E : Env} (hE : EnvOk P E) {fn : Func} {res : List ResultVar} {rs : RS} {I : List (Nat × Ob)} {ks : List (Nat × Bool)} {dir : List Nat} {r : AV} {O : List (Nat × Ob)} {s : St} (hks : I.map (fun p => (p.1, a5yq p.2)) = ks) (hr : fn.results = res.toArray) (h : c7q E res rs ks dir r O s) : RetX P fn s r I O (A1q O) := by
 obtain ⟨y0, _, h⟩ := a0q f1q h
 obtain ⟨y1, _, h⟩ := a0q f1q h
 obtain ⟨hg, h⟩ := a7q f1q h
 obtain ⟨y2, h2, h⟩ := a0q f1q h
 obtain ⟨h3, h4, h5⟩ := a7q f1q h
 simp only [Bool.and_eq_true] at h3
 have hok := (aekq hE hr h2).nrR rs
 rw [h4] at hok
 rw [h4, h5] at h3
 have key := ageq (O := O) hok (abpq fun p hp => ?_) (acYq hks h3.1)
 ·exact N8q To.frzAll (N8q To.nilAll (N8q To.nilAggs (N8q To.nilCells (N8q To.degrAll (N8q (To.ren hg) key)))))
 ·rw [← h5] at hp
  exact a3Wq h3.2 (List.mem_filter.1 hp).1
def a0Pq (z : Prop) (s : St) : List Nat → (St → Prop) → Prop
 | [], k => k s
 | t :: r, k => match s.get t with
  | some (.one (.ps q es lo n)) => opt z (s.gob q) fun X => opt z (asP X) fun p => chk z (decide (lo = 0) && decide (p.2.2.1 = es) && decide (q < 2000)) (Do (n ≤ p.2.2.2.length) ∧ a0Pq z (s.appd (some t) q [] (.lst p.2.1 es (p.2.2.2.take n))) r k)
  | _ => a0Pq z s r k
theorem a0Jq {z : Prop} (hz : ¬ z) : ∀ {l : List Nat} {s : St} {k : St → Prop}, a0Pq z s l k → ∃ s', To s s' ∧ k s'
 | [], s, k, h => ⟨s, To.refl s, h⟩
 | t :: r, s, k, h => by
  simp only [a0Pq] at h
  split at h
  ·rename_i q es lo n ht
   obtain ⟨X, hX, h⟩ := a0q hz h
   obtain ⟨p, hp, h⟩ := a0q hz h
   have hp := a0Rq hp
   obtain ⟨hl, h1, h⟩ := a7q hz h
   simp only [Bool.and_eq_true, decide_eq_true_eq] at hl
   obtain ⟨⟨h2, h3⟩, h4⟩ := hl
   obtain ⟨s', h5, h⟩ := a0Jq hz h
   refine ⟨s', To.trans (fun Γ a w S β hs => ?_) h5, h⟩
   rw [hp, h3] at hX
   rw [h2] at ht
   obtain ⟨β', h6⟩ := aenq hs hX h4 ht h1.h
   exact ⟨S, β', h6⟩
  ·exact a0Jq hz h
def a53q (E : Env) (res : List ResultVar) (rs : RS) (ks : List (Nat × Bool)) (dir : List Nat) (r : AV) (O : List (Nat × Ob)) (s : St) : Prop :=
 a0Pq (i1q 1 5) s (a1Lq res) fun s' => c7q E res rs ks dir r O s'
theorem a3Pq {P : Program} {E : Env} (hE : EnvOk P E) {fn : Func} {res : List ResultVar} {rs : RS} {I : List (Nat × Ob)} {ks : List (Nat × Bool)} {dir : List Nat} {r : AV} {O : List (Nat × Ob)} {s : St} (hks : I.map (fun p => (p.1, a5yq p.2)) = ks) (hr : fn.results = res.toArray) (h : a53q E res rs ks dir r O s) : RetX P fn s r I O (A1q O) := by
 obtain ⟨s', h1, h⟩ := a0Jq f1q h
 exact N8q h1 (a1oq hE hks hr h)
def W7q (z : Prop) : List Nat → St → (St → Prop) → Prop
 | [], s, k => k s
 | q :: r, s, k => opt z (s.gob q) fun X => match X with
  | .lst E es xs => ∀ c : Nat, xs.length ≤ c → c ≤ maxLen → W7q z r (s.mv (aaqq q es xs.length) q [] (.fu E es xs c)) k
  | _ => z
def agCq (l : List (Nat × Nat)) (n : Nat) (s : St) : St := s.ren l (List.range n)
def a1q (fn : Func) : Code := fn.body.getD .skip
def a8Aq (R : St → Prop) : Exit → St → Prop
 | .ret, s => R s
 | _, _ => i1q 2 0
theorem b1q {P : Program} {E : Env} {hs : a8q} (hE : EnvOk P E) (hm : P.follows .mixedOrders = true) {f : FuncId} {fn : Func} {c : Code} {xs : List AV} {I : List (Nat × Ob)} {r : AV} {O : List (Nat × Ob)} {n : Nat} {res : List ResultVar} {rs : RS} {ks : List (Nat × Bool)} {dir : List Nat} (hks : I.map (fun p => (p.1, a5yq p.2)) = ks) (hf : P.funcs[f]? = some fn) (hb : fn.body = some c) (hn : fn.ntmps = n) (hl : Nat.ble xs.length n = true) (hr : fn.results = res.toArray)
  (h : vC P E hs n c ⟨St.enter 0 xs, I⟩ (c7q E res rs ks dir r O) (a8Aq (c7q E res rs ks dir r O))) : XC P f xs I r O := by
 refine ⟨abjq hf hb n hn (Nat.le_of_ble_eq_true hl) fun w0 S0 β0 => ?_⟩
 refine a5aq (C4q hE hm c h _ rfl) (fun s h => a1oq hE hks hr h) fun e s h => ?_
 cases e with
 | ret => exact a1oq hE hks hr h
 | _ => exact absurd h f1q
theorem a7oq {z : Prop} (hz : ¬ z) {Γ : Cx} {P : Program} {c : Code} {N : St → Prop} {Ex : Exit → St → Prop} : ∀ {l : List Nat} {s : St}, W7q z l s (fun s => W Γ P c N Ex s) → W Γ P c N Ex s
 | [], s, h => h
 | q :: r, s, h => by
  obtain ⟨X, hX, h⟩ := a0q hz h
  split at h
  ·rename_i E es xs
   intro a w S β hs
   obtain ⟨c0, h1, h2, hs'⟩ := aeCq hs hX
   exact a7oq hz (h c0 h1 h2) a w S β hs'
  ·exact absurd h hz
theorem a2nq {z : Prop} {p q : St → Prop} (hpq : ∀ s, p s → q s) : ∀ {l : List Nat} {s : St}, W7q z l s p → W7q z l s q
 | [], s, h => hpq s h
 | k :: r, s, h => by
  unfold W7q at *
  cases hX : s.gob k with
  | none => rw [hX] at h; exact h
  | some X =>
   rw [hX] at h
   cases X with
   | lst E es xs => exact fun c h1 h2 => a2nq hpq (h c h1 h2)
   | _ => exact h
theorem a8Bq {P : Program} {E : Env} {hs : a8q} (hE : EnvOk P E) (hm : P.follows .mixedOrders = true) {f : FuncId} {fn : Func} {c : Code} {xs : List AV} {I : List (Nat × Ob)} {r : AV} {O : List (Nat × Ob)} {n : Nat} {res : List ResultVar} {rs : RS} {ks : List (Nat × Bool)} {dir : List Nat} (l : List (Nat × Nat)) (op : List Nat) (hl2 : a1mq l = true) (hks : I.map (fun p => (p.1, a5yq p.2)) = ks) (hf : P.funcs[f]? = some fn) (hb : fn.body = some c) (hn : fn.ntmps = n) (hl : Nat.ble xs.length n = true) (hr : fn.results = res.toArray)
  (h : W7q (i1q 1 6) op (agCq l xs.length ⟨St.enter 0 xs, I⟩) fun s => vC P E hs n c s (a53q E res rs ks dir r O) (a8Aq (a53q E res rs ks dir r O))) : XC P f xs I r O := by
 refine ⟨abjq hf hb n hn (Nat.le_of_ble_eq_true hl) fun w0 S0 β0 => ?_⟩
 refine W_to (To.ren hl2) (a7oq f1q (a2nq (fun s h => ?_) h))
 refine a5aq (C4q hE hm c h _ rfl) (fun s h => a3Pq hE hks hr h) fun e s h => ?_
 cases e with
 | ret => exact a3Pq hE hks hr h
 | _ => exact absurd h f1q
def subC : Code → List Nat → Code
 | c, [] => c
 | .seq a b, 0 :: p => subC a p
 | .seq a b, _ :: p => subC b p
 | .cond _ a b, 0 :: p => subC a p
 | .cond _ a b, _ :: p => subC b p
 | .block _ c, _ :: p => subC c p
 | .loop c, _ :: p => subC c p
 | c, _ => c
def kont (P : Program) (E : Env) (hs : a8q) (n : Nat) : Code → List Nat → (St → Prop) → (Exit → St → Prop) → (St → Prop) × (Exit → St → Prop)
 | .seq a b, 0 :: p, kn, ke => kont P E hs n a p (fun s' => match a4q hs.joins (D8q b) with
  | some h => CW n P b kn ke (canon h s')
  | none => vC P E hs n b s' kn ke) ke
 | .seq a b, _ :: p, kn, ke => kont P E hs n b p kn ke
 | .cond _ a b, 0 :: p, kn, ke => kont P E hs n a p kn ke
 | .cond _ a b, _ :: p, kn, ke => kont P E hs n b p kn ke
 | .block id c, _ :: p, kn, ke => kont P E hs n c p kn (a5Rq id kn ke)
 | .loop c, _ :: p, kn, ke => match p with
  | [] => (kn, ke)
  | q :: p => kont P E hs n c (q :: p) (fun s' => CL n P c kn ke (canonO (a4q hs.loops (D8q c)) s')) ke
 | _, _, kn, ke => (kn, ke)
theorem a5q {p q : Prop} (e : p = q) (h : p) : q := e ▸ h
end AM
end Go.Proofs.YtajcoogpmockiaaGreat
namespace Go.Proofs.YtajcoogpmockiaaGreat
namespace AM
open Go
open Go.Proofs.Tryz renaming prog → pg
def ZerL (P : Program) : List (Nat × (Nat × Nat × List At)) → Prop
 | [] => True
 | (t, z) :: r => ZeroOk P t z.1 z.2.1 z.2.2 ∧ ZerL P r
theorem ZerL.spec {P : Program} : ∀ {l : List (Nat × (Nat × Nat × List At))}, ZerL P l → ∀ t z, a4q l t = some z → ZeroOk P t z.1 z.2.1 z.2.2
 | [], _, t, z, h => by simp [a4q] at h
 | (k, y) :: r, hl, t, z, h => by
  simp only [a4q] at h
  split at h
  ·rename_i e; simp at e h; subst e; subst h; exact hl.1
  ·exact ZerL.spec hl.2 t z h
def zer : List (Nat × (Nat × Nat × List At)) := [(2, (1, 8, [.d (.int .i64 0)])),
 (3, (1, 8, [.d (.int .i64 0)])),
 (4, (1, 1, [.d (.bool false)])),
 (5, (1, 1, [.d (.int .u8 0)])),
 (6, (1, 1, [.d (.int .u8 0)])),
 (7, (4, 24, [.d (.int .i64 0), .d (.int .i64 0), .d (.bool false), .d (.int .u8 0)])),
 (8, (4, 24, [.d (.int .i64 0), .d (.int .i64 0), .d (.bool false), .d (.int .u8 0)])),
 (9, (1, 16, [.d (.str ⟨#[]⟩)])),
 (10, (1, 16, [.d (.str ⟨#[]⟩)])),
 (11, (1, 16, [.d (.str ⟨#[]⟩)])),
 (12, (1, 8, [.d (.int .u64 0)])),
 (13, (2, 24, [.d (.str ⟨#[]⟩), .d (.int .u64 0)])),
 (14, (2, 24, [.d (.str ⟨#[]⟩), .d (.int .u64 0)])),
 (21, (1, 4, [.d (.int .i32 0)])),
 (22, (1, 24, [.e0])),
 (23, (1, 24, [.e0])),
 (24, (1, 24, [.e0])),
 (25, (1, 24, [.e0])),
 (28, (1, 24, [.e0])),
 (29, (3, 40, [.d (.int .i64 0), .d (.int .i64 0), .e0])),
 (30, (3, 40, [.d (.int .i64 0), .d (.int .i64 0), .e0])),
 (31, (6, 80, [.d (.int .i64 0), .d (.int .i64 0), .e0, .d (.int .i64 0), .d (.int .i64 0), .e0])),
 (32, (6, 80, [.d (.int .i64 0), .d (.int .i64 0), .e0, .d (.int .i64 0), .d (.int .i64 0), .e0])),
 (35, (1, 24, [.e0])),
 (37, (1, 24, [.e0])),
 (38, (1, 24, [.e0])),
 (39, (1, 24, [.e0])),
 (50, (1, 24, [.e0])),
 (54, (1, 24, [.e0])),
 (61, (1, 24, [.e0])),
 (64, (1, 24, [.e0])),
 (68, (1, 24, [.e0])),
 (69, (11, 128, [.d (.int .i64 0), .d (.int .i64 0), .d (.int .i64 0), .d (.int .i64 0), .d (.int .i64 0), .d (.bool false), .d (.bool false), .e0, .d (.bool false), .e0, .e0])),
 (70, (11, 128, [.d (.int .i64 0), .d (.int .i64 0), .d (.int .i64 0), .d (.int .i64 0), .d (.int .i64 0), .d (.bool false), .d (.bool false), .e0, .d (.bool false), .e0, .e0])),
 (73, (11, 128, [.d (.int .i64 0), .d (.int .i64 0), .d (.int .i64 0), .d (.int .i64 0), .d (.int .i64 0), .d (.bool false), .d (.bool false), .e0, .d (.bool false), .e0, .e0])),
 (74, (11, 128, [.d (.int .i64 0), .d (.int .i64 0), .d (.int .i64 0), .d (.int .i64 0), .d (.int .i64 0), .d (.bool false), .d (.bool false), .e0, .d (.bool false), .e0, .e0])),
 (80, (3, 32, [.d (.str ⟨#[]⟩), .d (.int .i64 0), .d (.bool false)])),
 (81, (3, 32, [.d (.str ⟨#[]⟩), .d (.int .i64 0), .d (.bool false)])),
 (84, (7, 88, [.d (.bool false), .d (.int .i64 0), .d (.int .i64 0), .e0, .d (.int .i64 0), .d (.int .i64 0), .e0])),
 (85, (7, 88, [.d (.bool false), .d (.int .i64 0), .d (.int .i64 0), .e0, .d (.int .i64 0), .d (.int .i64 0), .e0])),
 (89, (3, 32, [.d (.str ⟨#[]⟩), .d (.int .i64 0), .d (.bool false)])),
 (99, (4, 80, [.e0, .e0, .e0, .d (.int .i64 0)])),
 (100, (4, 80, [.e0, .e0, .e0, .d (.int .i64 0)])),
 (105, (1, 24, [.e0])),
 (106, (3, 40, [.d (.int .i64 0), .d (.int .i64 0), .e0])),
 (107, (3, 40, [.d (.int .i64 0), .d (.int .i64 0), .e0])),
 (108, (4, 48, [.d (.int .i64 0), .d (.int .i64 0), .d (.int .i64 0), .e0])),
 (109, (4, 48, [.d (.int .i64 0), .d (.int .i64 0), .d (.int .i64 0), .e0])),
 (115, (4, 48, [.d (.int .i64 0), .d (.int .i64 0), .d (.int .i64 0), .e0])),
 (116, (4, 48, [.d (.int .i64 0), .d (.int .i64 0), .d (.int .i64 0), .e0])),
 (141, (7, 88, [.d (.bool false), .d (.int .i64 0), .d (.int .i64 0), .e0, .d (.int .i64 0), .d (.int .i64 0), .e0])),
 (142, (7, 88, [.d (.bool false), .d (.int .i64 0), .d (.int .i64 0), .e0, .d (.int .i64 0), .d (.int .i64 0), .e0])),
 (154, (1, 24, [.e0])),
 (155, (1, 24, [.e0])),
 (157, (6, 80, [.d (.int .i64 0), .d (.int .i64 0), .e0, .d (.int .i64 0), .d (.int .i64 0), .e0])),
 (158, (1, 24, [.e0])),
 (160, (6, 80, [.e0, .e0, .d (.int .i64 0), .d (.int .i64 0), .d (.int .i64 0), .d (.bool false)])),
 (161, (6, 80, [.e0, .e0, .d (.int .i64 0), .d (.int .i64 0), .d (.int .i64 0), .d (.bool false)])),
 (163, (4, 64, [.d (.bool false), .d (.int .i64 0), .e0, .e0])),
 (164, (4, 64, [.d (.bool false), .d (.int .i64 0), .e0, .e0])),
 (165, (1, 24, [.e0])),
 (187, (1, 24, [.e0])),
 (199, (3, 56, [.e0, .e0, .d (.int .i64 0)])),
 (200, (3, 56, [.e0, .e0, .d (.int .i64 0)])),
 (201, (3, 56, [.d (.int .i64 0), .e0, .e0])),
 (202, (3, 56, [.d (.int .i64 0), .e0, .e0])),
 (203, (1, 24, [.e0])),
 (217, (2, 16, [.d (.int .i64 0), .d (.int .i64 0)])),
 (218, (1, 24, [.e0])),
 (242, (1, 24, [.e0])),
 (250, (1, 24, [.e0])),
 (264, (1, 8, [.d (.int .u64 0)])),
 (274, (1, 4, [.d (.int .u32 0)])),
 (275, (1, 1, [.d (.int .u8 0)])),
 (276, (1, 1, [.d (.int .u8 0)])),
 (279, (1, 4, [.d (.int .i32 0)])),
 (280, (1, 4, [.d (.int .i32 0)]))]
theorem zerOk : ZerL pg zer := ⟨z2, z3, z4, z5, z6, z7, z8, z9, z10, z11, z12, z13, z14, z21, z22, z23, z24, z25, z28, z29, z30, z31, z32, z35, z37, z38, z39, z50, z54, z61, z64, z68, z69, z70, z73, z74, z80, z81, z84, z85, z89, z99, z100, z105, z106, z107, z108, z109, z115, z116, z141, z142, z154, z155, z157, z158, z160, z161, z163, z164, z165, z187, z199, z200, z201, z202, z203, z217, z218, z242, z250, z264, z274, z275, z276, z279, z280, trivial⟩
def cks : List (Nat × List CK) := [(1, [.f]),
 (2, [.i .i64]),
 (3, [.i .i64]),
 (4, [.b]),
 (5, [.i .u8]),
 (6, [.i .u8]),
 (7, [.i .i64, .i .i64, .b, .i .u8]),
 (8, [.i .i64, .i .i64, .b, .i .u8]),
 (9, [.s]),
 (10, [.s]),
 (11, [.s]),
 (12, [.i .u64]),
 (13, [.s, .i .u64]),
 (14, [.s, .i .u64]),
 (21, [.i .i32]),
 (22, [.l]),
 (23, [.l]),
 (24, [.l]),
 (25, [.l]),
 (26, [.f]),
 (27, [.f]),
 (28, [.l]),
 (29, [.i .i64, .i .i64, .l]),
 (30, [.i .i64, .i .i64, .l]),
 (31, [.i .i64, .i .i64, .l, .i .i64, .i .i64, .l]),
 (32, [.i .i64, .i .i64, .l, .i .i64, .i .i64, .l]),
 (34, [.f]),
 (35, [.l]),
 (36, [.f]),
 (37, [.l]),
 (38, [.l]),
 (39, [.l]),
 (40, [.f]),
 (41, [.f]),
 (42, [.f]),
 (43, [.f]),
 (44, [.f]),
 (45, [.f]),
 (46, [.f]),
 (47, [.f]),
 (48, [.f]),
 (49, [.f]),
 (50, [.l]),
 (51, [.f]),
 (53, [.f]),
 (54, [.l]),
 (55, [.f]),
 (56, [.f]),
 (57, [.f]),
 (58, [.f]),
 (59, [.f]),
 (60, [.f]),
 (61, [.l]),
 (62, [.f]),
 (63, [.f]),
 (64, [.l]),
 (65, [.f]),
 (66, [.f]),
 (67, [.f]),
 (68, [.l]),
 (69, [.i .i64, .i .i64, .i .i64, .i .i64, .i .i64, .b, .b, .l, .b, .l, .l]),
 (70, [.i .i64, .i .i64, .i .i64, .i .i64, .i .i64, .b, .b, .l, .b, .l, .l]),
 (71, [.f]),
 (72, [.f]),
 (73, [.i .i64, .i .i64, .i .i64, .i .i64, .i .i64, .b, .b, .l, .b, .l, .l]),
 (74, [.i .i64, .i .i64, .i .i64, .i .i64, .i .i64, .b, .b, .l, .b, .l, .l]),
 (75, [.f]),
 (76, [.f]),
 (77, [.f]),
 (78, [.f]),
 (79, [.f]),
 (80, [.s, .i .i64, .b]),
 (81, [.s, .i .i64, .b]),
 (82, [.f]),
 (83, [.f]),
 (84, [.b, .i .i64, .i .i64, .l, .i .i64, .i .i64, .l]),
 (85, [.b, .i .i64, .i .i64, .l, .i .i64, .i .i64, .l]),
 (87, [.f]),
 (88, [.f]),
 (89, [.s, .i .i64, .b]),
 (90, [.f]),
 (91, [.f]),
 (92, [.f]),
 (93, [.f]),
 (94, [.f]),
 (95, [.f]),
 (96, [.f]),
 (97, [.f]),
 (99, [.l, .l, .l, .i .i64]),
 (100, [.l, .l, .l, .i .i64]),
 (101, [.f]),
 (102, [.f]),
 (104, [.f]),
 (105, [.l]),
 (106, [.i .i64, .i .i64, .l]),
 (107, [.i .i64, .i .i64, .l]),
 (108, [.i .i64, .i .i64, .i .i64, .l]),
 (109, [.i .i64, .i .i64, .i .i64, .l]),
 (110, [.f]),
 (111, [.f]),
 (112, [.f]),
 (113, [.f]),
 (114, [.f]),
 (115, [.i .i64, .i .i64, .i .i64, .l]),
 (116, [.i .i64, .i .i64, .i .i64, .l]),
 (117, [.f]),
 (118, [.f]),
 (119, [.f]),
 (120, [.f]),
 (121, [.f]),
 (122, [.f]),
 (123, [.f]),
 (124, [.f]),
 (125, [.f]),
 (126, [.f]),
 (127, [.f]),
 (129, [.f]),
 (131, [.f]),
 (132, [.f]),
 (133, [.f]),
 (134, [.f]),
 (135, [.f]),
 (136, [.f]),
 (137, [.f]),
 (138, [.f]),
 (139, [.f]),
 (140, [.f]),
 (141, [.b, .i .i64, .i .i64, .l, .i .i64, .i .i64, .l]),
 (142, [.b, .i .i64, .i .i64, .l, .i .i64, .i .i64, .l]),
 (143, [.f]),
 (144, [.f]),
 (145, [.f]),
 (146, [.f]),
 (147, [.f]),
 (148, [.f]),
 (149, [.f]),
 (150, [.f]),
 (151, [.f]),
 (152, [.f]),
 (153, [.f]),
 (154, [.l]),
 (155, [.l]),
 (156, [.f]),
 (157, [.i .i64, .i .i64, .l, .i .i64, .i .i64, .l]),
 (158, [.l]),
 (160, [.l, .l, .i .i64, .i .i64, .i .i64, .b]),
 (161, [.l, .l, .i .i64, .i .i64, .i .i64, .b]),
 (162, [.f]),
 (163, [.b, .i .i64, .l, .l]),
 (164, [.b, .i .i64, .l, .l]),
 (165, [.l]),
 (166, [.f]),
 (167, [.f]),
 (168, [.f]),
 (169, [.f]),
 (170, [.f]),
 (171, [.f]),
 (172, [.f]),
 (173, [.f]),
 (174, [.f]),
 (175, [.f]),
 (176, [.f]),
 (177, [.f]),
 (178, [.f]),
 (179, [.f]),
 (180, [.f]),
 (181, [.f]),
 (182, [.f]),
 (183, [.f]),
 (184, [.f]),
 (185, [.f]),
 (186, [.f]),
 (187, [.l]),
 (188, [.f]),
 (189, [.f]),
 (190, [.f]),
 (191, [.f]),
 (192, [.f]),
 (193, [.f]),
 (194, [.f]),
 (195, [.f]),
 (196, [.f]),
 (197, [.f]),
 (199, [.l, .l, .i .i64]),
 (200, [.l, .l, .i .i64]),
 (201, [.i .i64, .l, .l]),
 (202, [.i .i64, .l, .l]),
 (203, [.l]),
 (204, [.f]),
 (205, [.f]),
 (206, [.f]),
 (207, [.f]),
 (208, [.f]),
 (209, [.f]),
 (210, [.f]),
 (211, [.f]),
 (212, [.f]),
 (213, [.f]),
 (214, [.f]),
 (215, [.f]),
 (216, [.f]),
 (217, [.i .i64, .i .i64]),
 (218, [.l]),
 (219, [.f]),
 (220, [.f]),
 (221, [.f]),
 (222, [.f]),
 (223, [.f]),
 (224, [.f]),
 (225, [.f]),
 (226, [.f]),
 (227, [.f]),
 (228, [.f]),
 (229, [.f]),
 (230, [.f]),
 (231, [.f]),
 (232, [.f]),
 (233, [.f]),
 (234, [.f]),
 (235, [.f]),
 (236, [.f]),
 (238, [.f]),
 (239, [.f]),
 (240, [.f]),
 (241, [.f]),
 (242, [.l]),
 (243, [.f]),
 (244, [.f]),
 (245, [.f]),
 (246, [.f]),
 (247, [.f]),
 (249, [.f]),
 (250, [.l]),
 (251, [.f]),
 (252, [.f]),
 (253, [.f]),
 (254, [.f]),
 (255, [.f]),
 (256, [.f]),
 (257, [.f]),
 (258, [.f]),
 (259, [.f]),
 (260, [.f]),
 (261, [.f]),
 (262, [.f]),
 (263, [.f]),
 (264, [.i .u64]),
 (265, [.f]),
 (266, [.f]),
 (267, [.f]),
 (273, [.f]),
 (274, [.i .u32]),
 (275, [.i .u8]),
 (276, [.i .u8]),
 (277, [.f]),
 (279, [.i .i32]),
 (280, [.i .i32])]
def sigs : List (Nat × RS) := [(2, .t []),
 (3, .c .b),
 (4, .c .b),
 (5, .c .b),
 (6, .c .b),
 (7, .c .b),
 (8, .c .b),
 (9, .c (.i .i64)),
 (10, .c (.i .i64)),
 (11, .t [.d [.i .i64, .i .i64, .l, .i .i64, .i .i64, .l], .c .b]),
 (12, .o 89 3),
 (13, .s [.o 85 7]),
 (14, .t [.s [.k (.i .i64), .k (.i .i64), .o 30 3, .k (.i .i64), .k (.i .i64), .o 30 3], .c .b]),
 (15, .c .b),
 (16, .c .b),
 (17, .c .b),
 (18, .c (.i .i64)),
 (19, .c (.i .i64)),
 (20, .c (.i .i64)),
 (21, .c (.i .i64)),
 (22, .c .b),
 (23, .c .b),
 (24, .c (.i .i64)),
 (25, .t [.d [.l], .c .b]),
 (26, .o 116 4),
 (27, .t [.s [.o 85 7], .c .b]),
 (28, .c .b),
 (29, .c (.i .i64)),
 (30, .c (.i .i64)),
 (31, .t [.d [.l], .c .b]),
 (32, .t [.s [.o 85 7], .c .b]),
 (33, .c (.i .i64)),
 (34, .c .b),
 (35, .o 39 1),
 (36, .c .b),
 (37, .c .b),
 (38, .c (.i .i64)),
 (39, .t [.d [.l], .c .b]),
 (40, .s [.k (.i .i64), .k (.i .i64), .k (.i .i64), .k (.i .i64), .k (.i .i64), .k .b, .k .b, .o 3 1, .k .b, .o 116 4, .o 85 7]),
 (41, .t [.s [.o 85 7], .c .b]),
 (42, .c .b),
 (43, .c (.i .i64)),
 (44, .c (.i .i64)),
 (45, .c (.i .i64)),
 (46, .c .b),
 (47, .t [.d [.i .i64, .i .i64, .l], .d [.i .i64, .i .i64, .l], .c .b]),
 (48, .c .b),
 (49, .d [.s, .i .i64, .b]),
 (50, .o 85 7),
 (51, .c .b),
 (52, .t [.s [.k (.i .i64), .k (.i .i64), .o 30 3], .s [.k (.i .i64), .k (.i .i64), .o 30 3], .c .b]),
 (53, .c .b),
 (54, .c .b),
 (55, .c .b),
 (56, .c .b),
 (57, .c .s),
 (58, .c (.i .i64)),
 (59, .c (.i .i64)),
 (60, .c (.i .i64)),
 (61, .c .b),
 (62, .c .b),
 (63, .c (.i .i64)),
 (64, .c .b),
 (65, .c .b),
 (66, .d [.b, .i .i64, .i .i64, .l, .i .i64, .i .i64, .l]),
 (67, .t [.d [.l], .c .b]),
 (68, .c .l),
 (69, .s [.k (.i .i64), .k (.i .i64), .k (.i .i64), .o 30 3]),
 (70, .c .b),
 (71, .c .b),
 (72, .s [.k .b, .k (.i .i64), .k (.i .i64), .o 30 3, .k (.i .i64), .k (.i .i64), .o 30 3]),
 (73, .t [.s [.o 85 7], .c .b]),
 (74, .c .l),
 (75, .c .b),
 (76, .c (.i .i64)),
 (77, .c (.i .i64)),
 (78, .c .b),
 (79, .d [.i .i64, .i .i64, .l]),
 (80, .c .b),
 (81, .s [.k (.i .i64), .k (.i .i64), .o 30 3]),
 (82, .c .b),
 (83, .c .b),
 (84, .c .b),
 (85, .c .b),
 (86, .c (.i .i64)),
 (87, .c .b),
 (88, .d [.l]),
 (89, .t [.d [.i .i64, .i .i64, .l], .d [.i .i64, .i .i64, .l], .c .b]),
 (90, .t [.d [.i .i64, .i .i64, .l], .d [.i .i64, .i .i64, .l]]),
 (91, .t [.d [.i .i64, .i .i64, .l], .c .b]),
 (92, .d [.b, .i .i64, .i .i64, .l, .i .i64, .i .i64, .l]),
 (93, .d [.i .i64, .i .i64, .l]),
 (94, .o 3 1),
 (95, .c .b),
 (96, .s [.o 85 7]),
 (97, .t [.d [.i .i64, .i .i64, .l], .d [.i .i64, .i .i64, .l]]),
 (98, .c .b),
 (99, .t [.s [.k (.i .i64), .k (.i .i64), .o 30 3], .c .b]),
 (100, .c .b),
 (101, .s [.k (.i .i64), .k (.i .i64), .o 30 3]),
 (102, .b 85 7),
 (103, .c .b),
 (104, .c (.i .i64)),
 (105, .c (.i .i64)),
 (106, .c .b),
 (107, .c .b),
 (108, .c .b),
 (109, .d [.i .i64, .i .i64, .l]),
 (110, .c .b),
 (111, .c .b),
 (112, .c .l),
 (113, .c (.i .i64)),
 (114, .s [.k .b, .k (.i .i64), .k (.i .i64), .o 30 3, .k (.i .i64), .k (.i .i64), .o 30 3]),
 (115, .c .b),
 (116, .c .b),
 (117, .s [.k (.i .i64), .k (.i .i64), .o 30 3]),
 (118, .c .b),
 (119, .o 3 1),
 (120, .c .b),
 (121, .c .b),
 (122, .c .b),
 (123, .c .b),
 (124, .c .b),
 (125, .c .b),
 (126, .c .b),
 (127, .c (.i .i64)),
 (128, .c .l),
 (129, .t []),
 (130, .c (.i .i64)),
 (131, .d [.l]),
 (132, .d [.l]),
 (133, .s [.k (.i .i64), .k (.i .i64), .o 30 3]),
 (134, .c .b),
 (135, .c (.i .i64)),
 (136, .s [.k .b, .k (.i .i64), .k (.i .i64), .o 30 3, .k (.i .i64), .k (.i .i64), .o 30 3]),
 (137, .s [.o 85 7]),
 (138, .s [.o 85 7]),
 (139, .o 85 7),
 (140, .b 85 7),
 (141, .d [.i .i64, .i .i64, .l]),
 (142, .d [.i .i64, .i .i64, .l]),
 (143, .c (.i .i64)),
 (144, .s [.k (.i .i64), .k (.i .i64), .o 30 3]),
 (145, .s [.k (.i .i64), .k (.i .i64), .o 30 3]),
 (146, .c .b),
 (147, .c .b),
 (148, .c (.i .i64)),
 (149, .c .l),
 (150, .d [.i .i64, .i .i64, .l]),
 (151, .c .b),
 (152, .d [.i .i64, .i .i64, .l]),
 (153, .d [.i .i64, .i .i64, .l]),
 (154, .c .b),
 (155, .d [.i .i64, .i .i64, .l]),
 (156, .o 3 1),
 (157, .c .b),
 (158, .s [.o 85 7]),
 (159, .c (.i .i64)),
 (160, .t [.s [.k (.i .i64), .k (.i .i64), .o 30 3, .k (.i .i64), .k (.i .i64), .o 30 3], .c .b]),
 (161, .c .b),
 (162, .d [.i .i64, .i .i64, .l]),
 (163, .o 85 7),
 (164, .c (.i .i64)),
 (165, .c .b),
 (166, .c .b),
 (167, .c (.i .i64)),
 (168, .c .b),
 (169, .c .l),
 (170, .c (.i .i64)),
 (171, .c .b),
 (172, .o 30 3),
 (173, .c (.i .i64)),
 (174, .c (.i .i64)),
 (175, .c .b),
 (176, .t []),
 (177, .t []),
 (178, .o 3 1),
 (179, .c .b),
 (180, .c (.i .i64)),
 (181, .c .b),
 (182, .c (.i .i64)),
 (183, .c .b),
 (184, .t []),
 (185, .c .b),
 (186, .c .b),
 (187, .c .b),
 (188, .c .b),
 (189, .o 116 4),
 (190, .t []),
 (191, .t []),
 (192, .c (.i .i64)),
 (193, .d [.i .i64, .i .i64, .l]),
 (194, .d [.l]),
 (195, .o 30 3),
 (196, .s [.o 85 7]),
 (197, .c (.i .i64)),
 (198, .c (.i .i64)),
 (199, .b 30 3),
 (200, .d [.i .i64, .i .i64, .l]),
 (201, .t []),
 (202, .s [.k (.i .i64), .k (.i .i64), .o 30 3]),
 (203, .c (.i .i64)),
 (204, .d [.i .i64, .i .i64, .l]),
 (205, .c .l),
 (206, .o 3 1),
 (207, .s [.k (.i .i64), .k (.i .i64), .o 30 3]),
 (208, .s [.k (.i .i64), .k (.i .i64), .o 30 3]),
 (209, .s [.k (.i .i64), .k (.i .i64), .e]),
 (210, .b 30 3),
 (211, .c .b),
 (212, .c (.i .i64)),
 (213, .c .l),
 (214, .t []),
 (215, .o 3 1),
 (216, .c .b),
 (217, .o 3 1),
 (218, .c .b),
 (219, .c (.i .i64)),
 (220, .t []),
 (221, .c .b),
 (222, .c .l),
 (223, .t []),
 (224, .c .b),
 (225, .c .l),
 (226, .c (.i .i64)),
 (227, .c .b),
 (228, .c .b),
 (229, .t []),
 (230, .b 164 4),
 (231, .c .l),
 (232, .t [.d [.i .i64, .i .i64, .l], .c .b]),
 (233, .t [.c .l, .c .b]),
 (234, .c .l),
 (235, .t []),
 (236, .o 85 7),
 (237, .t []),
 (238, .o 3 1),
 (239, .c .b),
 (241, .t []),
 (242, .c .b),
 (243, .c .b),
 (244, .c (.i .i64)),
 (245, .c .b),
 (246, .c .b),
 (247, .c (.i .i64)),
 (248, .t [.c .l, .c .l]),
 (249, .t [.c .l, .c .b]),
 (250, .c .l),
 (251, .o 164 4),
 (252, .o 30 3),
 (253, .c (.i .i64)),
 (254, .c .b),
 (255, .c (.i .i64)),
 (256, .c .b),
 (257, .o 116 4),
 (258, .b 116 4),
 (259, .t []),
 (260, .t []),
 (261, .t []),
 (262, .t []),
 (263, .c (.i .i64)),
 (265, .t []),
 (266, .t []),
 (267, .t []),
 (268, .t []),
 (269, .t []),
 (270, .t []),
 (271, .t []),
 (272, .t []),
 (273, .t []),
 (274, .t [])]
def fnsB : List Nat := [2, 3, 4, 5, 6, 7, 8, 9, 10, 11, 12, 13, 14, 15, 16, 17, 18, 19, 20, 21, 22, 23, 24, 25, 26, 27, 28, 29, 30, 31, 32, 33, 34, 35, 36, 37, 38, 39, 40, 41, 42, 43, 44, 45, 46, 47, 48, 49, 50, 51, 52, 53, 54, 55, 56, 57, 58, 59, 60, 61, 62, 63, 64, 65, 66, 67, 68, 69, 70, 71, 72, 73, 74, 75, 76, 77, 78, 79, 80, 81, 82, 83, 84, 85, 86, 87, 88, 89, 90, 91, 92, 93, 94, 95, 96, 97, 98, 99, 100, 101, 102, 103, 104, 105, 106, 107, 108, 109, 110, 111, 112, 113, 114, 115, 116, 117, 118, 119, 120, 121, 122, 123, 124, 125, 126, 127, 128, 129, 130, 131, 132, 133, 134, 135, 136, 137, 138, 139, 140, 141, 142, 143, 144, 145, 146, 147, 148, 149, 150, 151, 152, 153, 154, 155, 156, 157, 158, 159, 160, 161, 162, 163, 164, 165, 166, 167, 168, 169, 170, 171, 172, 173, 174, 175, 176, 177, 178, 179, 180, 181, 182, 183, 184, 185, 186, 187, 188, 189, 190, 191, 192, 193, 194, 195, 196, 197, 198, 199, 200, 201, 202, 203, 204, 205, 206, 207, 208, 209, 210, 211, 212, 213, 214, 215, 216, 217, 218, 219, 220, 221, 222, 223, 224, 225, 226, 227, 228, 229, 230, 231, 232, 233, 234, 235, 236, 237, 238, 239, 241, 242, 243, 244, 245, 246, 247, 248, 249, 250, 251, 252, 253, 254, 255, 256, 257, 258, 259, 260, 261, 262, 263, 265, 266, 267, 268, 269, 270, 271, 272, 273, 274]
def objB : List Nat := [18, 19, 20, 29, 43, 57, 58, 59, 76, 104, 201, 235, 237, 259, 260, 261, 266, 267, 268, 269, 271, 272, 273, 274]
def extB : List Nat := []
def eqtB : List (Nat × List CK) := [(81, [.s, .i .i64, .b]), (89, [.s, .i .i64, .b])]
def tknB : List (Nat × Nat) := [(139, 0), (163, 0), (217, 0), (236, 0), (238, 0), (251, 0), (252, 0), (257, 0)]
def ovlB : List Nat := [240, 264]
def cksA : List (Nat × List CK) := [(1, [.f]),
 (2, [.i .i64]),
 (3, [.i .i64]),
 (4, [.b]),
 (5, [.i .u8]),
 (6, [.i .u8]),
 (7, [.i .i64, .i .i64, .b, .i .u8]),
 (8, [.i .i64, .i .i64, .b, .i .u8]),
 (9, [.s]),
 (10, [.s]),
 (11, [.s]),
 (12, [.i .u64]),
 (13, [.s, .i .u64]),
 (14, [.s, .i .u64]),
 (21, [.i .i32]),
 (22, [.a]),
 (23, [.a]),
 (24, [.a]),
 (25, [.a]),
 (26, [.f]),
 (27, [.f]),
 (28, [.a]),
 (29, [.i .i64, .i .i64, .a]),
 (30, [.i .i64, .i .i64, .a]),
 (31, [.i .i64, .i .i64, .a, .i .i64, .i .i64, .a]),
 (32, [.i .i64, .i .i64, .a, .i .i64, .i .i64, .a]),
 (34, [.f]),
 (35, [.a]),
 (36, [.f]),
 (37, [.a]),
 (38, [.a]),
 (39, [.a]),
 (40, [.f]),
 (41, [.f]),
 (42, [.f]),
 (43, [.f]),
 (44, [.f]),
 (45, [.f]),
 (46, [.f]),
 (47, [.f]),
 (48, [.f]),
 (49, [.f]),
 (50, [.a]),
 (51, [.f]),
 (53, [.f]),
 (54, [.a]),
 (55, [.f]),
 (56, [.f]),
 (57, [.f]),
 (58, [.f]),
 (59, [.f]),
 (60, [.f]),
 (61, [.a]),
 (62, [.f]),
 (63, [.f]),
 (64, [.a]),
 (65, [.f]),
 (66, [.f]),
 (67, [.f]),
 (68, [.a]),
 (69, [.i .i64, .i .i64, .i .i64, .i .i64, .i .i64, .b, .b, .a, .b, .a, .a]),
 (70, [.i .i64, .i .i64, .i .i64, .i .i64, .i .i64, .b, .b, .a, .b, .a, .a]),
 (71, [.f]),
 (72, [.f]),
 (73, [.i .i64, .i .i64, .i .i64, .i .i64, .i .i64, .b, .b, .a, .b, .a, .a]),
 (74, [.i .i64, .i .i64, .i .i64, .i .i64, .i .i64, .b, .b, .a, .b, .a, .a]),
 (75, [.f]),
 (76, [.f]),
 (77, [.f]),
 (78, [.f]),
 (79, [.f]),
 (80, [.s, .i .i64, .b]),
 (81, [.s, .i .i64, .b]),
 (82, [.f]),
 (83, [.f]),
 (84, [.b, .i .i64, .i .i64, .a, .i .i64, .i .i64, .a]),
 (85, [.b, .i .i64, .i .i64, .a, .i .i64, .i .i64, .a]),
 (87, [.f]),
 (88, [.f]),
 (89, [.s, .i .i64, .b]),
 (90, [.f]),
 (91, [.f]),
 (92, [.f]),
 (93, [.f]),
 (94, [.f]),
 (95, [.f]),
 (96, [.f]),
 (97, [.f]),
 (99, [.a, .a, .a, .i .i64]),
 (100, [.a, .a, .a, .i .i64]),
 (101, [.f]),
 (102, [.f]),
 (104, [.f]),
 (105, [.a]),
 (106, [.i .i64, .i .i64, .a]),
 (107, [.i .i64, .i .i64, .a]),
 (108, [.i .i64, .i .i64, .i .i64, .a]),
 (109, [.i .i64, .i .i64, .i .i64, .a]),
 (110, [.f]),
 (111, [.f]),
 (112, [.f]),
 (113, [.f]),
 (114, [.f]),
 (115, [.i .i64, .i .i64, .i .i64, .a]),
 (116, [.i .i64, .i .i64, .i .i64, .a]),
 (117, [.f]),
 (118, [.f]),
 (119, [.f]),
 (120, [.f]),
 (121, [.f]),
 (122, [.f]),
 (123, [.f]),
 (124, [.f]),
 (125, [.f]),
 (126, [.f]),
 (127, [.f]),
 (129, [.f]),
 (131, [.f]),
 (132, [.f]),
 (133, [.f]),
 (134, [.f]),
 (135, [.f]),
 (136, [.f]),
 (137, [.f]),
 (138, [.f]),
 (139, [.f]),
 (140, [.f]),
 (141, [.b, .i .i64, .i .i64, .a, .i .i64, .i .i64, .a]),
 (142, [.b, .i .i64, .i .i64, .a, .i .i64, .i .i64, .a]),
 (143, [.f]),
 (144, [.f]),
 (145, [.f]),
 (146, [.f]),
 (147, [.f]),
 (148, [.f]),
 (149, [.f]),
 (150, [.f]),
 (151, [.f]),
 (152, [.f]),
 (153, [.f]),
 (154, [.a]),
 (155, [.a]),
 (156, [.f]),
 (157, [.i .i64, .i .i64, .a, .i .i64, .i .i64, .a]),
 (158, [.a]),
 (160, [.a, .a, .i .i64, .i .i64, .i .i64, .b]),
 (161, [.a, .a, .i .i64, .i .i64, .i .i64, .b]),
 (162, [.f]),
 (163, [.b, .i .i64, .a, .a]),
 (164, [.b, .i .i64, .a, .a]),
 (165, [.a]),
 (166, [.f]),
 (167, [.f]),
 (168, [.f]),
 (169, [.f]),
 (170, [.f]),
 (171, [.f]),
 (172, [.f]),
 (173, [.f]),
 (174, [.f]),
 (175, [.f]),
 (176, [.f]),
 (177, [.f]),
 (178, [.f]),
 (179, [.f]),
 (180, [.f]),
 (181, [.f]),
 (182, [.f]),
 (183, [.f]),
 (184, [.f]),
 (185, [.f]),
 (186, [.f]),
 (187, [.a]),
 (188, [.f]),
 (189, [.f]),
 (190, [.f]),
 (191, [.f]),
 (192, [.f]),
 (193, [.f]),
 (194, [.f]),
 (195, [.f]),
 (196, [.f]),
 (197, [.f]),
 (199, [.a, .a, .i .i64]),
 (200, [.a, .a, .i .i64]),
 (201, [.i .i64, .a, .a]),
 (202, [.i .i64, .a, .a]),
 (203, [.a]),
 (204, [.f]),
 (205, [.f]),
 (206, [.f]),
 (207, [.f]),
 (208, [.f]),
 (209, [.f]),
 (210, [.f]),
 (211, [.f]),
 (212, [.f]),
 (213, [.f]),
 (214, [.f]),
 (215, [.f]),
 (216, [.f]),
 (217, [.i .i64, .i .i64]),
 (218, [.a]),
 (219, [.f]),
 (220, [.f]),
 (221, [.f]),
 (222, [.f]),
 (223, [.f]),
 (224, [.f]),
 (225, [.f]),
 (226, [.f]),
 (227, [.f]),
 (228, [.f]),
 (229, [.f]),
 (230, [.f]),
 (231, [.f]),
 (232, [.f]),
 (233, [.f]),
 (234, [.f]),
 (235, [.f]),
 (236, [.f]),
 (238, [.f]),
 (239, [.f]),
 (240, [.f]),
 (241, [.f]),
 (242, [.a]),
 (243, [.f]),
 (244, [.f]),
 (245, [.f]),
 (246, [.f]),
 (247, [.f]),
 (249, [.f]),
 (250, [.a]),
 (251, [.f]),
 (252, [.f]),
 (253, [.f]),
 (254, [.f]),
 (255, [.f]),
 (256, [.f]),
 (257, [.f]),
 (258, [.f]),
 (259, [.f]),
 (260, [.f]),
 (261, [.f]),
 (262, [.f]),
 (263, [.f]),
 (264, [.i .u64]),
 (265, [.f]),
 (266, [.f]),
 (267, [.f]),
 (273, [.f]),
 (274, [.i .u32]),
 (275, [.i .u8]),
 (276, [.i .u8]),
 (277, [.f]),
 (279, [.i .i32]),
 (280, [.i .i32])]
def env : Env := ⟨tab, zer, cks, sigs, fnsB, objB, extB, eqtB, false, [], [], tknB, ovlB⟩
def c6q : Env := { env with cks := cksA }
def envL : Env := { env with lw := true }
theorem envOk : EnvOk pg env := ⟨ah4q, zerOk.spec, by kernel_rfl, by simp [env, extB], by kernel_rfl, by
 intro f hf
 simp only [env, ovlB, List.mem_cons, List.not_mem_nil, or_false] at hf
 rcases hf with rfl | rfl
 ·exact ⟨_, 68, 4, 3, 1, Tryz.func240, by kernel_rfl, by kernel_rfl, by kernel_rfl, by kernel_rfl, by kernel_rfl, by kernel_rfl⟩
 ·exact ⟨_, 54, 4, 116, 4, Tryz.func264, by kernel_rfl, by kernel_rfl, by kernel_rfl, by kernel_rfl, by kernel_rfl, by kernel_rfl⟩⟩
theorem agzq : EnvOk pg envL := ⟨envOk.tab, envOk.zer, envOk.fns, envOk.ext, envOk.eqt, envOk.ovl⟩
theorem f9q : EnvOk pg c6q := ⟨envOk.tab, envOk.zer, envOk.fns, envOk.ext, envOk.eqt, envOk.ovl⟩
end AM
end Go.Proofs.YtajcoogpmockiaaGreat
