/- Results, and a function's contract by what its text asks; no conditions. -/
import Derived.Test.YtfcmmpmdofejeaaEv6
set_option linter.unusedSimpArgs false
set_option linter.unusedVariables false
namespace Go.Proofs.Ytfcmmpmdofejeaa
namespace AM
open Go

def resOne (E : Env) (s : St) : ResultVar → Option AV
  | .tmp t => s.get t
  | .cell t ty => match s.get t, look E.tab ty with
    | some (.one (.op k 0)), some i => match s.gob k with
      | some (.var cs) => if i.agg = true ∧ cs.length = i.n then some (mkAgg cs) else none
      | _ => none
    | _, _ => none
def resTmps (E : Env) (s : St) : List ResultVar → Option (List AV)
  | [] => some []
  | v :: r => match resOne E s v, resTmps E s r with
    | some x, some xs => some (x :: xs)
    | _, _ => none
def resAV (E : Env) (s : St) : List ResultVar → Option AV
  | [v] => resOne E s v
  | rs => (resTmps E s rs).map .tup
/-- One result, read. -/
def getRes (tmps : Array Value) : ResultVar → Sem Value
  | .tmp t => pure (tmps.getD t undef)
  | .cell a t => do loadVar t (← asAddr (tmps.getD a undef))
theorem results_run {fn : Func} {tmps : Array Value} : results fn tmps = (do
  let vs ← fn.results.mapM (getRes tmps)
  pure (if h : vs.size = 1 then vs[0] else .tuple vs)) := rfl
theorem resOne_run {P : Program} {E : Env} (hE : EnvOk P E) {s : St} {v : ResultVar} {y : AV} (h : resOne E s v = some y) {Γ : Cx} {a : Act} {w : World} {S : Nat → Prop} {β : Nat → OLoc} (hs : Sim Γ s a w S β) : ∃ u, (getRes a.tmps v).run P w = .ok u w ∧ RepV w S β y u := by
  cases v with
  | tmp t =>
    obtain ⟨u, hu, hr⟩ := hs.tm t y h
    exact ⟨u, by simp [getRes, Array.getD_eq_getD_getElem?, hu], hr⟩
  | cell t ty =>
    simp only [resOne] at h
    split at h
    · rename_i k i ht hi
      split at h
      · rename_i cs hk
        split at h
        · rename_i hc
          obtain ⟨d1, j1, hd1, hj1, a1, a2, a3, a4, a5, a6, a7⟩ := tiOf_some (hE.tab ty i hi)
          simp at h; subst h
          obtain ⟨v, hv, hrep⟩ := hs.tm t _ ht
          cases hrep.one_inv
          obtain ⟨hh, ar, E', hg, hrp⟩ := hs.mem.ob k _ hk
          have hlen := hrp.len
          simp only [Array.length_toList] at hlen
          refine ⟨.agg ar, ?_, ?_⟩
          · have hld := run_loadCells_list (P := P) w ⟨(β k).blk, 0, none⟩ ar.toList (fun q u hu => by
              rw [add_lit, cell_of_cells hg, ← Array.getElem?_toList, Nat.zero_add]; exact hu)
            simp only [Array.length_toList] at hld
            have hl := hc.2.trans a2.symm
            have hsz : ar.size = j1.size := by omega
            rw [hsz] at hld
            simp [getRes, hv, asAddr, loadVar, run_isAgg hd1, a1.trans hc.1, sizeOf, typeInfo, hj1, hld]
          · have h2 := hrp.mk
            simp only [Array.toArray_toList] at h2
            exact h2
        · simp at h
      · simp at h
    · simp at h
theorem resTmps_run {P : Program} {E : Env} (hE : EnvOk P E) {s : St} {Γ : Cx} {a : Act} {w : World} {S : Nat → Prop} {β : Nat → OLoc} (hs : Sim Γ s a w S β) : ∀ {rs : List ResultVar} {xs : List AV}, resTmps E s rs = some xs → ∃ us, (rs.mapM (getRes a.tmps)).run P w = .ok us w ∧ RepVs w S β xs us ∧ us.length = rs.length
  | [], xs, h => by simp [resTmps] at h; subst h; exact ⟨[], by simp, .nil, rfl⟩
  | v :: r, xs, h => by
    simp only [resTmps] at h
    split at h
    · rename_i x ys h1 h2
      simp at h; subst h
      obtain ⟨u, hu, hr⟩ := resOne_run hE h1 hs
      obtain ⟨us, hus, hrs, hl⟩ := resTmps_run hE hs h2
      refine ⟨u :: us, ?_, RepVs.cons hr hrs, by simp [hl]⟩
      simp only [List.mapM_cons, Sem.run_bind, hu, hus, Result.andThen_ok, Sem.run_pure]
    · simp at h
theorem resAV_ok {P : Program} {E : Env} (hE : EnvOk P E) {fn : Func} {s : St} {rs : List ResultVar} {y : AV} (hr : fn.results = rs.toArray) (h : resAV E s rs = some y) : ResOk P fn s y := by
  intro Γ a w S β hs
  unfold resAV at h
  split at h
  · rename_i v
    obtain ⟨u, hu, hrep⟩ := resOne_run hE h hs
    refine ⟨u, ?_, hrep⟩
    rw [results_run, hr, List.mapM_toArray]
    simp only [List.mapM_cons, List.mapM_nil, map_bind, map_pure, Sem.run_bind, hu, Result.andThen_ok, Sem.run_pure]
    simp
  · rename_i hne
    cases hx : resTmps E s rs with
    | none => rw [hx] at h; simp at h
    | some xs =>
      rw [hx] at h
      simp at h; subst h
      obtain ⟨us, hus, hrs, hl⟩ := resTmps_run hE hs hx
      refine ⟨.tuple us.toArray, ?_, RepVs.tup hrs .nil⟩
      have hl1 : us.toArray.size ≠ 1 := by
        intro h1
        simp only [List.size_toArray] at h1
        rw [hl] at h1
        match rs, h1 with
        | [v], _ => exact hne v rfl
      rw [results_run, hr, List.mapM_toArray]
      have e1 : ((List.toArray <$> rs.mapM (getRes a.tmps)) : Sem (Array Value)).run P w = .ok us.toArray w := by
        rw [map_eq_pure_bind, Sem.run_bind, hus]
        simp only [Result.andThen_ok, Sem.run_pure, Function.comp]
      rw [Sem.run_bind, e1]
      simp only [Result.andThen_ok, Sem.run_pure]
      rw [dif_neg hl1]

def AV.normR : AV → AV
  | .tup ys => .tup (ys.map AV.norm)
  | x => x.norm
theorem RepV.normR {w : World} {S : Nat → Prop} {β : Nat → OLoc} {x : AV} {v : Value} (h : RepV w S β x v) : RepV w S β x.normR v := by
  unfold AV.normR
  split
  · obtain ⟨us, hv, h2⟩ := h.tup_inv
    rw [hv]; exact RepVs.tup h2.norm .nil
  · exact h.norm
theorem ResOk.normR {P : Program} {fn : Func} {s : St} {r : AV} (h : ResOk P fn s r) : ResOk P fn s r.normR := by
  intro Γ a w S β hs
  obtain ⟨v, h1, h2⟩ := h Γ a w S β hs
  exact ⟨v, h1, h2.normR⟩

def fzOfK : List RK → List At → List Nat
  | .k _ :: ks, x :: xs => x.ids ++ fzOfK ks xs
  | .o _ _ :: ks, _ :: xs => fzOfK ks xs
  | .e :: ks, _ :: xs => fzOfK ks xs
  | _, _ => []
mutual
/-- Lists of a result that are told as data. -/
def fzOf : RS → AV → List Nat
  | .c _, .one x => x.ids
  | .d _, .agg xs => AV.idsL xs
  | .s ks, .agg xs => fzOfK ks xs
  | .t rs, .tup ys => fzOfL rs ys
  | _, _ => []
def fzOfL : List RS → List AV → List Nat
  | r :: rs, y :: ys => fzOf r y ++ fzOfL rs ys
  | _, _ => []
end
def nlOf (s : St) : List ResultVar → List RS → List (Nat × Nat × Nat)
  | .tmp t :: r, .o e es :: rs => (t, e, es) :: nlOf s r rs
  | .tmp t :: r, .b e es :: rs => (t, e, es) :: nlOf s r rs
  | _ :: r, _ :: rs => nlOf s r rs
  | _, _ => []
def naOfK (t : Nat) : List RK → Nat → List (Nat × Nat × Nat × Nat)
  | [], _ => []
  | .k _ :: ks, q => naOfK t ks (q + 1)
  | .o e es :: ks, q => (t, q, e, es) :: naOfK t ks (q + 1)
  | .e :: ks, q => naOfK t ks (q + 1)
def naOf : List ResultVar → List RS → List (Nat × Nat × Nat × Nat)
  | .tmp t :: r, .s ks :: rs => naOfK t ks 0 ++ naOf r rs
  | _ :: r, _ :: rs => naOf r rs
  | _, _ => []
def ncOf : List ResultVar → List RS → List (Nat × Nat × Nat × Nat)
  | .cell t _ :: r, .s ks :: rs => naOfK t ks 0 ++ ncOf r rs
  | _ :: r, _ :: rs => ncOf r rs
  | _, _ => []
def dgOf : List ResultVar → List RS → List Nat
  | .tmp t :: r, .b _ _ :: rs => t :: dgOf r rs
  | _ :: r, _ :: rs => dgOf r rs
  | _, _ => []
def rsL : RS → List RS
  | .t rs => rs
  | r => [r]
def resSlots : List ResultVar → List Nat
  | [] => []
  | .tmp t :: r => t :: resSlots r
  | .cell t _ :: r => t :: resSlots r
def isVar : Ob → Bool
  | .var _ => true
  | _ => false
def keysNd : List (Nat × Ob) → Bool
  | [] => true
  | (k, _) :: r => !(r.map (·.1)).contains k && keysNd r
theorem keysNd_look {k : Nat} {X : Ob} : ∀ {l : List (Nat × Ob)}, keysNd l = true → (k, X) ∈ l → look l k = some X
  | [], _, h => by simp at h
  | (j, Y) :: r, hn, h => by
    simp only [keysNd, Bool.and_eq_true, Bool.not_eq_true', List.contains_eq_mem, decide_eq_false_iff_not] at hn
    rcases List.mem_cons.1 h with h | h
    · cases h; simp [look]
    · have : j ≠ k := by
        rintro rfl
        exact hn.1 (List.mem_map.2 ⟨_, h, rfl⟩)
      simp only [look]
      rw [if_neg (by simpa using this)]
      exact keysNd_look hn.2 h
theorem usOk_of {s : St} : ∀ {O : List (Nat × Ob)}, (∀ p ∈ O, s.gob p.1 = some p.2) → usOk s O
  | [], _ => trivial
  | (k, X) :: r, h => ⟨h (k, X) (by simp), usOk_of fun p hp => h p (by simp [hp])⟩

def varIds (s : St) : List Nat → List Nat
  | [] => []
  | k :: r => match s.gob k with
    | some (.var cs) => AV.idsL cs ++ varIds s r
    | _ => varIds s r
def cellIds (s : St) : List ResultVar → List Nat
  | [] => []
  | .tmp _ :: r => cellIds s r
  | .cell t _ :: r => match s.get t with
    | some (.one (.op k _)) => k :: cellIds s r
    | _ => cellIds s r
def okIdsK (ks : List (Nat × Bool)) (O : List (Nat × Ob)) (mv : List Nat) (r : AV) : Bool :=
  (r.ids ++ (O.map fun p => p.1 :: p.2.ids).flatten).all fun o => mv.contains o || (decide (2000 ≤ o) && ks.any (·.1 == o))
theorem okIdsK_of {ks : List (Nat × Bool)} {I O : List (Nat × Ob)} {mv : List Nat} {r : AV} (hk : I.map (fun p => (p.1, isVar p.2)) = ks) (h : okIdsK ks O mv r = true) : okIds I O mv r = true := by
  subst hk
  unfold okIds
  unfold okIdsK at h
  simpa [List.any_map, Function.comp_def] using h
def degrL (s : St) (ts : List Nat) : St := degrAll s (slotIds s ts)
def hasE : RS → Bool
  | .s ks => ks.any fun k => match k with
    | .e => true
    | _ => false
  | _ => false
/-- A result as it is told; nil slices are told as such where the shape says so. -/
def nrR (rs : RS) (y : AV) : AV := match hasE rs with
  | true => y
  | false => y.normR
theorem ResOk.nrR {P : Program} {fn : Func} {s : St} {r : AV} (h : ResOk P fn s r) (rs : RS) : ResOk P fn s (nrR rs r) := by
  unfold AM.nrR
  split
  · exact h
  · exact h.normR
/-- What is asked where a function returns. -/
def vRet (E : Env) (res : List ResultVar) (rs : RS) (ks : List (Nat × Bool)) (dir : List Nat) (r : AV) (O : List (Nat × Ob)) (s : St) : Prop :=
  opt (Stop 1 0) (resAV E s res) fun y0 =>
    let s1 := frzAll s (fzOf rs y0)
    let s2 := degrL (nilCells (nilAggs (nilAll s1 (nlOf s1 res (rsL rs))) (naOf res (rsL rs))) (ncOf res (rsL rs))) (dgOf res (rsL rs))
    opt (Stop 1 1) (resAV E s2 res) fun y1 =>
      let fix := (ks.filter fun p => p.2 || dir.contains p.1).map (·.1)
      let ids := (addAll fix (y1.ids ++ varIds s2 fix)).drop fix.length
      let l := fix.map (fun k => (k, k)) ++ (numIds 0 ids ++ numIds 1300 ((cellIds s2 res).filter fun k => !(fix ++ ids).contains k))
      let s3 := s2.ren l (resSlots res)
      let ob := s3.ob.filter fun p => !(decide (1300 ≤ p.1) && decide (p.1 < 2000))
      chk (Stop 1 2) (renGood l) <| opt (Stop 1 3) (resAV E s3 res) fun y2 =>
        chk (Stop 1 4) (okIdsK ks ob (mvOf ob) (nrR rs y2) && keysNd s3.ob) (nrR rs y2 = r ∧ ob = O)
theorem vRet_sound {P : Program} {E : Env} (hE : EnvOk P E) {fn : Func} {res : List ResultVar} {rs : RS} {I : List (Nat × Ob)} {ks : List (Nat × Bool)} {dir : List Nat} {r : AV} {O : List (Nat × Ob)} {s : St} (hks : I.map (fun p => (p.1, isVar p.2)) = ks) (hr : fn.results = res.toArray) (h : vRet E res rs ks dir r O s) : RetX P fn s r I O (mvOf O) := by
  obtain ⟨y0, _, h⟩ := opt_inv no_stop h
  obtain ⟨y1, _, h⟩ := opt_inv no_stop h
  obtain ⟨hg, h⟩ := chk_inv no_stop h
  obtain ⟨y2, h2, h⟩ := opt_inv no_stop h
  obtain ⟨h3, h4, h5⟩ := chk_inv no_stop h
  simp only [Bool.and_eq_true] at h3
  have hok := (resAV_ok hE hr h2).nrR rs
  rw [h4] at hok
  rw [h4, h5] at h3
  have key := retX_ok (O := O) hok (usOk_of fun p hp => ?_) (okIdsK_of hks h3.1)
  · exact retX_to To.frzAll (retX_to To.nilAll (retX_to To.nilAggs (retX_to To.nilCells (retX_to To.degrAll (retX_to (To.ren hg) key)))))
  · rw [← h5] at hp
    exact keysNd_look h3.2 (List.mem_filter.1 hp).1

/-- Parts that are results become lists. -/
def shutAll (z : Prop) (s : St) : List Nat → (St → Prop) → Prop
  | [], k => k s
  | t :: r, k => match s.get t with
    | some (.one (.ps q es lo n)) => opt z (s.gob q) fun X => opt z (asP X) fun p => chk z (decide (lo = 0) && decide (p.2.2.1 = es) && decide (q < 2000)) (Do (n ≤ p.2.2.2.length) ∧ shutAll z (s.appd (some t) q [] (.lst p.2.1 es (p.2.2.2.take n))) r k)
    | _ => shutAll z s r k
theorem shutAll_inv {z : Prop} (hz : ¬ z) : ∀ {l : List Nat} {s : St} {k : St → Prop}, shutAll z s l k → ∃ s', To s s' ∧ k s'
  | [], s, k, h => ⟨s, To.refl s, h⟩
  | t :: r, s, k, h => by
    simp only [shutAll] at h
    split at h
    · rename_i q es lo n ht
      obtain ⟨X, hX, h⟩ := opt_inv hz h
      obtain ⟨p, hp, h⟩ := opt_inv hz h
      have hp := asP_inv hp
      obtain ⟨hl, h1, h⟩ := chk_inv hz h
      simp only [Bool.and_eq_true, decide_eq_true_eq] at hl
      obtain ⟨⟨h2, h3⟩, h4⟩ := hl
      obtain ⟨s', h5, h⟩ := shutAll_inv hz h
      refine ⟨s', To.trans (fun Γ a w S β hs => ?_) h5, h⟩
      rw [hp, h3] at hX
      rw [h2] at ht
      obtain ⟨β', h6⟩ := sim_shut hs hX h4 ht h1.h
      exact ⟨S, β', h6⟩
    · exact shutAll_inv hz h
def vRetT (E : Env) (res : List ResultVar) (rs : RS) (ks : List (Nat × Bool)) (dir : List Nat) (r : AV) (O : List (Nat × Ob)) (s : St) : Prop :=
  shutAll (Stop 1 5) s (resSlots res) fun s' => vRet E res rs ks dir r O s'
theorem vRetT_sound {P : Program} {E : Env} (hE : EnvOk P E) {fn : Func} {res : List ResultVar} {rs : RS} {I : List (Nat × Ob)} {ks : List (Nat × Bool)} {dir : List Nat} {r : AV} {O : List (Nat × Ob)} {s : St} (hks : I.map (fun p => (p.1, isVar p.2)) = ks) (hr : fn.results = res.toArray) (h : vRetT E res rs ks dir r O s) : RetX P fn s r I O (mvOf O) := by
  obtain ⟨s', h1, h⟩ := shutAll_inv no_stop h
  exact retX_to h1 (vRet_sound hE hks hr h)
/-- Lists are opened. -/
def openAll (z : Prop) : List Nat → St → (St → Prop) → Prop
  | [], s, k => k s
  | q :: r, s, k => opt z (s.gob q) fun X => match X with
    | .lst E es xs => ∀ c : Nat, xs.length ≤ c → c ≤ maxLen → openAll z r (s.mv (openAt q es xs.length) q [] (.fu E es xs c)) k
    | _ => z
/-- What a call that takes lists begins in. -/
def takeIn (l : List (Nat × Nat)) (n : Nat) (s : St) : St := s.ren l (List.range n)
def bodyOf (fn : Func) : Code := fn.body.getD .skip
def retKE (R : St → Prop) : Exit → St → Prop
  | .ret, s => R s
  | _, _ => Stop 2 0
/-- A function by what its text asks. -/
theorem xc_of {P : Program} {E : Env} {hs : Hints} (hE : EnvOk P E) (hm : P.follows .mixedOrders = true) {f : FuncId} {fn : Func} {c : Code} {xs : List AV} {I : List (Nat × Ob)} {r : AV} {O : List (Nat × Ob)} {n : Nat} {res : List ResultVar} {rs : RS} {ks : List (Nat × Bool)} {dir : List Nat} (hks : I.map (fun p => (p.1, isVar p.2)) = ks) (hf : P.funcs[f]? = some fn) (hb : fn.body = some c) (hn : fn.ntmps = n) (hl : Nat.ble xs.length n = true) (hr : fn.results = res.toArray)
    (h : vC P E hs n c ⟨St.enter 0 xs, I⟩ (vRet E res rs ks dir r O) (retKE (vRet E res rs ks dir r O))) : XC P f xs I r O := by
  refine ⟨xcall_W hf hb n hn (Nat.le_of_ble_eq_true hl) fun w0 S0 β0 => ?_⟩
  refine W_mono (vC_sound hE hm c h _ rfl) (fun s h => vRet_sound hE hks hr h) fun e s h => ?_
  cases e with
  | ret => exact vRet_sound hE hks hr h
  | _ => exact absurd h no_stop

theorem openAll_W {z : Prop} (hz : ¬ z) {Γ : Cx} {P : Program} {c : Code} {N : St → Prop} {Ex : Exit → St → Prop} : ∀ {l : List Nat} {s : St}, openAll z l s (fun s => W Γ P c N Ex s) → W Γ P c N Ex s
  | [], s, h => h
  | q :: r, s, h => by
    obtain ⟨X, hX, h⟩ := opt_inv hz h
    split at h
    · rename_i E es xs
      intro a w S β hs
      obtain ⟨c0, h1, h2, hs'⟩ := sim_open hs hX
      exact openAll_W hz (h c0 h1 h2) a w S β hs'
    · exact absurd h hz
theorem openAll_mono {z : Prop} {p q : St → Prop} (hpq : ∀ s, p s → q s) : ∀ {l : List Nat} {s : St}, openAll z l s p → openAll z l s q
  | [], s, h => hpq s h
  | k :: r, s, h => by
    unfold openAll at *
    cases hX : s.gob k with
    | none => rw [hX] at h; exact h
    | some X =>
      rw [hX] at h
      cases X with
      | lst E es xs => exact fun c h1 h2 => openAll_mono hpq (h c h1 h2)
      | _ => exact h
/-- A function that takes lists, by what its text asks. -/
theorem xc_tk {P : Program} {E : Env} {hs : Hints} (hE : EnvOk P E) (hm : P.follows .mixedOrders = true) {f : FuncId} {fn : Func} {c : Code} {xs : List AV} {I : List (Nat × Ob)} {r : AV} {O : List (Nat × Ob)} {n : Nat} {res : List ResultVar} {rs : RS} {ks : List (Nat × Bool)} {dir : List Nat} (l : List (Nat × Nat)) (op : List Nat) (hl2 : renGood l = true) (hks : I.map (fun p => (p.1, isVar p.2)) = ks) (hf : P.funcs[f]? = some fn) (hb : fn.body = some c) (hn : fn.ntmps = n) (hl : Nat.ble xs.length n = true) (hr : fn.results = res.toArray)
    (h : openAll (Stop 1 6) op (takeIn l xs.length ⟨St.enter 0 xs, I⟩) fun s => vC P E hs n c s (vRetT E res rs ks dir r O) (retKE (vRetT E res rs ks dir r O))) : XC P f xs I r O := by
  refine ⟨xcall_W hf hb n hn (Nat.le_of_ble_eq_true hl) fun w0 S0 β0 => ?_⟩
  refine W_to (To.ren hl2) (openAll_W no_stop (openAll_mono (fun s h => ?_) h))
  refine W_mono (vC_sound hE hm c h _ rfl) (fun s h => vRetT_sound hE hks hr h) fun e s h => ?_
  cases e with
  | ret => exact vRetT_sound hE hks hr h
  | _ => exact absurd h no_stop
/-- A part of a text, and what stands behind it. -/
def subC : Code → List Nat → Code
  | c, [] => c
  | .seq a b, 0 :: p => subC a p
  | .seq a b, _ :: p => subC b p
  | .cond _ a b, 0 :: p => subC a p
  | .cond _ a b, _ :: p => subC b p
  | .block _ c, _ :: p => subC c p
  | .loop c, _ :: p => subC c p
  | c, _ => c
def kont (P : Program) (E : Env) (hs : Hints) (n : Nat) : Code → List Nat → (St → Prop) → (Exit → St → Prop) → (St → Prop) × (Exit → St → Prop)
  | .seq a b, 0 :: p, kn, ke => kont P E hs n a p (fun s' => match look hs.joins (firstReg b) with
    | some h => CW n P b kn ke (canon h s')
    | none => vC P E hs n b s' kn ke) ke
  | .seq a b, _ :: p, kn, ke => kont P E hs n b p kn ke
  | .cond _ a b, 0 :: p, kn, ke => kont P E hs n a p kn ke
  | .cond _ a b, _ :: p, kn, ke => kont P E hs n b p kn ke
  | .block id c, _ :: p, kn, ke => kont P E hs n c p kn (blockE id kn ke)
  | .loop c, _ :: p, kn, ke => match p with
    | [] => (kn, ke)
    | q :: p => kont P E hs n c (q :: p) (fun s' => CL n P c kn ke (canonO (look hs.loops (firstReg c)) s')) ke
  | _, _, kn, ke => (kn, ke)

theorem to_vc {p q : Prop} (e : p = q) (h : p) : q := e ▸ h

end AM
end Go.Proofs.Ytfcmmpmdofejeaa
