/- From a law's contract to its row; no conditions. -/
import Derived.Test.YtfcmmpmdofejeaaAm12
import Derived.Below
import Derived.WideKeyArgs
set_option linter.unusedSimpArgs false
set_option linter.unusedVariables false
namespace Go.Proofs.Ytfcmmpmdofejeaa
namespace AM
open Go Go.ChangeShapes Go.WideShapes Go.RowKit

/-- An argument of a type, read as data. -/
def ArgOk (P : Program) (t : TypeId) (x : AV) : Prop := match P.underlying t with
  | some (.struct _) => ∃ n ds, x = .dat ds ∧ TypedN P n t ds
  | _ => ∃ n d, x = .one (.d d) ∧ TypedN P n t [d]
def argsOk (P : Program) : List TypeId → List AV → Prop
  | [], [] => True
  | t :: ts, x :: xs => ArgOk P t x ∧ argsOk P ts xs
  | _, _ => False

theorem cell_of_ok {P : Program} {w : World} {base : Nat} {t : TypeId} {v : Value} (hc : closedB P [t] = true ∨ True) (hs : (∀ fs, P.underlying t ≠ some (.struct fs)) ∧ (P.underlying t = some .bool ∨ (∃ k, P.underlying t = some (.int k)) ∨ P.underlying t = some .string ∨ ∃ e, P.underlying t = some (.slice e))) (h : Value.okWide P w .any base t v) : v.cells = #[v] := by
  obtain ⟨_, hu | ⟨k, hu⟩ | hu | ⟨e, hu⟩⟩ := hs <;> simp only [Value.okWide, hu, Cell.okWide, Cell.ok] at h <;> cases v <;> simp_all [Value.cells]

section
variable {H : Type} {enc : TypeId × Value → H} {P : Program} {w : World} {ts : List TypeId} {β : Nat → OLoc}
theorem read_arg (hcl : closedB P ts = true) {t : TypeId} {v : Value} {d : DataW H} {p : List MemPlace} (ht : t ∈ ts) {base : Nat} (hv : Value.okWide P w .any base t v) (h : DataW.Trod enc P w 0 (fun _ => true) true t v d p) (hw : ∀ m ∈ d.weights P t, m ≤ reachBytes) :
    ∃ x, ArgOk P t x ∧ RepV w (· < w.heap.size) β x v := by
  obtain ⟨fuel, hf⟩ := h
  obtain ⟨ds, h1, h2⟩ := read_da hcl fuel t _ _ ht hf hw
  have hc := List.all_eq_true.1 hcl t ht
  split at hc
  all_goals try (simp at hc; done)
  case h_5 fs hu =>
    obtain ⟨cs, rfl, _⟩ := okWide_struct hu hv
    refine ⟨.dat ds, by unfold ArgOk; rw [hu]; exact ⟨_, _, rfl, h1⟩, ?_⟩
    have : RepV w (· < w.heap.size) β (.dat ds) (.agg cs.toList.toArray) := .dat (by simpa [Value.cells] using h2) .nil
    simpa using this
  all_goals
    rename_i hu
    have hcell := cell_of_ok (.inr trivial) ⟨by intro fs; rw [hu]; simp, by rw [hu]; simp⟩ hv
    rw [hcell] at h2
    have hl := h2.len
    match ds, hl with
    | [d0], _ => exact ⟨.one (.d d0), by unfold ArgOk; rw [hu]; exact ⟨_, _, rfl, h1⟩, .one (.d h2)⟩

theorem read_args (hcl : closedB P ts = true) {base : Nat} : ∀ (us : List TypeId) (vs : List Value) (ds : List (DataW H)) (p : List MemPlace), (∀ t ∈ us, t ∈ ts) → (∀ (j : Nat) t v, us[j]? = some t → vs[j]? = some v → Value.okWide P w .any base t v) →
    DataW.TrodAll enc P w 0 (fun _ => true) true us vs ds p → (∀ m ∈ DataW.weightsEach P us ds, m ≤ reachBytes) → ∃ xs, argsOk P us xs ∧ RepVs w (· < w.heap.size) β xs vs
  | [], [], [], p, _, _, _, _ => ⟨[], trivial, .nil⟩
  | [], [], _ :: _, _, _, _, h, _ => by simp [DataW.TrodAll] at h
  | [], _ :: _, _, _, _, _, h, _ => by simp [DataW.TrodAll] at h
  | _ :: _, [], _, _, _, _, h, _ => by simp [DataW.TrodAll] at h
  | _ :: _, _ :: _, [], _, _, _, h, _ => by simp [DataW.TrodAll] at h
  | t :: us, v :: vs, d :: ds, p, hts, hv, h, hw => by
    obtain ⟨p1, q1, h1, h2, rfl⟩ := h
    simp only [DataW.weightsEach, List.mem_append] at hw
    obtain ⟨x, hx, hr⟩ := read_arg (β := β) hcl (hts t (by simp)) (hv 0 t v rfl rfl) h1 fun m hm => hw m (.inl hm)
    obtain ⟨xs, hxs, hrs⟩ := read_args hcl us vs ds q1 (fun t ht => hts t (by simp [ht])) (fun j t v h1 h2 => hv (j + 1) t v (by simpa using h1) (by simpa using h2)) h2 fun m hm => hw m (.inr hm)
    exact ⟨x :: xs, ⟨hx, hxs⟩, hr.cons hrs⟩

theorem trodAll_stays (hl : laidOutB P = true) {W W' : World} {sp : Nat → Bool} : ∀ (us : List TypeId) (vs : List Value) (ds : List (DataW H)) (p : List MemPlace), (∀ t ∈ us, P.readableRec t = true ∧ t < P.types.size) → (∀ x ∈ p, W.sameAt W' x ∧ sp x.block = true) →
    DataW.TrodAll enc P W 0 (fun _ => true) true us vs ds p → DataW.TrodAll enc P W' 0 sp true us vs ds p
  | [], [], [], p, _, _, h => h
  | [], [], _ :: _, _, _, _, h => by simp [DataW.TrodAll] at h
  | [], _ :: _, _, _, _, _, h => by simp [DataW.TrodAll] at h
  | _ :: _, [], _, _, _, _, h => by simp [DataW.TrodAll] at h
  | _ :: _, _ :: _, [], _, _, _, h => by simp [DataW.TrodAll] at h
  | t :: us, v :: vs, d :: ds, p, hts, hp, h => by
    obtain ⟨p1, q1, h1, h2, rfl⟩ := h
    have ht := hts t (by simp)
    exact ⟨p1, q1, WideElems.Trod_stays hl ht.1 ht.2 h1 (fun x hx => (hp x (by simp [hx])).1) (fun x hx => (hp x (by simp [hx])).2), trodAll_stays hl us vs ds q1 (fun t ht => hts t (by simp [ht])) (fun x hx => hp x (by simp [hx])) h2, rfl⟩
end

section
variable {H : Type} {enc : TypeId × Value → H} {P : Program}
theorem post_of_below {f : Func} {s : ChangeSpec} {apart fresh handsOn again : Bool} {W W' : World} {args : Array Value} {v : Value} {ds gs : List (DataW H)} {before pa pv : List MemPlace}
    (hW : DataW.Whole enc P f.params.toList s.vars apart W args.toList ds gs before)
    (hres : ∀ (b : Nat) (sp : Nat → Bool) (hd : Bool), DataW.TrodAll enc P W' b sp hd f.resultTypes.toList (v.resultList f.resultTypes.size) (s.fn H (ds ++ gs)).results [])
    (hargs : ∀ sp : Nat → Bool, (∀ p ∈ before, sp p.block = true) → DataW.TrodAll enc P W' 0 sp true f.params.toList args.toList (s.fn H (ds ++ gs)).args pa)
    (hvars : ∀ sp : Nat → Bool, (∀ p ∈ before, sp p.block = true) → DataW.TrodVars enc P W' sp s.vars (s.fn H (ds ++ gs)).vars pv)
    (hps : before = pa ++ pv) (hb : Below W.heap.size W W')
    (hok : ∀ (j : Nat) (t : TypeId) (r : Value), f.resultTypes[j]? = some t → (v.resultList f.resultTypes.size)[j]? = some r → Value.okWide P W' .any 0 t r) :
    s.post enc P f apart fresh handsOn again W args v W' := by
  have hlt : ∀ p ∈ before, p.block < W.heap.size := fun p hp => hW.lt p hp
  have hold : ∀ p ∈ before, (fun b => decide (b < W.heap.size)) p.block = true := fun p hp => by simpa using hlt p hp
  refine ⟨ds, gs, before, [], pa, pv, hW, hres _ _ _, hargs _ hold, hvars _ hold, World.keptBut_mono (fun p hp => ⟨hp, ?_⟩) (hb.frame (· ∈ before)), fun _ => ?_⟩
  · rw [hps, List.mem_append] at hp
    exact Or.inr hp
  · obtain ⟨_, _, _, _, _, hz, hn⟩ := hW
    refine ⟨hok, _, _, ([] ++ pa) ++ pv, ⟨[] ++ pa, pv, trodAll_append (hargs _ (fun _ _ => rfl)) (hres _ _ _), hvars _ (fun _ _ => rfl), rfl, ?_, ?_⟩, ?_⟩
    · intro b off hp
      have hin : MemPlace.cell b off ∈ before := by rw [hps]; simpa using hp
      rw [hb.frozen (hlt _ hin)]
      exact hz b off hin
    · intro ha
      have := hn ha
      rw [hps] at this
      simpa using this
    · intro p hp _
      rw [hps]
      simpa using hp
end

/-- A law that always gives true, by its contract over all data of its parameters' types. -/
theorem law_lifted {H : Type} {enc : TypeId × Value → H} {a : Assume} {C : Checked} {os : Os} {f : FuncId} {fn : Func} {s : ChangeSpec} {apart fresh handsOn again : Bool} {tb : TypeId} (ts : List TypeId)
    (own : ownKnob C.prog.godebug = none) (started : os.Started) (noInit : C.prog.inits.idxOf? f = none) (hfn : C.prog.funcs[f]? = some fn)
    (witness : ∃ (w : World) (tape : Tape) (i : Input), w.os = os ∧ (w.forCall tape i).Shaped C.prog ∧ i.vars = [] ∧ Input.okWide C.prog (w.forCall tape i) .any w.heap.size f i ∧
      s.pre6 enc C.prog fn [] apart (w.forCall tape i).memory i.args ∧ a.holds C.prog (lone (Frame.enter C.prog f i.args .normal) [] (w.forCall tape i)))
    (hl : laidOutB C.prog = true) (hcl : closedB C.prog ts = true) (hpar : (fn.params.toList.all fun t => C.prog.readableRec t && decide (t < C.prog.types.size) && ts.contains t) = true)
    (hvars : s.vars = []) (hres : fn.resultTypes = #[tb]) (hb : C.prog.underlying tb = some .bool)
    (hs : ∀ ds : List (DataW H), ds.length = fn.params.toList.length → (s.fn H ds).results = [.lit (.bool true)] ∧ (s.fn H ds).args = ds ∧ (s.fn H ds).vars = [])
    (hcall : ∀ xs, argsOk C.prog fn.params.toList xs → ACall C.prog f xs (B true) []) :
    ReturnsInHanded a C os f .any (s.pre6 enc C.prog fn [] apart) (s.post enc C.prog fn apart fresh handsOn again) := by
  refine returnsInHanded_of_change_sized own started noInit hfn witness ?_
  intro W base args ds gs before hval hW _ hsz _
  have hW' := hW
  obtain ⟨p, q, hA, hV, rfl, hfz, hnd⟩ := hW
  rw [hvars] at hV
  obtain ⟨rfl, rfl⟩ := trodVars_none hV
  have hpar' := fun t ht => List.all_eq_true.1 hpar t ht
  simp only [Bool.and_eq_true, decide_eq_true_eq, List.contains_iff_mem] at hpar'
  have hplain : s.plain.varTypes C.prog = [] := by
    have : s.plain.vars = [] := by unfold ChangeSpec.plain; simpa using hvars
    simp [DataSpec.varTypes, this]
  rw [hplain, List.append_nil, List.append_nil] at hsz
  have hlen : ds.length = fn.params.toList.length := by
    have : ∀ (us : List TypeId) (vs : List Value) (ds : List (DataW H)) (p : List MemPlace), DataW.TrodAll enc C.prog W 0 (fun _ => true) true us vs ds p → ds.length = us.length := by
      intro us
      induction us with
      | nil => intro vs ds p h; cases vs <;> cases ds <;> simp [DataW.TrodAll] at h ⊢
      | cons t us ih => intro vs ds p h; cases vs <;> cases ds <;> simp [DataW.TrodAll] at h ⊢; obtain ⟨_, _, q, h2, _⟩ := h; exact ih _ _ _ h2
    exact this _ _ _ _ hA
  obtain ⟨xs, hxs, hrep⟩ := read_args (β := fun _ => ⟨0, none, 0, 0, false, [], []⟩) hcl fn.params.toList args.toList ds p (fun t ht => (hpar' t ht).2) (fun j t v h1 h2 => hval j t v (by simpa using h1) (by simpa using h2)) hA (by simpa using hsz)
  have hc := hcall xs hxs W (· < W.heap.size) (fun _ => ⟨0, none, 0, 0, false, [], []⟩) args.toList (fun b hb => hb) hrep
  obtain ⟨s1, s2, s3⟩ := hs (ds ++ []) (by simpa using hlen)
  have hc' : Calls C.prog f args W fun e w' => ∃ v S' β', e = .returned v ∧ Grow W (· < W.heap.size) (fun _ => ⟨0, none, 0, 0, false, [], []⟩) [] w' S' β' ∧ RepV w' S' β' (B true) v := by simpa using hc
  refine hc'.mono fun e W' ⟨v, S', β', he, hg, hv⟩ => ?_
  obtain rfl := hv.bool_inv
  have hbel : Below W.heap.size W W' := ⟨hg.os, hg.tape, hg.output, hg.size, hg.block⟩
  have hlt : ∀ x ∈ p, x.block < W.heap.size := fun x hx => hW'.lt x (by simpa using hx)
  refine ⟨_, he, post_of_below (pa := p) (pv := []) hW' (fun b sp hd => ?_) (fun sp hsp => ?_) (fun sp _ => ?_) rfl hbel ?_⟩
  · rw [s1, hres]
    exact trodAll_mk1 (shut_bool hb true)
  · rw [s2, List.append_nil]
    exact trodAll_stays hl _ _ _ _ (fun t ht => (hpar' t ht).1) (fun x hx => ⟨hbel.same (hlt x hx), hsp x (by simpa using hx)⟩) hA
  · rw [s3, hvars]; rfl
  · exact ok_one hres rfl (okWide_bool_mk hb true)

end AM
end Go.Proofs.Ytfcmmpmdofejeaa
