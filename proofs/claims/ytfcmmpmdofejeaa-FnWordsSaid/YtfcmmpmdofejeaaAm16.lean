/- Calls that only read what they are handed; no conditions. -/
import Derived.Test.YtfcmmpmdofejeaaAm15
set_option linter.unusedSimpArgs false
set_option linter.unusedVariables false
namespace Go.Proofs.Ytfcmmpmdofejeaa
namespace AM
open Go

/-- Objects that stay in place, each named once, that name no others. -/
def RoOk (I : List (Nat × Ob)) : Prop := (∀ p ∈ I, look I p.1 = some p.2) ∧ ∀ o ∈ (I.map fun p => p.1 :: p.2.ids).flatten, 2000 ≤ o ∧ ∃ p ∈ I, p.1 = o
theorem RoOk.nil : RoOk [] := ⟨by simp, by simp⟩
theorem RoOk.one {k : Nat} {cs : List At} (h : 2000 ≤ k) (hc : AV.idsL cs = []) : RoOk [(k, .var cs)] := by
  refine ⟨by simp [look], fun o ho => ?_⟩
  simp [Ob.ids, hc] at ho
  subst ho
  exact ⟨h, (_, _), List.mem_singleton.2 rfl, rfl⟩
theorem RoOk.lst {k E es : Nat} {xs : List (List Da)} (h : 2000 ≤ k) : RoOk [(k, .lst E es xs)] := by
  refine ⟨by simp [look], fun o ho => ?_⟩
  simp [Ob.ids] at ho
  subst ho
  exact ⟨h, (_, _), List.mem_singleton.2 rfl, rfl⟩

/-- The objects behind those of the call's own. -/
def strip : List (Nat × Ob) → List (Nat × Ob)
  | [] => []
  | p :: l => match Nat.blt p.1 2000 with
    | true => strip l
    | false => p :: l
theorem look_strip {o : Nat} (h : 2000 ≤ o) : ∀ l : List (Nat × Ob), look (strip l) o = look l o
  | [] => rfl
  | (k, X) :: l => by
    simp only [strip]
    split
    · rename_i hk
      have : k ≤ 1999 := by simpa [Nat.blt, Nat.ble_eq] using hk
      rw [look_strip h l]
      have hne : ¬ k = o := by omega
      simp [look, hne]
    · rfl

section
variable {Γ : Cx} {P : Program} {ops : Array Oper} {rest : List Oper} {o : Oper} {K : St → Prop} {s : St} {I : List (Nat × Ob)} {r : AV}
theorem xupd_ro (dst : Option Nat) (hI : ∀ p ∈ I, s.gob p.1 = some p.2) : Ent (s.xupd dst r I I []) (s.upd dst r []) := by
  have hd : droppedIds I I = [] := by
    simp only [droppedIds, List.filter_eq_nil_iff, List.mem_map, Bool.not_eq_true', Bool.not_eq_false', List.any_eq_true, beq_iff_eq]
    rintro i ⟨p, hp, rfl⟩
    simp only [Bool.not_eq_false, List.any_eq_true, beq_iff_eq]
    exact ⟨p, hp, rfl⟩
  refine ⟨fun i x hi => ?_, fun q X hq => ?_⟩
  · rw [get_xupd, hd]
    rw [get_upd] at hi
    simpa [St.xkill] using hi
  · rw [gob_xupd, hd]
    rw [gob_upd] at hq
    simp only [look, Option.none_or] at hq
    simp only [List.append_nil, St.xkill, List.not_mem_nil, if_false]
    cases hl : look I q with
    | none => simpa using hq
    | some Y =>
      have := hI _ (look_mem hl)
      dsimp only at this
      rw [this] at hq
      simpa using hq
theorem xop_ro {c : Operand} {ag : List Operand} {ts : Array TypeId} {v : AV} {xs : List AV} (hv : VCall P v xs r I I []) (ho : o.op = .call { callee := .value c, args := ag.toArray, argTypes := ts }) (hc : s.ev c = some v) (has : argsA s.ev ag = some xs) (hd : o.dst.all (· < Γ.n) = true)
    (hI : ∀ p ∈ I, s.gob p.1 = some p.2) : XOp Γ P o s (s.upd o.dst r []) := by
  have h := xop_vcall (fun _ _ _ _ h => h) ho hc has hv hd hI (by simp) (fun p hp => .inl ⟨p, hp, rfl⟩) (by simp)
  intro a w S β K' R hs hK
  exact h a w S β K' R hs fun a' w' S' β' hs' => hK _ _ _ _ ((xupd_ro o.dst hI).sim hs')
theorem xop_ro' {c : Operand} {ag : List Operand} {ts : Array TypeId} {v : AV} {xs : List AV} (hv : VCall P v xs r I I []) (ho : o.op = .call { callee := .value c, args := ag.toArray, argTypes := ts }) (hc : s.ev c = some v) (has : argsA s.ev ag = some xs) (hd : o.dst.all (· < Γ.n) = true)
    (hI : usOk s I) : XOp Γ P o s (s.upd o.dst r []) := xop_ro hv ho hc has hd (usOk_spec hI)
theorem roI {p : Nat × Ob} (hi : RoOk I) (hob : strip s.ob = strip I) (hp : p ∈ I) : s.gob p.1 = some p.2 := by
  have hlow : 2000 ≤ p.1 := (hi.2 p.1 (List.mem_flatten.2 ⟨_, List.mem_map.2 ⟨p, hp, rfl⟩, by simp⟩)).1
  have h1 := look_strip hlow s.ob
  rw [hob, look_strip hlow I, hi.1 p hp] at h1
  exact h1.symm
/-- A state of a loop whose objects are all that was handed in. -/
theorem Ent.ofOb {tm : List (Nat × AV)} (hi : RoOk I) (hob : strip s.ob = strip I) (h : entOk s tm []) : Ent s ⟨tm, I⟩ :=
  ⟨fun i x hi => h.1 (i, x) (look_mem hi), fun q X hq => roI (p := (q, X)) hi hob (look_mem hq)⟩
theorem retX_ro {fn : Func} (hi : RoOk I) (hob : strip s.ob = strip I) (hres : ResOk P fn s r) (hr : r.ids = []) : RetX P fn s r I I [] := by
  refine retX_of hres (fun p hp => roI hi hob hp) fun o ho => ?_
  rw [hr, List.nil_append] at ho
  exact .inr (hi.2 o ho)
end

def NotTm (o : Nat) (l : List (Nat × AV)) : Prop := o ∉ idsTm l
def NotOb (o : Nat) (l : List (Nat × Ob)) : Prop := o ∉ idsOb l
theorem notTm_nil {o : Nat} : NotTm o [] := by simp [NotTm, idsTm]
theorem notOb_nil {o : Nat} : NotOb o [] := by simp [NotOb, idsOb]
theorem notTm_cons {o i : Nat} {x : AV} {l : List (Nat × AV)} (h : x.ids.contains o = false) (k : NotTm o l) : NotTm o ((i, x) :: l) := by
  simp only [NotTm, idsTm, List.mem_append] at k ⊢
  rintro (h1 | h1)
  · simp at h; exact h h1
  · exact k h1
theorem notTm_v {o i : Nat} {x : AV} {l : List (Nat × AV)} (hv : ∀ q ∈ x.ids, 2000 ≤ q) (ho : o < 2000) (k : NotTm o l) : NotTm o ((i, x) :: l) := by
  simp only [NotTm, idsTm, List.mem_append] at k ⊢
  rintro (h1 | h1)
  · have := hv o h1; omega
  · exact k h1
theorem notOb_cons {o i : Nat} {X : Ob} {l : List (Nat × Ob)} (h : (i :: X.ids).contains o = false) (k : NotOb o l) : NotOb o ((i, X) :: l) := by
  simp only [NotOb, idsOb, List.mem_append, List.mem_cons] at k ⊢
  simp at h
  intro h1
  simp_all
theorem notOb_I {o : Nat} {I : List (Nat × Ob)} (hi : RoOk I) (ho : o < 2000) : NotOb o I := by
  have key : ∀ l : List (Nat × Ob), o ∈ idsOb l → o ∈ (l.map fun p => p.1 :: p.2.ids).flatten := by
    intro l
    induction l with
    | nil => simp [idsOb]
    | cons p l ih =>
      obtain ⟨i, X⟩ := p
      simp only [idsOb, List.mem_append, List.mem_cons, List.map_cons, List.flatten_cons]
      rintro (h | h | h)
      · exact .inl (.inl h)
      · exact .inl (.inr h)
      · exact .inr (ih h)
  intro h
  have := (hi.2 o (key I h)).1
  omega
theorem fresh_one {s : St} {k : Nat} {X : Ob} (h : k < 2000) (h1 : NotTm k s.tm) (h2 : NotOb k s.ob) : s.fresh [(k, X)] = true := by
  simp only [St.fresh, List.all_cons, List.all_nil, Bool.and_true, Bool.and_eq_true, Bool.not_eq_true', List.contains_eq_mem, decide_eq_false_iff_not, decide_eq_true_eq]
  exact ⟨⟨h1, h2⟩, h⟩

section
variable {Γ : Cx} {P : Program} {ops : Array Oper} {rest : List Oper} {o : Oper} {K : St → Prop} {s : St}
theorem Sim.junk {a : Act} {w : World} {S : Nat → Prop} {β : Nat → OLoc} {dst : Option Nat} (hs : Sim Γ (s.drop dst) a w S β) (hd : dst.all (· < Γ.n) = true) : Sim Γ (s.upd dst (.one .junk) []) a w S β := by
  refine ⟨hs.defers, hs.sz, fun i x hi => ?_, ?_⟩
  · rw [get_upd] at hi
    by_cases hdi : dst = some i
    · rw [if_pos hdi] at hi
      simp at hi; subst hi; subst hdi
      simp at hd
      have hlt : i < a.tmps.size := by rw [hs.sz]; exact hd
      exact ⟨a.tmps[i], Array.getElem?_eq_getElem hlt, RepV.one .junk⟩
    · rw [if_neg hdi] at hi
      refine hs.tm i x ?_
      rw [get_drop, if_neg hdi]; exact hi
  · have e : (s.upd dst (.one .junk) []).gob = (s.drop dst).gob := funext fun q => by rw [gob_upd, gob_drop]; simp [look]
    rw [e]; exact hs.mem
/-- A guard that does not hold: what the slot holds is of no matter. -/
theorem st_skipJ {j d : Nat} {want : Bool} (hg : o.guard = some (j, want)) (hj : (ops[j]?).bind (·.dst) = some d) (hb : s.get d = some (B (!want))) (hd : o.dst.all (· < Γ.n) = true) (hr : aOps Γ P ops rest K (s.upd o.dst (.one .junk) [])) : aOps Γ P ops (o :: rest) K s :=
  st_skip hg hj hb hd fun a w S β R hs hR => hr a w S β R (hs.junk hd) hR
theorem Sim.undef {a : Act} {w : World} {S : Nat → Prop} {β : Nat → OLoc} {dst : Option Nat} (hs : Sim Γ s a w S β) (hd : dst.all (· < Γ.n) = true) : Sim Γ (s.upd dst (.tup []) []) (a.put dst undef) w S β :=
  hs.upd (Grow.refl hs.mem.lt) (RepVs.tup .nil .nil) hd rfl
/-- A skipped operation: its slot holds what no operation has written. -/
theorem st_skipV {j d : Nat} {want : Bool} (hg : o.guard = some (j, want)) (hj : (ops[j]?).bind (·.dst) = some d) (hb : s.get d = some (B (!want))) (hd : o.dst.all (· < Γ.n) = true) (hr : aOps Γ P ops rest K (s.upd o.dst (.tup []) [])) : aOps Γ P ops (o :: rest) K s := by
  intro a w S β R hs hR
  have hyl := yielded_of (Γ := Γ) hj (.inr hs) hb
  refine wpList_step fun K' hK => ?_
  have hw : Region.wanted o (yielded ops a.tmps) = false := by simp only [Region.wanted, hg, hyl]; cases want <;> rfl
  rw [hw, if_neg (by simp)]
  exact hK _ _ (hr _ _ _ _ R (hs.undef hd) hR)
/-- A guard that was itself skipped. -/
theorem st_skipU {j d : Nat} {want : Bool} (hg : o.guard = some (j, want)) (hj : (ops[j]?).bind (·.dst) = some d) (hb : s.get d = some (.tup [])) (hd : o.dst.all (· < Γ.n) = true) (hr : aOps Γ P ops rest K (s.upd o.dst (.tup []) [])) : aOps Γ P ops (o :: rest) K s := by
  intro a w S β R hs hR
  obtain ⟨v, hv, hrep⟩ := hs.tm d _ hb
  obtain ⟨us, rfl, hus⟩ := RepV.tup_inv hrep
  have hyl : yielded ops a.tmps j = none := by simp [yielded, hj, hv]
  refine wpList_step fun K' hK => ?_
  have hw : Region.wanted o (yielded ops a.tmps) = false := by simp only [Region.wanted, hg, hyl]; rfl
  rw [hw, if_neg (by simp)]
  exact hK _ _ (hr _ _ _ _ R (hs.undef hd) hR)
end

end AM
end Go.Proofs.Ytfcmmpmdofejeaa
