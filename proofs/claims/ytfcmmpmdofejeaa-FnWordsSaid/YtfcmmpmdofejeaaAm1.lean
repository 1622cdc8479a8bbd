/- Words for an abstract reading of memory: data trees, objects of the call's own, and what a frame's slots read as; no conditions. -/
import Derived.WalkKit
import Derived.Below
import Derived.Orders
import Derived.KernelRfl
import Derived.Laws.AppendOwn
import Derived.Laws.MakeOwn
import Derived.Laws.OwnMore
namespace Go.Proofs.Ytfcmmpmdofejeaa
namespace AM
open Go

/-- Data: what is never written again. A struct is the list of its cells' data. -/
inductive Da where
  | int (k : IntKind) (n : Int)
  | bool (b : Bool)
  | str (s : ByteArray)
  | sl (xs : List (List Da))
  | fn (f : FuncId)
  | tg (v : Value) (ys : List (List Da))

/-- Cells read as data; the last list names the blocks that are gone through, each as often as it is met. -/
inductive RepF (w : World) : List Da → List Value → List Nat → Prop
  | nil : RepF w [] [] []
  | int {k n xs vs fp} : RepF w xs vs fp → RepF w (.int k n :: xs) (.int k n :: vs) fp
  | bool {b xs vs fp} : RepF w xs vs fp → RepF w (.bool b :: xs) (.bool b :: vs) fp
  | str {s xs vs fp} : s.size ≤ 281474976710656 → RepF w xs vs fp → RepF w (.str s :: xs) (.string s :: vs) fp
  | fn {f xs vs fp} : RepF w xs vs fp → RepF w (.fn f :: xs) (.func (.func f) #[] #[] :: vs) fp
  | sl0 {ys xs vs fp a n cap} : ys.flatten = [] → n = ys.length → n ≤ cap → n ≤ 281474976710656 → RepF w xs vs fp →
      RepF w (.sl ys :: xs) (.slice a n cap :: vs) fp
  | sl1 {ys xs us vs fi fp b off n cap es} : RepF w ys.flatten us fi → n = ys.length → n ≤ cap → n ≤ 281474976710656 → (∀ y ∈ ys, y.length = es) →
      (∀ i u, us[i]? = some u → w.cell? ⟨b, off + i, none⟩ = some u) → b < w.heap.size → RepF w xs vs fp →
      RepF w (.sl ys :: xs) (.slice (some ⟨b, off, none⟩) n cap :: vs) (b :: (fi ++ fp))
  | tg {v ys xs vs fi fp} : RepF w [.sl ys] [v] fi → RepF w xs vs fp → RepF w (.tg v ys :: xs) (v :: vs) (fi ++ fp)

section
variable {w w' : World}

theorem RepF.len {xs vs fp} (h : RepF w xs vs fp) : vs.length = xs.length := by
  induction h <;> simp_all

theorem RepF.lt {xs vs fp} (h : RepF w xs vs fp) : ∀ b ∈ fp, b < w.heap.size := by
  induction h with
  | nil => simp
  | sl1 _ _ _ _ _ _ hb _ ih1 ih2 =>
    intro b hm
    simp only [List.mem_cons, List.mem_append] at hm
    rcases hm with rfl | hm | hm
    · exact hb
    · exact ih1 b hm
    · exact ih2 b hm
  | tg _ _ ih1 ih2 =>
    intro b hm
    rcases List.mem_append.1 hm with hm | hm
    · exact ih1 b hm
    · exact ih2 b hm
  | _ => assumption

theorem cell_of_heap {b : Nat} (h : w'.heap[b]? = w.heap[b]?) (i : Nat) : w'.cell? ⟨b, i, none⟩ = w.cell? ⟨b, i, none⟩ := by
  simp [World.cell?, h]

theorem lt_of_heap {b : Nat} (h : w'.heap[b]? = w.heap[b]?) (hb : b < w.heap.size) : b < w'.heap.size := by
  rcases Nat.lt_or_ge b w'.heap.size with h1 | h1
  · exact h1
  · rw [Array.getElem?_eq_none h1, Array.getElem?_eq_getElem hb] at h; simp at h

theorem RepF.keep {xs vs fp} (h : RepF w xs vs fp) : (∀ b ∈ fp, w'.heap[b]? = w.heap[b]?) → RepF w' xs vs fp := by
  induction h with
  | nil => intro _; exact .nil
  | int _ ih => intro hk; exact .int (ih hk)
  | bool _ ih => intro hk; exact .bool (ih hk)
  | str hs _ ih => intro hk; exact .str hs (ih hk)
  | fn _ ih => intro hk; exact .fn (ih hk)
  | sl0 h1 h2 h3 h4 _ ih => intro hk; exact .sl0 h1 h2 h3 h4 (ih hk)
  | sl1 _ h1 h2 h3 h4 h5 h6 _ ih1 ih2 =>
    intro hk
    have hb := hk _ (List.mem_cons_self ..)
    refine .sl1 (ih1 fun b hm => hk b ?_) h1 h2 h3 h4 (fun i u hu => ?_) (lt_of_heap hb h6) (ih2 fun b hm => hk b ?_)
    · simp [hm]
    · rw [cell_of_heap hb]; exact h5 i u hu
    · simp [hm]
  | tg _ _ ih1 ih2 => intro hk; exact .tg (ih1 fun b hm => hk b (List.mem_append_left _ hm)) (ih2 fun b hm => hk b (List.mem_append_right _ hm))

theorem RepF.app {xs ys vs us fp fq} (h : RepF w xs vs fp) (k : RepF w ys us fq) : RepF w (xs ++ ys) (vs ++ us) (fp ++ fq) := by
  induction h with
  | nil => simpa using k
  | int _ ih => exact .int ih
  | bool _ ih => exact .bool ih
  | str hs _ ih => exact .str hs ih
  | fn _ ih => exact .fn ih
  | sl0 h1 h2 h3 h4 _ ih => exact .sl0 h1 h2 h3 h4 ih
  | sl1 h0 h1 h2 h3 h4 h5 h6 _ _ ih2 =>
    have := RepF.sl1 h0 h1 h2 h3 h4 h5 h6 ih2
    simpa [List.append_assoc] using this
  | tg h0 _ _ ih2 =>
    have := RepF.tg h0 ih2
    simpa [List.append_assoc] using this

theorem RepF.split {xs ys vs fp} (h : RepF w (xs ++ ys) vs fp) :
    ∃ v1 v2 f1 f2, vs = v1 ++ v2 ∧ fp = f1 ++ f2 ∧ RepF w xs v1 f1 ∧ RepF w ys v2 f2 := by
  induction xs generalizing vs fp with
  | nil => exact ⟨[], vs, [], fp, rfl, rfl, .nil, h⟩
  | cons x xs ih =>
    cases h with
    | int h => obtain ⟨v1, v2, f1, f2, rfl, rfl, h1, h2⟩ := ih h; exact ⟨_ :: v1, v2, f1, f2, rfl, rfl, .int h1, h2⟩
    | bool h => obtain ⟨v1, v2, f1, f2, rfl, rfl, h1, h2⟩ := ih h; exact ⟨_ :: v1, v2, f1, f2, rfl, rfl, .bool h1, h2⟩
    | str hs h => obtain ⟨v1, v2, f1, f2, rfl, rfl, h1, h2⟩ := ih h; exact ⟨_ :: v1, v2, f1, f2, rfl, rfl, .str hs h1, h2⟩
    | fn h => obtain ⟨v1, v2, f1, f2, rfl, rfl, h1, h2⟩ := ih h; exact ⟨_ :: v1, v2, f1, f2, rfl, rfl, .fn h1, h2⟩
    | sl0 e1 e2 e3 e4 h => obtain ⟨v1, v2, f1, f2, rfl, rfl, h1, h2⟩ := ih h; exact ⟨_ :: v1, v2, f1, f2, rfl, rfl, .sl0 e1 e2 e3 e4 h1, h2⟩
    | sl1 e0 e1 e2 e3 e4 e5 e6 h =>
      obtain ⟨v1, v2, f1, f2, rfl, rfl, h1, h2⟩ := ih h
      exact ⟨_ :: v1, v2, _ :: (_ ++ f1), f2, rfl, by simp [List.append_assoc], .sl1 e0 e1 e2 e3 e4 e5 e6 h1, h2⟩
    | tg e0 h =>
      obtain ⟨v1, v2, f1, f2, rfl, rfl, h1, h2⟩ := ih h
      exact ⟨_ :: v1, v2, _ ++ f1, f2, rfl, by simp [List.append_assoc], .tg e0 h1, h2⟩
end

/-- Cells read as data, all in blocks of S. -/
def RepDs (w : World) (S : Nat → Prop) (xs : List Da) (vs : List Value) : Prop := ∃ fp, RepF w xs vs fp ∧ ∀ b ∈ fp, S b

section
variable {w w' : World} {S S' : Nat → Prop}
theorem RepDs.len {xs vs} (h : RepDs w S xs vs) : vs.length = xs.length := h.elim fun _ h => h.1.len
theorem RepDs.mono {xs vs} (h : RepDs w S xs vs) (hk : ∀ b, S b → w'.heap[b]? = w.heap[b]?) (hs : ∀ b, S b → S' b) : RepDs w' S' xs vs := by
  obtain ⟨fp, h, hf⟩ := h
  exact ⟨fp, h.keep fun b hb => hk b (hf b hb), fun b hb => hs b (hf b hb)⟩
theorem RepDs.app {xs ys vs us} (h : RepDs w S xs vs) (k : RepDs w S ys us) : RepDs w S (xs ++ ys) (vs ++ us) := by
  obtain ⟨fp, h, hf⟩ := h
  obtain ⟨fq, k, hg⟩ := k
  exact ⟨_, h.app k, fun b hb => by rcases List.mem_append.1 hb with hb | hb; exact hf b hb; exact hg b hb⟩
theorem RepDs.split {xs ys vs} (h : RepDs w S (xs ++ ys) vs) : ∃ v1 v2, vs = v1 ++ v2 ∧ RepDs w S xs v1 ∧ RepDs w S ys v2 := by
  obtain ⟨fp, h, hf⟩ := h
  obtain ⟨v1, v2, f1, f2, rfl, rfl, h1, h2⟩ := h.split
  exact ⟨v1, v2, rfl, ⟨f1, h1, fun b hb => hf b (by simp [hb])⟩, ⟨f2, h2, fun b hb => hf b (by simp [hb])⟩⟩
theorem RepDs.nil : RepDs w S [] [] := ⟨[], .nil, by simp⟩
theorem RepDs.nil_inv {vs} (h : RepDs w S [] vs) : vs = [] := by
  obtain ⟨fp, h, _⟩ := h; cases h; rfl
theorem RepDs.cons_inv {x xs vs} (h : RepDs w S (x :: xs) vs) : ∃ v vs', vs = v :: vs' ∧ RepDs w S [x] [v] ∧ RepDs w S xs vs' := by
  obtain ⟨v1, v2, rfl, h1, h2⟩ := RepDs.split (xs := [x]) (ys := xs) h
  have := h1.len
  match v1, this with
  | [v], _ => exact ⟨v, v2, rfl, h1, h2⟩
theorem RepDs.cons {x xs v vs} (h1 : RepDs w S [x] [v]) (h2 : RepDs w S xs vs) : RepDs w S (x :: xs) (v :: vs) := h1.app h2
theorem RepDs.int_ (k n) : RepDs w S [.int k n] [.int k n] := ⟨[], .int .nil, by simp⟩
theorem RepDs.bool_ (b) : RepDs w S [.bool b] [.bool b] := ⟨[], .bool .nil, by simp⟩
theorem RepDs.str_ (s : ByteArray) (hs : s.size ≤ 281474976710656) : RepDs w S [.str s] [.string s] := ⟨[], .str hs .nil, by simp⟩
theorem RepDs.fn_ (f) : RepDs w S [.fn f] [.func (.func f) #[] #[]] := ⟨[], .fn .nil, by simp⟩
theorem RepDs.int_inv {k n v} (h : RepDs w S [.int k n] [v]) : v = .int k n := by obtain ⟨_, h, _⟩ := h; cases h; rfl
theorem RepDs.bool_inv {b v} (h : RepDs w S [.bool b] [v]) : v = .bool b := by obtain ⟨_, h, _⟩ := h; cases h; rfl
theorem RepDs.str_inv {s v} (h : RepDs w S [.str s] [v]) : v = .string s ∧ s.size ≤ 281474976710656 := by obtain ⟨_, h, _⟩ := h; cases h; exact ⟨rfl, by assumption⟩
theorem RepDs.fn_inv {f v} (h : RepDs w S [.fn f] [v]) : v = .func (.func f) #[] #[] := by obtain ⟨_, h, _⟩ := h; cases h; rfl
/-- A slice of data: its length, and its cells, where it has some. -/
theorem RepDs.sl_inv {ys v} (h : RepDs w S [.sl ys] [v]) : ∃ a cap, v = .slice a ys.length cap ∧ ys.length ≤ cap ∧ ys.length ≤ 281474976710656 ∧
    (ys.flatten = [] ∨ ∃ b off us es, a = some ⟨b, off, none⟩ ∧ S b ∧ b < w.heap.size ∧ RepDs w S ys.flatten us ∧ (∀ y ∈ ys, y.length = es) ∧
      ∀ i u, us[i]? = some u → w.cell? ⟨b, off + i, none⟩ = some u) := by
  obtain ⟨fp, h, hf⟩ := h
  cases h with
  | sl0 h1 h2 h3 h4 _ => subst h2; exact ⟨_, _, rfl, h3, h4, .inl h1⟩
  | sl1 h0 h1 h2 h3 h4 h5 h6 h7 =>
    subst h1
    exact ⟨_, _, rfl, h2, h3, .inr ⟨_, _, _, _, rfl, hf _ (by simp), h6, ⟨_, h0, fun b hb => hf b (by simp [hb])⟩, h4, h5⟩⟩
theorem RepDs.sl_mk {ys b off us es cap} (hc : ys.length ≤ cap) (hl : ys.length ≤ 281474976710656) (hS : S b) (hb : b < w.heap.size) (hr : RepDs w S ys.flatten us)
    (hes : ∀ y ∈ ys, y.length = es) (hm : ∀ i u, us[i]? = some u → w.cell? ⟨b, off + i, none⟩ = some u) : RepDs w S [.sl ys] [.slice (some ⟨b, off, none⟩) ys.length cap] := by
  obtain ⟨fi, h, hf⟩ := hr
  exact ⟨_, .sl1 h rfl hc hl hes hm hb .nil, fun x hx => by
    simp only [List.append_nil, List.mem_cons] at hx
    rcases hx with rfl | hx
    · exact hS
    · exact hf x hx⟩
theorem RepDs.sl_nil (a : Option Addr) (cap : Nat) : RepDs w S [.sl []] [.slice a 0 cap] := ⟨[], .sl0 rfl rfl (Nat.zero_le _) (Nat.zero_le _) .nil, by simp⟩
end

/-- Where an object of the call's own lies: its block (if it has one), and, of a growing list, the slice value. -/
structure OLoc where
  blk : Nat
  sa : Option Addr
  sn : Nat
  sc : Nat
  has : Bool
  sub : List Nat := []
  clm : List Nat := []
/-- The blocks of an object: its own one, and those of what lies below it. -/
def OLoc.Own (l : OLoc) (b : Nat) : Prop := (l.has = true ∧ l.blk = b) ∨ b ∈ l.sub
theorem OLoc.own0 {l : OLoc} {b : Nat} (hs : l.sub = []) (h : l.Own b) : l.has = true ∧ l.blk = b := by
  rcases h with h | h
  · exact h
  · rw [hs] at h; cases h
def OLoc.sv (l : OLoc) : Value := .slice l.sa l.sn l.sc

/-- What a cell of the frame, or of an object, may read as. -/
inductive At where
  | d (x : Da)
  | e0
  | ol (o : Nat)
  | op (o off : Nat)
  | ep (cs : List Da)
  | clo (f : FuncId) (caps : List (Nat × Nat))
  | raw (a : Option Addr) (n c : Nat)
  | ps (o es lo n : Nat)
  | junk

/-- The value of a captured pointer. -/
def capV (β : Nat → OLoc) (p : Nat × Nat) : Value := .pointer (some ⟨(β p.1).blk, p.2, none⟩)

inductive RepA (w : World) (S : Nat → Prop) (β : Nat → OLoc) : At → Value → Prop
  | d {x v} : RepDs w S [x] [v] → RepA w S β (.d x) v
  | e0 : RepA w S β .e0 (.slice none 0 0)
  | ol {o} : RepA w S β (.ol o) (β o).sv
  | op {o off} : RepA w S β (.op o off) (.pointer (some ⟨(β o).blk, off, none⟩))
  | ep {cs us b off} : RepDs w S cs us → (us = [] ∨ (S b ∧ b < w.heap.size)) → (∀ i u, us[i]? = some u → w.cell? ⟨b, off + i, none⟩ = some u) →
      RepA w S β (.ep cs) (.pointer (some ⟨b, off, none⟩))
  | clo {f caps} : RepA w S β (.clo f caps) (.func (.func f) #[] (caps.map (capV β)).toArray)
  | raw {a n c} : RepA w S β (.raw a n c) (.slice a n c)
  | ps {o es lo n a c} : n ≤ c → lo + c = (β o).sc → (0 < c → a = some ⟨(β o).blk, lo * es, none⟩) → RepA w S β (.ps o es lo n) (.slice a n c)
  | junk {v} : RepA w S β .junk v

def At.ids : At → List Nat
  | .ol o => [o]
  | .op o _ => [o]
  | .clo _ caps => caps.map (·.1)
  | .ps o _ _ _ => [o]
  | _ => []

/-- What a slot may read as. -/
inductive AV where
  | one (x : At)
  | dat (xs : List Da)
  | agg (xs : List At)
  | tup (ys : List AV)

inductive RepAs (w : World) (S : Nat → Prop) (β : Nat → OLoc) : List At → List Value → Prop
  | nil : RepAs w S β [] []
  | cons {x v xs vs} : RepA w S β x v → RepAs w S β xs vs → RepAs w S β (x :: xs) (v :: vs)

def AV.idsL : List At → List Nat
  | [] => []
  | x :: r => x.ids ++ AV.idsL r

mutual
def AV.ids : AV → List Nat
  | .one x => x.ids
  | .dat _ => []
  | .agg xs => AV.idsL xs
  | .tup ys => AV.idsT ys
def AV.idsT : List AV → List Nat
  | [] => []
  | y :: r => y.ids ++ AV.idsT r
end

inductive RepVs (w : World) (S : Nat → Prop) (β : Nat → OLoc) : List AV → List Value → Prop
  | nil : RepVs w S β [] []
  | one {x v ys vs} : RepA w S β x v → RepVs w S β ys vs → RepVs w S β (.one x :: ys) (v :: vs)
  | dat {xs cs ys vs} : RepDs w S xs cs → RepVs w S β ys vs → RepVs w S β (.dat xs :: ys) (.agg cs.toArray :: vs)
  | agg {xs cs ys vs} : RepAs w S β xs cs → RepVs w S β ys vs → RepVs w S β (.agg xs :: ys) (.agg cs.toArray :: vs)
  | tup {zs us ys vs} : RepVs w S β zs us → RepVs w S β ys vs → RepVs w S β (.tup zs :: ys) (.tuple us.toArray :: vs)

abbrev RepV (w : World) (S : Nat → Prop) (β : Nat → OLoc) (x : AV) (v : Value) : Prop := RepVs w S β [x] [v]

theorem RepF.sl_val {w : World} {ys : List (List Da)} {v : Value} {fp : List Nat} (h : RepF w [.sl ys] [v] fp) : ∃ a n c, v = .slice a n c := by
  cases h with
  | sl0 => exact ⟨_, _, _, rfl⟩
  | sl1 => exact ⟨_, _, _, rfl⟩
section
variable {w w' : World} {S S' : Nat → Prop} {β β' : Nat → OLoc}
theorem RepA.mono {x v} (h : RepA w S β x v) (hk : ∀ b, S b → w'.heap[b]? = w.heap[b]?) (hs : ∀ b, S b → S' b) (hβ : ∀ o ∈ x.ids, β' o = β o) : RepA w' S' β' x v := by
  cases h with
  | d h => exact .d (h.mono hk hs)
  | e0 => exact .e0
  | @ol o => rw [← hβ o (by simp [At.ids])]; exact .ol
  | @op o off => rw [← hβ o (by simp [At.ids])]; exact .op
  | ep h1 h2 h3 =>
    refine .ep (h1.mono hk hs) (h2.imp id fun h => ⟨hs _ h.1, lt_of_heap (hk _ h.1) h.2⟩) fun i u hu => ?_
    rcases h2 with rfl | h2
    · simp at hu
    · rw [cell_of_heap (hk _ h2.1)]; exact h3 i u hu
  | @clo f caps =>
    have : caps.map (capV β) = caps.map (capV β') := List.map_congr_left fun p hp => by
      unfold capV; rw [hβ p.1 (by simp only [At.ids, List.mem_map]; exact ⟨p, hp, rfl⟩)]
    rw [this]; exact .clo
  | raw => exact .raw
  | @ps o es lo n a c h1 h2 h3 =>
    have e := hβ o (by simp [At.ids])
    rw [← e] at h2 h3
    exact .ps h1 h2 h3
  | junk => exact .junk
theorem RepAs.mono {xs vs} (h : RepAs w S β xs vs) (hk : ∀ b, S b → w'.heap[b]? = w.heap[b]?) (hs : ∀ b, S b → S' b) (hβ : ∀ o ∈ AV.idsL xs, β' o = β o) : RepAs w' S' β' xs vs := by
  induction h with
  | nil => exact .nil
  | cons h _ ih => exact .cons (h.mono hk hs fun o ho => hβ o (by simp [AV.idsL, ho])) (ih fun o ho => hβ o (by simp [AV.idsL, ho]))
theorem RepVs.mono {ys vs} (h : RepVs w S β ys vs) (hk : ∀ b, S b → w'.heap[b]? = w.heap[b]?) (hs : ∀ b, S b → S' b) : (∀ o ∈ AV.idsT ys, β' o = β o) → RepVs w' S' β' ys vs := by
  induction h with
  | nil => intro _; exact .nil
  | one h _ ih => intro hβ; exact .one (h.mono hk hs fun o ho => hβ o (by simp [AV.idsT, AV.ids, ho])) (ih fun o ho => hβ o (by simp [AV.idsT, ho]))
  | dat h _ ih => intro hβ; exact .dat (h.mono hk hs) (ih fun o ho => hβ o (by simp [AV.idsT, ho]))
  | agg h _ ih => intro hβ; exact .agg (h.mono hk hs fun o ho => hβ o (by simp [AV.idsT, AV.ids, ho])) (ih fun o ho => hβ o (by simp [AV.idsT, ho]))
  | tup _ _ ih1 ih2 => intro hβ; exact .tup (ih1 fun o ho => hβ o (by simp [AV.idsT, AV.ids, ho])) (ih2 fun o ho => hβ o (by simp [AV.idsT, ho]))
theorem RepV.mono {x v} (h : RepV w S β x v) (hk : ∀ b, S b → w'.heap[b]? = w.heap[b]?) (hs : ∀ b, S b → S' b) (hβ : ∀ o ∈ x.ids, β' o = β o) : RepV w' S' β' x v :=
  RepVs.mono h hk hs fun o ho => hβ o (by simpa [AV.idsT] using ho)
theorem RepV.one_inv {x v} (h : RepV w S β (.one x) v) : RepA w S β x v := by cases h; assumption
theorem RepV.dat_inv {xs v} (h : RepV w S β (.dat xs) v) : ∃ cs, v = .agg cs.toArray ∧ RepDs w S xs cs := by cases h with | dat h _ => exact ⟨_, rfl, h⟩
theorem RepV.agg_inv {xs v} (h : RepV w S β (.agg xs) v) : ∃ cs, v = .agg cs.toArray ∧ RepAs w S β xs cs := by cases h with | agg h _ => exact ⟨_, rfl, h⟩
theorem RepV.tup_inv {ys v} (h : RepV w S β (.tup ys) v) : ∃ us, v = .tuple us.toArray ∧ RepVs w S β ys us := by cases h with | tup h _ => exact ⟨_, rfl, h⟩
theorem RepV.one {x v} (h : RepA w S β x v) : RepV w S β (.one x) v := RepVs.one h RepVs.nil
theorem RepV.int_inv {k n v} (h : RepV w S β (.one (.d (.int k n))) v) : v = .int k n := by cases h.one_inv with | d h => exact h.int_inv
theorem RepV.bool_inv {b v} (h : RepV w S β (.one (.d (.bool b))) v) : v = .bool b := by cases h.one_inv with | d h => exact h.bool_inv
theorem RepV.str_inv {s v} (h : RepV w S β (.one (.d (.str s))) v) : v = .string s ∧ s.size ≤ 281474976710656 := by cases h.one_inv with | d h => exact h.str_inv
theorem RepV.fn_inv {f v} (h : RepV w S β (.one (.d (.fn f))) v) : v = .func (.func f) #[] #[] := by cases h.one_inv with | d h => exact h.fn_inv
theorem RepV.int (k n) : RepV w S β (.one (.d (.int k n))) (.int k n) := RepV.one (.d (.int_ k n))
theorem RepV.bool (b) : RepV w S β (.one (.d (.bool b))) (.bool b) := RepV.one (.d (.bool_ b))
theorem RepV.str (s) (h : ByteArray.size s ≤ 281474976710656) : RepV w S β (.one (.d (.str s))) (.string s) := RepV.one (.d (.str_ s h))
end

/-- An object of the call's own: a variable (a block of just these cells), or a list that may grow. -/
inductive Ob where
  | var (cs : List At)
  | lst (E : TypeId) (es : Nat) (xs : List (List Da))
  | tr (E : TypeId) (es : Nat) (xs : List (List Da))
  | tk (xs : List (List Da))
  | mt (E : TypeId) (es : Nat) (xs : List (List Da))
  | mu (E : TypeId) (es : Nat) (xs : List (List Da)) (m q : Nat) (a : Option Addr) (n c : Nat)
  | fu (E : TypeId) (es : Nat) (xs : List (List Da)) (c : Nat)

def Ob.ids : Ob → List Nat
  | .var cs => AV.idsL cs
  | _ => []

/-- Cells read as data in blocks of which each is met once, each the block of one list. -/
inductive RepT (w : World) : List Da → List Value → List Nat → Prop
  | nil : RepT w [] [] []
  | int {k n xs vs fp} : RepT w xs vs fp → RepT w (.int k n :: xs) (.int k n :: vs) fp
  | bool {b xs vs fp} : RepT w xs vs fp → RepT w (.bool b :: xs) (.bool b :: vs) fp
  | str {s xs vs fp} : s.size ≤ 281474976710656 → RepT w xs vs fp → RepT w (.str s :: xs) (.string s :: vs) fp
  | sl0 {xs vs fp a cap} : RepT w xs vs fp → RepT w (.sl [] :: xs) (.slice a 0 cap :: vs) fp
  | sl1 {ys xs us vs fi fp b n cap es c E} : RepT w ys.flatten us fi → n = ys.length → 0 < n → n ≤ cap → n ≤ 281474976710656 → (∀ y ∈ ys, y.length = es) →
      w.heap[b]? = some (.cells c E (0, 0)) → us = c.toList.take (n * es) → RepT w xs vs fp →
      RepT w (.sl ys :: xs) (.slice (some ⟨b, 0, none⟩) n cap :: vs) (b :: (fi ++ fp))

section
variable {w w' : World}
theorem RepT.repF {xs vs fp} (h : RepT w xs vs fp) : RepF w xs vs fp := by
  induction h with
  | nil => exact .nil
  | int _ ih => exact .int ih
  | bool _ ih => exact .bool ih
  | str hs _ ih => exact .str hs ih
  | sl0 _ ih => exact .sl0 rfl rfl (Nat.zero_le _) (Nat.zero_le _) ih
  | @sl1 ys xs us vs fi fp b n cap es c E _ h1 h2 h3 h4 h5 h6 h7 _ ih1 ih2 =>
    refine .sl1 ih1 h1 h3 h4 h5 (fun i u hu => ?_) (Array.getElem?_eq_some_iff.1 h6).1 ih2
    rw [h7, List.getElem?_take] at hu
    split at hu
    · simp only [World.cell?, h6, Nat.zero_add]
      simpa using hu
    · simp at hu
theorem RepT.len {xs vs fp} (h : RepT w xs vs fp) : vs.length = xs.length := h.repF.len
theorem RepT.keep {xs vs fp} (h : RepT w xs vs fp) : (∀ b ∈ fp, w'.heap[b]? = w.heap[b]?) → RepT w' xs vs fp := by
  induction h with
  | nil => intro _; exact .nil
  | int _ ih => intro hk; exact .int (ih hk)
  | bool _ ih => intro hk; exact .bool (ih hk)
  | str hs _ ih => intro hk; exact .str hs (ih hk)
  | sl0 _ ih => intro hk; exact .sl0 (ih hk)
  | sl1 _ h1 h2 h3 h4 h5 h6 h7 _ ih1 ih2 =>
    intro hk
    exact .sl1 (ih1 fun b hm => hk b (by simp [hm])) h1 h2 h3 h4 h5 ((hk _ (List.mem_cons_self ..)).trans h6) h7 (ih2 fun b hm => hk b (by simp [hm]))
theorem RepT.app {xs ys vs us fp fq} (h : RepT w xs vs fp) (k : RepT w ys us fq) : RepT w (xs ++ ys) (vs ++ us) (fp ++ fq) := by
  induction h with
  | nil => simpa using k
  | int _ ih => exact .int ih
  | bool _ ih => exact .bool ih
  | str hs _ ih => exact .str hs ih
  | sl0 _ ih => exact .sl0 ih
  | sl1 h0 h1 h2 h3 h4 h5 h6 h7 _ _ ih2 =>
    have := RepT.sl1 h0 h1 h2 h3 h4 h5 h6 h7 ih2
    simpa [List.append_assoc] using this
theorem RepT.split {xs ys vs fp} (h : RepT w (xs ++ ys) vs fp) :
    ∃ v1 v2 f1 f2, vs = v1 ++ v2 ∧ fp = f1 ++ f2 ∧ RepT w xs v1 f1 ∧ RepT w ys v2 f2 := by
  induction xs generalizing vs fp with
  | nil => exact ⟨[], vs, [], fp, rfl, rfl, .nil, h⟩
  | cons x xs ih =>
    cases h with
    | int h => obtain ⟨v1, v2, f1, f2, rfl, rfl, h1, h2⟩ := ih h; exact ⟨_ :: v1, v2, f1, f2, rfl, rfl, .int h1, h2⟩
    | bool h => obtain ⟨v1, v2, f1, f2, rfl, rfl, h1, h2⟩ := ih h; exact ⟨_ :: v1, v2, f1, f2, rfl, rfl, .bool h1, h2⟩
    | str hs h => obtain ⟨v1, v2, f1, f2, rfl, rfl, h1, h2⟩ := ih h; exact ⟨_ :: v1, v2, f1, f2, rfl, rfl, .str hs h1, h2⟩
    | sl0 h => obtain ⟨v1, v2, f1, f2, rfl, rfl, h1, h2⟩ := ih h; exact ⟨_ :: v1, v2, f1, f2, rfl, rfl, .sl0 h1, h2⟩
    | sl1 e0 e1 e2 e3 e4 e5 e6 e7 h =>
      obtain ⟨v1, v2, f1, f2, rfl, rfl, h1, h2⟩ := ih h
      exact ⟨_ :: v1, v2, _ :: (_ ++ f1), f2, rfl, by simp [List.append_assoc], .sl1 e0 e1 e2 e3 e4 e5 e6 e7 h1, h2⟩
end

/-- An empty slice without room. -/
def ZC (l : OLoc) (xs : List (List Da)) : Prop := l.has = false ∧ xs = [] ∧ ∃ a, l.sv = .slice a 0 0
def ObRep (w : World) (S : Nat → Prop) (β : Nat → OLoc) (l : OLoc) : Ob → Prop
  | .var cs => l.has = true ∧ ∃ c E, w.heap[l.blk]? = some (.cells c E (0, 0)) ∧ RepAs w S β cs c.toList
  | .lst E es xs => (l.sv.ownBlock = (if l.has then some l.blk else none) ∧ xs.length ≤ 281474976710656 ∧ (∀ x ∈ xs, x.length = es) ∧
      ∃ vs, w.ownsRow 0 E es l.sv xs.length vs ∧ RepDs w S xs.flatten vs) ∨ ZC l xs
  | .tr E es xs => (l.sv.ownBlock = (if l.has then some l.blk else none) ∧ xs.length ≤ 281474976710656 ∧ (∀ x ∈ xs, x.length = es) ∧
      ∃ vs fp, w.ownsRow 0 E es l.sv xs.length vs ∧ RepT w xs.flatten vs fp ∧ (∀ b ∈ fp, S b ∧ b ∈ l.clm) ∧ fp.Nodup) ∨ ZC l xs
  | .tk xs => l.has = false ∧ xs.length ≤ 281474976710656 ∧ ∃ fp, RepT w [.sl xs] [l.sv] fp ∧ (∀ b ∈ fp, S b ∧ b ∈ l.clm) ∧ fp.Nodup
  | .mt E es xs => l.has = false ∧ xs.length ≤ 281474976710656 ∧ (∀ x ∈ xs, x.length = es) ∧ (∀ a n c, l.sv = .slice (some a) n c → 0 < n → a = ⟨l.blk, 0, none⟩) ∧ ∃ fp, RepT w [.sl xs] [l.sv] fp ∧ (∀ b ∈ fp, b ∈ l.sub) ∧ fp.Nodup
  | .mu E es xs m q a n c => (l.has = false ∧ xs.length ≤ 281474976710656 ∧ (∀ x ∈ xs, x.length = es) ∧ (∀ a n c, l.sv = .slice (some a) n c → 0 < n → a = ⟨l.blk, 0, none⟩) ∧ ∃ fp, RepT w [.sl xs] [l.sv] fp ∧ (∀ b ∈ fp, b ∈ l.sub) ∧ fp.Nodup) ∧
      l.blk ∈ l.sub ∧ (∃ row ys, xs[m]? = some row ∧ row[q]? = some (.sl ys)) ∧ w.cell? ⟨l.blk, m * es + q, none⟩ = some (.slice a n c)
  | .fu E es xs c => l.sc = c ∧ xs.length ≤ c ∧ (xs.length ≤ 281474976710656 ∧ c ≤ maxLen) ∧ (∀ x ∈ xs, x.length = es) ∧
      ((l.has = true ∧ ∃ cur, w.heap[l.blk]? = some (.cells cur E (0, 0)) ∧ cur.size = c * es ∧ RepDs w S xs.flatten (cur.toList.take (xs.length * es))) ∨ (l.has = false ∧ c = 0))

/-- A list whose rows' blocks are its own is a list. -/
theorem ObRep.lst_of_tr {w : World} {S : Nat → Prop} {β : Nat → OLoc} {l : OLoc} {E es : Nat} {xs : List (List Da)} (h : ObRep w S β l (.tr E es xs)) : ObRep w S β l (.lst E es xs) := by
  rcases h with ⟨h1, h2, h3, vs, fp, h4, h5, h6, _⟩ | h
  · exact .inl ⟨h1, h2, h3, vs, h4, fp, h5.repF, fun b hb => (h6 b hb).1⟩
  · exact .inr h
theorem ZC.pos {l : OLoc} {xs : List (List Da)} {p : Prop} (h : ZC l xs) (hp : 0 < xs.length) : p := by
  rw [h.2.1] at hp; simp at hp
theorem ObRep.pos {w : World} {S : Nat → Prop} {β : Nat → OLoc} {l : OLoc} {E es : Nat} {xs : List (List Da)} (h : ObRep w S β l (.lst E es xs)) (hp : 0 < xs.length) : l.sv.ownBlock = (if l.has then some l.blk else none) ∧ xs.length ≤ 281474976710656 ∧ (∀ x ∈ xs, x.length = es) ∧
      ∃ vs, w.ownsRow 0 E es l.sv xs.length vs ∧ RepDs w S xs.flatten vs := by
  rcases h with h | h
  · exact h
  · exact h.pos hp
theorem ObRep.posT {w : World} {S : Nat → Prop} {β : Nat → OLoc} {l : OLoc} {E es : Nat} {xs : List (List Da)} (h : ObRep w S β l (.tr E es xs)) (hp : 0 < xs.length) : l.sv.ownBlock = (if l.has then some l.blk else none) ∧ xs.length ≤ 281474976710656 ∧ (∀ x ∈ xs, x.length = es) ∧
      ∃ vs fp, w.ownsRow 0 E es l.sv xs.length vs ∧ RepT w xs.flatten vs fp ∧ (∀ b ∈ fp, S b ∧ b ∈ l.clm) ∧ fp.Nodup := by
  rcases h with h | h
  · exact h
  · exact h.pos hp

theorem ownsRow_keep {w w' : World} {l : OLoc} {E es n : Nat} {vs : List Value} (h1 : l.sv.ownBlock = (if l.has then some l.blk else none)) (h4 : w.ownsRow 0 E es l.sv n vs) (hb : l.has = true → w'.heap[l.blk]? = w.heap[l.blk]?) : w'.ownsRow 0 E es l.sv n vs := by
  refine ⟨h4.1, ?_⟩
  rcases h4.2 with hn | ⟨g, cap, cur, hv, hb0, hg, rest⟩
  · exact .inl hn
  · refine .inr ⟨g, cap, cur, hv, hb0, ?_, rest⟩
    rw [hv] at h1
    simp only [Value.ownBlock] at h1
    split at h1
    · rename_i hh
      simp at h1
      rw [h1, hb hh, ← h1]; exact hg
    · simp at h1

theorem ObRep.mono {w w' : World} {S S' : Nat → Prop} {β β' : Nat → OLoc} {l : OLoc} {X : Ob} (h : ObRep w S β l X) (hb' : ∀ b, l.Own b → w'.heap[b]? = w.heap[b]?)
    (hk : ∀ b, S b → w'.heap[b]? = w.heap[b]?) (hs : ∀ b, S b → S' b) (hβ : ∀ o ∈ X.ids, β' o = β o) : ObRep w' S' β' l X := by
  have hb : l.has = true → w'.heap[l.blk]? = w.heap[l.blk]? := fun h => hb' _ (.inl ⟨h, rfl⟩)
  cases X with
  | var cs =>
    obtain ⟨h1, c, E, h2, h3⟩ := h
    exact ⟨h1, c, E, (hb h1).trans h2, h3.mono hk hs hβ⟩
  | lst E es xs =>
    rcases h with ⟨h1, h2, h3, vs, h4, h5⟩ | h
    · exact .inl ⟨h1, h2, h3, vs, ownsRow_keep h1 h4 hb, h5.mono hk hs⟩
    · exact .inr h
  | tr E es xs =>
    rcases h with ⟨h1, h2, h3, vs, fp, h4, h5, h6, h7⟩ | h
    · exact .inl ⟨h1, h2, h3, vs, fp, ownsRow_keep h1 h4 hb, h5.keep fun b hb => hk b (h6 b hb).1, fun b hb => ⟨hs b (h6 b hb).1, (h6 b hb).2⟩, h7⟩
    · exact .inr h
  | tk xs =>
    obtain ⟨h1, h2, fp, h3, h4, h5⟩ := h
    exact ⟨h1, h2, fp, h3.keep fun b hm => hk b (h4 b hm).1, fun b hb => ⟨hs b (h4 b hb).1, (h4 b hb).2⟩, h5⟩
  | mt E es xs =>
    obtain ⟨h1, h2, h6, h7, fp, h3, h4, h5⟩ := h
    exact ⟨h1, h2, h6, h7, fp, h3.keep fun b hm => hb' b (.inr (h4 b hm)), h4, h5⟩
  | mu E es xs m q a n c =>
    obtain ⟨⟨h1, h2, h6, h7, fp, h3, h4, h5⟩, h8, h9, h10⟩ := h
    exact ⟨⟨h1, h2, h6, h7, fp, h3.keep fun b hm => hb' b (.inr (h4 b hm)), h4, h5⟩, h8, h9, by rw [cell_of_heap (hb' _ (.inr h8))]; exact h10⟩
  | fu E es xs c =>
    obtain ⟨h0, h1, h2, h3, h⟩ := h
    refine ⟨h0, h1, h2, h3, ?_⟩
    rcases h with ⟨h4, cur, h5, h6, h7⟩ | h
    · exact .inl ⟨h4, cur, (hb h4).trans h5, h6, h7.mono hk hs⟩
    · exact .inr h

end AM
end Go.Proofs.Ytfcmmpmdofejeaa
