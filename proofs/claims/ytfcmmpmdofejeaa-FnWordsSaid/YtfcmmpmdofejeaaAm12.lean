/- An argument's reading as immutable data, and the way to a law's row; no conditions. -/
import Derived.Test.YtfcmmpmdofejeaaAm11
import Derived.ProofKit
import Derived.SizedLaws
import Derived.Deep.Slices
import Derived.ChangeSame
set_option linter.unusedSimpArgs false
set_option linter.unusedVariables false
namespace Go.Proofs.Ytfcmmpmdofejeaa
namespace AM
open Go Go.ChangeShapes Go.WideShapes Go.RowKit

/-- The fields of a struct's data. -/
def fieldsN (T : TypeId → List Da → Prop) : List TypeId → List Da → Prop
  | [], ds => ds = []
  | t :: ts, ds => ∃ d r, ds = d ++ r ∧ T t d ∧ fieldsN T ts r
/-- Data of a type. -/
def TypedN (P : Program) : Nat → TypeId → List Da → Prop
  | 0, _, _ => False
  | n + 1, t, ds => match P.underlying t with
    | some .bool => ∃ b, ds = [.bool b]
    | some (.int k) => ∃ m, ds = [.int k m] ∧ (Lit.int k m).wf = true
    | some .string => ∃ s, ds = [.str s]
    | some (.slice e) => ∃ xs, ds = [.sl xs] ∧ ∀ x ∈ xs, TypedN P n e x
    | some (.struct fs) => fieldsN (TypedN P n) (fs.toList.map (·.type)) ds
    | _ => False

def layB (P : Program) : List Field → Nat → Nat → Bool
  | [], off, n => off == n
  | f :: r, off, n => f.offset == off && layB P r (off + P.cellsOf f.type) n
def closedB (P : Program) (ts : List TypeId) : Bool := ts.all fun t => match P.underlying t with
  | some .bool => true
  | some (.int _) => true
  | some .string => true
  | some (.slice e) => ts.contains e && decide (0 < P.cellsOf e) && decide (0 < P.bytesOf e)
  | some (.struct fs) => layB P fs.toList 0 (P.cellsOf t) && fs.toList.all fun f => ts.contains f.type
  | _ => false

theorem weights_all {H : Type} {P : Program} {e : TypeId} : ∀ {l : List (DataW H)} {d : DataW H}, d ∈ l → ∀ n ∈ d.weights P e, n ∈ DataW.weightsAll P e l
  | a :: l, d, hd, n, hn => by
    simp only [DataW.weightsAll, List.mem_append]
    rcases List.mem_cons.1 hd with rfl | hd
    · exact .inl hn
    · exact .inr (weights_all hd n hn)

section
variable {H : Type} {enc : TypeId × Value → H} {P : Program} {w : World} {held : Bool} {ts : List TypeId}
theorem addr_add (b off i : Nat) : (⟨b, off, none⟩ : Addr).add i = ⟨b, off + i, none⟩ := by unfold Addr.add; split <;> simp_all

theorem read_fields {n : Nat} (ih : ∀ t cs x, t ∈ ts → DataW.trod enc P w 0 (fun _ => true) held n t cs = some x → (∀ m ∈ x.1.weights P t, m ≤ reachBytes) → ∃ ds, TypedN P n t ds ∧ RepDs w (· < w.heap.size) ds cs) :
    ∀ (fs : List Field) (off total : Nat) (cs : List Value) (xs : List (DataW H × List MemPlace)), layB P fs off total = true → (fs.all fun f => ts.contains f.type) = true → cs.length = total → off ≤ total → xs.length = fs.length →
      (∀ (i : Nat) (f : Field), fs[i]? = some f → DataW.trod enc P w 0 (fun _ => true) held n f.type ((cs.drop f.offset).take (P.cellsOf f.type)) = xs[i]?) →
      (∀ m ∈ DataW.weightsEach P (fs.map (·.type)) (xs.map (·.1)), m ≤ reachBytes) →
      ∃ ds, fieldsN (TypedN P n) (fs.map (·.type)) ds ∧ RepDs w (· < w.heap.size) ds (cs.drop off)
  | [], off, total, cs, xs, hl, _, hc, _, _, _, _ => by
    simp only [layB, beq_iff_eq] at hl
    refine ⟨[], rfl, ?_⟩
    rw [List.drop_eq_nil_of_le (by omega)]
    exact .nil
  | f :: r, off, total, cs, [], hl, _, hc, _, hx, _, _ => by simp at hx
  | f :: r, off, total, cs, x :: xs, hl, ht, hc, ho, hx, hr, hw => by
    simp only [layB, Bool.and_eq_true, beq_iff_eq] at hl
    obtain ⟨hl1, hl2⟩ := hl
    simp only [List.all_cons, Bool.and_eq_true] at ht
    have h0 := hr 0 f rfl
    simp only [List.getElem?_cons_zero] at h0
    simp only [List.map_cons, DataW.weightsEach, List.mem_append] at hw
    obtain ⟨d, hd1, hd2⟩ := ih f.type _ x (by simpa using ht.1) h0 fun m hm => hw m (.inl hm)
    have hle : off + P.cellsOf f.type ≤ total := by
      have key : ∀ (l : List Field) (o : Nat), layB P l o total = true → o ≤ total := by
        intro l
        induction l with
        | nil => intro o h; simp only [layB, beq_iff_eq] at h; omega
        | cons g l ih2 => intro o h; simp only [layB, Bool.and_eq_true, beq_iff_eq] at h; have := ih2 _ h.2; omega
      exact key _ _ hl2
    obtain ⟨ds, hs1, hs2⟩ := read_fields ih r (off + P.cellsOf f.type) total cs xs hl2 ht.2 hc hle (by simpa using hx) (fun i g hg => by simpa using hr (i + 1) g (by simpa using hg)) fun m hm => hw m (.inr hm)
    refine ⟨d ++ ds, ⟨d, ds, rfl, hd1, hs1⟩, ?_⟩
    have e : cs.drop off = (cs.drop off).take (P.cellsOf f.type) ++ cs.drop (off + P.cellsOf f.type) := by
      rw [← List.drop_drop, List.take_append_drop]
    rw [e]
    rw [hl1] at hd2
    exact hd2.app hs2

theorem read_elems {n C : Nat} {e : TypeId} {a : Addr} (hC : C = P.cellsOf e) (hpos : 0 < C) (ih : ∀ cs x, DataW.trod enc P w 0 (fun _ => true) held n e cs = some x → (∀ m ∈ x.1.weights P e, m ≤ reachBytes) → ∃ ds, TypedN P n e ds ∧ RepDs w (· < w.heap.size) ds cs) (elems : List (DataW H × List MemPlace)) :
    ∀ (k : Nat), k ≤ elems.length → (∀ i, i < k → (w.cells? 0 (a.add (i * C)) C).bind (DataW.trod enc P w 0 (fun _ => true) held n e) = elems[i]?) → (∀ i x, i < k → elems[i]? = some x → ∀ m ∈ x.1.weights P e, m ≤ reachBytes) →
      ∃ (xs : List (List Da)) (us : List Value), xs.length = k ∧ us.length = k * C ∧ RepDs w (· < w.heap.size) xs.flatten us ∧ (∀ x ∈ xs, TypedN P n e x ∧ x.length = C) ∧ ∀ i u, us[i]? = some u → w.cell? (a.add i) = some u := by
  intro k
  induction k with
  | zero => intro _ _ _; exact ⟨[], [], rfl, by simp, .nil, by simp, by simp⟩
  | succ k ihk =>
    intro hk hel hw
    obtain ⟨xs, us, h1, h2, h3, h4, h5⟩ := ihk (by omega) (fun i hi => hel i (by omega)) fun i x hi => hw i x (by omega)
    have hx := hel k (by omega)
    rw [List.getElem?_eq_getElem (by omega)] at hx
    simp only [Option.bind_eq_some_iff] at hx
    obtain ⟨cs, hc, hr⟩ := hx
    obtain ⟨d, hd1, hd2⟩ := ih cs _ hr (hw k _ (by omega) (List.getElem?_eq_getElem (by omega)))
    obtain ⟨_, hcl, hcell⟩ := World.cells?_some hc
    have hdl := hd2.len
    refine ⟨xs ++ [d], us ++ cs, by simp [h1], by simp [h2, hcl, Nat.add_mul], by simpa using h3.app hd2, fun x hx => ?_, fun i u hu => ?_⟩
    · rcases List.mem_append.1 hx with hx | hx
      · exact h4 x hx
      · simp only [List.mem_singleton] at hx; subst hx; exact ⟨hd1, by omega⟩
    · by_cases hi : i < us.length
      · rw [List.getElem?_append_left hi] at hu; exact h5 i u hu
      · rw [List.getElem?_append_right (by omega)] at hu
        have hj : i - us.length < C := by rw [← hcl]; exact (List.getElem?_eq_some_iff.1 hu).1
        have := hcell (i - us.length) hj
        rw [Go.Deep.add_add, show k * C + (i - us.length) = i by omega, hu] at this
        exact this

theorem read_da (hcl : closedB P ts = true) : ∀ (fuel : Nat) t cs x, t ∈ ts → DataW.trod enc P w 0 (fun _ => true) held fuel t cs = some x → (∀ m ∈ x.1.weights P t, m ≤ reachBytes) → ∃ ds, TypedN P fuel t ds ∧ RepDs w (· < w.heap.size) ds cs := by
  intro fuel
  induction fuel with
  | zero => intro t cs x _ h; simp [DataW.trod] at h
  | succ n ih =>
    intro t cs x ht h hw
    have hc := List.all_eq_true.1 hcl t ht
    simp only [TypedN]
    split at hc
    · rename_i hu
      obtain ⟨b, rfl, rfl⟩ := DataW.trod_bool hu h
      exact ⟨_, ⟨b, rfl⟩, .bool_ b⟩
    · rename_i hu
      obtain ⟨m, rfl, rfl, hwf⟩ := DataW.trod_int hu h
      exact ⟨_, ⟨m, rfl, hwf⟩, .int_ _ m⟩
    · rename_i hu
      obtain ⟨s, rfl, rfl, hs⟩ := DataW.trod_string hu h
      have := hw s.data.toList.length (by simp [DataW.weights])
      refine ⟨_, ⟨s, rfl⟩, .str_ s ?_⟩
      have h2 : s.data.toList.length = s.size := by rw [Array.length_toList]; rfl
      have := reachBytes_lt
      omega
    · rename_i e hu
      simp only [Bool.and_eq_true, decide_eq_true_eq, List.contains_iff_mem] at hc
      obtain ⟨⟨he, hpos⟩, hb⟩ := hc
      rcases DataW.trod_slice hu h with ⟨rfl, rfl⟩ | ⟨a, len, cap, elems, rest, n', hn, rfl, rfl, _, hle, hcap, hlen, hel, hsp, _⟩
      · exact ⟨[.sl []], ⟨[], rfl, by simp⟩, [], .sl0 rfl rfl (Nat.zero_le _) (Nat.zero_le _) .nil, by simp⟩
      · obtain rfl : n' = n := by omega
        obtain ⟨hr, _⟩ := hsp rfl
        simp only [DataW.weights, hu, List.mem_cons, List.mem_append] at hw
        obtain ⟨xs, us, h1, h2, h3, h4, h5⟩ := read_elems (a := a) rfl hpos (fun cs x => ih e cs x he) elems len (by omega) hel fun i x hi hx m hm => hw m (.inr (.inl (weights_all (List.mem_map.2 ⟨x, List.mem_of_getElem? hx, rfl⟩) m hm)))
        have hsm : len ≤ 281474976710656 := by
          have := hw _ (.inl rfl)
          have h47 := reachBytes_lt
          simp only [List.length_map] at this
          have : len * 1 ≤ (elems.length + rest.length) * P.bytesOf e := Nat.mul_le_mul (by omega) hb
          omega
        refine ⟨[.sl xs], ⟨xs, rfl, fun x hx => (h4 x hx).1⟩, ?_⟩
        by_cases h0 : len = 0
        · subst h0
          have : xs = [] := List.length_eq_zero_iff.1 h1
          subst this
          exact ⟨[], .sl0 rfl rfl hle hsm .nil, by simp⟩
        · have hus : 0 < us.length := by rw [h2]; exact Nat.mul_pos (by omega) hpos
          have hc0 := h5 0 _ (List.getElem?_eq_getElem hus)
          obtain ⟨b, off, spot⟩ := a
          have hb2 : spot = none ∧ b < w.heap.size := by
            simp only [Addr.add, if_true, World.cell?] at hc0
            split at hc0
            · rename_i hh
              split at hc0
              · simp at hc0
              · rename_i hs
                refine ⟨by cases spot <;> simp_all, ?_⟩
                exact (Array.getElem?_eq_some_iff.1 hh).1
            · simp at hc0
          obtain ⟨rfl, hb3⟩ := hb2
          obtain ⟨fi, hfi, hS⟩ := h3
          refine ⟨b :: (fi ++ []), .sl1 hfi h1.symm hle hsm (fun y hy => (h4 y hy).2) (fun i u hu => ?_) hb3 .nil, fun b' hb' => ?_⟩
          · have := h5 i u hu; rwa [addr_add] at this
          · simp only [List.append_nil, List.mem_cons] at hb'
            rcases hb' with rfl | hb'
            · exact hb3
            · exact hS b' hb'
    · rename_i fs hu
      simp only [Bool.and_eq_true] at hc
      obtain ⟨xs, n', hn, rfl, hcs, hxl, hf⟩ := DataW.trod_struct hu h
      obtain rfl : n' = n := by omega
      obtain ⟨ds, h1, h2⟩ := read_fields ih fs.toList 0 (P.cellsOf t) cs xs hc.1 hc.2 hcs (Nat.zero_le _) (by simpa using hxl) (fun i f hi => hf i f (by simpa using hi)) (by simpa [DataW.weights, hu] using hw)
      exact ⟨ds, h1, by simpa using h2⟩
    · simp at hc
end

end AM
end Go.Proofs.Ytfcmmpmdofejeaa
