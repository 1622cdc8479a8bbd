/- Contracts of functions of the program, out of what their texts ask; no conditions. -/
import Derived.Test.YtflfopedammhoaaHi
import Derived.Test.YtflfopedammhoaaDt
import Derived.Test.YtflfopedammhoaaPfB
set_option linter.unusedVariables false
set_option linter.unusedSimpArgs false
set_option maxRecDepth 100000
namespace Go.Proofs.Ytflfopedammhoaa
namespace AM
open Go Go.ChangeShapes Go.WideShapes Go.RowKit

/-- A number put in where it belongs. -/
def insN (n : Int) : List Int → List Int
  | [] => [n]
  | x :: r => if x < n then x :: insN n r else n :: x :: r
def numAdd (l : List Int) (n : Int) : List Int := if n ∈ l then l else insN n l
def adds (out l : List Int) : List Int := l.foldl numAdd out
mutual
def Tm.vs : Tm → List Int → List Int
  | .mk f v ks, out => Tm.vss ks (if f = -1 then numAdd out v else out)
def Tm.vss : List Tm → List Int → List Int
  | [], out => out
  | t :: r, out => Tm.vss r (Tm.vs t out)
end
mutual
def Tm.occ : Tm → Int → Prop
  | .mk f v ks, x => (f = -1 ∧ x = v) ∨ Tm.occs ks x
def Tm.occs : List Tm → Int → Prop
  | [], _ => False
  | t :: r, x => Tm.occ t x ∨ Tm.occs r x
end
mutual
def Tm.cnt : Tm → Int → Nat
  | .mk f v ks, x => (if f = -1 ∧ v = x then 1 else 0) + Tm.cnts ks x
def Tm.cnts : List Tm → Int → Nat
  | [], _ => 0
  | t :: r, x => Tm.cnt t x + Tm.cnts r x
end
theorem insN_len (n : Int) (l : List Int) : (insN n l).length = l.length + 1 := by
  induction l with
  | nil => rfl
  | cons x r ih => unfold insN; split <;> simp_all
theorem numAdd_len (l : List Int) (n : Int) : (numAdd l n).length ≤ l.length + 1 := by
  unfold numAdd; split
  · omega
  · rw [insN_len]; omega
theorem mem_insN {n x : Int} {l : List Int} : x ∈ insN n l ↔ x = n ∨ x ∈ l := by
  induction l with
  | nil => simp [insN]
  | cons y r ih => 
    unfold insN; split
    · simp only [List.mem_cons, ih]
      constructor
      · rintro (h | h | h) <;> simp [h]
      · rintro (h | h | h) <;> simp [h]
    · simp
theorem mem_numAdd {n x : Int} {l : List Int} : x ∈ numAdd l n ↔ x = n ∨ x ∈ l := by
  unfold numAdd; split
  · rename_i h
    constructor
    · exact .inr
    · rintro (rfl | h1)
      · exact h
      · exact h1
  · exact mem_insN
abbrev Srt (l : List Int) : Prop := l.Pairwise (· < ·)
theorem srt_insN {n : Int} {l : List Int} (h : Srt l) (hn : n ∉ l) : Srt (insN n l) := by
  induction l with
  | nil => simp [insN, Srt]
  | cons y r ih =>
    obtain ⟨h1, h2⟩ := List.pairwise_cons.1 h
    unfold insN; split
    · rename_i hy
      refine List.pairwise_cons.2 ⟨fun z hz => ?_, ih h2 fun h => hn (List.mem_cons_of_mem _ h)⟩
      rcases mem_insN.1 hz with rfl | hz
      · exact hy
      · exact h1 z hz
    · rename_i hy
      have hne : n ≠ y := fun e => hn (by simp [e])
      refine List.pairwise_cons.2 ⟨fun z hz => ?_, h⟩
      rcases List.mem_cons.1 hz with rfl | hz
      · omega
      · have := h1 z hz; omega
theorem srt_numAdd {n : Int} {l : List Int} (h : Srt l) : Srt (numAdd l n) := by
  unfold numAdd; split
  · exact h
  · rename_i hn; exact srt_insN h hn
theorem srt_ext : ∀ {a b : List Int}, Srt a → Srt b → (∀ x, x ∈ a ↔ x ∈ b) → a = b
  | [], [], _, _, _ => rfl
  | [], y :: s, _, _, h => absurd ((h y).2 (by simp)) (by simp)
  | x :: r, [], _, _, h => absurd ((h x).1 (by simp)) (by simp)
  | x :: r, y :: s, ha, hb, h => by
    obtain ⟨a1, a2⟩ := List.pairwise_cons.1 ha
    obtain ⟨b1, b2⟩ := List.pairwise_cons.1 hb
    have hxy : x = y := by
      have h1 := (h x).1 (by simp)
      have h2 := (h y).2 (by simp)
      rcases List.mem_cons.1 h1 with h1 | h1
      · exact h1
      · rcases List.mem_cons.1 h2 with h2 | h2
        · exact h2.symm
        · have := b1 x h1; have := a1 y h2; omega
    subst hxy
    refine congrArg (x :: ·) (srt_ext a2 b2 fun z => ?_)
    have hz := h z
    simp only [List.mem_cons] at hz
    constructor
    · intro hm
      have := a1 z hm
      rcases hz.1 (.inr hm) with rfl | h
      · omega
      · exact h
    · intro hm
      have := b1 z hm
      rcases hz.2 (.inr hm) with rfl | h
      · omega
      · exact h
theorem mem_adds {l : List Int} : ∀ {out : List Int} {x : Int}, x ∈ adds out l ↔ x ∈ out ∨ x ∈ l := by
  induction l with
  | nil => intro out x; simp [adds]
  | cons y r ih =>
    intro out x
    have : adds out (y :: r) = adds (numAdd out y) r := rfl
    rw [this, ih, mem_numAdd, List.mem_cons]
    constructor
    · rintro ((h | h) | h) <;> simp [h]
    · rintro (h | h | h) <;> simp [h]
theorem srt_adds {l : List Int} : ∀ {out : List Int}, Srt out → Srt (adds out l) := by
  induction l with
  | nil => intro out h; exact h
  | cons y r ih => intro out h; exact ih (srt_numAdd h)
theorem adds_len (l : List Int) : ∀ out : List Int, (adds out l).length ≤ out.length + l.length := by
  induction l with
  | nil => intro out; exact Nat.le_refl _
  | cons y r ih =>
    intro out
    have h1 := ih (numAdd out y)
    have h2 := numAdd_len out y
    have : adds out (y :: r) = adds (numAdd out y) r := rfl
    rw [this, List.length_cons]; omega
mutual
theorem Tm.vs_len : ∀ (t : Tm) (out : List Int), (t.vs out).length ≤ out.length + t.cn + 1
  | .mk f v ks, out => by
    have h1 := Tm.vss_len ks (if f = -1 then numAdd out v else out)
    have h2 := numAdd_len out v
    simp only [Tm.vs, Tm.cn]
    split at h1 <;> simp_all <;> omega
theorem Tm.vss_len : ∀ (l : List Tm) (out : List Int), (Tm.vss l out).length ≤ out.length + Tm.cns l
  | [], out => by simp [Tm.vss]
  | t :: r, out => by
    have h1 := Tm.vs_len t out
    have h2 := Tm.vss_len r (t.vs out)
    simp only [Tm.vss, Tm.cns]
    omega
end
mutual
theorem Tm.mem_vs : ∀ (t : Tm) (out : List Int) (x : Int), x ∈ t.vs out ↔ x ∈ out ∨ t.occ x
  | .mk f v ks, out, x => by
    simp only [Tm.vs, Tm.occ]
    rw [Tm.mem_vss ks]
    split
    · rename_i h
      rw [mem_numAdd]
      simp only [h, true_and]
      constructor
      · rintro ((h | h) | h) <;> simp [h]
      · rintro (h | h | h) <;> simp [h]
    · rename_i h
      simp [h]
theorem Tm.mem_vss : ∀ (l : List Tm) (out : List Int) (x : Int), x ∈ Tm.vss l out ↔ x ∈ out ∨ Tm.occs l x
  | [], out, x => by simp [Tm.vss, Tm.occs]
  | t :: r, out, x => by
    simp only [Tm.vss, Tm.occs]
    rw [Tm.mem_vss r, Tm.mem_vs t, or_assoc]
end
mutual
theorem Tm.srt_vs : ∀ (t : Tm) {out : List Int}, Srt out → Srt (t.vs out)
  | .mk f v ks, out, h => by
    simp only [Tm.vs]
    split
    · exact Tm.srt_vss ks (srt_numAdd h)
    · exact Tm.srt_vss ks h
theorem Tm.srt_vss : ∀ (l : List Tm) {out : List Int}, Srt out → Srt (Tm.vss l out)
  | [], out, h => h
  | t :: r, out, h => Tm.srt_vss r (Tm.srt_vs t h)
end
mutual
theorem Tm.cnt_le : ∀ (t : Tm) (x : Int), t.cnt x ≤ t.cn + 1
  | .mk f v ks, x => by
    have h1 := Tm.cnts_le ks x
    simp only [Tm.cnt, Tm.cn]
    split <;> omega
theorem Tm.cnts_le : ∀ (l : List Tm) (x : Int), Tm.cnts l x ≤ Tm.cns l
  | [], x => by simp [Tm.cnts]
  | t :: r, x => by
    have h1 := Tm.cnt_le t x
    have h2 := Tm.cnts_le r x
    simp only [Tm.cnts, Tm.cns]
    omega
end
mutual
theorem Tm.cnt_zero : ∀ (t : Tm) (x : Int), t.cnt x = 0 ↔ ¬ t.occ x
  | .mk f v ks, x => by
    have h1 := Tm.cnts_zero ks x
    simp only [Tm.cnt, Tm.occ, not_or]
    split
    · rename_i h
      constructor
      · intro h; omega
      · rintro ⟨h2, _⟩; exact absurd ⟨h.1, h.2.symm⟩ h2
    · rename_i h
      rw [Nat.zero_add, h1]
      constructor
      · exact fun h2 => ⟨fun h3 => h ⟨h3.1, h3.2.symm⟩, h2⟩
      · exact fun h2 => h2.2
theorem Tm.cnts_zero : ∀ (l : List Tm) (x : Int), Tm.cnts l x = 0 ↔ ¬ Tm.occs l x
  | [], x => by simp [Tm.cnts, Tm.occs]
  | t :: r, x => by
    have h1 := Tm.cnt_zero t x
    have h2 := Tm.cnts_zero r x
    simp only [Tm.cnts, Tm.occs, not_or]
    rw [← h1, ← h2]; omega
end
theorem map_app_get {α β : Type} {g : α → β} {p : List α} {x : α} {q : List α} : ((p ++ x :: q).map g)[p.length]? = some (g x) := by simp
theorem das_app_get {p : List Tm} {x : Tm} {q : List Tm} : (Tm.das (p ++ x :: q))[p.length]? = some x.da := by rw [Tm.das_map]; simp
theorem take_map_len {α β : Type} (g : α → β) (p : List α) : List.take p.length (p.map g) = p.map g := List.take_of_length_le (by simp)
theorem len_app1 {α : Type} (p : List α) (x : α) : (p ++ [x]).length = p.length + 1 := by simp
/-- The first place where something holds. -/
def idxP (p : Int → Bool) : List Int → Nat → Int
  | [], _ => -1
  | x :: r, i => if p x then (i : Int) else idxP p r (i + 1)
theorem idxP_neg {p : Int → Bool} : ∀ {l : List Int} {i : Nat}, 0 ≤ idxP p l i ↔ ∃ x ∈ l, p x = true
  | [], i => by simp [idxP]
  | x :: r, i => by
    unfold idxP; split
    · rename_i h; simp [h]
    · rename_i h; rw [idxP_neg]; simp [h]
theorem idxP_ins {n : Int} : ∀ {l : List Int} {i : Nat}, n ∉ l → (idxP (fun x => decide (n < x)) l i < 0 ∧ insN n l = l ++ [n]) ∨ ∃ P R, l = P ++ R ∧ insN n l = P ++ n :: R ∧ idxP (fun x => decide (n < x)) l i = ((i + P.length : Nat) : Int)
  | [], i, _ => .inl ⟨by simp [idxP], rfl⟩
  | x :: r, i, h => by
    have hne : n ≠ x := fun e => h (by simp [e])
    unfold idxP insN
    by_cases hx : n < x
    · rw [if_pos (by simpa using hx), if_neg (by omega)]
      exact .inr ⟨[], x :: r, rfl, rfl, by simp⟩
    · rw [if_neg (by simpa using hx), if_pos (by omega)]
      rcases idxP_ins (l := r) (i := i + 1) (fun h1 => h (List.mem_cons_of_mem _ h1)) with ⟨h1, h2⟩ | ⟨P, R, rfl, h2, h3⟩
      · exact .inl ⟨h1, by rw [h2]; rfl⟩
      · exact .inr ⟨x :: P, R, rfl, by rw [h2]; rfl, by rw [h3]; simp; omega⟩
theorem indexInt_loop (l : List Int) (n : Int) (hl : l.length ≤ 100000000) : ∀ (q p : List Int), l = p ++ q → slices_Index_int_L2 (Z (idxP (fun x => decide (n = x)) q p.length)) [] (l.map In.da) n (l.length : Int) (p.length : Int)
  | [], p, e => by
    apply slices_Index_int_L2_of
    subst e
    exact ifB_f (lt_decF (by simp)) ⟨rfl, rfl⟩
  | x :: q, p, e => by
    apply slices_Index_int_L2_of
    have ih := indexInt_loop l n hl q (p ++ [x]) (by simp [e])
    subst e
    rw [len_app1] at ih
    refine ifB_t (lt_dec (by simp)) ⟨p.length, rfl, x, map_app_get, ?_⟩
    by_cases h : n = x
    · exact ifB_t (by simpa using h) ⟨by simp [idxP, h], rfl⟩
    · refine ifB_f (by simpa using h) ?_
      rw [wr1 (n := p.length + 1) (by omega) (by simp at hl; omega)]
      simpa [idxP, h] using ih
theorem containsInt_call (l : List Int) (n : Int) (hl : l.length ≤ 100000000) : XC Try.prog 177 [L (l.map In.da), Z n] [] (B (decide (n ∈ l))) [] := by
  apply slices_Contains_int_of
  refine ⟨_, slices_Index_int_of (by simpa using indexInt_loop l n hl l [] rfl), ?_, rfl⟩
  congr 1
  rw [decide_eq_decide, idxP_neg]
  simp
theorem implNumIn_call (l : List Int) (n : Int) (hl : l.length ≤ 100000000) : XC Try.prog 128 [L (l.map In.da), Z n] [] (B (decide (n ∈ l))) [] := by
  apply impl_NumIn_of
  exact ⟨_, containsInt_call l n hl, rfl, rfl⟩
theorem specNumIn_loop (l : List Int) (n : Int) (hl : l.length ≤ 100000000) : ∀ (q p : List Int), l = p ++ q → spec_NumIn_L2 (B (decide (n ∈ q))) [] (l.map In.da) n (p.length : Int)
  | [], p, e => by
    apply spec_NumIn_L2_of
    subst e
    exact ifB_f (lt_decF (by simp)) ⟨by simp, rfl⟩
  | x :: q, p, e => by
    apply spec_NumIn_L2_of
    have ih := specNumIn_loop l n hl q (p ++ [x]) (by simp [e])
    subst e
    rw [len_app1] at ih
    refine ifB_t (lt_dec (by simp)) ⟨p.length, rfl, x, map_app_get, ?_⟩
    by_cases h : x = n
    · exact ifB_t (by simpa using h) ⟨by simp [h], rfl⟩
    · refine ifB_f (by simpa using h) ?_
      rw [wr1 (n := p.length + 1) (by omega) (by simp at hl; omega)]
      have : (n ∈ x :: q) = (n ∈ q) := by simp; intro e; exact absurd e.symm h
      simpa [this] using ih
theorem specNumIn_call (l : List Int) (n : Int) (hl : l.length ≤ 100000000) : XC Try.prog 142 [L (l.map In.da), Z n] [] (B (decide (n ∈ l))) [] := by
  apply spec_NumIn_of
  simpa using specNumIn_loop l n hl l [] rfl
theorem specNumAdd_loop (l : List Int) (n : Int) (hl : l.length ≤ 100000000) : ∀ (q p : List Int), l = p ++ q → spec_NumAdd_L4 (L ((p ++ insN n q).map In.da)) [] (l.map In.da) n (p.length : Int)
  | [], p, e => by
    apply spec_NumAdd_L4_of
    subst e
    refine ifB_f (lt_decF (by simp)) ⟨p.length, rfl, ⟨by simp⟩, ⟨ints_len _⟩, ⟨?_⟩, ⟨?_⟩, ⟨by simp at *; omega⟩, ⟨by simp at *; omega⟩, p.length, rfl, ⟨by simp⟩, ⟨ints_len _⟩, ⟨by simp⟩, ⟨?_⟩, ⟨by simp at *; omega⟩, ?_, rfl⟩
    · intro y hy; exact ints_len _ y (List.mem_of_mem_take (List.mem_of_mem_drop hy))
    · intro y hy; exact ints_flat _ y (List.mem_of_mem_take (List.mem_of_mem_drop hy))
    · intro y hy; exact ints_flat _ y (List.mem_of_mem_take (List.mem_of_mem_drop hy))
    · simp [insN, take_map_len]; rfl
  | x :: q, p, e => by
    apply spec_NumAdd_L4_of
    have ih := specNumAdd_loop l n hl q (p ++ [x]) (by simp [e])
    subst e
    rw [len_app1] at ih
    refine ifB_t (lt_dec (by simp)) ⟨p.length, rfl, x, map_app_get, ?_⟩
    by_cases h : x < n
    · refine ifB_t (by simpa using h) ?_
      rw [wr1 (n := p.length + 1) (by omega) (by simp at hl; omega)]
      simpa [insN, h] using ih
    · refine ifB_f (by simpa using h) ⟨p.length, rfl, ⟨by simp⟩, ⟨ints_len _⟩, ⟨?_⟩, ⟨?_⟩, ⟨by simp at *; omega⟩, ⟨by simp at *; omega⟩, p.length, rfl, ⟨by simp⟩, ⟨ints_len _⟩, ⟨?_⟩, ⟨?_⟩, ⟨by simp at *; omega⟩, ?_, rfl⟩
      · intro y hy; exact ints_len _ y (List.mem_of_mem_take (List.mem_of_mem_drop hy))
      · intro y hy; exact ints_flat _ y (List.mem_of_mem_take (List.mem_of_mem_drop hy))
      · intro y hy; exact ints_len _ y (List.mem_of_mem_take (List.mem_of_mem_drop hy))
      · intro y hy; exact ints_flat _ y (List.mem_of_mem_take (List.mem_of_mem_drop hy))
      · simp [insN, h, take_map_len, List.take_append, List.drop_append]; rfl
theorem specNumAdd_call (l : List Int) (n : Int) (hl : l.length ≤ 100000000) : XC Try.prog 143 [L (l.map In.da), Z n] [] (L ((numAdd l n).map In.da)) [] := by
  apply spec_NumAdd_of
  refine ⟨_, specNumIn_call l n hl, ?_⟩
  by_cases h : n ∈ l
  · exact ifB_t (by simpa using h) ⟨⟨ints_len _⟩, ⟨ints_flat _⟩, ⟨by simp; omega⟩, by simp [numAdd, h], rfl⟩
  · refine ifB_f (by simpa using h) ?_
    simpa [numAdd, h] using specNumAdd_loop l n hl l [] rfl
theorem cloneInt_call (l : List Int) (hl : l.length ≤ 100000000) : XC Try.prog 159 [L (l.map In.da)] [] (.one (.ol 0)) [(0, .tr 3 1 (l.map In.da))] := by
  apply slices_Clone_int_of
  refine ⟨fun h => ⟨rfl, ?_⟩, ⟨ints_len _⟩, ⟨ints_flat _⟩, ⟨by simp; omega⟩, rfl, by simp⟩
  cases l with
  | nil => rfl
  | cons x r => simp [In.da] at h
theorem idxAdd_loop (l : List Int) (n : Int) (hl : l.length ≤ 100000000) : ∀ (q p : List Int), l = p ++ q → slices_IndexFunc_int_impl_NumAdd_1_L2 (Z (idxP (fun x => decide (n < x)) q p.length)) [(2000, .var [.d (.int .i64 n)])] (l.map In.da) (l.length : Int) (p.length : Int) n
  | [], p, e => by
    apply slices_IndexFunc_int_impl_NumAdd_1_L2_of
    subst e
    exact ifB_f (lt_decF (by simp)) ⟨rfl, rfl⟩
  | x :: q, p, e => by
    apply slices_IndexFunc_int_impl_NumAdd_1_L2_of
    have ih := idxAdd_loop l n hl q (p ++ [x]) (by simp [e])
    subst e
    rw [len_app1] at ih
    refine ifB_t (lt_dec (by simp)) ⟨p.length, rfl, x, map_app_get, _, _, impl_NumAdd_1_of ⟨rfl, rfl⟩, ?_⟩
    by_cases h : n < x
    · exact ifB_t (by simpa using h) ⟨by simp [idxP, h], rfl⟩
    · refine ifB_f (by simpa using h) ?_
      rw [wr1 (n := p.length + 1) (by omega) (by simp at hl; omega)]
      simpa [idxP, h] using ih
theorem insInt_call (P R : List Int) (n : Int) (hl : P.length + R.length ≤ 100000000) : XC Try.prog 162 [.one (.ol 2000), Z (P.length : Int), .one (.ol 2001)] [(2000, .tr 3 1 ((P ++ R).map In.da)), (2001, .lst 3 1 [In.da n])] (.one (.ol 0)) [(2001, .lst 3 1 [In.da n]), (0, .tr 3 1 ((P ++ n :: R).map In.da))] := by
  have h := insInt_lst (P.map In.da) (R.map In.da) (In.da n) (by simpa using hl)
  rw [List.length_map, ← List.map_append] at h
  have e : P.map In.da ++ In.da n :: R.map In.da = (P ++ n :: R).map In.da := by simp
  rw [e] at h
  exact h.imp (.cons (obImp_tr _ _ _) (.cons (.refl _) .nil)) (.cons (.refl _) (.cons (obImp_flat (ints_flat _)) .nil))
theorem implNumAdd_call (l : List Int) (n : Int) (hl : l.length ≤ 100000000) : XC Try.prog 102 [L (l.map In.da), Z n] [] (.one (.ol 0)) [(0, .tr 3 1 ((numAdd l n).map In.da))] := by
  apply impl_NumAdd_of
  refine ⟨_, cloneInt_call l hl, _, implNumIn_call l n hl, ?_⟩
  by_cases h : n ∈ l
  · exact ifB_t (by simpa using h) ⟨rfl, by simp [numAdd, h]⟩
  · refine ifB_f (by simpa using h) ⟨_, _, slices_IndexFunc_int_impl_NumAdd_1_of (by simpa using idxAdd_loop l n hl l [] rfl), ?_⟩
    rcases idxP_ins (i := 0) h with ⟨h1, h2⟩ | ⟨P, R, rfl, h2, h3⟩
    · have := insInt_call l [] n (by simpa using hl)
      rw [List.append_nil, ← h2] at this
      exact ifB_t (by simpa using h1) ⟨(numAdd l n).map In.da, [In.da n], by simpa [numAdd, h, In.da] using this, rfl, rfl⟩
    · have := insInt_call P R n (by simpa using hl)
      rw [← h2] at this
      refine ifB_f (by rw [h3]; simp) ⟨(numAdd (P ++ R) n).map In.da, [In.da n], ?_, rfl, rfl⟩
      rw [h3]
      simpa [numAdd, h, In.da] using this

end AM
end Go.Proofs.Ytflfopedammhoaa
