/- Contracts of functions of the program, out of what their texts ask; no conditions. -/
import Derived.Test.YtajcoogpmockiaaHe1
import Derived.Test.YtajcoogpmockiaaDt
import Derived.Test.YtajcoogpmockiaaTg
set_option linter.unusedVariables false
set_option linter.unusedSimpArgs false
set_option maxRecDepth 100000
namespace Go.Proofs.Ytajcoogpmockiaa
namespace AM
open Go Go.ChangeShapes Go.WideShapes Go.RowKit

/-- A row with its tags, and what it stands for. -/
def TgP {α : Type} (da : α → List Da) (z : List Da × α) : Prop := z.1.map Da.u1 = da z.2
theorem zip_tags {α : Type} {da : α → List Da} : ∀ {xs' : List (List Da)} {ls : List α}, xs'.map (List.map Da.u1) = ls.map da → ∃ zs : List (List Da × α), zs.map (·.1) = xs' ∧ zs.map (·.2) = ls ∧ ∀ z ∈ zs, TgP da z
  | [], [], _ => ⟨[], rfl, rfl, by simp⟩
  | [], y :: s, h => by simp at h
  | x :: r, [], h => by simp at h
  | x :: r, y :: s, h => by
    simp only [List.map_cons, List.cons.injEq] at h
    obtain ⟨zs, h1, h2, h3⟩ := zip_tags h.2
    refine ⟨(x, y) :: zs, by simp [h1], by simp [h2], fun z hz => ?_⟩
    rcases List.mem_cons.1 hz with rfl | hz
    · exact h.1
    · exact h3 z hz
theorem tags_map {α : Type} {da : α → List Da} : ∀ {zs : List (List Da × α)}, (∀ z ∈ zs, TgP da z) → (zs.map (·.1)).map (List.map Da.u1) = (zs.map (·.2)).map da
  | [], _ => rfl
  | z :: r, h => by
    simp only [List.map_cons]
    rw [tags_map fun x hx => h x (by simp [hx]), h z (by simp)]
theorem u1_bool {y : Da} {b : Bool} (h : y.u1 = .bool b) : y = .bool b := by cases y <;> simp [Da.u1] at h ⊢; exact h
theorem u1_int {y : Da} {k : IntKind} {n : Int} (h : y.u1 = .int k n) : y = .int k n := by cases y <;> simp [Da.u1] at h ⊢; exact h
theorem u1_str {y : Da} {b : ByteArray} (h : y.u1 = .str b) : y = .str b := by cases y <;> simp [Da.u1] at h ⊢; exact h
theorem u1_ut (y : Da) : y.u1.ut = y.ut := by cases y <;> simp [Da.u1, Da.ut]
theorem utL_u1 (r : List Da) : Da.utL (r.map Da.u1) = Da.utL r := by
  rw [utL_map, utL_map, List.map_map]
  exact List.map_congr_left fun y _ => u1_ut y
mutual
theorem Tm.ut_da : ∀ t : Tm, Da.utL t.da = t.da
  | .mk f v ks => by
    have h := Tm.ut_das ks
    simp [Tm.da, Da.utL, Da.ut, h]
theorem Tm.ut_das : ∀ l : List Tm, Da.utR (Tm.das l) = Tm.das l
  | [] => rfl
  | t :: r => by
    have h1 := Tm.ut_da t
    have h2 := Tm.ut_das r
    simp [Tm.das, Da.utR, h1, h2]
end
theorem utL_app (a b : List Da) : Da.utL (a ++ b) = Da.utL a ++ Da.utL b := by simp [utL_map]
theorem Li.ut_da (x : Li) : Da.utL x.da = x.da := by
  obtain ⟨p, l, r⟩ := x
  show Da.utL (.bool p :: (l.da ++ r.da)) = _
  rw [Da.utL, utL_app, l.ut_da, r.ut_da]; rfl
theorem utR_da {α : Type} {da : α → List Da} (h : ∀ x, Da.utL (da x) = da x) (l : List α) : Da.utR (l.map da) = l.map da := by
  rw [utR_map, List.map_map]
  exact List.map_congr_left fun x _ => by rw [Function.comp_apply, ← utL_map]; exact h x
theorem TgP.ut {α : Type} {da : α → List Da} (hd : ∀ x, Da.utL (da x) = da x) {z : List Da × α} (h : TgP da z) : Da.utL z.1 = da z.2 := by
  rw [← utL_u1, h, hd]
theorem tags_utR {α : Type} {da : α → List Da} (hd : ∀ x, Da.utL (da x) = da x) : ∀ {zs : List (List Da × α)}, (∀ z ∈ zs, TgP da z) → Da.utR (zs.map (·.1)) = (zs.map (·.2)).map da
  | [], _ => rfl
  | z :: r, h => by
    simp only [List.map_cons, Da.utR]
    rw [tags_utR hd fun x hx => h x (by simp [hx]), (h z (by simp)).ut hd]
theorem TgP.lit {z : List Da × Li} (h : TgP Li.da z) : ∃ b n1 n2 d n3 n4 d1, z.1 = [.bool b, .int .i64 n1, .int .i64 n2, d, .int .i64 n3, .int .i64 n4, d1] := by
  obtain ⟨row, ⟨p, ⟨f, v, ks⟩, ⟨g, u, ms⟩⟩⟩ := z
  have h : row.map Da.u1 = [.bool p, .int .i64 f, .int .i64 v, .sl (Tm.das ks), .int .i64 g, .int .i64 u, .sl (Tm.das ms)] := h
  obtain ⟨y1, r1, rfl, h1, h⟩ := List.map_eq_cons_iff.1 h
  obtain ⟨y2, r2, rfl, h2, h⟩ := List.map_eq_cons_iff.1 h
  obtain ⟨y3, r3, rfl, h3, h⟩ := List.map_eq_cons_iff.1 h
  obtain ⟨y4, r4, rfl, h4, h⟩ := List.map_eq_cons_iff.1 h
  obtain ⟨y5, r5, rfl, h5, h⟩ := List.map_eq_cons_iff.1 h
  obtain ⟨y6, r6, rfl, h6, h⟩ := List.map_eq_cons_iff.1 h
  obtain ⟨y7, r7, rfl, h7, h⟩ := List.map_eq_cons_iff.1 h
  rw [List.map_eq_nil_iff.1 h]
  exact ⟨p, f, v, y4, g, u, y7, by rw [u1_bool h1, u1_int h2, u1_int h3, u1_int h5, u1_int h6]⟩
theorem TgP.term {z : List Da × Tm} (h : TgP Tm.da z) : ∃ n1 n2 d, z.1 = [.int .i64 n1, .int .i64 n2, d] := by
  obtain ⟨row, ⟨f, v, ks⟩⟩ := z
  have h : row.map Da.u1 = [.int .i64 f, .int .i64 v, .sl (Tm.das ks)] := h
  obtain ⟨y1, r1, rfl, h1, h⟩ := List.map_eq_cons_iff.1 h
  obtain ⟨y2, r2, rfl, h2, h⟩ := List.map_eq_cons_iff.1 h
  obtain ⟨y3, r3, rfl, h3, h⟩ := List.map_eq_cons_iff.1 h
  rw [List.map_eq_nil_iff.1 h]
  exact ⟨f, v, y3, by rw [u1_int h1, u1_int h2]⟩
/-- The first place where something holds. -/
def idxG {α : Type} (p : α → Bool) : List α → Nat → Int
  | [], _ => -1
  | x :: r, i => if p x then (i : Int) else idxG p r (i + 1)
theorem idxG_spec {α : Type} (p : α → Bool) : ∀ (l : List α) (i : Nat), (idxG p l i = -1 ∧ ∀ x ∈ l, p x = false) ∨ ∃ P x R, l = P ++ x :: R ∧ (∀ y ∈ P, p y = false) ∧ p x = true ∧ idxG p l i = ((i + P.length : Nat) : Int)
  | [], i => .inl ⟨rfl, by simp⟩
  | x :: r, i => by
    unfold idxG
    by_cases h : p x = true
    · rw [if_pos h]
      exact .inr ⟨[], x, r, rfl, by simp, h, by simp⟩
    · rw [if_neg h]
      have h' : p x = false := by simpa using h
      rcases idxG_spec p r (i + 1) with ⟨h1, h2⟩ | ⟨P, y, R, rfl, h2, h3, h4⟩
      · refine .inl ⟨h1, fun y hy => ?_⟩
        rcases List.mem_cons.1 hy with rfl | hy
        · exact h'
        · exact h2 y hy
      · refine .inr ⟨x :: P, y, R, rfl, fun z hz => ?_, h3, by rw [h4]; simp; omega⟩
        rcases List.mem_cons.1 hz with rfl | hz
        · exact h'
        · exact h2 z hz
theorem filter_perm {α : Type} (p : α → Bool) : ∀ l : List α, (l.filter p ++ l.filter (fun x => !p x)).Perm l
  | [] => .refl _
  | x :: r => by
    by_cases h : p x = true
    · simp only [List.filter_cons, h, if_true, Bool.not_true, Bool.false_eq_true, if_false, List.cons_append]
      exact (filter_perm p r).cons x
    · have h' : p x = false := by simpa using h
      simp only [List.filter_cons, h', Bool.false_eq_true, if_false, Bool.not_false, if_true]
      exact List.perm_middle.trans ((filter_perm p r).cons x)
/-- A strict order, up to ties. -/
structure SWO {β : Type} (lt : β → β → Prop) : Prop where
  asym : ∀ {a b}, lt a b → ¬ lt b a
  ntr : ∀ {a b c}, ¬ lt b a → ¬ lt c b → ¬ lt c a
abbrev Sd {β : Type} (lt : β → β → Prop) (l : List β) : Prop := l.Pairwise (fun a b => ¬ lt b a)
section
variable {β : Type} {lt : β → β → Prop}
theorem sd_app {L R : List β} : Sd lt (L ++ R) ↔ Sd lt L ∧ Sd lt R ∧ ∀ a ∈ L, ∀ b ∈ R, ¬ lt b a := List.pairwise_append
theorem sd_put (h : SWO lt) {L R : List β} {x : β} (hs : Sd lt (L ++ R)) (hR : ∀ y ∈ R, ¬ lt y x) (hL : ∀ y ∈ L, ¬ lt x y) : Sd lt (L ++ x :: R) := by
  obtain ⟨h1, h2, h3⟩ := sd_app.1 hs
  refine sd_app.2 ⟨h1, List.pairwise_cons.2 ⟨hR, h2⟩, fun a ha b hb => ?_⟩
  rcases List.mem_cons.1 hb with rfl | hb
  · exact hL a ha
  · exact h3 a ha b hb
theorem sd_last (h : SWO lt) {L : List β} {z x : β} (hs : Sd lt (L ++ [z])) (hz : ¬ lt x z) : ∀ y ∈ L ++ [z], ¬ lt x y := by
  intro y hy
  rcases List.mem_append.1 hy with hy | hy
  · exact h.ntr ((sd_app.1 hs).2.2 y hy z (by simp)) hz
  · rw [List.mem_singleton.1 hy]; exact hz
theorem sd_all_lt (h : SWO lt) {R : List β} {x : β} (hs : Sd lt R) (hl : R = [] ∨ ∃ y, R[R.length - 1]? = some y ∧ lt y x) : ∀ y ∈ R, lt y x := by
  rcases hl with rfl | ⟨y, hy, hlt⟩
  · simp
  · intro w hw
    rcases List.eq_nil_or_concat R with rfl | ⟨R', z, rfl⟩
    · simp at hw
    · rw [List.concat_eq_append] at hs hy hw
      have : z = y := by simpa using hy
      subst this
      rcases List.mem_append.1 hw with hw | hw
      · have h1 := (sd_app.1 hs).2.2 w hw z (by simp)
        exact Classical.byContradiction fun hn => h.ntr hn h1 hlt
      · rw [List.mem_singleton.1 hw]; exact hlt
theorem sd_all_le (h : SWO lt) {R : List β} {x : β} (hs : Sd lt R) (hl : R = [] ∨ ∃ y, R[R.length - 1]? = some y ∧ ¬ lt x y) : ∀ y ∈ R, ¬ lt x y := by
  rcases hl with rfl | ⟨y, hy, hlt⟩
  · simp
  · intro w hw
    rcases List.eq_nil_or_concat R with rfl | ⟨R', z, rfl⟩
    · simp at hw
    · rw [List.concat_eq_append] at hs hy hw
      have : z = y := by simpa using hy
      subst this
      exact sd_last h hs hlt w hw
theorem sd_all_gt (h : SWO lt) {R : List β} {x : β} (hs : Sd lt R) (hl : R = [] ∨ ∃ y, R[0]? = some y ∧ lt x y) : ∀ y ∈ R, lt x y := by
  rcases hl with rfl | ⟨y, hy, hlt⟩
  · simp
  · intro w hw
    cases R with
    | nil => simp at hw
    | cons z R' =>
      have : z = y := by simpa using hy
      subst this
      rcases List.mem_cons.1 hw with rfl | hw
      · exact hlt
      · have h1 := (List.pairwise_cons.1 hs).1 w hw
        exact Classical.byContradiction fun hn => h.ntr h1 hn hlt
theorem sd_all_ge (h : SWO lt) {R : List β} {x : β} (hs : Sd lt R) (hl : R = [] ∨ ∃ y, R[0]? = some y ∧ ¬ lt y x) : ∀ y ∈ R, ¬ lt y x := by
  rcases hl with rfl | ⟨y, hy, hlt⟩
  · simp
  · intro w hw
    cases R with
    | nil => simp at hw
    | cons z R' =>
      have : z = y := by simpa using hy
      subst this
      rcases List.mem_cons.1 hw with rfl | hw
      · exact hlt
      · exact h.ntr hlt ((List.pairwise_cons.1 hs).1 w hw)
end
/-- A search by halves ends between what holds and what doesn't. -/
theorem bsearch {ι : Type} {p : ι → Nat → Nat → Prop} {ex : ι → Nat → Prop} (f : Nat → Prop) (lo hi : Nat) (hx : ∀ t i, lo ≤ i → i ≤ hi → ex t i → p t i i)
    (hs : ∀ t i j, lo ≤ i → i < j → j ≤ hi → (f ((i + j) / 2) → p t ((i + j) / 2 + 1) j → p t i j) ∧ (¬ f ((i + j) / 2) → p t i ((i + j) / 2) → p t i j)) : ∀ (n i j : Nat), j - i ≤ n → lo ≤ i → i ≤ j → j ≤ hi → (i = lo ∨ f (i - 1)) → (j = hi ∨ ¬ f j) → ∃ k, i ≤ k ∧ k ≤ j ∧ (k = lo ∨ f (k - 1)) ∧ (k = hi ∨ ¬ f k) ∧ ∀ t, ex t k → p t i j := by
  intro n
  induction n with
  | zero =>
    intro i j hn h1 h2 h3 hi' hj'
    have : j = i := by omega
    subst this
    exact ⟨j, Nat.le_refl _, Nat.le_refl _, hi', hj', fun t => hx t j h1 h3⟩
  | succ n ih =>
    intro i j hn h1 h2 h3 hi' hj'
    by_cases hij : i = j
    · subst hij
      exact ⟨i, Nat.le_refl _, Nat.le_refl _, hi', hj', fun t => hx t i h1 h3⟩
    · have hlt : i < j := by omega
      by_cases hf : f ((i + j) / 2)
      · obtain ⟨k, k1, k2, k3, k4, k5⟩ := ih ((i + j) / 2 + 1) j (by omega) (by omega) (by omega) h3 (.inr (by simpa using hf)) hj'
        exact ⟨k, by omega, k2, k3, k4, fun t h => (hs t i j h1 hlt h3).1 hf (k5 t h)⟩
      · obtain ⟨k, k1, k2, k3, k4, k5⟩ := ih i ((i + j) / 2) (by omega) h1 (by omega) (by omega) hi' (.inr hf)
        exact ⟨k, k1, by omega, k3, k4, fun t h => (hs t i j h1 hlt h3).2 hf (k5 t h)⟩
theorem get_part {β γ : Type} (g : β → γ) {P R Q : List β} {k : Nat} {y : β} (h : R[k]? = some y) : ((P ++ R ++ Q).map g)[P.length + k]? = some (g y) := by
  have hk : k < R.length := (List.getElem?_eq_some_iff.1 h).1
  rw [List.getElem?_map, List.append_assoc, List.getElem?_append_right (by omega), Nat.add_sub_cancel_left, List.getElem?_append_left hk, h]
  rfl
theorem midw {i j : Nat} (h : i + j ≤ 281474976710656) : IntKind.wrap .i64 (IntKind.wrap .u64 (IntKind.wrap .i64 ((i : Int) + (j : Int))) / 2 ^ Int.toNat 1) = (((i + j) / 2 : Nat) : Int) := by
  rw [wrI (x := (i : Int) + (j : Int)) (by omega) (by omega)]
  have h1 : IntKind.wrap .u64 ((i : Int) + (j : Int)) = (i : Int) + (j : Int) := by
    unfold IntKind.wrap
    simp only [IntKind.bits, IntKind.signed]
    first
    | (simp; omega)
    | omega
  rw [h1]
  have h2 : (2 : Int) ^ Int.toNat 1 = 2 := rfl
  rw [h2, wrI (by omega) (by omega)]
  omega
section
variable {β γ : Type} (g : β → γ)
theorem swap_lo {P M Q : List β} {a b : β} : (((P ++ a :: M ++ b :: Q).map g).set P.length (g b)).set (P.length + 1 + M.length) (g a) = (P ++ b :: M ++ a :: Q).map g := by
  simp only [List.map_append, List.map_cons, List.append_assoc, List.cons_append]
  rw [List.set_append_right _ _ (by simp)]
  simp only [List.length_map, Nat.sub_self, List.set_cons_zero]
  rw [List.set_append_right _ _ (by simp; omega)]
  have e : P.length + 1 + M.length - (P.map g).length = M.length + 1 := by simp; omega
  rw [e, List.set_cons_succ, List.set_append_right _ _ (by simp)]
  simp
theorem swap_hi {P M Q : List β} {a b : β} : (((P ++ a :: M ++ b :: Q).map g).set (P.length + 1 + M.length) (g a)).set P.length (g b) = (P ++ b :: M ++ a :: Q).map g := by
  rw [List.set_comm _ _ (by omega)]
  exact swap_lo g
theorem get_lo {P M Q : List β} {a b : β} : ((P ++ a :: M ++ b :: Q).map g)[P.length]? = some (g a) := by
  rw [List.append_assoc]; simp
theorem get_hi {P M Q : List β} {a b : β} : ((P ++ a :: M ++ b :: Q).map g)[P.length + 1 + M.length]? = some (g b) := by
  have : P.length + 1 + M.length = (P ++ a :: M).length := by simp; omega
  rw [this]; simp
end
theorem len_three {β γ : Type} (g : β → γ) (P M Q : List β) (a b : β) : ((P ++ a :: M ++ b :: Q).map g).length = P.length + M.length + Q.length + 2 := by simp; omega
theorem bits64 : (0 : Int) ≤ 1 ∧ (1 : Int) ≤ ((IntKind.bits IntKind.u64 : Nat) : Int) := by decide
def ltTm (a b : List Da × Tm) : Prop := Tm.cmp a.2 b.2 < 0
instance (a b : List Da × Tm) : Decidable (ltTm a b) := inferInstanceAs (Decidable (_ < _))
theorem cmpTgTm {z w : List Da × Tm} (hz : TgP Tm.da z) (hw : TgP Tm.da w) : XC Try.prog 105 [.dat z.1, .dat w.1] [] (Z (Tm.cmp z.2 w.2)) [] := XC.ut (by
  show XC _ _ [.dat (Da.utL z.1), .dat (Da.utL w.1)] _ _ _
  rw [hz.ut Tm.ut_da, hw.ut Tm.ut_da]; exact compare_call _ _)
theorem swapRangeTm_loop (A Y C : List (List Da × Tm)) : ∀ (X2 Z2 Z1 X1 : List (List Da × Tm)), (∀ z ∈ A ++ Z1 ++ X2 ++ Y ++ X1 ++ Z2 ++ C, TgP Tm.da z) → X2.length = Z2.length → X1.length = Z1.length → (A ++ Z1 ++ X2 ++ Y ++ X1 ++ Z2 ++ C).length ≤ 3000000000000 →
    slices_swapRangeCmpFunc_Term_impl_compare_L1 (.tup []) [(2000, .lst 31 3 ((A ++ Z1 ++ Z2 ++ Y ++ X1 ++ X2 ++ C).map (·.1)))] (A.length : Int) ((A ++ Z1 ++ X2 ++ Y).length : Int) ((Z1 ++ X2).length : Int) (Z1.length : Int) ((A ++ Z1 ++ X2 ++ Y ++ X1 ++ Z2 ++ C).map (·.1))
  | [], Z2, Z1, X1, ht, h1, h2, hl => by
    have : Z2 = [] := List.eq_nil_of_length_eq_zero h1.symm
    subst this
    apply slices_swapRangeCmpFunc_Term_impl_compare_L1_of
    exact ifB_f (decide_eq_false (by simp)) ⟨rfl, by simp⟩
  | x :: X2, [], Z1, X1, ht, h1, h2, hl => by simp at h1
  | x :: X2, z :: Z2, Z1, X1, ht, h1, h2, hl => by
    have hl' : A.length + Z1.length + X2.length + Y.length + X1.length + Z2.length + C.length + 2 ≤ 3000000000000 := by simp at hl; omega
    have ih := swapRangeTm_loop A Y C X2 Z2 (Z1 ++ [z]) (X1 ++ [x]) (fun w hw => ht w (by simp at hw ⊢; grind)) (by simpa using h1) (by simp [h2]) (by simp; omega)
    obtain ⟨_, _, _, ex⟩ := (ht x (by simp)).term
    obtain ⟨_, _, _, ez⟩ := (ht z (by simp)).term
    have eD : A ++ Z1 ++ x :: X2 ++ Y ++ X1 ++ z :: Z2 ++ C = (A ++ Z1) ++ x :: (X2 ++ Y ++ X1) ++ z :: (Z2 ++ C) := by simp
    have eD2 : (A ++ Z1) ++ z :: (X2 ++ Y ++ X1) ++ x :: (Z2 ++ C) = A ++ (Z1 ++ [z]) ++ X2 ++ Y ++ (X1 ++ [x]) ++ Z2 ++ C := by simp
    have eR : A ++ (Z1 ++ [z]) ++ Z2 ++ Y ++ (X1 ++ [x]) ++ X2 ++ C = A ++ Z1 ++ z :: Z2 ++ Y ++ X1 ++ x :: X2 ++ C := by simp
    have en : ((Z1 ++ [z]) ++ X2).length = (Z1 ++ x :: X2).length := by simp
    have eb : (A ++ (Z1 ++ [z]) ++ X2 ++ Y).length = (A ++ Z1 ++ x :: X2 ++ Y).length := by simp
    have ei : (Z1 ++ [z]).length = Z1.length + 1 := by simp
    have w1 : IntKind.wrap .i64 (((A ++ Z1 ++ x :: X2 ++ Y).length : Int) + (Z1.length : Int)) = (((A ++ Z1).length + 1 + (X2 ++ Y ++ X1).length : Nat) : Int) := by
      rw [wrI (by omega) (by simp; omega)]; simp; omega
    have w2 : IntKind.wrap .i64 ((A.length : Int) + (Z1.length : Int)) = (((A ++ Z1).length : Nat) : Int) := by
      rw [wrI (by omega) (by omega)]; simp
    have w3 : IntKind.wrap .i64 ((Z1.length : Int) + 1) = ((Z1.length + 1 : Nat) : Int) := by
      rw [wrI (by omega) (by omega)]; simp
    rw [en, eb, ei, ← eD2, eR, ← swap_lo] at ih
    rw [eD]
    have g1 := get_hi (fun z : List Da × Tm => z.1) (P := A ++ Z1) (M := X2 ++ Y ++ X1) (Q := Z2 ++ C) (a := x) (b := z)
    have g2 := get_lo (fun z : List Da × Tm => z.1) (P := A ++ Z1) (M := X2 ++ Y ++ X1) (Q := Z2 ++ C) (a := x) (b := z)
    have l1 := len_three (fun z : List Da × Tm => z.1) (A ++ Z1) (X2 ++ Y ++ X1) (Z2 ++ C) x z
    have g3 : ((((A ++ Z1) ++ x :: (X2 ++ Y ++ X1) ++ z :: (Z2 ++ C)).map (·.1)).set (A ++ Z1).length z.1)[(A ++ Z1).length + 1 + (X2 ++ Y ++ X1).length]? = some z.1 := by
      rw [List.getElem?_set_ne (by omega)]; exact g1
    rw [ex] at g2 ih
    rw [ez] at g1 g3 ih
    apply slices_swapRangeCmpFunc_Term_impl_compare_L1_of
    rw [w1, w2, w3]
    refine ifB_t (decide_eq_true (by simp; omega)) ⟨_, rfl, ⟨by rw [l1]; omega⟩, _, rfl, _, _, _, g1, _, rfl, ⟨by rw [l1]; omega⟩, _, rfl, _, _, _, g2, _, rfl, ⟨by rw [l1]; omega⟩, _, rfl, _, _, _, g2, _, rfl, ⟨by rw [List.length_set, l1]; omega⟩, _, rfl, _, _, _, g3, ih⟩
theorem swapRangeTm_call (A U Y V C : List (List Da × Tm)) (ht : ∀ z ∈ A ++ U ++ Y ++ V ++ C, TgP Tm.da z) (h : U.length = V.length) (hl : (A ++ U ++ Y ++ V ++ C).length ≤ 3000000000000) : XC Try.prog 147 [.one (.ol 2000), Z (A.length : Int), Z ((A ++ U ++ Y).length : Int), Z (U.length : Int), .one (.d (.fn 105))] [(2000, .lst 31 3 ((A ++ U ++ Y ++ V ++ C).map (·.1)))] (.tup []) [(2000, .lst 31 3 ((A ++ V ++ Y ++ U ++ C).map (·.1)))] := by
  apply slices_swapRangeCmpFunc_Term_impl_compare_of
  have := swapRangeTm_loop A Y C U V [] [] (by simpa using ht) h rfl (by simpa using hl)
  simpa using this
theorem rotateTm_loop (T : List (List Da × Tm)) : ∀ (n : Nat) (A U V C : List (List Da × Tm)), U.length + V.length ≤ n → U ≠ [] → V ≠ [] → (∀ z ∈ A ++ U ++ V ++ C, TgP Tm.da z) → (A ++ U ++ V ++ C).length ≤ 3000000000000 → A ++ V ++ U ++ C = T → slices_rotateCmpFunc_Term_impl_compare_L2 (.tup []) [(2000, .lst 31 3 ((T).map (·.1)))] ((A ++ U).length : Int) (U.length : Int) (V.length : Int) ((A ++ U ++ V ++ C).map (·.1)) := by
  intro n
  induction n with
  | zero =>
    intro A U V C hn hU _ _ _ _
    exact absurd (List.eq_nil_of_length_eq_zero (by omega)) hU
  | succ n ih =>
    intro A U V C hn hU hV ht hl hT
    have hU' := List.length_pos_iff.2 hU
    have hV' := List.length_pos_iff.2 hV
    have hl' : A.length + U.length + V.length + C.length ≤ 3000000000000 := by simp at hl; omega
    have w1 : IntKind.wrap .i64 (((A ++ U).length : Int) - (U.length : Int)) = (A.length : Int) := by rw [wrI (by simp <;> omega) (by simp <;> omega)]; simp <;> omega
    apply slices_rotateCmpFunc_Term_impl_compare_L2_of
    rw [w1]
    by_cases he : U.length = V.length
    · have c := swapRangeTm_call A U [] V C (by simpa using ht) he (by simpa using hl)
      simp only [List.append_nil] at c
      rw [hT] at c
      exact ifB_f (decide_eq_false (by simp [he])) ⟨_, c, rfl, rfl⟩
    · refine ifB_t (decide_eq_true (by omega)) ?_
      by_cases hgt : V.length < U.length
      · refine ifB_t (decide_eq_true (by omega)) ?_
        obtain ⟨U1, U2, rfl, hU1⟩ : ∃ U1 U2, U = U1 ++ U2 ∧ U1.length = V.length := ⟨U.take V.length, U.drop V.length, by simp, by simp; omega⟩
        have c := swapRangeTm_call A U1 U2 V C (by simpa using ht) hU1 (by simpa using hl)
        have h2 : U2.length + V.length = (U1 ++ U2).length := by simp; omega
        have w2 : IntKind.wrap .i64 (((U1 ++ U2).length : Int) - (V.length : Int)) = (U2.length : Int) := by rw [wrI (by simp <;> omega) (by simp <;> omega)]; simp <;> omega
        have i1 := ih (A ++ V) U2 U1 C (by simp at hn; omega) (by intro h; subst h; simp at hgt hU1; omega) (by intro h; subst h; simp at hU1; omega) (fun w hw => ht w (by simp at hw ⊢; grind)) (by simp; omega) (by simpa [List.append_assoc] using hT)
        have e1 : A ++ (U1 ++ U2) ++ V ++ C = A ++ U1 ++ U2 ++ V ++ C := by simp
        have e2 : (A ++ V ++ U2).length = (A ++ (U1 ++ U2)).length := by simp; omega
        have e3 : (A ++ (U1 ++ U2)).length = (A ++ U1 ++ U2).length := by simp
        rw [w2, e1]
        rw [e2] at i1
        rw [e3] at i1 ⊢
        rw [hU1] at i1 c
        exact ⟨_, c, i1⟩
      · refine ifB_f (decide_eq_false (by omega)) ?_
        obtain ⟨V1, V2, rfl, hV2⟩ : ∃ V1 V2, V = V1 ++ V2 ∧ V2.length = U.length := ⟨V.take (V.length - U.length), V.drop (V.length - U.length), by simp, by simp; omega⟩
        have hvl : (V1 ++ V2).length = V1.length + V2.length := by simp
        have c := swapRangeTm_call A U V1 V2 C (by simpa using ht) hV2.symm (by simpa using hl)
        have w2 : IntKind.wrap .i64 (IntKind.wrap .i64 (((A ++ U).length : Int) + ((V1 ++ V2).length : Int)) - (U.length : Int)) = ((A ++ U ++ V1).length : Int) := by
          rw [wrI (x := ((A ++ U).length : Int) + _) (by omega) (by simp at hl' ⊢; omega), wrI (by simp; omega) (by simp at hl' ⊢; omega)]; simp; omega
        have w3 : IntKind.wrap .i64 (((V1 ++ V2).length : Int) - (U.length : Int)) = (V1.length : Int) := by rw [wrI (by simp; omega) (by simp at hl' ⊢; omega)]; simp; omega
        have i1 := ih A V2 V1 (U ++ C) (by omega) (by intro h; subst h; simp at hV2; omega) (by intro h; subst h; simp at he hgt hvl; omega) (fun w hw => ht w (by simp at hw ⊢; grind)) (by simp at hl' ⊢; omega) (by simpa [List.append_assoc] using hT)
        have e1 : A ++ U ++ (V1 ++ V2) ++ C = A ++ U ++ V1 ++ V2 ++ C := by simp
        have e2 : (A ++ V2).length = (A ++ U).length := by simp [hV2]
        have e4 : A ++ V2 ++ V1 ++ (U ++ C) = A ++ V2 ++ V1 ++ U ++ C := by simp
        rw [w2, w3, e1]
        rw [e2, hV2, e4] at i1
        exact ⟨_, c, i1⟩
theorem rotateTm_call (A U V C : List (List Da × Tm)) (hU : U ≠ []) (hV : V ≠ []) (ht : ∀ z ∈ A ++ U ++ V ++ C, TgP Tm.da z) (hl : (A ++ U ++ V ++ C).length ≤ 3000000000000) : XC Try.prog 144 [.one (.ol 2000), Z (A.length : Int), Z ((A ++ U).length : Int), Z ((A ++ U ++ V).length : Int), .one (.d (.fn 105))] [(2000, .lst 31 3 ((A ++ U ++ V ++ C).map (·.1)))] (.tup []) [(2000, .lst 31 3 ((A ++ V ++ U ++ C).map (·.1)))] := by
  have hl' : A.length + U.length + V.length + C.length ≤ 3000000000000 := by simp at hl; omega
  have w1 : IntKind.wrap .i64 (((A ++ U).length : Int) - (A.length : Int)) = (U.length : Int) := by rw [wrI (by simp <;> omega) (by simp <;> omega)]; simp <;> omega
  have w2 : IntKind.wrap .i64 (((A ++ U ++ V).length : Int) - ((A ++ U).length : Int)) = (V.length : Int) := by rw [wrI (by simp <;> omega) (by simp <;> omega)]; simp <;> omega
  apply slices_rotateCmpFunc_Term_impl_compare_of
  rw [w1, w2]
  exact rotateTm_loop _ _ A U V C (Nat.le_refl _) hU hV ht hl rfl
theorem insertTm_in (hO : SWO ltTm) (A : List (List Da × Tm)) (x : List Da × Tm) : ∀ (n : Nat) (L R Q : List (List Da × Tm)), L.length = n → (∀ z ∈ A ++ L ++ x :: R ++ Q, TgP Tm.da z) → (A ++ L ++ x :: R ++ Q).length ≤ 3000000000000 → Sd ltTm (L ++ R) → (∀ y ∈ R, ltTm x y) → ∃ S, S.Perm (L ++ x :: R) ∧ Sd ltTm S ∧ ∀ (r : AV) (O : List (Nat × Ob)) (b i : Int), (slices_insertionSortCmpFunc_Term_impl_compare_L1 r O (A.length : Int) b (IntKind.wrap .i64 (i + 1)) ((A ++ S ++ Q).map (·.1)) → slices_insertionSortCmpFunc_Term_impl_compare_L4 r O (A.length : Int) b i ((A ++ L).length : Int) ((A ++ L ++ x :: R ++ Q).map (·.1))) := by
  intro n
  induction n with
  | zero =>
    intro L R Q hn ht hl hs hR
    have : L = [] := List.eq_nil_of_length_eq_zero hn
    subst this
    refine ⟨x :: R, by simp, sd_put hO (L := []) hs (fun y hy => hO.asym (hR y hy)) (by simp), fun r O b i h => ?_⟩
    apply slices_insertionSortCmpFunc_Term_impl_compare_L4_of
    refine ifB_f (decide_eq_false (by simp)) ?_
    simpa using h
  | succ n ih =>
    intro L R Q hn ht hl hs hR
    obtain ⟨L', z, rfl⟩ : ∃ L' z, L = L' ++ [z] := by
      rcases List.eq_nil_or_concat L with rfl | ⟨L', z, h⟩
      · simp at hn
      · exact ⟨L', z, by rw [h, List.concat_eq_append]⟩
    have hl' : A.length + L'.length + R.length + Q.length + 2 ≤ 3000000000000 := by simp at hl; omega
    have hz := ht z (by simp)
    have hx := ht x (by simp)
    have hcmp := cmpTgTm hx hz
    obtain ⟨_, _, _, ex⟩ := (ht x (by simp)).term
    obtain ⟨_, _, _, ez⟩ := (ht z (by simp)).term
    have eD : A ++ (L' ++ [z]) ++ x :: R ++ Q = (A ++ L') ++ z :: [] ++ x :: (R ++ Q) := by simp
    have g1 := get_hi (fun z : List Da × Tm => z.1) (P := A ++ L') (M := []) (Q := R ++ Q) (a := z) (b := x)
    have g2 := get_lo (fun z : List Da × Tm => z.1) (P := A ++ L') (M := []) (Q := R ++ Q) (a := z) (b := x)
    have l1 := len_three (fun z : List Da × Tm => z.1) (A ++ L') [] (R ++ Q) z x
    have g3 : ((((A ++ L') ++ z :: [] ++ x :: (R ++ Q)).map (·.1)).set ((A ++ L').length + 1 + ([] : List (List Da × Tm)).length) z.1)[(A ++ L').length]? = some z.1 := by
      rw [List.getElem?_set_ne (by simp)]; exact g2
    have w1 : IntKind.wrap .i64 (((A ++ (L' ++ [z])).length : Int) - 1) = (((A ++ L').length : Nat) : Int) := by rw [wrI (by simp <;> omega) (by simp <;> omega)]; simp <;> omega
    have w2 : IntKind.wrap .i64 ((((A ++ L').length + 1 + ([] : List (List Da × Tm)).length : Nat) : Int) - 1) = (((A ++ L').length : Nat) : Int) := by rw [wrI (by simp <;> omega) (by simp <;> omega)]; simp <;> omega
    have hj : ((A ++ (L' ++ [z])).length : Int) = (((A ++ L').length + 1 + ([] : List (List Da × Tm)).length : Nat) : Int) := by simp; omega
    by_cases hlt : ltTm x z
    · obtain ⟨S, p1, p2, p3⟩ := ih L' (z :: R) Q (by simpa using hn) (fun w hw => ht w (by simp at hw ⊢; grind)) (by simp; omega) (by simpa using hs) (fun y hy => by
        rcases List.mem_cons.1 hy with rfl | hy
        · exact hlt
        · exact hR y hy)
      refine ⟨S, p1.trans ?_, p2, fun r O b i h => ?_⟩
      · have : (L' ++ [z]) ++ x :: R = L' ++ z :: x :: R := by simp
        rw [this]
        exact (List.Perm.swap ..).append_left L'
      · have h4 := p3 r O b i h
        have eS : A ++ L' ++ x :: z :: R ++ Q = (A ++ L') ++ x :: [] ++ z :: (R ++ Q) := by simp
        rw [eS, ← swap_hi] at h4
        rw [ex] at g1 hcmp
        rw [ez] at g2 g3 hcmp
        rw [ex, ez] at h4
        apply slices_insertionSortCmpFunc_Term_impl_compare_L4_of
        rw [eD, hj, w2]
        refine ifB_t (decide_eq_true (by simp; omega)) ⟨_, rfl, ⟨by rw [l1]; simp; omega⟩, _, rfl, _, _, _, g1, _, rfl, ⟨by rw [l1]; simp; omega⟩, _, rfl, _, _, _, g2, _, hcmp, ifB_t (decide_eq_true hlt) ⟨_, rfl, ⟨by rw [l1]; simp; omega⟩, _, rfl, _, _, _, g2, _, rfl, ⟨by rw [l1]; simp; omega⟩, _, rfl, _, _, _, g1, _, rfl, ⟨by rw [l1]; simp; omega⟩, _, rfl, _, _, _, g1, _, rfl, ⟨by rw [List.length_set, l1]; simp; omega⟩, _, rfl, _, _, _, g3, h4⟩⟩
    · refine ⟨(L' ++ [z]) ++ x :: R, .refl _, sd_put hO hs (fun y hy => hO.asym (hR y hy)) (sd_last hO (sd_app.1 hs).1 hlt), fun r O b i h => ?_⟩
      have e2 : A ++ (L' ++ [z] ++ x :: R) ++ Q = (A ++ L') ++ z :: [] ++ x :: (R ++ Q) := by simp
      rw [e2] at h
      rw [ex] at g1 hcmp
      rw [ez] at g2 hcmp
      apply slices_insertionSortCmpFunc_Term_impl_compare_L4_of
      rw [eD, hj, w2]
      exact ifB_t (decide_eq_true (by simp; omega)) ⟨_, rfl, ⟨by rw [l1]; simp; omega⟩, _, rfl, _, _, _, g1, _, rfl, ⟨by rw [l1]; simp; omega⟩, _, rfl, _, _, _, g2, _, hcmp, ifB_f (decide_eq_false hlt) h⟩
theorem insertTm_loop (hO : SWO ltTm) (A C : List (List Da × Tm)) : ∀ (R S : List (List Da × Tm)), (∀ z ∈ A ++ S ++ R ++ C, TgP Tm.da z) → (A ++ S ++ R ++ C).length ≤ 3000000000000 → Sd ltTm S → ∃ M, M.Perm (S ++ R) ∧ Sd ltTm M ∧ slices_insertionSortCmpFunc_Term_impl_compare_L1 (.tup []) [(2000, .lst 31 3 ((A ++ M ++ C).map (·.1)))] (A.length : Int) ((A ++ S ++ R).length : Int) ((A ++ S).length : Int) ((A ++ S ++ R ++ C).map (·.1))
  | [], S, ht, hl, hs => by
    refine ⟨S, by simp, hs, ?_⟩
    apply slices_insertionSortCmpFunc_Term_impl_compare_L1_of
    exact ifB_f (decide_eq_false (by simp)) ⟨rfl, by simp⟩
  | x :: R, S, ht, hl, hs => by
    have hl' : A.length + S.length + R.length + C.length + 1 ≤ 3000000000000 := by simp at hl; omega
    obtain ⟨S', p1, p2, p3⟩ := insertTm_in hO A x S.length S [] (R ++ C) rfl (by simpa using ht) (by simpa using hl) (by simpa using hs) (by simp)
    have pl := p1.length_eq
    simp only [List.length_append, List.length_cons, List.length_nil] at pl
    obtain ⟨M, q1, q2, q3⟩ := insertTm_loop hO A C R S' (fun w hw => ht w (by
      have hp : w ∈ S' → w ∈ S ++ [x] := fun h => p1.subset h
      simp at hw hp ⊢; grind)) (by simp; omega) p2
    refine ⟨M, q1.trans ?_, q2, ?_⟩
    · have e : S ++ x :: R = S ++ [x] ++ R := by simp
      rw [e]
      exact p1.append_right R
    · have h4 := p3 (.tup []) [(2000, .lst 31 3 ((A ++ M ++ C).map (·.1)))] ((A ++ S ++ x :: R).length : Int) ((A ++ S).length : Int)
      have w1 : IntKind.wrap .i64 (((A ++ S).length : Int) + 1) = ((A ++ S').length : Int) := by rw [wrI (by simp <;> omega) (by simp <;> omega)]; simp <;> omega
      have e1 : (A ++ S' ++ R).length = (A ++ S ++ x :: R).length := by simp; omega
      have e2 : A ++ S' ++ (R ++ C) = A ++ S' ++ R ++ C := by simp
      have e3 : A ++ S ++ [x] ++ (R ++ C) = A ++ S ++ x :: R ++ C := by simp
      rw [w1, e2, e3] at h4
      rw [e1] at q3
      apply slices_insertionSortCmpFunc_Term_impl_compare_L1_of
      exact ifB_t (decide_eq_true (by simp; omega)) (h4 q3)
theorem insertTm_call (hO : SWO ltTm) (A R C : List (List Da × Tm)) (ht : ∀ z ∈ A ++ R ++ C, TgP Tm.da z) (hl : (A ++ R ++ C).length ≤ 3000000000000) : ∃ M, M.Perm R ∧ Sd ltTm M ∧ XC Try.prog 136 [.one (.ol 2000), Z (A.length : Int), Z ((A ++ R).length : Int), .one (.d (.fn 105))] [(2000, .lst 31 3 ((A ++ R ++ C).map (·.1)))] (.tup []) [(2000, .lst 31 3 ((A ++ M ++ C).map (·.1)))] := by
  have hl' : A.length + R.length + C.length ≤ 3000000000000 := by simp at hl; omega
  have w1 : IntKind.wrap .i64 ((A.length : Int) + 1) = ((A.length + 1 : Nat) : Int) := by rw [wrI (by omega) (by omega)]; simp
  cases R with
  | nil =>
    refine ⟨[], .refl _, .nil, ?_⟩
    apply slices_insertionSortCmpFunc_Term_impl_compare_of
    rw [w1]
    apply slices_insertionSortCmpFunc_Term_impl_compare_L1_of
    exact ifB_f (decide_eq_false (by simp <;> omega)) ⟨rfl, rfl⟩
  | cons x R =>
    obtain ⟨M, p1, p2, p3⟩ := insertTm_loop hO A C R [x] (by simpa using ht) (by simpa using hl) (by simp)
    refine ⟨M, by simpa using p1, p2, ?_⟩
    apply slices_insertionSortCmpFunc_Term_impl_compare_of
    rw [w1]
    have e1 : (A ++ [x]).length = A.length + 1 := by simp
    have e2 : A ++ [x] ++ R = A ++ x :: R := by simp
    rw [e1, e2] at p3
    exact p3
theorem symShiftTm_loop (i : Int) (x : List Da × Tm) (Q : List (List Da × Tm)) : ∀ (R1 D : List (List Da × Tm)), (∀ z ∈ D ++ x :: R1 ++ Q, TgP Tm.da z) → (D ++ x :: R1 ++ Q).length ≤ 3000000000000 → i = ((D.length + R1.length + 1 : Nat) : Int) → slices_symMergeCmpFunc_Term_impl_compare_L9 (.tup []) [(2000, .lst 31 3 ((D ++ R1 ++ x :: Q).map (·.1)))] i (D.length : Int) ((D ++ x :: R1 ++ Q).map (·.1)) := by
  intro R1
  induction R1 with
  | nil =>
    intro D ht hl hi
    have w : IntKind.wrap .i64 (i - 1) = (D.length : Int) := by rw [wrI (by omega) (by simp at hl hi; omega)]; simp at hi; omega
    apply slices_symMergeCmpFunc_Term_impl_compare_L9_of
    rw [w]
    exact ifB_f (decide_eq_false (by omega)) ⟨rfl, by simp⟩
  | cons y R1 ih0 =>
    intro D ht hl hi
    have hl' : D.length + R1.length + Q.length + 2 ≤ 3000000000000 := by simp at hl; omega
    have ih := ih0 (D ++ [y]) (fun w hw => ht w (by simp at hw ⊢; grind)) (by simp; omega) (by simp at hi ⊢; omega)
    have w : IntKind.wrap .i64 (i - 1) = ((D.length + R1.length + 1 : Nat) : Int) := by rw [wrI (by omega) (by simp at hi; omega)]; simp at hi; omega
    have w1 : IntKind.wrap .i64 ((D.length : Int) + 1) = ((D.length + 1 + ([] : List (List Da × Tm)).length : Nat) : Int) := by rw [wrI (by omega) (by omega)]; simp
    have eD : D ++ x :: y :: R1 ++ Q = D ++ x :: [] ++ y :: (R1 ++ Q) := by simp
    have eE : D ++ [y] ++ x :: R1 ++ Q = D ++ y :: [] ++ x :: (R1 ++ Q) := by simp
    have eO : D ++ [y] ++ R1 ++ x :: Q = D ++ y :: R1 ++ x :: Q := by simp
    have e1 : (D ++ [y]).length = D.length + 1 + ([] : List (List Da × Tm)).length := by simp
    have g1 := get_hi (fun z : List Da × Tm => z.1) (P := D) (M := []) (Q := R1 ++ Q) (a := x) (b := y)
    have g2 := get_lo (fun z : List Da × Tm => z.1) (P := D) (M := []) (Q := R1 ++ Q) (a := x) (b := y)
    have l1 := len_three (fun z : List Da × Tm => z.1) D [] (R1 ++ Q) x y
    have g3 : (((D ++ x :: [] ++ y :: (R1 ++ Q)).map (·.1)).set D.length y.1)[D.length + 1 + ([] : List (List Da × Tm)).length]? = some y.1 := by
      rw [List.getElem?_set_ne (by simp)]; exact g1
    obtain ⟨_, _, _, ex⟩ := (ht x (by simp)).term
    obtain ⟨_, _, _, ey⟩ := (ht y (by simp)).term
    rw [eE, eO, e1, ← swap_lo (fun z : List Da × Tm => z.1) (P := D) (M := []) (Q := R1 ++ Q) (a := x) (b := y)] at ih
    rw [ex] at g2
    rw [ey] at g1 g3
    rw [ex, ey] at ih
    apply slices_symMergeCmpFunc_Term_impl_compare_L9_of
    rw [w, eD, w1]
    exact ifB_t (decide_eq_true (by omega)) ⟨_, rfl, ⟨by rw [l1]; simp; omega⟩, _, rfl, _, _, _, g1, _, rfl, ⟨by rw [l1]; simp; omega⟩, _, rfl, _, _, _, g2, _, rfl, ⟨by rw [l1]; simp; omega⟩, _, rfl, _, _, _, g2, _, rfl, ⟨by rw [List.length_set, l1]; simp; omega⟩, _, rfl, _, _, _, g3, ih⟩
theorem symBackTm_loop (D : List (List Da × Tm)) (x : List Da × Tm) : ∀ (n : Nat) (L Q : List (List Da × Tm)), L.length = n → (∀ z ∈ D ++ L ++ x :: Q, TgP Tm.da z) → (D ++ L ++ x :: Q).length ≤ 3000000000000 → slices_symMergeCmpFunc_Term_impl_compare_L21 (.tup []) [(2000, .lst 31 3 ((D ++ x :: L ++ Q).map (·.1)))] (D.length : Int) ((D ++ L).length : Int) ((D ++ L ++ x :: Q).map (·.1)) := by
  intro n
  induction n with
  | zero =>
    intro L Q hn ht hl
    have : L = [] := List.eq_nil_of_length_eq_zero hn
    subst this
    apply slices_symMergeCmpFunc_Term_impl_compare_L21_of
    exact ifB_f (decide_eq_false (by simp)) ⟨rfl, by simp⟩
  | succ n ih =>
    intro L Q hn ht hl
    obtain ⟨L', z, rfl⟩ : ∃ L' z, L = L' ++ [z] := by
      rcases List.eq_nil_or_concat L with rfl | ⟨L', z, h⟩
      · simp at hn
      · exact ⟨L', z, by rw [h, List.concat_eq_append]⟩
    have hl' : D.length + L'.length + Q.length + 2 ≤ 3000000000000 := by simp at hl; omega
    have i1 := ih L' (z :: Q) (by simpa using hn) (fun w hw => ht w (by simp at hw ⊢; grind)) (by simp; omega)
    have eD : D ++ (L' ++ [z]) ++ x :: Q = (D ++ L') ++ z :: [] ++ x :: Q := by simp
    have eE : D ++ L' ++ x :: z :: Q = (D ++ L') ++ x :: [] ++ z :: Q := by simp
    have eO : D ++ x :: L' ++ z :: Q = D ++ x :: (L' ++ [z]) ++ Q := by simp
    have hj : ((D ++ (L' ++ [z])).length : Int) = (((D ++ L').length + 1 + ([] : List (List Da × Tm)).length : Nat) : Int) := by simp; omega
    have w2 : IntKind.wrap .i64 ((((D ++ L').length + 1 + ([] : List (List Da × Tm)).length : Nat) : Int) - 1) = (((D ++ L').length : Nat) : Int) := by rw [wrI (by simp <;> omega) (by simp <;> omega)]; simp <;> omega
    have g1 := get_hi (fun z : List Da × Tm => z.1) (P := D ++ L') (M := []) (Q := Q) (a := z) (b := x)
    have g2 := get_lo (fun z : List Da × Tm => z.1) (P := D ++ L') (M := []) (Q := Q) (a := z) (b := x)
    have l1 := len_three (fun z : List Da × Tm => z.1) (D ++ L') [] Q z x
    have g3 : ((((D ++ L') ++ z :: [] ++ x :: Q).map (·.1)).set ((D ++ L').length + 1 + ([] : List (List Da × Tm)).length) z.1)[(D ++ L').length]? = some z.1 := by
      rw [List.getElem?_set_ne (by simp)]; exact g2
    obtain ⟨_, _, _, ex⟩ := (ht x (by simp)).term
    obtain ⟨_, _, _, ez⟩ := (ht z (by simp)).term
    rw [eE, eO, ← swap_hi] at i1
    rw [ex] at g1
    rw [ez] at g2 g3
    rw [ex, ez] at i1
    apply slices_symMergeCmpFunc_Term_impl_compare_L21_of
    rw [eD, hj, w2]
    exact ifB_t (decide_eq_true (by simp; omega)) ⟨_, rfl, ⟨by rw [l1]; simp; omega⟩, _, rfl, _, _, _, g2, _, rfl, ⟨by rw [l1]; simp; omega⟩, _, rfl, _, _, _, g1, _, rfl, ⟨by rw [l1]; simp; omega⟩, _, rfl, _, _, _, g1, _, rfl, ⟨by rw [List.length_set, l1]; simp; omega⟩, _, rfl, _, _, _, g3, i1⟩
theorem symOneTm (hO : SWO ltTm) (A R C : List (List Da × Tm)) (x : List Da × Tm) (ht : ∀ z ∈ A ++ x :: R ++ C, TgP Tm.da z) (hl : (A ++ x :: R ++ C).length ≤ 3000000000000) (hs : Sd ltTm R) : ∃ M, M.Perm (x :: R) ∧ Sd ltTm M ∧ slices_symMergeCmpFunc_Term_impl_compare_L3 (.tup []) [(2000, .lst 31 3 ((A ++ M ++ C).map (·.1)))] (A.length : Int) ((A.length + 1 : Nat) : Int) ((A.length + 1 + R.length : Nat) : Int) ((A ++ x :: R ++ C).map (·.1)) := by
  have hl' : A.length + R.length + C.length + 1 ≤ 3000000000000 := by simp at hl; omega
  have hlen : ((A ++ x :: R ++ C).map (·.1)).length = A.length + R.length + C.length + 1 := by simp; omega
  have eD : A ++ x :: R ++ C = A ++ [x] ++ R ++ C := by simp
  have gx : ((A ++ x :: R ++ C).map (·.1))[A.length]? = some x.1 := by
    have := get_part (fun z : List Da × Tm => z.1) (P := A) (R := x :: R) (Q := C) (k := 0) (y := x) rfl
    exact this
  obtain ⟨k, k1, k2, k3, k4, k5⟩ := bsearch (ι := AV × List (Nat × Ob)) (p := fun t i j => slices_symMergeCmpFunc_Term_impl_compare_L3 t.1 t.2 (A.length : Int) (i : Int) (j : Int) ((A ++ x :: R ++ C).map (·.1))) (ex := fun t i => slices_symMergeCmpFunc_Term_impl_compare_L9 t.1 t.2 (i : Int) (A.length : Int) ((A ++ x :: R ++ C).map (·.1)))
    (fun h => ∃ y, R[h - (A.length + 1)]? = some y ∧ ltTm y x) (A.length + 1) (A.length + 1 + R.length) (fun t i _ _ h => by
      apply slices_symMergeCmpFunc_Term_impl_compare_L3_of
      exact ifB_f (decide_eq_false (by omega)) h) (fun t i j h1 h2 h3 => by
      obtain ⟨y, hy⟩ := get_ex (l := R) (i := (i + j) / 2 - (A.length + 1)) (by omega)
      have hym := List.mem_of_getElem? hy
      have hcmp := cmpTgTm (ht y (by simp [hym])) (ht x (by simp))
      have gy := get_part (fun z : List Da × Tm => z.1) (P := A ++ [x]) (Q := C) hy
      have eh : (A ++ [x]).length + ((i + j) / 2 - (A.length + 1)) = (i + j) / 2 := by simp; omega
      rw [eh, ← eD] at gy
      obtain ⟨_, _, _, ex⟩ := (ht x (by simp)).term
      obtain ⟨_, _, _, ey⟩ := (ht y (by simp [hym])).term
      have core : (ltTm y x → slices_symMergeCmpFunc_Term_impl_compare_L3 t.1 t.2 (A.length : Int) (((i + j) / 2 + 1 : Nat) : Int) (j : Int) ((A ++ x :: R ++ C).map (·.1))) → (¬ ltTm y x → slices_symMergeCmpFunc_Term_impl_compare_L3 t.1 t.2 (A.length : Int) (i : Int) (((i + j) / 2 : Nat) : Int) ((A ++ x :: R ++ C).map (·.1))) → slices_symMergeCmpFunc_Term_impl_compare_L3 t.1 t.2 (A.length : Int) (i : Int) (j : Int) ((A ++ x :: R ++ C).map (·.1)) := by
        intro c1 c2
        have w1 : IntKind.wrap .i64 ((((i + j) / 2 : Nat) : Int) + 1) = (((i + j) / 2 + 1 : Nat) : Int) := by rw [wrI (by omega) (by omega)]; simp
        have gx2 := gx
        rw [ex] at gx2 hcmp
        rw [ey] at gy hcmp
        apply slices_symMergeCmpFunc_Term_impl_compare_L3_of
        rw [midw (by omega), w1]
        refine ifB_t (decide_eq_true (by omega)) ⟨⟨bits64⟩, _, rfl, ⟨by rw [hlen]; omega⟩, _, rfl, _, _, _, gy, _, rfl, ⟨by rw [hlen]; omega⟩, _, rfl, _, _, _, gx2, _, hcmp, ?_⟩
        by_cases hlt : ltTm y x
        · exact ifB_t (decide_eq_true hlt) (c1 hlt)
        · exact ifB_f (decide_eq_false hlt) (c2 hlt)
      refine ⟨fun hf hp => core (fun _ => hp) fun hn => ?_, fun hn hp => core (fun hlt => absurd ⟨y, hy, hlt⟩ hn) fun _ => hp⟩
      obtain ⟨y', hy', hlt⟩ := hf
      rw [hy] at hy'
      cases hy'
      exact absurd hlt hn) R.length (A.length + 1) (A.length + 1 + R.length) (by omega) (Nat.le_refl _) (by omega) (Nat.le_refl _) (.inl rfl) (.inl rfl)
  obtain ⟨q, rfl⟩ : ∃ q, k = A.length + 1 + q := ⟨k - (A.length + 1), by omega⟩
  have hq : q ≤ R.length := by omega
  have hsR : Sd ltTm (R.take q ++ R.drop q) := by rw [List.take_append_drop]; exact hs
  obtain ⟨s1, s2, _⟩ := sd_app.1 hsR
  have hR1 : ∀ y ∈ R.take q, ltTm y x := by
    refine sd_all_lt hO s1 ?_
    rcases k3 with h | ⟨y, hy, hlt⟩
    · have : q = 0 := by omega
      subst this; exact .inl (by simp)
    · by_cases h0 : q = 0
      · subst h0; exact .inl (by simp)
      · refine .inr ⟨y, ?_, hlt⟩
        rw [List.length_take, Nat.min_eq_left hq, List.getElem?_take_of_lt (by omega)]
        rw [← hy]; congr 1; omega
  have hR2 : ∀ y ∈ R.drop q, ¬ ltTm y x := by
    refine sd_all_ge hO s2 ?_
    rcases k4 with h | h
    · exact .inl (List.drop_eq_nil_of_le (by omega))
    · by_cases h0 : q = R.length
      · exact .inl (List.drop_eq_nil_of_le (by omega))
      · obtain ⟨y, hy⟩ := get_ex (l := R) (i := q) (by omega)
        refine .inr ⟨y, by rw [List.getElem?_drop]; simpa using hy, fun hlt => h ⟨y, ?_, hlt⟩⟩
        rw [← hy]; congr 1; omega
  refine ⟨R.take q ++ x :: R.drop q, ?_, sd_put hO hsR hR2 (fun y hy => hO.asym (hR1 y hy)), k5 (_, _) ?_⟩
  · refine List.perm_middle.trans ?_
    rw [List.take_append_drop]
  · have h := symShiftTm_loop ((A.length + 1 + q : Nat) : Int) x (R.drop q ++ C) (R.take q) A (fun w hw => ht w (by
      have e : A ++ x :: R.take q ++ (R.drop q ++ C) = A ++ x :: R ++ C := by
        simp only [List.append_assoc, List.cons_append]; rw [← List.append_assoc (R.take q), List.take_append_drop]
      rw [e] at hw; exact hw)) (by simp; omega) (by simp; omega)
    have e1 : A ++ x :: R.take q ++ (R.drop q ++ C) = A ++ x :: R ++ C := by
      simp only [List.append_assoc, List.cons_append]; rw [← List.append_assoc (R.take q), List.take_append_drop]
    have e2 : A ++ R.take q ++ x :: (R.drop q ++ C) = A ++ (R.take q ++ x :: R.drop q) ++ C := by simp
    rw [e1, e2] at h
    exact h
theorem symLastTm (hO : SWO ltTm) (A L C : List (List Da × Tm)) (x : List Da × Tm) (ht : ∀ z ∈ A ++ L ++ x :: C, TgP Tm.da z) (hl : (A ++ L ++ x :: C).length ≤ 3000000000000) (hs : Sd ltTm L) : ∃ M, M.Perm (L ++ [x]) ∧ Sd ltTm M ∧ slices_symMergeCmpFunc_Term_impl_compare_L15 (.tup []) [(2000, .lst 31 3 ((A ++ M ++ C).map (·.1)))] ((A.length + L.length : Nat) : Int) (A.length : Int) ((A.length + L.length : Nat) : Int) ((A ++ L ++ x :: C).map (·.1)) := by
  have hl' : A.length + L.length + C.length + 1 ≤ 3000000000000 := by simp at hl; omega
  have hlen : ((A ++ L ++ x :: C).map (·.1)).length = A.length + L.length + C.length + 1 := by simp; omega
  have gx : ((A ++ L ++ x :: C).map (·.1))[A.length + L.length]? = some x.1 := by simp
  obtain ⟨k, k1, k2, k3, k4, k5⟩ := bsearch (ι := AV × List (Nat × Ob)) (p := fun t i j => slices_symMergeCmpFunc_Term_impl_compare_L15 t.1 t.2 ((A.length + L.length : Nat) : Int) (i : Int) (j : Int) ((A ++ L ++ x :: C).map (·.1))) (ex := fun t i => slices_symMergeCmpFunc_Term_impl_compare_L21 t.1 t.2 (i : Int) ((A.length + L.length : Nat) : Int) ((A ++ L ++ x :: C).map (·.1)))
    (fun h => ∃ y, L[h - A.length]? = some y ∧ ¬ ltTm x y) A.length (A.length + L.length) (fun t i _ _ h => by
      apply slices_symMergeCmpFunc_Term_impl_compare_L15_of
      exact ifB_f (decide_eq_false (by omega)) h) (fun t i j h1 h2 h3 => by
      obtain ⟨y, hy⟩ := get_ex (l := L) (i := (i + j) / 2 - A.length) (by omega)
      have hym := List.mem_of_getElem? hy
      have hcmp := cmpTgTm (ht x (by simp)) (ht y (by simp [hym]))
      have gy := get_part (fun z : List Da × Tm => z.1) (P := A) (Q := x :: C) hy
      have eh : A.length + ((i + j) / 2 - A.length) = (i + j) / 2 := by omega
      rw [eh] at gy
      obtain ⟨_, _, _, ex⟩ := (ht x (by simp)).term
      obtain ⟨_, _, _, ey⟩ := (ht y (by simp [hym])).term
      have core : (¬ ltTm x y → slices_symMergeCmpFunc_Term_impl_compare_L15 t.1 t.2 ((A.length + L.length : Nat) : Int) (((i + j) / 2 + 1 : Nat) : Int) (j : Int) ((A ++ L ++ x :: C).map (·.1))) → (ltTm x y → slices_symMergeCmpFunc_Term_impl_compare_L15 t.1 t.2 ((A.length + L.length : Nat) : Int) (i : Int) (((i + j) / 2 : Nat) : Int) ((A ++ L ++ x :: C).map (·.1))) → slices_symMergeCmpFunc_Term_impl_compare_L15 t.1 t.2 ((A.length + L.length : Nat) : Int) (i : Int) (j : Int) ((A ++ L ++ x :: C).map (·.1)) := by
        intro c1 c2
        have w1 : IntKind.wrap .i64 ((((i + j) / 2 : Nat) : Int) + 1) = (((i + j) / 2 + 1 : Nat) : Int) := by rw [wrI (by omega) (by omega)]; simp
        have gx2 := gx
        rw [ex] at gx2 hcmp
        rw [ey] at gy hcmp
        apply slices_symMergeCmpFunc_Term_impl_compare_L15_of
        rw [midw (by omega), w1]
        refine ifB_t (decide_eq_true (by omega)) ⟨⟨bits64⟩, _, rfl, ⟨by rw [hlen]; omega⟩, _, rfl, _, _, _, gx2, _, rfl, ⟨by rw [hlen]; omega⟩, _, rfl, _, _, _, gy, _, hcmp, ?_⟩
        by_cases hlt : ltTm x y
        · exact ifB_f (by rw [decide_eq_true (show Tm.cmp x.2 y.2 < 0 from hlt)]; rfl) (c2 hlt)
        · exact ifB_t (by rw [decide_eq_false (show ¬ Tm.cmp x.2 y.2 < 0 from hlt)]; rfl) (c1 hlt)
      refine ⟨fun hf hp => core (fun _ => hp) fun hn => ?_, fun hn hp => core (fun hlt => absurd ⟨y, hy, hlt⟩ hn) fun _ => hp⟩
      obtain ⟨y', hy', hlt⟩ := hf
      rw [hy] at hy'
      cases hy'
      exact absurd hn hlt) L.length A.length (A.length + L.length) (by omega) (Nat.le_refl _) (by omega) (Nat.le_refl _) (.inl rfl) (.inl rfl)
  obtain ⟨q, rfl⟩ : ∃ q, k = A.length + q := ⟨k - A.length, by omega⟩
  have hq : q ≤ L.length := by omega
  have hsL : Sd ltTm (L.take q ++ L.drop q) := by rw [List.take_append_drop]; exact hs
  obtain ⟨s1, s2, _⟩ := sd_app.1 hsL
  have hL1 : ∀ y ∈ L.take q, ¬ ltTm x y := by
    refine sd_all_le hO s1 ?_
    by_cases h0 : q = 0
    · subst h0; exact .inl (by simp)
    · rcases k3 with h | ⟨y, hy, hlt⟩
      · exact absurd (by omega) h0
      · refine .inr ⟨y, ?_, hlt⟩
        rw [List.length_take, Nat.min_eq_left hq, List.getElem?_take_of_lt (by omega)]
        rw [← hy]; congr 1; omega
  have hL2 : ∀ y ∈ L.drop q, ltTm x y := by
    refine sd_all_gt hO s2 ?_
    by_cases h0 : q = L.length
    · exact .inl (List.drop_eq_nil_of_le (by omega))
    · rcases k4 with h | h
      · exact absurd (by omega) h0
      · obtain ⟨y, hy⟩ := get_ex (l := L) (i := q) (by omega)
        refine .inr ⟨y, by rw [List.getElem?_drop]; simpa using hy, Classical.byContradiction fun hlt => h ⟨y, ?_, hlt⟩⟩
        rw [← hy]; congr 1; omega
  refine ⟨L.take q ++ x :: L.drop q, ?_, sd_put hO hsL (fun y hy => hO.asym (hL2 y hy)) hL1, k5 (_, _) ?_⟩
  · refine List.perm_middle.trans ?_
    rw [List.take_append_drop]
    exact (List.perm_append_singleton x L).symm
  · have e1 : A ++ L.take q ++ L.drop q ++ x :: C = A ++ L ++ x :: C := by rw [List.append_assoc A, List.take_append_drop]
    have h := symBackTm_loop (A ++ L.take q) x (L.drop q).length (L.drop q) C rfl (by rw [e1]; exact ht) (by rw [e1]; exact hl)
    have e2 : A ++ L.take q ++ x :: L.drop q ++ C = A ++ (L.take q ++ x :: L.drop q) ++ C := by simp
    have e3 : (A ++ L.take q).length = A.length + q := by simp; omega
    have e4 : (A ++ L.take q ++ L.drop q).length = A.length + L.length := by simp
    rw [e1, e2, e3, e4] at h
    exact h
theorem symGenTm (hO : SWO ltTm) (A L1 L2 R1 R2 C : List (List Da × Tm)) (a m b mid k e : Nat) (ha : a = A.length) (hk : k = a + L1.length) (hm : m = k + L2.length) (he : e = m + R1.length) (hb : b = e + R2.length) (hmid : mid = k + R1.length) (ht : ∀ z ∈ A ++ L1 ++ L2 ++ R1 ++ R2 ++ C, TgP Tm.da z) (hl : (A ++ L1 ++ L2 ++ R1 ++ R2 ++ C).length ≤ 3000000000000) (hL : Sd ltTm (L1 ++ L2)) (hR : Sd ltTm (R1 ++ R2))
    (f1 : (L1 = [] ∨ R2 = []) ∨ ∃ y0 z0, L1[L1.length - 1]? = some y0 ∧ R2[0]? = some z0 ∧ ¬ ltTm z0 y0) (f2 : (L2 = [] ∨ R1 = []) ∨ ∃ y0 z0, L2[0]? = some y0 ∧ R1[R1.length - 1]? = some z0 ∧ ltTm z0 y0)
    (ih : ∀ (A L R C : List (List Da × Tm)), (L ++ R).length < (L1 ++ L2 ++ R1 ++ R2).length → L ≠ [] → R ≠ [] → (∀ z ∈ A ++ L ++ R ++ C, TgP Tm.da z) → (A ++ L ++ R ++ C).length ≤ 3000000000000 → Sd ltTm L → Sd ltTm R → ∃ M, M.Perm (L ++ R) ∧ Sd ltTm M ∧ XC Try.prog 137 [.one (.ol 2000), Z (A.length : Int), Z ((A ++ L).length : Int), Z ((A ++ L ++ R).length : Int), .one (.d (.fn 105))] [(2000, .lst 31 3 ((A ++ L ++ R ++ C).map (·.1)))] (.tup []) [(2000, .lst 31 3 ((A ++ M ++ C).map (·.1)))])
    (hlt1 : (L1 ++ R1).length < (L1 ++ L2 ++ R1 ++ R2).length) (hlt2 : (L2 ++ R2).length < (L1 ++ L2 ++ R1 ++ R2).length) :
    ∃ M, M.Perm (L1 ++ L2 ++ (R1 ++ R2)) ∧ Sd ltTm M ∧ ∀ s21 s22 : Int, s21 = k → slices_symMergeCmpFunc_Term_impl_compare_L33 (.tup []) [(2000, .lst 31 3 ((A ++ M ++ C).map (·.1)))] (a : Int) (m : Int) (b : Int) (mid : Int) ((mid + m : Nat) : Int) (k : Int) s21 s22 ((A ++ L1 ++ L2 ++ R1 ++ R2 ++ C).map (·.1)) := by
  have hl' : A.length + L1.length + L2.length + R1.length + R2.length + C.length ≤ 3000000000000 := by simp at hl; omega
  obtain ⟨hs1, hs2, hs12⟩ := sd_app.1 hL
  obtain ⟨hr1, hr2, hr12⟩ := sd_app.1 hR
  obtain ⟨M1, p1, q1, z1, c1⟩ : ∃ M1, M1.Perm (L1 ++ R1) ∧ Sd ltTm M1 ∧ ((L1 = [] ∨ R1 = []) → M1 = L1 ++ R1) ∧ (L1 ≠ [] → R1 ≠ [] → XC Try.prog 137 [.one (.ol 2000), Z (a : Int), Z (k : Int), Z (mid : Int), .one (.d (.fn 105))] [(2000, .lst 31 3 ((A ++ L1 ++ R1 ++ L2 ++ R2 ++ C).map (·.1)))] (.tup []) [(2000, .lst 31 3 ((A ++ M1 ++ L2 ++ R2 ++ C).map (·.1)))]) := by
    by_cases h : L1 = [] ∨ R1 = []
    · refine ⟨L1 ++ R1, .refl _, ?_, fun _ => rfl, fun h1 h2 => absurd h (by simp [h1, h2])⟩
      rcases h with rfl | rfl
      · simpa using hr1
      · simpa using hs1
    · have h1 : L1 ≠ [] := fun e => h (.inl e)
      have h2 : R1 ≠ [] := fun e => h (.inr e)
      obtain ⟨M1, p, q, c⟩ := ih A L1 R1 (L2 ++ R2 ++ C) hlt1 h1 h2 (fun w hw => ht w (by simp at hw ⊢; grind)) (by simp; omega) hs1 hr1
      refine ⟨M1, p, q, fun e => absurd e h, fun _ _ => ?_⟩
      have e1 : (A ++ L1).length = k := by simp; omega
      have e2 : (A ++ L1 ++ R1).length = mid := by simp; omega
      have e3 : A ++ L1 ++ R1 ++ (L2 ++ R2 ++ C) = A ++ L1 ++ R1 ++ L2 ++ R2 ++ C := by simp
      have e4 : A ++ M1 ++ (L2 ++ R2 ++ C) = A ++ M1 ++ L2 ++ R2 ++ C := by simp
      rw [e1, e2, e3, e4, ← ha] at c
      exact c
  have pl1 := p1.length_eq
  simp only [List.length_append] at pl1
  obtain ⟨M2, p2, q2, z2, c2⟩ : ∃ M2, M2.Perm (L2 ++ R2) ∧ Sd ltTm M2 ∧ ((L2 = [] ∨ R2 = []) → M2 = L2 ++ R2) ∧ (L2 ≠ [] → R2 ≠ [] → XC Try.prog 137 [.one (.ol 2000), Z (mid : Int), Z (e : Int), Z (b : Int), .one (.d (.fn 105))] [(2000, .lst 31 3 ((A ++ M1 ++ L2 ++ R2 ++ C).map (·.1)))] (.tup []) [(2000, .lst 31 3 ((A ++ M1 ++ M2 ++ C).map (·.1)))]) := by
    by_cases h : L2 = [] ∨ R2 = []
    · refine ⟨L2 ++ R2, .refl _, ?_, fun _ => rfl, fun h1 h2 => absurd h (by simp [h1, h2])⟩
      rcases h with rfl | rfl
      · simpa using hr2
      · simpa using hs2
    · have h1 : L2 ≠ [] := fun e => h (.inl e)
      have h2 : R2 ≠ [] := fun e => h (.inr e)
      obtain ⟨M2, p, q, c⟩ := ih (A ++ M1) L2 R2 C hlt2 h1 h2 (fun w hw => ht w (by
        have hp : w ∈ M1 → w ∈ L1 ++ R1 := fun h => p1.subset h
        simp at hw hp ⊢; grind)) (by simp; omega) hs2 hr2
      refine ⟨M2, p, q, fun e => absurd e h, fun _ _ => ?_⟩
      have e1 : (A ++ M1).length = mid := by simp; omega
      have e2 : (A ++ M1 ++ L2).length = e := by simp; omega
      have e3 : (A ++ M1 ++ L2 ++ R2).length = b := by simp; omega
      rw [e1, e2, e3] at c
      exact c
  have hcross1 : ∀ x ∈ L1, ∀ y ∈ R2, ¬ ltTm y x := fun x hx y hy => by
    rcases f1 with (h | h) | ⟨y0, z0, g1, g2, g3⟩
    · simp [h] at hx
    · simp [h] at hy
    · exact sd_all_ge hO hr2 (.inr ⟨z0, g2, sd_all_le hO hs1 (.inr ⟨y0, g1, g3⟩) x hx⟩) y hy
  have hcross2 : ∀ x ∈ R1, ∀ y ∈ L2, ¬ ltTm y x := fun x hx y hy => by
    rcases f2 with (h | h) | ⟨y0, z0, g1, g2, g3⟩
    · simp [h] at hy
    · simp [h] at hx
    · exact sd_all_ge hO hs2 (.inr ⟨y0, g1, hO.asym (sd_all_lt hO hr1 (.inr ⟨z0, g2, g3⟩) x hx)⟩) y hy
  refine ⟨M1 ++ M2, ?_, sd_app.2 ⟨q1, q2, fun x hx y hy => ?_⟩, fun s21 s22 h21 => ?_⟩
  · refine (p1.append p2).trans ?_
    have e1 : L1 ++ R1 ++ (L2 ++ R2) = L1 ++ ((R1 ++ L2) ++ R2) := by simp
    have e2 : L1 ++ L2 ++ (R1 ++ R2) = L1 ++ ((L2 ++ R1) ++ R2) := by simp
    rw [e1, e2]
    exact (List.perm_append_comm.append_right R2).append_left L1
  · have hx := p1.subset hx
    have hy := p2.subset hy
    rcases List.mem_append.1 hx with hx | hx <;> rcases List.mem_append.1 hy with hy | hy
    · exact hs12 x hx y hy
    · exact hcross1 x hx y hy
    · exact hcross2 x hx y hy
    · exact hr12 x hx y hy
  · subst h21
    obtain ⟨D3, hD3⟩ : ∃ D3, D3 = A ++ M1 ++ M2 ++ C := ⟨_, rfl⟩
    have eO : A ++ (M1 ++ M2) ++ C = D3 := by rw [hD3]; simp
    rw [eO]
    have hRight : ifB (decide ((mid : Int) < ((e : Nat) : Int))) (ifB (decide (((e : Nat) : Int) < (b : Int))) (∃ xs', XC Try.prog 137 [.one (.ol 2000), Z (mid : Int), Z ((e : Nat) : Int), Z (b : Int), .one (.d (.fn 105))] [(2000, .lst 31 3 ((A ++ M1 ++ L2 ++ R2 ++ C).map (·.1)))] (.tup []) [(2000, .lst 31 3 xs')] ∧ ((AV.tup []) = .tup [] ∧ [((2000 : Nat), Ob.lst 31 3 (xs'))] = [(2000, Ob.lst 31 3 (D3.map (·.1)))])) ((AV.tup []) = .tup [] ∧ [((2000 : Nat), Ob.lst 31 3 ((A ++ M1 ++ L2 ++ R2 ++ C).map (·.1)))] = [(2000, Ob.lst 31 3 (D3.map (·.1)))])) ((AV.tup []) = .tup [] ∧ [((2000 : Nat), Ob.lst 31 3 ((A ++ M1 ++ L2 ++ R2 ++ C).map (·.1)))] = [(2000, Ob.lst 31 3 (D3.map (·.1)))]) := by
      by_cases h2 : L2 = []
      · refine ifB_f (decide_eq_false (by subst h2; simp at hm; omega)) ⟨rfl, ?_⟩
        rw [hD3, z2 (.inl h2)]; simp
      · have := List.length_pos_iff.2 h2
        refine ifB_t (decide_eq_true (by omega)) ?_
        by_cases h3 : R2 = []
        · refine ifB_f (decide_eq_false (by subst h3; simp at hb; omega)) ⟨rfl, ?_⟩
          rw [hD3, z2 (.inr h3)]; simp
        · have := List.length_pos_iff.2 h3
          exact ifB_t (decide_eq_true (by omega)) ⟨_, c2 h2 h3, rfl, by rw [hD3]⟩
    have hLeft : ifB (decide ((a : Int) < (k : Int))) (ifB (decide ((k : Int) < (mid : Int))) (∃ xs1, XC Try.prog 137 [.one (.ol 2000), Z (a : Int), Z (k : Int), Z (mid : Int), .one (.d (.fn 105))] [(2000, .lst 31 3 ((A ++ L1 ++ R1 ++ L2 ++ R2 ++ C).map (·.1)))] (.tup []) [(2000, .lst 31 3 xs1)] ∧ ifB (decide ((mid : Int) < ((e : Nat) : Int))) (ifB (decide (((e : Nat) : Int) < (b : Int))) (∃ xs', XC Try.prog 137 [.one (.ol 2000), Z (mid : Int), Z ((e : Nat) : Int), Z (b : Int), .one (.d (.fn 105))] [(2000, .lst 31 3 (xs1))] (.tup []) [(2000, .lst 31 3 xs')] ∧ ((AV.tup []) = .tup [] ∧ [((2000 : Nat), Ob.lst 31 3 (xs'))] = [(2000, Ob.lst 31 3 (D3.map (·.1)))])) ((AV.tup []) = .tup [] ∧ [((2000 : Nat), Ob.lst 31 3 (xs1))] = [(2000, Ob.lst 31 3 (D3.map (·.1)))])) ((AV.tup []) = .tup [] ∧ [((2000 : Nat), Ob.lst 31 3 (xs1))] = [(2000, Ob.lst 31 3 (D3.map (·.1)))])) (ifB (decide ((mid : Int) < ((e : Nat) : Int))) (ifB (decide (((e : Nat) : Int) < (b : Int))) (∃ xs', XC Try.prog 137 [.one (.ol 2000), Z (mid : Int), Z ((e : Nat) : Int), Z (b : Int), .one (.d (.fn 105))] [(2000, .lst 31 3 ((A ++ L1 ++ R1 ++ L2 ++ R2 ++ C).map (·.1)))] (.tup []) [(2000, .lst 31 3 xs')] ∧ ((AV.tup []) = .tup [] ∧ [((2000 : Nat), Ob.lst 31 3 (xs'))] = [(2000, Ob.lst 31 3 (D3.map (·.1)))])) ((AV.tup []) = .tup [] ∧ [((2000 : Nat), Ob.lst 31 3 ((A ++ L1 ++ R1 ++ L2 ++ R2 ++ C).map (·.1)))] = [(2000, Ob.lst 31 3 (D3.map (·.1)))])) ((AV.tup []) = .tup [] ∧ [((2000 : Nat), Ob.lst 31 3 ((A ++ L1 ++ R1 ++ L2 ++ R2 ++ C).map (·.1)))] = [(2000, Ob.lst 31 3 (D3.map (·.1)))]))) (ifB (decide ((mid : Int) < ((e : Nat) : Int))) (ifB (decide (((e : Nat) : Int) < (b : Int))) (∃ xs', XC Try.prog 137 [.one (.ol 2000), Z (mid : Int), Z ((e : Nat) : Int), Z (b : Int), .one (.d (.fn 105))] [(2000, .lst 31 3 ((A ++ L1 ++ R1 ++ L2 ++ R2 ++ C).map (·.1)))] (.tup []) [(2000, .lst 31 3 xs')] ∧ ((AV.tup []) = .tup [] ∧ [((2000 : Nat), Ob.lst 31 3 (xs'))] = [(2000, Ob.lst 31 3 (D3.map (·.1)))])) ((AV.tup []) = .tup [] ∧ [((2000 : Nat), Ob.lst 31 3 ((A ++ L1 ++ R1 ++ L2 ++ R2 ++ C).map (·.1)))] = [(2000, Ob.lst 31 3 (D3.map (·.1)))])) ((AV.tup []) = .tup [] ∧ [((2000 : Nat), Ob.lst 31 3 ((A ++ L1 ++ R1 ++ L2 ++ R2 ++ C).map (·.1)))] = [(2000, Ob.lst 31 3 (D3.map (·.1)))])) := by
      by_cases h2 : L1 = []
      · refine ifB_f (decide_eq_false (by subst h2; simp at hk; omega)) ?_
        rw [z1 (.inl h2)] at hRight
        simpa using hRight
      · have := List.length_pos_iff.2 h2
        refine ifB_t (decide_eq_true (by omega)) ?_
        by_cases h3 : R1 = []
        · refine ifB_f (decide_eq_false (by subst h3; simp at hmid; omega)) ?_
          rw [z1 (.inr h3)] at hRight
          simpa using hRight
        · have := List.length_pos_iff.2 h3
          exact ifB_t (decide_eq_true (by omega)) ⟨_, c1 h2 h3, hRight⟩
    have w : IntKind.wrap .i64 (((mid + m : Nat) : Int) - (k : Int)) = ((e : Nat) : Int) := by rw [wrI (by omega) (by omega)]; omega
    apply slices_symMergeCmpFunc_Term_impl_compare_L33_of
    rw [w]
    refine ifB_f (decide_eq_false (by omega)) ?_
    by_cases h2 : L2 = []
    · refine ifB_f (decide_eq_false (by subst h2; simp at hm; omega)) ?_
      have e1 : A ++ L1 ++ L2 ++ R1 ++ R2 ++ C = A ++ L1 ++ R1 ++ L2 ++ R2 ++ C := by subst h2; simp
      rw [e1]
      exact hLeft
    · have := List.length_pos_iff.2 h2
      refine ifB_t (decide_eq_true (by omega)) ?_
      by_cases h3 : R1 = []
      · refine ifB_f (decide_eq_false (by subst h3; simp at he; omega)) ?_
        have e1 : A ++ L1 ++ L2 ++ R1 ++ R2 ++ C = A ++ L1 ++ R1 ++ L2 ++ R2 ++ C := by subst h3; simp
        rw [e1]
        exact hLeft
      · have := List.length_pos_iff.2 h3
        have c := rotateTm_call (A ++ L1) L2 R1 (R2 ++ C) h2 h3 (fun w hw => ht w (by simp at hw ⊢; grind)) (by simp; omega)
        have e1 : A ++ L1 ++ L2 ++ R1 ++ (R2 ++ C) = A ++ L1 ++ L2 ++ R1 ++ R2 ++ C := by simp
        have e2 : A ++ L1 ++ R1 ++ L2 ++ (R2 ++ C) = A ++ L1 ++ R1 ++ L2 ++ R2 ++ C := by simp
        have e3 : (A ++ L1).length = k := by simp; omega
        have e4 : (A ++ L1 ++ L2).length = m := by simp; omega
        have e5 : (A ++ L1 ++ L2 ++ R1).length = e := by simp; omega
        rw [e1, e2, e3, e4, e5] at c
        exact ifB_t (decide_eq_true (by omega)) ⟨_, c, hLeft⟩
theorem symSearchTm (A L R C : List (List Da × Tm)) (a m b mid lo hi : Nat) (ha : a = A.length) (hm : m = a + L.length) (hb : b = m + R.length) (hlh : lo ≤ hi) (hla : a ≤ lo) (hhm : hi ≤ m) (hc : ∀ c, lo ≤ c → c < hi → m + c ≤ mid + m - 1 ∧ mid + m - 1 - c < b) (ht : ∀ z ∈ A ++ L ++ R ++ C, TgP Tm.da z) (hl : (A ++ L ++ R ++ C).length ≤ 3000000000000) (hmid : mid ≤ 3000000000000) :
    ∃ k, lo ≤ k ∧ k ≤ hi ∧ (k = lo ∨ ∃ y z, L[k - 1 - a]? = some y ∧ R[mid + m - 1 - (k - 1) - m]? = some z ∧ ¬ ltTm z y) ∧ (k = hi ∨ ¬ ∃ y z, L[k - a]? = some y ∧ R[mid + m - 1 - k - m]? = some z ∧ ¬ ltTm z y) ∧
    ∀ t : AV × List (Nat × Ob), slices_symMergeCmpFunc_Term_impl_compare_L33 t.1 t.2 (a : Int) (m : Int) (b : Int) (mid : Int) ((mid + m : Nat) : Int) (k : Int) (k : Int) ((mid + m - 1 : Nat) : Int) ((A ++ L ++ R ++ C).map (·.1)) → slices_symMergeCmpFunc_Term_impl_compare_L33 t.1 t.2 (a : Int) (m : Int) (b : Int) (mid : Int) ((mid + m : Nat) : Int) (lo : Int) (hi : Int) ((mid + m - 1 : Nat) : Int) ((A ++ L ++ R ++ C).map (·.1)) := by
  have hl' : A.length + L.length + R.length + C.length ≤ 3000000000000 := by simp at hl; omega
  have hlen : ((A ++ L ++ R ++ C).map (·.1)).length = A.length + L.length + R.length + C.length := by simp; omega
  refine bsearch (ι := AV × List (Nat × Ob)) (p := fun t i j => slices_symMergeCmpFunc_Term_impl_compare_L33 t.1 t.2 (a : Int) (m : Int) (b : Int) (mid : Int) ((mid + m : Nat) : Int) (i : Int) (j : Int) ((mid + m - 1 : Nat) : Int) ((A ++ L ++ R ++ C).map (·.1))) (ex := fun t i => slices_symMergeCmpFunc_Term_impl_compare_L33 t.1 t.2 (a : Int) (m : Int) (b : Int) (mid : Int) ((mid + m : Nat) : Int) (i : Int) (i : Int) ((mid + m - 1 : Nat) : Int) ((A ++ L ++ R ++ C).map (·.1)))
    (fun c => ∃ y z, L[c - a]? = some y ∧ R[mid + m - 1 - c - m]? = some z ∧ ¬ ltTm z y) lo hi (fun t i _ _ h => h) (fun t i j h1 h2 h3 => ?_) (hi - lo) lo hi (Nat.le_refl _) (Nat.le_refl _) hlh (Nat.le_refl _) (.inl rfl) (.inl rfl)
  obtain ⟨hc1, hc2⟩ := hc ((i + j) / 2) (by omega) (by omega)
  obtain ⟨y, hy⟩ := get_ex (l := L) (i := (i + j) / 2 - a) (by omega)
  obtain ⟨z, hz⟩ := get_ex (l := R) (i := mid + m - 1 - (i + j) / 2 - m) (by omega)
  have hym := List.mem_of_getElem? hy
  have hzm := List.mem_of_getElem? hz
  have hcmp := cmpTgTm (ht z (by simp [hzm])) (ht y (by simp [hym]))
  have gy := get_part (fun z : List Da × Tm => z.1) (P := A) (Q := R ++ C) hy
  have gz := get_part (fun z : List Da × Tm => z.1) (P := A ++ L) (Q := C) hz
  have eh : A.length + ((i + j) / 2 - a) = (i + j) / 2 := by omega
  have eg : (A ++ L).length + (mid + m - 1 - (i + j) / 2 - m) = mid + m - 1 - (i + j) / 2 := by simp; omega
  have eD : A ++ L ++ (R ++ C) = A ++ L ++ R ++ C := by simp
  rw [eh, eD] at gy
  rw [eg] at gz
  obtain ⟨_, _, _, ez⟩ := (ht z (by simp [hzm])).term
  obtain ⟨_, _, _, ey⟩ := (ht y (by simp [hym])).term
  have core : (¬ ltTm z y → slices_symMergeCmpFunc_Term_impl_compare_L33 t.1 t.2 (a : Int) (m : Int) (b : Int) (mid : Int) ((mid + m : Nat) : Int) (((i + j) / 2 + 1 : Nat) : Int) (j : Int) ((mid + m - 1 : Nat) : Int) ((A ++ L ++ R ++ C).map (·.1))) → (ltTm z y → slices_symMergeCmpFunc_Term_impl_compare_L33 t.1 t.2 (a : Int) (m : Int) (b : Int) (mid : Int) ((mid + m : Nat) : Int) (i : Int) (((i + j) / 2 : Nat) : Int) ((mid + m - 1 : Nat) : Int) ((A ++ L ++ R ++ C).map (·.1))) → slices_symMergeCmpFunc_Term_impl_compare_L33 t.1 t.2 (a : Int) (m : Int) (b : Int) (mid : Int) ((mid + m : Nat) : Int) (i : Int) (j : Int) ((mid + m - 1 : Nat) : Int) ((A ++ L ++ R ++ C).map (·.1)) := by
    intro c1 c2
    have w1 : IntKind.wrap .i64 ((((i + j) / 2 : Nat) : Int) + 1) = (((i + j) / 2 + 1 : Nat) : Int) := by rw [wrI (by omega) (by omega)]; simp
    have w2 : IntKind.wrap .i64 (((mid + m - 1 : Nat) : Int) - (((i + j) / 2 : Nat) : Int)) = ((mid + m - 1 - (i + j) / 2 : Nat) : Int) := by rw [wrI (by omega) (by omega)]; omega
    rw [ez] at gz hcmp
    rw [ey] at gy hcmp
    apply slices_symMergeCmpFunc_Term_impl_compare_L33_of
    rw [midw (by omega), w1, w2]
    refine ifB_t (decide_eq_true (by omega)) ⟨⟨bits64⟩, _, rfl, ⟨by rw [hlen]; omega⟩, _, rfl, _, _, _, gz, _, rfl, ⟨by rw [hlen]; omega⟩, _, rfl, _, _, _, gy, _, hcmp, ?_⟩
    by_cases hlt : ltTm z y
    · exact ifB_f (by rw [decide_eq_true (show Tm.cmp z.2 y.2 < 0 from hlt)]; rfl) (c2 hlt)
    · exact ifB_t (by rw [decide_eq_false (show ¬ Tm.cmp z.2 y.2 < 0 from hlt)]; rfl) (c1 hlt)
  refine ⟨fun hf hp => core (fun _ => hp) fun hn => ?_, fun hn hp => core (fun hlt => absurd ⟨y, z, hy, hz, hlt⟩ hn) fun _ => hp⟩
  obtain ⟨y', z', hy', hz', hlt⟩ := hf
  rw [hy] at hy'
  rw [hz] at hz'
  cases hy'
  cases hz'
  exact absurd hn hlt
theorem symMergeTm_call (hO : SWO ltTm) : ∀ (n : Nat) (A L R C : List (List Da × Tm)), (L ++ R).length ≤ n → L ≠ [] → R ≠ [] → (∀ z ∈ A ++ L ++ R ++ C, TgP Tm.da z) → (A ++ L ++ R ++ C).length ≤ 3000000000000 → Sd ltTm L → Sd ltTm R → ∃ M, M.Perm (L ++ R) ∧ Sd ltTm M ∧ XC Try.prog 137 [.one (.ol 2000), Z (A.length : Int), Z ((A ++ L).length : Int), Z ((A ++ L ++ R).length : Int), .one (.d (.fn 105))] [(2000, .lst 31 3 ((A ++ L ++ R ++ C).map (·.1)))] (.tup []) [(2000, .lst 31 3 ((A ++ M ++ C).map (·.1)))] := by
  intro n
  induction n with
  | zero =>
    intro A L R C hn hL _ _ _ _ _
    exact absurd (List.eq_nil_of_length_eq_zero (by simp at hn; simp [hn])) hL
  | succ n ih =>
    intro A L R C hn hL hR ht hl hsL hsR
    have hL' := List.length_pos_iff.2 hL
    have hR' := List.length_pos_iff.2 hR
    have hl' : A.length + L.length + R.length + C.length ≤ 3000000000000 := by simp at hl; omega
    have hn' : L.length + R.length ≤ n + 1 := by simpa using hn
    have em : (A ++ L).length = A.length + L.length := by simp
    have eb : (A ++ L ++ R).length = A.length + L.length + R.length := by simp; omega
    have w1 : IntKind.wrap .i64 (((A.length + L.length : Nat) : Int) - (A.length : Int)) = (L.length : Int) := by rw [wrI (by omega) (by omega)]; omega
    have w2 : IntKind.wrap .i64 (((A.length + L.length + R.length : Nat) : Int) - ((A.length + L.length : Nat) : Int)) = (R.length : Int) := by rw [wrI (by omega) (by omega)]; omega
    rw [em, eb]
    by_cases h1 : L.length = 1
    · obtain ⟨x, rfl⟩ : ∃ x, L = [x] := List.length_eq_one_iff.1 h1
      obtain ⟨M, p1, p2, p3⟩ := symOneTm hO A R C x (by simpa using ht) (by simpa using hl) hsR
      refine ⟨M, p1, p2, ?_⟩
      apply slices_symMergeCmpFunc_Term_impl_compare_of
      rw [w1]
      refine ifB_t (decide_eq_true (by omega)) ?_
      have e1 : A ++ [x] ++ R ++ C = A ++ x :: R ++ C := by simp
      rw [e1]
      exact p3
    · by_cases h2 : R.length = 1
      · obtain ⟨x, rfl⟩ : ∃ x, R = [x] := List.length_eq_one_iff.1 h2
        obtain ⟨M, p1, p2, p3⟩ := symLastTm hO A L C x (by simpa using ht) (by simpa using hl) hsL
        refine ⟨M, p1, p2, ?_⟩
        apply slices_symMergeCmpFunc_Term_impl_compare_of
        rw [w1, w2]
        refine ifB_f (decide_eq_false (by omega)) (ifB_t (decide_eq_true (by omega)) ?_)
        have e1 : A ++ L ++ [x] ++ C = A ++ L ++ x :: C := by simp
        rw [e1]
        exact p3
      · obtain ⟨a, ha⟩ : ∃ a, a = A.length := ⟨_, rfl⟩
        obtain ⟨m, hm⟩ : ∃ m, m = a + L.length := ⟨_, rfl⟩
        obtain ⟨b, hb⟩ : ∃ b, b = m + R.length := ⟨_, rfl⟩
        rw [← ha, ← hm] at w1
        rw [← ha, ← hm, ← hb] at w2 ⊢
        obtain ⟨mid, hmid⟩ : ∃ mid, mid = (a + b) / 2 := ⟨_, rfl⟩
        have wm : IntKind.wrap .i64 (((mid : Nat) : Int) + (m : Int)) = ((mid + m : Nat) : Int) := by rw [wrI (by omega) (by omega)]; simp
        have wp : IntKind.wrap .i64 (((mid + m : Nat) : Int) - 1) = ((mid + m - 1 : Nat) : Int) := by rw [wrI (by omega) (by omega)]; omega
        have hcases : ∃ lo hi, lo ≤ hi ∧ a ≤ lo ∧ hi ≤ m ∧ hi ≤ mid ∧ mid + m ≤ b + lo ∧ (∀ c, lo ≤ c → c < hi → m + c ≤ mid + m - 1 ∧ mid + m - 1 - c < b) ∧ (lo = a ∨ mid + m = b + lo) ∧ (hi = m ∨ hi = mid) ∧
            ∀ (r : AV) (O : List (Nat × Ob)), slices_symMergeCmpFunc_Term_impl_compare_L33 r O (a : Int) (m : Int) (b : Int) (mid : Int) ((mid + m : Nat) : Int) (lo : Int) (hi : Int) ((mid + m - 1 : Nat) : Int) ((A ++ L ++ R ++ C).map (·.1)) → XC Try.prog 137 [.one (.ol 2000), Z (a : Int), Z (m : Int), Z (b : Int), .one (.d (.fn 105))] [(2000, .lst 31 3 ((A ++ L ++ R ++ C).map (·.1)))] r O := by
          by_cases hgt : mid < m
          · refine ⟨mid + m - b, mid, by omega, by omega, by omega, by omega, by omega, fun c h1 h2 => by omega, by omega, .inr rfl, fun r O h => ?_⟩
            have w3 : IntKind.wrap .i64 (((mid + m : Nat) : Int) - (b : Int)) = ((mid + m - b : Nat) : Int) := by rw [wrI (by omega) (by omega)]; omega
            apply slices_symMergeCmpFunc_Term_impl_compare_of
            rw [w1, w2, midw (by omega), ← hmid, wm, wp, w3]
            exact ifB_f (decide_eq_false (by omega)) (ifB_f (decide_eq_false (by omega)) ⟨⟨bits64⟩, ifB_t (decide_eq_true (by omega)) h⟩)
          · refine ⟨a, m, by omega, by omega, by omega, by omega, by omega, fun c h1 h2 => by omega, .inl rfl, .inl rfl, fun r O h => ?_⟩
            apply slices_symMergeCmpFunc_Term_impl_compare_of
            rw [w1, w2, midw (by omega), ← hmid, wm, wp]
            exact ifB_f (decide_eq_false (by omega)) (ifB_f (decide_eq_false (by omega)) ⟨⟨bits64⟩, ifB_f (decide_eq_false (by omega)) h⟩)
        obtain ⟨lo, hi, c1, c2, c3, c4, c5, c6, c7, c8, c9⟩ := hcases
        obtain ⟨k, k1, k2, k3, k4, k5⟩ := symSearchTm A L R C a m b mid lo hi ha hm hb c1 c2 c3 c6 ht hl (by omega)
        obtain ⟨L1, L2, rfl, hL1⟩ : ∃ L1 L2, L = L1 ++ L2 ∧ L1.length = k - a := ⟨L.take (k - a), L.drop (k - a), by simp, by simp; omega⟩
        obtain ⟨R1, R2, rfl, hR1⟩ : ∃ R1 R2, R = R1 ++ R2 ∧ R1.length = mid - k := ⟨R.take (mid - k), R.drop (mid - k), by simp, by simp; omega⟩
        rw [List.length_append] at hm hb
        have f1 : (L1 = [] ∨ R2 = []) ∨ ∃ y0 z0, L1[L1.length - 1]? = some y0 ∧ R2[0]? = some z0 ∧ ¬ ltTm z0 y0 := by
          by_cases hk0 : k = lo
          · left
            rcases c7 with h | h
            · exact .inl (List.eq_nil_of_length_eq_zero (by omega))
            · exact .inr (List.eq_nil_of_length_eq_zero (by omega))
          · right
            rcases k3 with h | ⟨y, z, hy, hz, hlt⟩
            · exact absurd h hk0
            · refine ⟨y, z, ?_, ?_, hlt⟩
              · rw [← hy, List.getElem?_append_left (by omega)]; congr 1; omega
              · rw [← hz, List.getElem?_append_right (by omega)]; congr 1; omega
        have f2 : (L2 = [] ∨ R1 = []) ∨ ∃ y0 z0, L2[0]? = some y0 ∧ R1[R1.length - 1]? = some z0 ∧ ltTm z0 y0 := by
          by_cases hk0 : k = hi
          · left
            rcases c8 with h | h
            · exact .inl (List.eq_nil_of_length_eq_zero (by omega))
            · exact .inr (List.eq_nil_of_length_eq_zero (by omega))
          · right
            have hc := c6 k k1 (by omega)
            obtain ⟨y, hy⟩ := get_ex (l := L2) (i := 0) (by omega)
            obtain ⟨z, hz⟩ := get_ex (l := R1) (i := R1.length - 1) (by omega)
            refine ⟨y, z, hy, hz, Classical.byContradiction fun hlt => ?_⟩
            rcases k4 with h | h
            · exact hk0 h
            · refine h ⟨y, z, ?_, ?_, hlt⟩
              · rw [← hy, List.getElem?_append_right (by omega)]; congr 1; omega
              · rw [← hz, List.getElem?_append_left (by omega)]; congr 1; omega
        have eD : A ++ (L1 ++ L2) ++ (R1 ++ R2) ++ C = A ++ L1 ++ L2 ++ R1 ++ R2 ++ C := by simp
        have hfacts : k = a + L1.length ∧ m = k + L2.length ∧ b = m + R1.length + R2.length ∧ mid = k + R1.length := by
          clear c7 c8 c9 k3 k4 k5 f1 f2 c6 w1 w2 wm wp ih ht hl
          omega
        have hsz : mid < b ∧ a < mid := by
          clear c7 c8 c9 k3 k4 k5 f1 f2 c6 w1 w2 wm wp ih ht hl
          simp only [List.length_append] at h1 h2 hL' hR'
          omega
        have hsum : (L1 ++ L2 ++ R1 ++ R2).length = L1.length + L2.length + R1.length + R2.length := by simp; omega
        have hs1 : (L1 ++ R1).length < (L1 ++ L2 ++ R1 ++ R2).length := by
          clear c7 c8 c9 k3 k4 k5 f1 f2 c6 w1 w2 wm wp ih ht hl
          rw [hsum, List.length_append]; omega
        have hs2 : (L2 ++ R2).length < (L1 ++ L2 ++ R1 ++ R2).length := by
          clear c7 c8 c9 k3 k4 k5 f1 f2 c6 w1 w2 wm wp ih ht hl
          rw [hsum, List.length_append]; omega
        have hn2 : (L1 ++ L2 ++ R1 ++ R2).length ≤ n + 1 := by
          rw [hsum]; simp only [List.length_append] at hn'; omega
        obtain ⟨g1, g2, g3, g4⟩ := hfacts
        obtain ⟨M, p1, p2, p3⟩ := symGenTm hO A L1 L2 R1 R2 C a m b mid k (m + R1.length) ha g1 g2 rfl g3 g4 (by rw [← eD]; exact ht) (by rw [← eD]; exact hl) hsL hsR f1 f2 (fun A' L' R' C' hlt h1 h2 h3 h4 h5 h6 => ih A' L' R' C' (Nat.le_of_lt_succ (Nat.lt_of_lt_of_le hlt hn2)) h1 h2 h3 h4 h5 h6) hs1 hs2
        refine ⟨M, p1, p2, c9 _ _ (k5 (_, _) ?_)⟩
        rw [eD]
        exact p3 _ _ rfl
inductive BlkTm (k : Nat) : List (List Da × Tm) → Prop
  | last {l} : l.length ≤ k → Sd ltTm l → BlkTm k l
  | cons {b r} : b.length = k → Sd ltTm b → BlkTm k r → BlkTm k (b ++ r)
theorem blkTm_sd {k : Nat} (hk : 0 < k) {l : List (List Da × Tm)} (h : BlkTm k l) (hl : l.length ≤ k) : Sd ltTm l := by
  cases h with
  | last _ h => exact h
  | @cons b r h1 h2 _ =>
    have : r = [] := List.eq_nil_of_length_eq_zero (by simp at hl; omega)
    subst this
    simpa using h2
theorem stableTm_in (hO : SWO ltTm) (k : Nat) (hk : 0 < k) (hk2 : k ≤ 6000000000000) : ∀ (n : Nat) (D S : List (List Da × Tm)), S.length ≤ n → (∀ z ∈ D ++ S, TgP Tm.da z) → (D ++ S).length ≤ 3000000000000 → BlkTm k S → ∃ S', S'.Perm S ∧ BlkTm (2 * k) S' ∧ ∀ (r : AV) (O : List (Nat × Ob)), slices_stableCmpFunc_Term_impl_compare_L7 r O ((D ++ S).length : Int) ((2 * k : Nat) : Int) ((D ++ S').map (·.1)) → slices_stableCmpFunc_Term_impl_compare_L9 r O ((D ++ S).length : Int) (k : Int) (D.length : Int) ((D.length + 2 * k : Nat) : Int) ((D ++ S).map (·.1)) := by
  intro n
  induction n with
  | zero =>
    intro D S hn ht hl hb
    have : S = [] := List.eq_nil_of_length_eq_zero (by omega)
    subst this
    refine ⟨[], .refl _, .last (by simp) .nil, fun r O h => ?_⟩
    have w1 : IntKind.wrap .i64 ((D.length : Int) + (k : Int)) = ((D.length + k : Nat) : Int) := by rw [wrI (by omega) (by simp at hl; omega)]; simp
    have w2 : IntKind.wrap .i64 ((k : Int) * 2) = ((2 * k : Nat) : Int) := by rw [wrI (by omega) (by omega)]; omega
    apply slices_stableCmpFunc_Term_impl_compare_L9_of
    rw [w1, w2]
    exact ifB_f (decide_eq_false (by simp; omega)) (ifB_f (decide_eq_false (by simp; omega)) h)
  | succ n ih =>
    intro D S hn ht hl hb
    have hl' : D.length + S.length ≤ 3000000000000 := by simpa using hl
    have hlen : (D ++ S).length = D.length + S.length := by simp
    have w1 : IntKind.wrap .i64 ((D.length : Int) + (k : Int)) = ((D.length + k : Nat) : Int) := by rw [wrI (by omega) (by omega)]; simp
    have w2 : IntKind.wrap .i64 ((k : Int) * 2) = ((2 * k : Nat) : Int) := by rw [wrI (by omega) (by omega)]; omega
    have w3 : IntKind.wrap .i64 (2 * (k : Int)) = ((2 * k : Nat) : Int) := by rw [wrI (by omega) (by omega)]; omega
    have w4 : IntKind.wrap .i64 (((D.length + 2 * k : Nat) : Int) + ((2 * k : Nat) : Int)) = ((D.length + 2 * k + 2 * k : Nat) : Int) := by rw [wrI (by omega) (by omega)]; omega
    by_cases h1 : S.length ≤ k
    · refine ⟨S, .refl _, .last (by omega) (blkTm_sd hk hb h1), fun r O h => ?_⟩
      apply slices_stableCmpFunc_Term_impl_compare_L9_of
      rw [w1, w2]
      exact ifB_f (decide_eq_false (by omega)) (ifB_f (decide_eq_false (by omega)) h)
    · obtain ⟨b1, S1, rfl, hb1, hs1, hb2⟩ : ∃ b1 S1, S = b1 ++ S1 ∧ b1.length = k ∧ Sd ltTm b1 ∧ BlkTm k S1 := by
        cases hb with
        | last h _ => exact absurd h h1
        | cons h2 h3 h4 => exact ⟨_, _, rfl, h2, h3, h4⟩
      simp only [List.length_append] at h1 hn hl'
      have hlen : (D ++ (b1 ++ S1)).length = D.length + (b1.length + S1.length) := by simp
      by_cases h2 : S1.length < k
      · have hs2 := blkTm_sd hk hb2 (by omega)
        obtain ⟨M, p1, p2, p3⟩ := symMergeTm_call hO _ D b1 S1 [] (Nat.le_refl _) (by intro h; subst h; simp at hb1; omega) (by intro h; subst h; simp at h1; omega) (by simpa using ht) (by simpa using hl) hs1 hs2
        refine ⟨M, p1, .last (by rw [p1.length_eq]; simp; omega) p2, fun r O h => ?_⟩
        apply slices_stableCmpFunc_Term_impl_compare_L9_of
        rw [w1, w2]
        have e1 : (D ++ b1).length = D.length + k := by simp [hb1]
        have e2 : (D ++ b1 ++ S1).length = (D ++ (b1 ++ S1)).length := by simp <;> omega
        have e3 : D ++ b1 ++ S1 ++ [] = D ++ (b1 ++ S1) := by simp
        rw [e1, e2, e3, List.append_nil] at p3
        exact ifB_f (decide_eq_false (by omega)) (ifB_t (decide_eq_true (by omega)) ⟨_, p3, h⟩)
      · obtain ⟨b2, S2, rfl, hb2l, hs2, hb3⟩ : ∃ b2 S2, S1 = b2 ++ S2 ∧ b2.length = k ∧ Sd ltTm b2 ∧ BlkTm k S2 := by
          cases hb2 with
          | last g g' => exact ⟨_, [], by simp, by omega, g', .last (by simp) .nil⟩
          | cons g2 g3 g4 => exact ⟨_, _, rfl, g2, g3, g4⟩
        simp only [List.length_append] at h1 h2 hn hl'
        have hlen : (D ++ (b1 ++ (b2 ++ S2))).length = D.length + (b1.length + (b2.length + S2.length)) := by simp
        obtain ⟨M, p1, p2, p3⟩ := symMergeTm_call hO _ D b1 b2 S2 (Nat.le_refl _) (by intro h; subst h; simp at hb1; omega) (by intro h; subst h; simp at hb2l; omega) (by simpa using ht) (by simpa using hl) hs1 hs2
        have pl := p1.length_eq
        simp only [List.length_append] at pl
        obtain ⟨S', q1, q2, q3⟩ := ih (D ++ M) S2 (by omega) (fun w hw => ht w (by
          have hp : w ∈ M → w ∈ b1 ++ b2 := fun h => p1.subset h
          simp at hw hp ⊢; grind)) (by simp; omega) hb3
        refine ⟨M ++ S', ?_, .cons (by omega) p2 q2, fun r O h => ?_⟩
        · have := (p1.append q1)
          simpa using this
        · have e4 : D ++ M ++ S' = D ++ (M ++ S') := by simp
          have e5 : (D ++ M ++ S2).length = (D ++ (b1 ++ (b2 ++ S2))).length := by simp; omega
          have e6 : (D ++ M).length = D.length + 2 * k := by simp; omega
          have h5 := q3 r O
          rw [e4, e5, e6] at h5
          have e1 : (D ++ b1).length = D.length + k := by simp [hb1]
          have e2 : (D ++ b1 ++ b2).length = D.length + 2 * k := by simp; omega
          have e3 : D ++ b1 ++ b2 ++ S2 = D ++ (b1 ++ (b2 ++ S2)) := by simp
          rw [e1, e2, e3] at p3
          apply slices_stableCmpFunc_Term_impl_compare_L9_of
          rw [w1, w3, w4]
          exact ifB_t (decide_eq_true (by omega)) ⟨_, p3, h5 h⟩
theorem stableTm_up (hO : SWO ltTm) : ∀ (n k : Nat) (S : List (List Da × Tm)), S.length ≤ n + k → 0 < k → k ≤ 6000000000000 → (∀ z ∈ S, TgP Tm.da z) → S.length ≤ 3000000000000 → BlkTm k S → ∃ S', S'.Perm S ∧ Sd ltTm S' ∧ slices_stableCmpFunc_Term_impl_compare_L7 (.tup []) [(2000, .lst 31 3 ((S').map (·.1)))] (S.length : Int) (k : Int) (S.map (·.1)) := by
  intro n
  induction n with
  | zero =>
    intro k S hn hk hk2 ht hl hb
    refine ⟨S, .refl _, blkTm_sd hk hb (by omega), ?_⟩
    apply slices_stableCmpFunc_Term_impl_compare_L7_of
    exact ifB_f (decide_eq_false (by omega)) ⟨rfl, rfl⟩
  | succ n ih =>
    intro k S hn hk hk2 ht hl hb
    by_cases h : S.length ≤ k
    · refine ⟨S, .refl _, blkTm_sd hk hb h, ?_⟩
      apply slices_stableCmpFunc_Term_impl_compare_L7_of
      exact ifB_f (decide_eq_false (by omega)) ⟨rfl, rfl⟩
    · obtain ⟨S1, p1, p2, p3⟩ := stableTm_in hO k hk hk2 S.length [] S (Nat.le_refl _) (by simpa using ht) (by simpa using hl) hb
      have pl := p1.length_eq
      obtain ⟨S', q1, q2, q3⟩ := ih (2 * k) S1 (by omega) (by omega) (by omega) (fun z hz => ht z (p1.subset hz)) (by omega) p2
      refine ⟨S', q1.trans p1, q2, ?_⟩
      have w3 : IntKind.wrap .i64 (2 * (k : Int)) = ((2 * k : Nat) : Int) := by rw [wrI (by omega) (by omega)]; omega
      have h5 := p3 (.tup []) [(2000, .lst 31 3 ((S').map (·.1)))]
      simp only [List.nil_append, List.length_nil, Nat.zero_add] at h5
      rw [pl] at q3
      apply slices_stableCmpFunc_Term_impl_compare_L7_of
      rw [w3]
      exact ifB_t (decide_eq_true (by omega)) (h5 q3)
theorem stableTm_first (hO : SWO ltTm) : ∀ (n : Nat) (D S : List (List Da × Tm)), S.length ≤ n → (∀ z ∈ D ++ S, TgP Tm.da z) → (D ++ S).length ≤ 3000000000000 → ∃ S', S'.Perm S ∧ BlkTm 20 S' ∧ ∀ (r : AV) (O : List (Nat × Ob)), slices_stableCmpFunc_Term_impl_compare_L7 r O ((D ++ S).length : Int) 20 ((D ++ S').map (·.1)) → slices_stableCmpFunc_Term_impl_compare_L2 r O ((D ++ S).length : Int) 20 (D.length : Int) ((D.length + 20 : Nat) : Int) ((D ++ S).map (·.1)) := by
  intro n
  induction n with
  | zero =>
    intro D S hn ht hl
    have : S = [] := List.eq_nil_of_length_eq_zero (by omega)
    subst this
    obtain ⟨M, p1, p2, p3⟩ := insertTm_call hO D [] [] (by simpa using ht) (by simpa using hl)
    have : M = [] := List.eq_nil_of_length_eq_zero (by rw [p1.length_eq]; rfl)
    subst this
    refine ⟨[], .refl _, .last (by simp) .nil, fun r O h => ?_⟩
    simp only [List.append_nil] at p3 h ⊢
    apply slices_stableCmpFunc_Term_impl_compare_L2_of
    exact ifB_f (decide_eq_false (by omega)) ⟨_, p3, h⟩
  | succ n ih =>
    intro D S hn ht hl
    have hl' : D.length + S.length ≤ 3000000000000 := by simpa using hl
    have hlen : (D ++ S).length = D.length + S.length := by simp
    by_cases h1 : S.length < 20
    · obtain ⟨M, p1, p2, p3⟩ := insertTm_call hO D S [] (by simpa using ht) (by simpa using hl)
      refine ⟨M, p1, .last (by rw [p1.length_eq]; omega) p2, fun r O h => ?_⟩
      apply slices_stableCmpFunc_Term_impl_compare_L2_of
      rw [List.append_nil, List.append_nil] at p3
      exact ifB_f (decide_eq_false (by omega)) ⟨_, p3, h⟩
    · obtain ⟨b, S2, rfl, hb⟩ : ∃ b S2, S = b ++ S2 ∧ b.length = 20 := ⟨S.take 20, S.drop 20, by simp, by simp; omega⟩
      simp only [List.length_append] at h1 hn hl'
      have hlen : (D ++ (b ++ S2)).length = D.length + (b.length + S2.length) := by simp
      obtain ⟨M, p1, p2, p3⟩ := insertTm_call hO D b S2 (by simpa using ht) (by simpa using hl)
      have pl := p1.length_eq
      obtain ⟨S', q1, q2, q3⟩ := ih (D ++ M) S2 (by omega) (fun w hw => ht w (by
        have hp : w ∈ M → w ∈ b := fun h => p1.subset h
        simp at hw hp ⊢; grind)) (by simp; omega)
      refine ⟨M ++ S', p1.append q1, .cons (by omega) p2 q2, fun r O h => ?_⟩
      have e4 : D ++ M ++ S' = D ++ (M ++ S') := by simp
      have e5 : (D ++ M ++ S2).length = (D ++ (b ++ S2)).length := by simp; omega
      have e6 : (D ++ M).length = D.length + 20 := by simp; omega
      have h5 := q3 r O
      rw [e4, e5, e6] at h5
      have e1 : (D ++ b).length = D.length + 20 := by simp [hb]
      have e3 : D ++ b ++ S2 = D ++ (b ++ S2) := by simp
      have w4 : IntKind.wrap .i64 (((D.length + 20 : Nat) : Int) + 20) = ((D.length + 20 + 20 : Nat) : Int) := by rw [wrI (by omega) (by omega)]; omega
      rw [e1, e3] at p3
      apply slices_stableCmpFunc_Term_impl_compare_L2_of
      rw [w4]
      exact ifB_t (decide_eq_true (by omega)) ⟨_, p3, h5 h⟩
theorem sortTm_tags (hO : SWO ltTm) (S : List (List Da × Tm)) (ht : ∀ z ∈ S, TgP Tm.da z) (hl : S.length ≤ 3000000000000) : ∃ S', S'.Perm S ∧ Sd ltTm S' ∧ XC Try.prog 104 [.one (.ol 2000), .one (.d (.fn 105))] [(2000, .lst 31 3 ((S).map (·.1)))] (.tup []) [(2000, .lst 31 3 ((S').map (·.1)))] := by
  obtain ⟨S1, p1, p2, p3⟩ := stableTm_first hO S.length [] S (Nat.le_refl _) (by simpa using ht) (by simpa using hl)
  have pl := p1.length_eq
  obtain ⟨S', q1, q2, q3⟩ := stableTm_up hO S.length 20 S1 (by omega) (by omega) (by omega) (fun z hz => ht z (p1.subset hz)) (by omega) p2
  refine ⟨S', q1.trans p1, q2, ?_⟩
  have h5 := p3 (.tup []) [(2000, .lst 31 3 ((S').map (·.1)))]
  simp only [List.nil_append, List.length_nil, Nat.zero_add] at h5
  rw [pl] at q3
  apply slices_SortStableFunc_Term_impl_compare_of
  refine ⟨_, slices_stableCmpFunc_Term_impl_compare_of ?_, rfl, rfl⟩
  rw [List.length_map]
  exact h5 q3
theorem cmp3_neg {x y r s : Int} (h : r = -s) : cmp3 x y r = -cmp3 y x s := by
  unfold cmp3; split <;> split <;> (try split) <;> omega
theorem cmp3_le {x y r : Int} : cmp3 x y r ≤ 0 ↔ x < y ∨ (x = y ∧ r ≤ 0) := by
  unfold cmp3; split
  · omega
  · split <;> omega
mutual
theorem Tm.cmp_neg : ∀ a b : Tm, Tm.cmp a b = -Tm.cmp b a
  | .mk f v ks, .mk g u ls => by
    rw [Tm.cmp_mk, Tm.cmp_mk]
    exact cmp3_neg (cmp3_neg (cmp3_neg (Tm.cmps_neg ks ls)))
theorem Tm.cmps_neg : ∀ a b : List Tm, Tm.cmps a b = -Tm.cmps b a
  | [], [] => by simp [Tm.cmps]
  | [], _ :: _ => by simp [Tm.cmps]
  | _ :: _, [] => by simp [Tm.cmps]
  | t :: r, u :: s => by
    have h1 := Tm.cmp_neg t u
    have h2 := Tm.cmps_neg r s
    rw [Tm.cmps_cons, Tm.cmps_cons]
    split <;> split <;> omega
end
mutual
theorem Tm.cmp_eq : ∀ a b : Tm, Tm.cmp a b = 0 → a = b
  | .mk f v ks, .mk g u ls, h => by
    obtain ⟨h1, h2, h3, h4⟩ := Tm.cmp0.1 h
    rw [h1, h2, Tm.cmps_eq ks ls h3 h4]
theorem Tm.cmps_eq : ∀ a b : List Tm, a.length = b.length → Tm.cmps a b = 0 → a = b
  | [], [], _, _ => rfl
  | [], _ :: _, h, _ => by simp at h
  | _ :: _, [], h, _ => by simp at h
  | t :: r, u :: s, h, h2 => by
    rw [Tm.cmps_cons] at h2
    split at h2
    · rename_i h3
      rw [Tm.cmp_eq t u h3, Tm.cmps_eq r s (by simpa using h) h2]
    · rename_i h3
      exact absurd h2 h3
end
theorem Tm.cmp_self (a : Tm) : Tm.cmp a a = 0 := by have := Tm.cmp_neg a a; omega
mutual
theorem Tm.cmp_tr : ∀ a b c : Tm, Tm.cmp a b ≤ 0 → Tm.cmp b c ≤ 0 → Tm.cmp a c ≤ 0
  | .mk f v ks, .mk g u ls, .mk p w ms, h1, h2 => by
    have ih := Tm.cmps_tr ks ls ms
    rw [Tm.cmp_mk, cmp3_le, cmp3_le, cmp3_le] at h1 h2 ⊢
    rcases h1 with h1 | ⟨h1, h1' | ⟨h1', h1'' | ⟨h1'', h3⟩⟩⟩ <;> rcases h2 with h2 | ⟨h2, h2' | ⟨h2', h2'' | ⟨h2'', h4⟩⟩⟩
    all_goals first
      | omega
      | exact .inr ⟨by omega, .inr ⟨by omega, .inr ⟨by omega, ih (by omega) (by omega) h3 h4⟩⟩⟩
theorem Tm.cmps_tr : ∀ a b c : List Tm, a.length = b.length → b.length = c.length → Tm.cmps a b ≤ 0 → Tm.cmps b c ≤ 0 → Tm.cmps a c ≤ 0
  | [], [], [], _, _, _, _ => by simp [Tm.cmps]
  | [], _ :: _, _, h, _, _, _ => by simp at h
  | _ :: _, [], _, h, _, _, _ => by simp at h
  | _, [], _ :: _, _, h, _, _ => by simp at h
  | _, _ :: _, [], _, h, _, _ => by simp at h
  | t :: r, u :: s, w :: q, h1, h2, h3, h4 => by
    have i1 := Tm.cmp_tr t u w
    have i2 := Tm.cmps_tr r s q (by simpa using h1) (by simpa using h2)
    have n1 := Tm.cmp_neg t u
    rw [Tm.cmps_cons] at h3 h4 ⊢
    by_cases e1 : Tm.cmp t u = 0
    · have := Tm.cmp_eq t u e1
      subst this
      rw [if_pos e1] at h3
      by_cases e2 : Tm.cmp t w = 0
      · rw [if_pos e2] at h4 ⊢; exact i2 h3 h4
      · rw [if_neg e2] at h4 ⊢; exact h4
    · rw [if_neg e1] at h3
      by_cases e2 : Tm.cmp u w = 0
      · have := Tm.cmp_eq u w e2
        subst this
        rw [if_neg e1]; exact h3
      · rw [if_neg e2] at h4
        have h5 := i1 h3 h4
        by_cases e3 : Tm.cmp t w = 0
        · have := Tm.cmp_eq t w e3
          subst this
          omega
        · rw [if_neg e3]; exact h5
end
theorem Li.cmp_neg (a b : Li) : Li.cmp a b = -Li.cmp b a := by
  have h1 := Tm.cmp_neg a.l b.l
  have h2 := Tm.cmp_neg a.r b.r
  unfold Li.cmp
  by_cases hp : a.p = b.p
  · rw [if_pos hp, if_pos hp.symm]
    split <;> split <;> omega
  · have e : b.p = !a.p := by cases hb : b.p <;> cases ha : a.p <;> simp_all
    rw [if_neg hp, if_neg (show ¬ b.p = a.p from fun h => hp h.symm), e]
    cases a.p <;> rfl
theorem Li.cmp_eq (a b : Li) (h : Li.cmp a b = 0) : a = b := by
  obtain ⟨p, l, r⟩ := a
  obtain ⟨p', l', r'⟩ := b
  unfold Li.cmp at h
  dsimp only at h
  by_cases hp : p = p'
  · rw [if_pos hp] at h
    split at h
    · rename_i hl
      rw [hp, Tm.cmp_eq l l' hl, Tm.cmp_eq r r' h]
    · rename_i hl
      exact absurd h hl
  · rw [if_neg hp] at h
    split at h <;> simp at h
theorem Li.cmp_tr (a b c : Li) (h1 : Li.cmp a b ≤ 0) (h2 : Li.cmp b c ≤ 0) : Li.cmp a c ≤ 0 := by
  obtain ⟨p, l, r⟩ := a
  obtain ⟨p', l', r'⟩ := b
  obtain ⟨p2, l2, r2⟩ := c
  unfold Li.cmp at h1 h2 ⊢
  dsimp only at h1 h2 ⊢
  have n1 := Tm.cmp_neg l l'
  have t1 := Tm.cmp_tr l l' l2
  have t2 := Tm.cmp_tr r r' r2
  have e1 := Tm.cmp_eq l l'
  have e2 := Tm.cmp_eq l' l2
  have e3 := Tm.cmp_eq l l2
  cases p <;> cases p' <;> cases p2 <;> simp at h1 h2 ⊢
  all_goals
    by_cases c1 : Tm.cmp l l' = 0
    · have := e1 c1
      subst this
      rw [if_pos c1] at h1
      by_cases c2 : Tm.cmp l l2 = 0
      · rw [if_pos c2] at h2 ⊢; exact t2 h1 h2
      · rw [if_neg c2] at h2 ⊢; exact h2
    · rw [if_neg c1] at h1
      by_cases c2 : Tm.cmp l' l2 = 0
      · have := e2 c2
        subst this
        rw [if_neg c1]; exact h1
      · rw [if_neg c2] at h2
        have h5 := t1 h1 h2
        by_cases c3 : Tm.cmp l l2 = 0
        · have := e3 c3
          subst this
          omega
        · rw [if_neg c3]; exact h5
theorem swoTm : SWO ltTm := ⟨fun {a b} h h2 => by have := Tm.cmp_neg a.2 b.2; unfold ltTm at h h2; omega, fun {a b c} h1 h2 h3 => by
  have n1 := Tm.cmp_neg a.2 b.2
  have n2 := Tm.cmp_neg b.2 c.2
  have n3 := Tm.cmp_neg a.2 c.2
  have t := Tm.cmp_tr a.2 b.2 c.2
  unfold ltTm at h1 h2 h3
  have := t (by omega) (by omega)
  omega⟩
/-- An order on the spot: what comes in goes before the first that is not less. -/
def putC {α : Type} (cmp : α → α → Int) (x : α) : List α → List α
  | [] => [x]
  | y :: r => if cmp y x ≤ 0 then y :: putC cmp x r else x :: y :: r
def isort {α : Type} (cmp : α → α → Int) (l : List α) : List α := l.foldl (fun a x => putC cmp x a) []
theorem putC_perm {α : Type} (cmp : α → α → Int) (x : α) : ∀ l : List α, (putC cmp x l).Perm (x :: l)
  | [] => .refl _
  | y :: r => by
    unfold putC; split
    · exact ((putC_perm cmp x r).cons y).trans (.swap ..)
    · exact .refl _
theorem isort_perm {α : Type} (cmp : α → α → Int) (l : List α) : (isort cmp l).Perm l := by
  have : ∀ (l a : List α), (l.foldl (fun a x => putC cmp x a) a).Perm (a ++ l) := by
    intro l
    induction l with
    | nil => intro a; simp
    | cons x r ih =>
      intro a
      refine (ih _).trans ?_
      refine ((putC_perm cmp x a).append_right r).trans ?_
      exact List.perm_middle.symm
  have h := this l []
  rw [List.nil_append] at h
  exact h
abbrev SdC {α : Type} (cmp : α → α → Int) (l : List α) : Prop := l.Pairwise (fun a b => cmp a b ≤ 0)
structure TotC {α : Type} (cmp : α → α → Int) : Prop where
  neg : ∀ a b, cmp a b = -cmp b a
  eq : ∀ a b, cmp a b = 0 → a = b
  tr : ∀ a b c, cmp a b ≤ 0 → cmp b c ≤ 0 → cmp a c ≤ 0
theorem totTm : TotC Tm.cmp := ⟨Tm.cmp_neg, Tm.cmp_eq, Tm.cmp_tr⟩
theorem totLi : TotC Li.cmp := ⟨Li.cmp_neg, Li.cmp_eq, Li.cmp_tr⟩
theorem putC_sd {α : Type} {cmp : α → α → Int} (h : TotC cmp) (x : α) : ∀ {l : List α}, SdC cmp l → SdC cmp (putC cmp x l)
  | [], _ => by simp [putC, SdC]
  | y :: r, hs => by
    obtain ⟨h1, h2⟩ := List.pairwise_cons.1 hs
    unfold putC; split
    · rename_i hy
      refine List.pairwise_cons.2 ⟨fun z hz => ?_, putC_sd h x h2⟩
      rcases List.mem_cons.1 ((putC_perm cmp x r).subset hz) with rfl | hz
      · exact hy
      · exact h1 z hz
    · rename_i hy
      have hxy : cmp x y ≤ 0 := by have := h.neg x y; omega
      refine List.pairwise_cons.2 ⟨fun z hz => ?_, hs⟩
      rcases List.mem_cons.1 hz with rfl | hz
      · exact hxy
      · exact h.tr _ _ _ hxy (h1 z hz)
theorem isort_sd {α : Type} {cmp : α → α → Int} (h : TotC cmp) (l : List α) : SdC cmp (isort cmp l) := by
  have : ∀ (l a : List α), SdC cmp a → SdC cmp (l.foldl (fun a x => putC cmp x a) a) := by
    intro l
    induction l with
    | nil => intro a h; exact h
    | cons x r ih => intro a ha; exact ih _ (putC_sd h x ha)
  exact this l [] (by simp [SdC])
theorem sd_uniq {α : Type} {cmp : α → α → Int} (h : TotC cmp) : ∀ {a b : List α}, SdC cmp a → SdC cmp b → a.Perm b → a = b
  | [], b, _, _, hp => (List.Perm.nil_eq hp)
  | x :: r, b, ha, hb, hp => by
    cases b with
    | nil => exact absurd hp.length_eq (by simp)
    | cons y s =>
      obtain ⟨a1, a2⟩ := List.pairwise_cons.1 ha
      obtain ⟨b1, b2⟩ := List.pairwise_cons.1 hb
      have hxy : x = y := by
        have h1 : cmp x y ≤ 0 := by
          rcases List.mem_cons.1 (hp.symm.subset (List.mem_cons_self (a := y) (l := s))) with e | h1
          · have := h.neg x y; rw [e] at this ⊢; omega
          · exact a1 y h1
        have h2 : cmp y x ≤ 0 := by
          rcases List.mem_cons.1 (hp.subset (List.mem_cons_self (a := x) (l := r))) with e | h2
          · have := h.neg x y; rw [e] at this ⊢; omega
          · exact b1 x h2
        exact h.eq x y (by have := h.neg x y; omega)
      subst hxy
      rw [sd_uniq h a2 b2 hp.cons_inv]
theorem sd_snd {α : Type} {cmp : α → α → Int} (h : TotC cmp) {l : List (List Da × α)} (hs : Sd (fun a b : List Da × α => cmp a.2 b.2 < 0) l) : SdC cmp (l.map (·.2)) := by
  rw [SdC, List.pairwise_map]
  exact hs.imp fun {a b} h1 => by have := h.neg a.2 b.2; omega
theorem sortTm_call (ts : List Tm) (hl : ts.length ≤ 3000000000000) : XC Try.prog 104 [.one (.ol 2000), .one (.d (.fn 105))] [(2000, .tr 31 3 (Tm.das ts))] (.tup []) [(2000, .tr 31 3 (Tm.das (isort Tm.cmp ts)))] := by
  refine xc_rows fun xs' hx => ?_
  rw [Tm.das_map] at hx
  obtain ⟨zs, rfl, rfl, ht⟩ := zip_tags hx
  obtain ⟨S', p1, p2, p3⟩ := sortTm_tags swoTm zs ht (by simpa using hl)
  refine ⟨S'.map (·.1), ⟨[], by rw [List.append_nil]; exact p1.map _⟩, ?_, p3⟩
  rw [tags_map fun z hz => ht z (p1.subset hz), Tm.das_map]
  congr 1
  exact sd_uniq totTm (sd_snd totTm p2) (isort_sd totTm _) ((p1.map _).trans (isort_perm _ _).symm)

end AM
end Go.Proofs.Ytajcoogpmockiaa
